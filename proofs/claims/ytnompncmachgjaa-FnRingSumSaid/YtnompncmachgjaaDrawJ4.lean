/- Contracts of spec.l20Start and of the draws of a plan and times of its first points. -/
import Derived.Test.YtnompncmachgjaaDrawJoin
import Derived.Test.YtnompncmachgjaaKI
import Derived.Test.YtnompncmachgjaaKE
import Derived.Deep.AppendLies
namespace Go.Proofs.Ytnompncmachgjaa
open Go.RowKit
set_option linter.unusedVariables false
set_option maxRecDepth 10000
set_option linter.unusedSimpArgs false

/-- append of one number; where the new row lies is told. -/
theorem wpList_pushLie {ops : Array Oper} {rest : List Oper} {o : Oper} {a : Act} {Q : Exit → Act → World → Prop} {w : World} (hgd : o.guard = none) (s x : Operand)
    (ho : o.op = .call { callee := .builtin .append, args := #[s, x], argTypes := #[27, 27] }) (base g0 n c0 : Nat) (xs : List Int) (hn : n = xs.length) (hs : a.eval s = .slice (some ⟨g0, 0, none⟩) n c0) (hown : OwnL w base (.slice (some ⟨g0, 0, none⟩) n c0) xs)
    (g : Nat) (y : Int) (hx : a.eval x = .slice (some ⟨g, 0, none⟩) 1 1) (hc : w.cell? ⟨g, 0, none⟩ = some (.int .i64 y)) (hlen : xs.length ≤ 1000000) (hbase : base ≤ w.heap.size)
    (h : ∀ g' cap w', OwnL w' base (.slice (some ⟨g', 0, none⟩) (n + 1) cap) (xs ++ [y]) → w.grownBy w' (some g0) → (g' = g0 ∨ g' = w.heap.size) → wpList Try.prog ops Q rest (a.put o.dst (.slice (some ⟨g', 0, none⟩) (n + 1) cap)) w') : wpList Try.prog ops Q (o :: rest) a w := by
  subst hn
  obtain ⟨i0, hi, hz0, hz1, hz2⟩ := info_parts Try.infoInt
  refine wpList_append_lies _ hgd s x 27 ho base 3 i0 (.int .i64 0) 1 8 Try.underlying27 hi hz0 hz1 hz2 rfl (by decide) _ xs.length _ hs hown ⟨g, 0, none⟩ 1 1 [.int .i64 y] hx rfl ?_ ?_ (by omega) ?_ ?_ hbase _ rfl ?_
  · intro j u hj
    match j, hj with
    | 0, hj => simp at hj; subst hj; simpa [Addr.add] using hc
  · intro u hu; simp at hu; subst hu; rfl
  · unfold maxLen; omega
  · omega
  · intro g' cap w' hown' hg hat hlt
    refine h g' cap w' ?_ hg ?_
    · unfold OwnL
      rw [List.length_append, List.map_append]
      exact hown'
    · rcases hat with h1 | h1
      · left; simpa [Value.ownBlock] using h1.symm
      · right; exact h1
section
variable {base g q P b0 : Nat} {w0 w w' : World} {n : Int} {A : Option Addr} {c : Nat} {bs : List Bd} {v : Value} {xs : List Int}
theorem Dr.grownL (h : Dr base g q w0 w P n A c bs) (hown : OwnL w b0 v xs) (hg : w.grownBy w' v.ownBlock) (hP : P < b0) : Dr base g q w0 w' P n A c bs := by
  have h1 := h.hg
  have h2 := h.hP
  have ob : ∀ k, k < b0 → some k ≠ v.ownBlock := fun k hk e => by
    have := World.ownsRow.lt hown k e.symm; omega
  refine ⟨h.res.grown hg (ob _ (by omega)), h.box.grown hg (ob _ hP), ?_, h.rd.same ⟨fun hh => ⟨Nat.le_trans hh hg.size, fun k _ hk => hg.block k (by omega) (ob k (by omega))⟩⟩, ?_, h.hP, h.hg⟩
  · rcases h.rb with e | ⟨g', cs, e, l1, l2, hb, hF⟩
    · exact .inl e
    · refine .inr ⟨g', cs, e, l1, Nat.lt_of_lt_of_le l2 hg.size, hb.grown hg ?_, hF⟩
      rcases hown.2 with ⟨rfl, _⟩ | ⟨g2, cap, cur, rfl, hb', hh, _⟩
      · simp [Value.ownBlock]
      · intro e
        have e2 : g' = g2 := by simpa [Value.ownBlock] using e
        subst e2
        unfold Blk at hb
        rw [hb] at hh
        injection hh with hh
        injection hh with _ hh
        exact absurd hh (by decide)
  · have hO := h.only
    exact ⟨hg.os.trans hO.os, hg.tape.trans hO.tape, hg.output.trans hO.output, Nat.le_trans hO.size hg.size, fun k hk hd => (hg.block k (Nat.lt_of_lt_of_le hk hO.size) (ob k (by omega))).trans (hO.block k hk hd)⟩
theorem same_grown {lo hi go : Nat} (hg : w.grownBy w' (some go)) (hd : go < lo ∨ hi ≤ go) : Same lo hi w w' :=
  ⟨fun hh => ⟨Nat.le_trans hh hg.size, fun k hk hk' => hg.block k (by omega) (fun e => by injection e with e; omega)⟩⟩
end
theorem RI.one {w : World} {lo hi g : Nat} {x : Int} (h : Blk w g 3 #[.int .i64 x]) (h1 : lo ≤ g) (h2 : g < hi) : RI w lo hi (some ⟨g, 0, none⟩) [x] :=
  .inr ⟨g, _, rfl, h1, h2, h, by simp, fun i y hi hy => by
    match i, hy with
    | 0, hy => simp at hy; subst hy; rfl
    | i + 1, hy => simp at hy⟩
def DrewS (base g q : Nat) (w : World) (e : Ending) (w' : World) : Prop :=
  ∃ (n : Int) (A : Option Addr) (c : Nat) (bs : List Bd) (G : Option Addr) (cg : Nat) (ts : List Int), e = .returned (.tuple #[.agg #[.int .i64 n, .slice A bs.length c], .slice G ts.length cg]) ∧ PlanFacts n bs ∧ bs.length ≤ c ∧ (A = none → c = 0) ∧ (ts.length ≤ 6 ∧ ts.length ≤ cg ∧ (G = none → cg = 0)) ∧ RB w' w.heap.size w'.heap.size A bs ∧ RI w' w.heap.size w'.heap.size G ts ∧ Rd w' base g (q + 250) ∧ Only g (g + 1) w w'
def DrawnS (w : World) (e : Ending) (w' : World) : Prop :=
  ∃ (n : Int) (A : Option Addr) (c : Nat) (bs : List Bd) (G : Option Addr) (cg : Nat) (ts : List Int), e = .returned (.tuple #[.agg #[.int .i64 n, .slice A bs.length c], .slice G ts.length cg]) ∧ PlanFacts n bs ∧ bs.length ≤ c ∧ (A = none → c = 0) ∧ (ts.length ≤ 6 ∧ ts.length ≤ cg ∧ (G = none → cg = 0)) ∧ RB w' w.heap.size w'.heap.size A bs ∧ RI w' w.heap.size w'.heap.size G ts ∧ Below w.heap.size w w'
theorem s_end {base g q q' P lo2 hi2 : Nat} {n : Int} {A : Option Addr} {c : Nat} {bs : List Bd} {G : Option Addr} {cg : Nat} {ts : List Int} {w W : World} {e : Ending} {u0 u1 : Value} (hf : PlanFacts n bs) (hc : bs.length ≤ c) (hn : A = none → c = 0) (ht : ts.length ≤ 6 ∧ ts.length ≤ cg ∧ (G = none → cg = 0)) (hD : Dr base g q' w W P n A c bs) (hI : RI W lo2 hi2 G ts) (h2 : w.heap.size < lo2) (hh : hi2 ≤ W.heap.size) (hq : q' ≤ q + 250) (he : e = .returned (.tuple #[.agg #[.int .i64 n, .slice A bs.length c], .slice G ts.length cg])) :
    DrewS base g q w e ((W.setCell ⟨w.heap.size, 0, none⟩ u0).setCell ⟨w.heap.size, 1, none⟩ u1) := by
  obtain ⟨h1, h3, h4⟩ := hD.end_ (u0 := u0) (u1 := u1) rfl
  refine ⟨n, A, c, bs, G, cg, ts, he, hf, hc, hn, ht, h1, ?_, h3.mono hq, h4⟩
  rw [szc, szc]
  exact (hI.same (((Same.refl _ _ _).set_ (.inl (by dsimp only; omega)) _).set_ (.inl (by dsimp only; omega)) _) hh).wide (by omega) hh
set_option maxHeartbeats 4000000 in
theorem start_draw (base g q : Nat) (w : World) (h : Rd w base g q) (hq : q ≤ 70000) :
    Calls Try.prog 104 #[.pointer (some ⟨g, 0, none⟩)] w (DrewS base g q w) := by
  have hg := h.lt
  go_enter Try.func104, Try.ntmps104
  go_wp2_with fail
  refine (joined_any base g q 12 _ (h.alloc _) (by omega) (by omega) (by omega)).mono ?_; rintro e w1 ⟨m, A, c, bs, rfl, hf, hc, hn, hrb, hrd, ho⟩
  have HN := Lib.hid hn
  have D0 := Lib.hid (Dr.start (n := m) (c := c) rfl hg hrb hrd ho)
  have hz1 := ho.size
  simp only [sz] at hz1
  clear ho hrb hrd hn h
  go_upto_region 2 with (fail)
  refine name_c (fun w2 hw2 => ?_)
  have D2 := Lib.hid (show Dr base g _ w w2 w1.heap.size m A c bs by rw [hw2]; exact D0.out)
  clear hw2 D0
  have p0 := D2.out.p0
  have p1 := D2.out.p1
  have hneR : ¬ w.heap.size = w1.heap.size := by omega
  have hzP := D2.out.lt
  have hm7 := hf.2.1
  have hl16 := hf.2.2.1
  have HF := Lib.hid hf
  have hP0 := D2.out.hP
  have hgw0 := D2.out.hg
  clear hf
  go_upto_region 3 with (fail)
  refine name_c (fun w3 hw3 => ?_)
  have D3 := Lib.hid (D2.out.allocE hw3)
  have O3 := Lib.hid (OwnL.emptyE (base := w2.heap.size) hw3 (Nat.le_refl _))
  have hz3 := sizeE hw3
  clear hw3 D2 p0 p1
  have p0 := D3.out.p0
  have p1 := D3.out.p1
  go_wp2_with fail
  refine (specFitsOk_any m A c bs _ D3.out.bat (by omega)).mono ?_; rintro e w4 ⟨rfl, hb4⟩
  have D4 := Lib.hid (D3.out.below hb4)
  have O4 := Lib.hid (O3.out.below hb4)
  have hz4 := hb4.size
  clear hb4 D3 O3 p0 p1
  have p0 := D4.out.p0
  have p1 := D4.out.p1
  cases hfit : fitsOk m bs
  · go_upto_region 4 with (fail)
    obtain ⟨r0, r1, f0, f1⟩ := D4.out.res.two
    have hwl : w.heap.size < w4.heap.size := by omega
    obtain ⟨e1, e2, e3⟩ := D4.out.end_ (u0 := .int .i64 m) (u1 := .slice A bs.length c) rfl
    have RR := ((D4.out.res.set_ 0 (.int .i64 m)).set_ 1 (.slice A bs.length c)).alloc (.cells #[.int .i64 0] 3)
    have s0 := RR.cell 0
    have s1 := RR.cell 1
    have hzs : ((w4.setCell ⟨w.heap.size, 0, none⟩ (.int .i64 m)).setCell ⟨w.heap.size, 1, none⟩ (.slice A bs.length c)).heap.size = w4.heap.size := by rw [szc, szc]
    have E1 := Lib.hid ((e1.same ((Same.refl _ _ _).alloc (.cells #[.int .i64 0] 3)) (Nat.le_refl _)).wide (lo' := w.heap.size) (hi' := (((w4.setCell ⟨w.heap.size, 0, none⟩ (.int .i64 m)).setCell ⟨w.heap.size, 1, none⟩ (.slice A bs.length c)).alloc (.cells #[.int .i64 0] 3)).heap.size) (Nat.le_refl _) (leA _ _))
    have E2 := Lib.hid (e2.alloc (.cells #[.int .i64 0] 3))
    have E3 := Lib.hid (e3.alloc (.cells #[.int .i64 0] 3))
    have HZS := Lib.hid hzs
    clear e1 e2 e3 RR hzs
    have S0 := Lib.hid s0
    have S1 := Lib.hid s1
    clear s0 s1
    go_wp2
    refine bodyPost_ret (v := .tuple #[.agg #[.int .i64 m, .slice A bs.length c], .slice (some ⟨w4.heap.size, 0, none⟩) 1 1]) (by have s0 := S0.out; have s1 := S1.out; simp at s0 s1; simp [results, Try.results104, go_sem, s0, s1]) rfl ⟨m, A, c, bs, some ⟨w4.heap.size, 0, none⟩, 1, [0], rfl, HF.out, hc, HN.out, ⟨by simp, by simp, fun e => by cases e⟩, E1.out, RI.one (Blk.new' HZS.out.symm _ _) (by omega) (by rw [sz, HZS.out]; omega), E2.out.mono (by omega), E3.out⟩
  · obtain ⟨N, hN, n1, n6⟩ : ∃ N : Nat, m = N ∧ 1 ≤ N ∧ N ≤ 6 := by
      have := planOk_of (fits_plan hfit)
      exact ⟨m.toNat, by omega, by omega, by omega⟩
    subst hN
    have HC := Lib.hid (closed_eq hfit)
    have HT := Lib.hid (fun i j hi hj => (closed_bound hfit i j hi hj).2)
    clear hfit
    go_wp2_with fail
    refine (l2Closed_any N _ _ bs _ D4.out.bat (by omega) (by omega) (by omega)).mono ?_; rintro e w5 ⟨A6, c6, rfl, hm5, hb5⟩
    have D5 := Lib.hid (D4.out.below hb5)
    have O5 := Lib.hid (O4.out.below hb5)
    have hz5 := hb5.size
    have M5 := Lib.hid (hm5.eq_ HC.out)
    generalize closedT N bs = T at *
    clear hb5 hm5 D4 O4 p0 p1 HC
    have p0 := D5.out.p0
    have p1 := D5.out.p1
    have hwn : IntKind.i64.wrap ((N : Int) + 1) = (N : Int) + 1 := IntWalk.i64_in _ ⟨by omega, by omega⟩
    go_wp2_with fail
    refine (pick_any base g _ _ _ D5.out.rd (by omega)).mono ?_; rintro e w6 ⟨k6, rfl, k60, k61, _, hr6, ho6, hs6⟩
    have D6 := Lib.hid (D5.out.pick hr6 ho6)
    have O6 := Lib.hid (O5.out.pick ho6 (by omega))
    have M6 := Lib.hid (M5.out.same (Same.of_only ho6 (.inr (by omega))) (Nat.le_refl _))
    have hz6 := ho6.size
    have k62 := k61 (by omega)
    clear hr6 ho6 hs6 k61 D5 O5 M5 p0 p1 hwn
    obtain ⟨J, rfl⟩ := Int.eq_ofNat_of_zero_le k60
    obtain ⟨lo, hlo⟩ : ∃ lo, lo = w4.heap.size := ⟨_, rfl⟩
    obtain ⟨hi, hhi⟩ : ∃ hi, hi = w5.heap.size := ⟨_, rfl⟩
    rw [← hlo, ← hhi] at M6
    have hlh : w3.heap.size ≤ lo ∧ lo ≤ hi ∧ hi ≤ w6.heap.size := by omega
    have h23 : w2.heap.size < lo := by omega
    clear hlo hhi
    go_wp2
    go_loopw [5, 7] (fun out k W => ∃ (j : Nat) (ts : List Int) (go co L : Nat), L = ts.length ∧ ts.length + j ≤ N ∧ ts.length = L ∧ out = .slice (some ⟨go, 0, none⟩) L co ∧ k = .int .i64 j ∧ OwnL W w2.heap.size (.slice (some ⟨go, 0, none⟩) L co) ts ∧ (go < lo ∨ hi ≤ go) ∧ MLoc W lo hi A6 N N T ∧ Dr base g (q + 151 + 4 * ts.length) w W w1.heap.size N A c bs ∧ w6.heap.size ≤ W.heap.size) (fun _ k _ => (intOf k).toNat)
    case atStart => exact ⟨J, [], w2.heap.size, 0, 0, rfl, by simp; omega, rfl, rfl, rfl, O6.out, .inl h23, M6.out, D6.out.mono (by simp), Nat.le_refl _⟩
    case round =>
      clear D6 O6 M6 k62 k60
      obtain ⟨j, ts, go, co, L, rfl, hj, _, rfl, rfl, hO, hgo, hM, hD, hzr⟩ := hrel
      have OR := Lib.hid hO
      have MR := Lib.hid hM
      have DR := Lib.hid hD
      have p0 := hD.p0
      have p1 := hD.p1
      clear hO hM hD
      by_cases hlt : 0 < j
      · obtain ⟨j, rfl⟩ : ∃ j' : Nat, j = j' + 1 := ⟨j - 1, by omega⟩
        obtain ⟨G', c', hv', hri, hcc, _⟩ := OR.out.rc
        obtain ⟨rfl, rfl⟩ : G' = some ⟨go, 0, none⟩ ∧ c' = co := by injection hv' with e1 _ e2; exact ⟨e1.symm, e2.symm⟩
        have RI7 := Lib.hid hri.iat
        clear hv' hri
        go_wp2_with fail
        refine (l4Window_any A6 _ c6 c' N ts.length T ts _ (MR.out.mat (by omega)) RI7.out (by omega) (by omega) (by omega) HT.out).mono ?_; rintro e w7 ⟨rfl, hb7⟩
        have D7 := Lib.hid (DR.out.below hb7)
        have O7 := Lib.hid (OR.out.below hb7)
        have M7 := Lib.hid (MR.out.same (Same.of_below hb7 (by omega)) (by omega))
        have hz7 := hb7.size
        generalize lowG false T ts.length ts (-100000) ts.length = lov at *
        generalize highG false T ts.length ts ts.length = hiv at *
        clear hb7 DR OR MR RI7 p0 p1
        have D8 := Lib.hid D7.out
        have O8 := Lib.hid O7.out
        have M8 := Lib.hid M7.out
        clear D7 O7 M7
        go_wp2_with fail
        refine (pick_any base g _ 20 _ D8.out.rd (by omega)).mono ?_; rintro e w8 ⟨k20, rfl, k200, k201, _, hrx, hox, hsx⟩
        have D8' := Lib.hid (D8.out.pick hrx hox)
        have O8' := Lib.hid (O8.out.pick hox (by omega))
        have M8' := Lib.hid (M8.out.same (Same.of_only hox (.inr (by omega))) (by omega))
        have hzw8 := hox.size
        clear D8 O8 M8 hrx hox hsx
        have D8 := Lib.hid D8'.out
        have O8 := Lib.hid O8'.out
        have M8 := Lib.hid M8'.out
        clear D8' O8' M8'
        have k20b := k201 (by omega)
        have hwk : IntKind.i64.wrap (k20 - 8) = k20 - 8 := IntWalk.i64_in _ ⟨by omega, by omega⟩
        clear k201
        by_cases h1 : -100000 < lov
        · by_cases h2 : hiv < 100000
          · have hx8 : True := trivial
            go_wp2_with fail
            refine (pick_any base g _ 2 _ D8.out.rd (by omega)).mono ?_; rintro e w9 ⟨kb, rfl, kb0, kb1, _, hrx, hox, hsx⟩
            have D8' := Lib.hid (D8.out.pick hrx hox)
            have O8' := Lib.hid (O8.out.pick hox (by omega))
            have M8' := Lib.hid (M8.out.same (Same.of_only hox (.inr (by omega))) (by omega))
            have hzw9 := hox.size
            clear D8 O8 M8 hrx hox hsx
            have D8 := Lib.hid D8'.out
            have O8 := Lib.hid O8'.out
            have M8 := Lib.hid M8'.out
            clear D8' O8' M8'
            clear kb1
            by_cases hk2 : kb = 0
            · have hk2' : (kb == 0) = true := by simpa using hk2
              clear hk2
              obtain ⟨dd, hwd⟩ : ∃ dd, IntKind.i64.wrap (hiv - lov) = dd := ⟨_, rfl⟩
              by_cases hd200 : dd < 200
              · obtain ⟨d1, hwd1⟩ : ∃ d1, IntKind.i64.wrap (dd + 1) = d1 := ⟨_, rfl⟩
                go_wp2_with fail
                refine (pick_any base g _ d1 _ D8.out.rd (by omega)).mono ?_; rintro e w12 ⟨kc, rfl, kc0, kc1, _, hrx, hox, hsx⟩
                have D8' := Lib.hid (D8.out.pick hrx hox)
                have O8' := Lib.hid (O8.out.pick hox (by omega))
                have M8' := Lib.hid (M8.out.same (Same.of_only hox (.inr (by omega))) (by omega))
                have hzw12 := hox.size
                clear D8 O8 M8 hrx hox hsx
                have D8 := Lib.hid D8'.out
                have O8 := Lib.hid O8'.out
                have M8 := Lib.hid M8'.out
                clear D8' O8' M8'
                obtain ⟨nv, hnv⟩ : ∃ nv, IntKind.i64.wrap (lov + kc) = nv := ⟨_, rfl⟩
                clear kc1
                have D9 := Lib.hid D8.out
                have O9 := Lib.hid O8.out
                have M9 := Lib.hid M8.out
                go_wp2_with fail
                refine (pick_any base g _ 30 _ D9.out.rd (by omega)).mono ?_; rintro e w10 ⟨k30, rfl, k300, k301, _, hr10, ho10, hs10⟩
                have D10 := Lib.hid (D9.out.pick hr10 ho10)
                have hgw := D9.out.hg
                have O10 := Lib.hid (O9.out.pick ho10 (by omega))
                have M10 := Lib.hid (M9.out.same (Same.of_only ho10 (.inr (by omega))) (by omega))
                have hz10 := ho10.size
                have k302 := k301 (by omega)
                clear hr10 ho10 hs10 k301 D9 O9 M9
                have hx30 : 0 ≤ k30 / 29 ∧ k30 / 29 ≤ 1 := by omega
                have e1 : IntKind.i64.wrap (k30.tdiv 29) = k30 / 29 := by rw [Int.tdiv_eq_ediv_of_nonneg k300]; exact IntWalk.i64_in _ ⟨by omega, by omega⟩
                have e2 : IntKind.i64.wrap (k30 / 29 * 2) = k30 / 29 * 2 := IntWalk.i64_in _ ⟨by omega, by omega⟩
                obtain ⟨v, hv⟩ : ∃ v, IntKind.i64.wrap (nv + k30 / 29 * 2) = v := ⟨_, rfl⟩
                go_wp2_with (at_builtin; refine wpList_pushLie rfl _ _ rfl w2.heap.size go ts.length _ ts rfl rfl (O10.out.alloc _) w10.heap.size v rfl (by simp) (by omega) (by simp; omega) ?_; intro gn cn w11 hown hgr hlie)
                have D11 := Lib.hid ((D10.out.alloc (.cells #[.int .i64 v] 3)).grownL (O10.out.alloc (.cells #[.int .i64 v] 3)) hgr (by omega))
                have hz11 := hgr.size
                have hz12 : w10.heap.size + 1 ≤ w11.heap.size := by rw [sz] at hz11; omega
                have M11 := Lib.hid ((M10.out.same ((Same.refl _ _ _).alloc (.cells #[.int .i64 v] 3)) (by omega)).same (same_grown hgr hgo) (by rw [sz]; omega))
                have hlie' : gn < lo ∨ hi ≤ gn := by
                  rcases hlie with e | e
                  · omega
                  · rw [sz] at e; omega
                clear e1 e2 hv hgr hlie hz11
                go_roundw
                case rel => exact ⟨j, ts ++ [v], gn, cn, ts.length + 1, by simp, by simp; omega, by simp, rfl, by go_num, hown, hlie', M11.out, D11.out.mono (by simp; omega), by omega⟩
                case measure => first | (simp [intOf]; done) | (simp [intOf]; omega)
              · have hx9 : True := trivial
                have D9 := Lib.hid D8.out
                have O9 := Lib.hid O8.out
                have M9 := Lib.hid M8.out
                go_wp2_with fail
                refine (pick_any base g _ 30 _ D9.out.rd (by omega)).mono ?_; rintro e w10 ⟨k30, rfl, k300, k301, _, hr10, ho10, hs10⟩
                have D10 := Lib.hid (D9.out.pick hr10 ho10)
                have hgw := D9.out.hg
                have O10 := Lib.hid (O9.out.pick ho10 (by omega))
                have M10 := Lib.hid (M9.out.same (Same.of_only ho10 (.inr (by omega))) (by omega))
                have hz10 := ho10.size
                have k302 := k301 (by omega)
                clear hr10 ho10 hs10 k301 D9 O9 M9
                have hx30 : 0 ≤ k30 / 29 ∧ k30 / 29 ≤ 1 := by omega
                have e1 : IntKind.i64.wrap (k30.tdiv 29) = k30 / 29 := by rw [Int.tdiv_eq_ediv_of_nonneg k300]; exact IntWalk.i64_in _ ⟨by omega, by omega⟩
                have e2 : IntKind.i64.wrap (k30 / 29 * 2) = k30 / 29 * 2 := IntWalk.i64_in _ ⟨by omega, by omega⟩
                obtain ⟨v, hv⟩ : ∃ v, IntKind.i64.wrap (hiv + k30 / 29 * 2) = v := ⟨_, rfl⟩
                go_wp2_with (at_builtin; refine wpList_pushLie rfl _ _ rfl w2.heap.size go ts.length _ ts rfl rfl (O10.out.alloc _) w10.heap.size v rfl (by simp) (by omega) (by simp; omega) ?_; intro gn cn w11 hown hgr hlie)
                have D11 := Lib.hid ((D10.out.alloc (.cells #[.int .i64 v] 3)).grownL (O10.out.alloc (.cells #[.int .i64 v] 3)) hgr (by omega))
                have hz11 := hgr.size
                have hz12 : w10.heap.size + 1 ≤ w11.heap.size := by rw [sz] at hz11; omega
                have M11 := Lib.hid ((M10.out.same ((Same.refl _ _ _).alloc (.cells #[.int .i64 v] 3)) (by omega)).same (same_grown hgr hgo) (by rw [sz]; omega))
                have hlie' : gn < lo ∨ hi ≤ gn := by
                  rcases hlie with e | e
                  · omega
                  · rw [sz] at e; omega
                clear e1 e2 hv hgr hlie hz11
                go_roundw
                case rel => exact ⟨j, ts ++ [v], gn, cn, ts.length + 1, by simp, by simp; omega, by simp, rfl, by go_num, hown, hlie', M11.out, D11.out.mono (by simp; omega), by omega⟩
                case measure => first | (simp [intOf]; done) | (simp [intOf]; omega)
            · have hk2' : (kb == 0) = false := beq_eq_false_iff_ne.2 hk2
              clear hk2
              obtain ⟨dd, hwd⟩ : ∃ dd, IntKind.i64.wrap (hiv - lov) = dd := ⟨_, rfl⟩
              by_cases hd200 : dd < 200
              · obtain ⟨d1, hwd1⟩ : ∃ d1, IntKind.i64.wrap (dd + 1) = d1 := ⟨_, rfl⟩
                go_wp2_with fail
                refine (pick_any base g _ d1 _ D8.out.rd (by omega)).mono ?_; rintro e w12 ⟨kc, rfl, kc0, kc1, _, hrx, hox, hsx⟩
                have D8' := Lib.hid (D8.out.pick hrx hox)
                have O8' := Lib.hid (O8.out.pick hox (by omega))
                have M8' := Lib.hid (M8.out.same (Same.of_only hox (.inr (by omega))) (by omega))
                have hzw12 := hox.size
                clear D8 O8 M8 hrx hox hsx
                have D8 := Lib.hid D8'.out
                have O8 := Lib.hid O8'.out
                have M8 := Lib.hid M8'.out
                clear D8' O8' M8'
                obtain ⟨nv, hnv⟩ : ∃ nv, IntKind.i64.wrap (lov + kc) = nv := ⟨_, rfl⟩
                clear kc1
                have D9 := Lib.hid D8.out
                have O9 := Lib.hid O8.out
                have M9 := Lib.hid M8.out
                go_wp2_with fail
                refine (pick_any base g _ 30 _ D9.out.rd (by omega)).mono ?_; rintro e w10 ⟨k30, rfl, k300, k301, _, hr10, ho10, hs10⟩
                have D10 := Lib.hid (D9.out.pick hr10 ho10)
                have hgw := D9.out.hg
                have O10 := Lib.hid (O9.out.pick ho10 (by omega))
                have M10 := Lib.hid (M9.out.same (Same.of_only ho10 (.inr (by omega))) (by omega))
                have hz10 := ho10.size
                have k302 := k301 (by omega)
                clear hr10 ho10 hs10 k301 D9 O9 M9
                have hx30 : 0 ≤ k30 / 29 ∧ k30 / 29 ≤ 1 := by omega
                have e1 : IntKind.i64.wrap (k30.tdiv 29) = k30 / 29 := by rw [Int.tdiv_eq_ediv_of_nonneg k300]; exact IntWalk.i64_in _ ⟨by omega, by omega⟩
                have e2 : IntKind.i64.wrap (k30 / 29 * 2) = k30 / 29 * 2 := IntWalk.i64_in _ ⟨by omega, by omega⟩
                obtain ⟨v, hv⟩ : ∃ v, IntKind.i64.wrap (nv + k30 / 29 * 2) = v := ⟨_, rfl⟩
                go_wp2_with (at_builtin; refine wpList_pushLie rfl _ _ rfl w2.heap.size go ts.length _ ts rfl rfl (O10.out.alloc _) w10.heap.size v rfl (by simp) (by omega) (by simp; omega) ?_; intro gn cn w11 hown hgr hlie)
                have D11 := Lib.hid ((D10.out.alloc (.cells #[.int .i64 v] 3)).grownL (O10.out.alloc (.cells #[.int .i64 v] 3)) hgr (by omega))
                have hz11 := hgr.size
                have hz12 : w10.heap.size + 1 ≤ w11.heap.size := by rw [sz] at hz11; omega
                have M11 := Lib.hid ((M10.out.same ((Same.refl _ _ _).alloc (.cells #[.int .i64 v] 3)) (by omega)).same (same_grown hgr hgo) (by rw [sz]; omega))
                have hlie' : gn < lo ∨ hi ≤ gn := by
                  rcases hlie with e | e
                  · omega
                  · rw [sz] at e; omega
                clear e1 e2 hv hgr hlie hz11
                go_roundw
                case rel => exact ⟨j, ts ++ [v], gn, cn, ts.length + 1, by simp, by simp; omega, by simp, rfl, by go_num, hown, hlie', M11.out, D11.out.mono (by simp; omega), by omega⟩
                case measure => first | (simp [intOf]; done) | (simp [intOf]; omega)
              · have hx9 : True := trivial
                have D9 := Lib.hid D8.out
                have O9 := Lib.hid O8.out
                have M9 := Lib.hid M8.out
                go_wp2_with fail
                refine (pick_any base g _ 30 _ D9.out.rd (by omega)).mono ?_; rintro e w10 ⟨k30, rfl, k300, k301, _, hr10, ho10, hs10⟩
                have D10 := Lib.hid (D9.out.pick hr10 ho10)
                have hgw := D9.out.hg
                have O10 := Lib.hid (O9.out.pick ho10 (by omega))
                have M10 := Lib.hid (M9.out.same (Same.of_only ho10 (.inr (by omega))) (by omega))
                have hz10 := ho10.size
                have k302 := k301 (by omega)
                clear hr10 ho10 hs10 k301 D9 O9 M9
                have hx30 : 0 ≤ k30 / 29 ∧ k30 / 29 ≤ 1 := by omega
                have e1 : IntKind.i64.wrap (k30.tdiv 29) = k30 / 29 := by rw [Int.tdiv_eq_ediv_of_nonneg k300]; exact IntWalk.i64_in _ ⟨by omega, by omega⟩
                have e2 : IntKind.i64.wrap (k30 / 29 * 2) = k30 / 29 * 2 := IntWalk.i64_in _ ⟨by omega, by omega⟩
                obtain ⟨v, hv⟩ : ∃ v, IntKind.i64.wrap (lov + k30 / 29 * 2) = v := ⟨_, rfl⟩
                go_wp2_with (at_builtin; refine wpList_pushLie rfl _ _ rfl w2.heap.size go ts.length _ ts rfl rfl (O10.out.alloc _) w10.heap.size v rfl (by simp) (by omega) (by simp; omega) ?_; intro gn cn w11 hown hgr hlie)
                have D11 := Lib.hid ((D10.out.alloc (.cells #[.int .i64 v] 3)).grownL (O10.out.alloc (.cells #[.int .i64 v] 3)) hgr (by omega))
                have hz11 := hgr.size
                have hz12 : w10.heap.size + 1 ≤ w11.heap.size := by rw [sz] at hz11; omega
                have M11 := Lib.hid ((M10.out.same ((Same.refl _ _ _).alloc (.cells #[.int .i64 v] 3)) (by omega)).same (same_grown hgr hgo) (by rw [sz]; omega))
                have hlie' : gn < lo ∨ hi ≤ gn := by
                  rcases hlie with e | e
                  · omega
                  · rw [sz] at e; omega
                clear e1 e2 hv hgr hlie hz11
                go_roundw
                case rel => exact ⟨j, ts ++ [v], gn, cn, ts.length + 1, by simp, by simp; omega, by simp, rfl, by go_num, hown, hlie', M11.out, D11.out.mono (by simp; omega), by omega⟩
                case measure => first | (simp [intOf]; done) | (simp [intOf]; omega)
          · have hx8 : True := trivial
            have D9 := Lib.hid D8.out
            have O9 := Lib.hid O8.out
            have M9 := Lib.hid M8.out
            go_wp2_with fail
            refine (pick_any base g _ 30 _ D9.out.rd (by omega)).mono ?_; rintro e w10 ⟨k30, rfl, k300, k301, _, hr10, ho10, hs10⟩
            have D10 := Lib.hid (D9.out.pick hr10 ho10)
            have hgw := D9.out.hg
            have O10 := Lib.hid (O9.out.pick ho10 (by omega))
            have M10 := Lib.hid (M9.out.same (Same.of_only ho10 (.inr (by omega))) (by omega))
            have hz10 := ho10.size
            have k302 := k301 (by omega)
            clear hr10 ho10 hs10 k301 D9 O9 M9
            have hx30 : 0 ≤ k30 / 29 ∧ k30 / 29 ≤ 1 := by omega
            have e1 : IntKind.i64.wrap (k30.tdiv 29) = k30 / 29 := by rw [Int.tdiv_eq_ediv_of_nonneg k300]; exact IntWalk.i64_in _ ⟨by omega, by omega⟩
            have e2 : IntKind.i64.wrap (k30 / 29 * 2) = k30 / 29 * 2 := IntWalk.i64_in _ ⟨by omega, by omega⟩
            obtain ⟨v, hv⟩ : ∃ v, IntKind.i64.wrap (lov + k30 / 29 * 2) = v := ⟨_, rfl⟩
            go_wp2_with (at_builtin; refine wpList_pushLie rfl _ _ rfl w2.heap.size go ts.length _ ts rfl rfl (O10.out.alloc _) w10.heap.size v rfl (by simp) (by omega) (by simp; omega) ?_; intro gn cn w11 hown hgr hlie)
            have D11 := Lib.hid ((D10.out.alloc (.cells #[.int .i64 v] 3)).grownL (O10.out.alloc (.cells #[.int .i64 v] 3)) hgr (by omega))
            have hz11 := hgr.size
            have hz12 : w10.heap.size + 1 ≤ w11.heap.size := by rw [sz] at hz11; omega
            have M11 := Lib.hid ((M10.out.same ((Same.refl _ _ _).alloc (.cells #[.int .i64 v] 3)) (by omega)).same (same_grown hgr hgo) (by rw [sz]; omega))
            have hlie' : gn < lo ∨ hi ≤ gn := by
              rcases hlie with e | e
              · omega
              · rw [sz] at e; omega
            clear e1 e2 hv hgr hlie hz11
            go_roundw
            case rel => exact ⟨j, ts ++ [v], gn, cn, ts.length + 1, by simp, by simp; omega, by simp, rfl, by go_num, hown, hlie', M11.out, D11.out.mono (by simp; omega), by omega⟩
            case measure => first | (simp [intOf]; done) | (simp [intOf]; omega)
        · by_cases h2 : hiv < 100000
          · have hx8 : True := trivial
            go_wp2_with fail
            refine (pick_any base g _ 2 _ D8.out.rd (by omega)).mono ?_; rintro e w9 ⟨kb, rfl, kb0, kb1, _, hrx, hox, hsx⟩
            have D8' := Lib.hid (D8.out.pick hrx hox)
            have O8' := Lib.hid (O8.out.pick hox (by omega))
            have M8' := Lib.hid (M8.out.same (Same.of_only hox (.inr (by omega))) (by omega))
            have hzw9 := hox.size
            clear D8 O8 M8 hrx hox hsx
            have D8 := Lib.hid D8'.out
            have O8 := Lib.hid O8'.out
            have M8 := Lib.hid M8'.out
            clear D8' O8' M8'
            clear kb1
            by_cases hk2 : kb = 0
            · have hk2' : (kb == 0) = true := by simpa using hk2
              clear hk2
              have D9 := Lib.hid D8.out
              have O9 := Lib.hid O8.out
              have M9 := Lib.hid M8.out
              go_wp2_with fail
              refine (pick_any base g _ 30 _ D9.out.rd (by omega)).mono ?_; rintro e w10 ⟨k30, rfl, k300, k301, _, hr10, ho10, hs10⟩
              have D10 := Lib.hid (D9.out.pick hr10 ho10)
              have hgw := D9.out.hg
              have O10 := Lib.hid (O9.out.pick ho10 (by omega))
              have M10 := Lib.hid (M9.out.same (Same.of_only ho10 (.inr (by omega))) (by omega))
              have hz10 := ho10.size
              have k302 := k301 (by omega)
              clear hr10 ho10 hs10 k301 D9 O9 M9
              have hx30 : 0 ≤ k30 / 29 ∧ k30 / 29 ≤ 1 := by omega
              have e1 : IntKind.i64.wrap (k30.tdiv 29) = k30 / 29 := by rw [Int.tdiv_eq_ediv_of_nonneg k300]; exact IntWalk.i64_in _ ⟨by omega, by omega⟩
              have e2 : IntKind.i64.wrap (k30 / 29 * 2) = k30 / 29 * 2 := IntWalk.i64_in _ ⟨by omega, by omega⟩
              obtain ⟨v, hv⟩ : ∃ v, IntKind.i64.wrap (hiv + k30 / 29 * 2) = v := ⟨_, rfl⟩
              go_wp2_with (at_builtin; refine wpList_pushLie rfl _ _ rfl w2.heap.size go ts.length _ ts rfl rfl (O10.out.alloc _) w10.heap.size v rfl (by simp) (by omega) (by simp; omega) ?_; intro gn cn w11 hown hgr hlie)
              have D11 := Lib.hid ((D10.out.alloc (.cells #[.int .i64 v] 3)).grownL (O10.out.alloc (.cells #[.int .i64 v] 3)) hgr (by omega))
              have hz11 := hgr.size
              have hz12 : w10.heap.size + 1 ≤ w11.heap.size := by rw [sz] at hz11; omega
              have M11 := Lib.hid ((M10.out.same ((Same.refl _ _ _).alloc (.cells #[.int .i64 v] 3)) (by omega)).same (same_grown hgr hgo) (by rw [sz]; omega))
              have hlie' : gn < lo ∨ hi ≤ gn := by
                rcases hlie with e | e
                · omega
                · rw [sz] at e; omega
              clear e1 e2 hv hgr hlie hz11
              go_roundw
              case rel => exact ⟨j, ts ++ [v], gn, cn, ts.length + 1, by simp, by simp; omega, by simp, rfl, by go_num, hown, hlie', M11.out, D11.out.mono (by simp; omega), by omega⟩
              case measure => first | (simp [intOf]; done) | (simp [intOf]; omega)
            · have hk2' : (kb == 0) = false := beq_eq_false_iff_ne.2 hk2
              clear hk2
              have D9 := Lib.hid D8.out
              have O9 := Lib.hid O8.out
              have M9 := Lib.hid M8.out
              go_wp2_with fail
              refine (pick_any base g _ 30 _ D9.out.rd (by omega)).mono ?_; rintro e w10 ⟨k30, rfl, k300, k301, _, hr10, ho10, hs10⟩
              have D10 := Lib.hid (D9.out.pick hr10 ho10)
              have hgw := D9.out.hg
              have O10 := Lib.hid (O9.out.pick ho10 (by omega))
              have M10 := Lib.hid (M9.out.same (Same.of_only ho10 (.inr (by omega))) (by omega))
              have hz10 := ho10.size
              have k302 := k301 (by omega)
              clear hr10 ho10 hs10 k301 D9 O9 M9
              have hx30 : 0 ≤ k30 / 29 ∧ k30 / 29 ≤ 1 := by omega
              have e1 : IntKind.i64.wrap (k30.tdiv 29) = k30 / 29 := by rw [Int.tdiv_eq_ediv_of_nonneg k300]; exact IntWalk.i64_in _ ⟨by omega, by omega⟩
              have e2 : IntKind.i64.wrap (k30 / 29 * 2) = k30 / 29 * 2 := IntWalk.i64_in _ ⟨by omega, by omega⟩
              obtain ⟨v, hv⟩ : ∃ v, IntKind.i64.wrap ((k20 - 8) + k30 / 29 * 2) = v := ⟨_, rfl⟩
              go_wp2_with (at_builtin; refine wpList_pushLie rfl _ _ rfl w2.heap.size go ts.length _ ts rfl rfl (O10.out.alloc _) w10.heap.size v rfl (by simp) (by omega) (by simp; omega) ?_; intro gn cn w11 hown hgr hlie)
              have D11 := Lib.hid ((D10.out.alloc (.cells #[.int .i64 v] 3)).grownL (O10.out.alloc (.cells #[.int .i64 v] 3)) hgr (by omega))
              have hz11 := hgr.size
              have hz12 : w10.heap.size + 1 ≤ w11.heap.size := by rw [sz] at hz11; omega
              have M11 := Lib.hid ((M10.out.same ((Same.refl _ _ _).alloc (.cells #[.int .i64 v] 3)) (by omega)).same (same_grown hgr hgo) (by rw [sz]; omega))
              have hlie' : gn < lo ∨ hi ≤ gn := by
                rcases hlie with e | e
                · omega
                · rw [sz] at e; omega
              clear e1 e2 hv hgr hlie hz11
              go_roundw
              case rel => exact ⟨j, ts ++ [v], gn, cn, ts.length + 1, by simp, by simp; omega, by simp, rfl, by go_num, hown, hlie', M11.out, D11.out.mono (by simp; omega), by omega⟩
              case measure => first | (simp [intOf]; done) | (simp [intOf]; omega)
          · have hx8 : True := trivial
            have D9 := Lib.hid D8.out
            have O9 := Lib.hid O8.out
            have M9 := Lib.hid M8.out
            go_wp2_with fail
            refine (pick_any base g _ 30 _ D9.out.rd (by omega)).mono ?_; rintro e w10 ⟨k30, rfl, k300, k301, _, hr10, ho10, hs10⟩
            have D10 := Lib.hid (D9.out.pick hr10 ho10)
            have hgw := D9.out.hg
            have O10 := Lib.hid (O9.out.pick ho10 (by omega))
            have M10 := Lib.hid (M9.out.same (Same.of_only ho10 (.inr (by omega))) (by omega))
            have hz10 := ho10.size
            have k302 := k301 (by omega)
            clear hr10 ho10 hs10 k301 D9 O9 M9
            have hx30 : 0 ≤ k30 / 29 ∧ k30 / 29 ≤ 1 := by omega
            have e1 : IntKind.i64.wrap (k30.tdiv 29) = k30 / 29 := by rw [Int.tdiv_eq_ediv_of_nonneg k300]; exact IntWalk.i64_in _ ⟨by omega, by omega⟩
            have e2 : IntKind.i64.wrap (k30 / 29 * 2) = k30 / 29 * 2 := IntWalk.i64_in _ ⟨by omega, by omega⟩
            obtain ⟨v, hv⟩ : ∃ v, IntKind.i64.wrap ((k20 - 8) + k30 / 29 * 2) = v := ⟨_, rfl⟩
            go_wp2_with (at_builtin; refine wpList_pushLie rfl _ _ rfl w2.heap.size go ts.length _ ts rfl rfl (O10.out.alloc _) w10.heap.size v rfl (by simp) (by omega) (by simp; omega) ?_; intro gn cn w11 hown hgr hlie)
            have D11 := Lib.hid ((D10.out.alloc (.cells #[.int .i64 v] 3)).grownL (O10.out.alloc (.cells #[.int .i64 v] 3)) hgr (by omega))
            have hz11 := hgr.size
            have hz12 : w10.heap.size + 1 ≤ w11.heap.size := by rw [sz] at hz11; omega
            have M11 := Lib.hid ((M10.out.same ((Same.refl _ _ _).alloc (.cells #[.int .i64 v] 3)) (by omega)).same (same_grown hgr hgo) (by rw [sz]; omega))
            have hlie' : gn < lo ∨ hi ≤ gn := by
              rcases hlie with e | e
              · omega
              · rw [sz] at e; omega
            clear e1 e2 hv hgr hlie hz11
            go_roundw
            case rel => exact ⟨j, ts ++ [v], gn, cn, ts.length + 1, by simp, by simp; omega, by simp, rfl, by go_num, hown, hlie', M11.out, D11.out.mono (by simp; omega), by omega⟩
            case measure => first | (simp [intOf]; done) | (simp [intOf]; omega)
      · obtain rfl : j = 0 := by omega
        obtain ⟨G', c', hv', hri, hcc, hnn⟩ := OR.out.rc
        obtain ⟨rfl, rfl⟩ : G' = some ⟨go, 0, none⟩ ∧ c' = co := by injection hv' with e1 _ e2; exact ⟨e1.symm, e2.symm⟩
        obtain ⟨r0, r1, f0, f1⟩ := DR.out.res.two
        have RI7 := Lib.hid hri
        clear hv' hri
        go_wp2
        refine bodyPost_ret (v := .tuple #[.agg #[.int .i64 N, .slice A bs.length c], .slice (some ⟨go, 0, none⟩) ts.length c']) (by simp [results, Try.results104, go_sem, r0, r1]) rfl (s_end HF.out hc HN.out ⟨by omega, hcc, hnn⟩ DR.out RI7.out (by omega) (Nat.le_refl _) (by omega) rfl)
theorem code_endI {w w1 w2 : World} {u0 u1 : Value} {o0 : Obj} (h0 : o0 = .cells #[.int .i64 0, .slice none 0 0] 25) (hb1 : Below (w.alloc o0).heap.size (w.alloc o0) w1) {G : Option Addr} {ts : List Int} (hr : RI w2 w1.heap.size w2.heap.size G ts) :
    RI ((w2.setCell ⟨w.heap.size, 0, none⟩ u0).setCell ⟨w.heap.size, 1, none⟩ u1) w.heap.size ((w2.setCell ⟨w.heap.size, 0, none⟩ u0).setCell ⟨w.heap.size, 1, none⟩ u1).heap.size G ts := by
  subst h0
  have hz := hb1.size
  rw [sz] at hz
  rw [szc, szc]
  exact (hr.same (((Same.refl _ _ _).set_ (.inl (by dsimp only; omega)) _).set_ (.inl (by dsimp only; omega)) _) (Nat.le_refl _)).wide (by omega) (Nat.le_refl _)
theorem drawStartOk_any (A : Option Addr) (c : Nat) (xs : List Int) (w : World) (h : Bytes w A c xs) : Calls Try.prog 51 #[.slice A xs.length c] w (DrawnS w) := by
  go_enter Try.func51, Try.ntmps51
  go_wp2_with fail
  refine (open_of (h.alloc _)).mono ?_; rintro e w1 ⟨g, rfl, hr1, hb1, hg1⟩
  have hgb := hr1.base_le
  have hz1 := hb1.size
  simp only [sz] at hgb hz1
  go_wp2_with fail
  refine (start_draw _ g 0 w1 hr1 (by omega)).mono ?_; rintro e w2 ⟨n, A2, c2, bs, G, cg, ts, rfl, hf, hc, hn, hds, hrb, hri, hrd, ho⟩
  have qb := code_res rfl hb1 (by omega) ho
  have q0 : w2.cell? ⟨w.heap.size, 0, none⟩ = some (.int .i64 0) := qb.cell 0
  have q1 : w2.cell? ⟨w.heap.size, 1, none⟩ = some (.slice none 0 0) := qb.cell 1
  have f0 := qb.frozen 0
  have f1 := qb.frozen 1
  have HE := Lib.hid (fun u0 u1 => code_end (u0 := u0) (u1 := u1) rfl hb1 (by omega) ho hrb)
  have HI := Lib.hid (fun u0 u1 => code_endI (u0 := u0) (u1 := u1) rfl hb1 hri)
  have HN := Lib.hid hn
  have HDS := Lib.hid hds
  clear hb1 ho hrb hri hn qb hr1 hrd hds
  go_wp2
  refine bodyPost_ret (v := .tuple #[.agg #[.int .i64 n, .slice A2 bs.length c2], .slice G ts.length cg]) (by simp [results, Try.results51, go_sem, q0, q1]) rfl ⟨n, A2, c2, bs, G, cg, ts, rfl, hf, hc, HN.out, HDS.out, (HE.out _ _).1, HI.out _ _, (HE.out _ _).2⟩
theorem drawEndedFrom_any (A : Option Addr) (c : Nat) (xs : List Int) (w : World) (h : Bytes w A c xs) : Calls Try.prog 68 #[.slice A xs.length c] w (DrawnS w) := by
  go_enter Try.func68, Try.ntmps68
  go_wp2_with fail
  refine (open_of (h.alloc _)).mono ?_; rintro e w1 ⟨g, rfl, hr1, hb1, hg1⟩
  have hgb := hr1.base_le
  have hz1 := hb1.size
  simp only [sz] at hgb hz1
  go_wp2_with fail
  refine (start_draw _ g 0 w1 hr1 (by omega)).mono ?_; rintro e w2 ⟨n, A2, c2, bs, G, cg, ts, rfl, hf, hc, hn, hds, hrb, hri, hrd, ho⟩
  have qb := code_res rfl hb1 (by omega) ho
  have q0 : w2.cell? ⟨w.heap.size, 0, none⟩ = some (.int .i64 0) := qb.cell 0
  have q1 : w2.cell? ⟨w.heap.size, 1, none⟩ = some (.slice none 0 0) := qb.cell 1
  have f0 := qb.frozen 0
  have f1 := qb.frozen 1
  have HE := Lib.hid (fun u0 u1 => code_end (u0 := u0) (u1 := u1) rfl hb1 (by omega) ho hrb)
  have HI := Lib.hid (fun u0 u1 => code_endI (u0 := u0) (u1 := u1) rfl hb1 hri)
  have HN := Lib.hid hn
  have HDS := Lib.hid hds
  clear hb1 ho hrb hri hn qb hr1 hrd hds
  go_wp2
  refine bodyPost_ret (v := .tuple #[.agg #[.int .i64 n, .slice A2 bs.length c2], .slice G ts.length cg]) (by simp [results, Try.results68, go_sem, q0, q1]) rfl ⟨n, A2, c2, bs, G, cg, ts, rfl, hf, hc, HN.out, HDS.out, (HE.out _ _).1, HI.out _ _, (HE.out _ _).2⟩
end Go.Proofs.Ytnompncmachgjaa
