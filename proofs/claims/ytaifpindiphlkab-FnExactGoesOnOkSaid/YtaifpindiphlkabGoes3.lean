/- The contract of spec.GoesOnOk; for slices of at most 2^40 elements. -/
import Derived.Test.YtaifpindiphlkabKJ
import Derived.Test.YtaifpindiphlkabKE
import Derived.Deep.CutRange
import Derived.Deep.Cut
namespace Go.Proofs.Ytaifpindiphlkab
open Go.RowKit
set_option linter.unusedVariables false
set_option maxRecDepth 10000
set_option linter.unusedSimpArgs false

/-- append of some bounds, in a region that draws its order. -/
theorem step_pushD {ops : Array Oper} {o : Oper} {a : Act} {K : Act → World → Prop} {Q : Exit → Act → World → Prop} {E : Prop} {w : World} (hgd : o.guard = none) (s x : Operand)
    (ho : o.op = .call { callee := .builtin .append, args := #[s, x], argTypes := #[28, 28] }) (base : Nat) (v : Value) (bs : List Bd) (hs : a.eval s = v) (hown : OwnB w base v bs)
    (A : Option Addr) (c m : Nat) (ys : List Bd) (hm : m = ys.length) (hx : a.eval x = .slice A m c) (hc : BAt w A ys) (h0 : A = none → c = 0) (hlen : bs.length + ys.length ≤ 1000000) (hbase : base ≤ w.heap.size)
    (h : ∀ v' w', OwnB w' base v' (bs ++ ys) → Below base w w' → (∀ k cs, Blk w k 30 cs → Blk w' k 30 cs) → K (a.put o.dst v') w') :
    if Region.wanted o (yielded ops a.tmps) = true then Oper.wp Try.prog o a w K Q else E := by
  have hw : Region.wanted o (yielded ops a.tmps) = true := by simp [Region.wanted, hgd]
  rw [if_pos hw]
  subst hm
  obtain ⟨i0, hi, hz0, hz1, hz2⟩ := info_parts Try.infoBound
  cases A with
  | none =>
    have hy : ys = [] := by
      cases ys with
      | nil => rfl
      | cons y ys =>
        obtain ⟨b, off, e, _⟩ := hc (by simp)
        cases e
    subst hy
    obtain rfl := h0 rfl
    have hrun := run_append_owned_none (P := Try.prog) (w := w) base 28 o.type 69 i0 3 Try.underlying28 hi v bs.length _ hown
    unfold Oper.wp
    have hx' : a.eval x = .slice none 0 0 := hx
    simp [execOp, ho, resolve, invoke, builtin, hs, hx', hrun, Result.andThen]
    refine h v w ?_ (Below.refl _ _) (fun _ _ hk => hk)
    rw [List.append_nil]; exact hown
  | some ad =>
    refine wp_append_own w s x 28 ho base 69 i0 (.agg #[.int .i64 0, .int .i64 0, .int .i64 0]) 3 24 Try.underlying28 hi hz0 hz1 hz2 rfl (by decide) v bs.length _ hs hown ad ys.length c (flat ys) hx (flat_len ys) ?_ ?_ ?_ ?_ hbase ?_
    · intro j u hj
      obtain ⟨i, y, hy, h3⟩ := flat_inv ys j u hj
      obtain ⟨b, off, e, _, hcc⟩ := hc (by have := (List.getElem?_eq_some_iff.1 hy).1; omega)
      cases e
      obtain ⟨q0, q1, q2⟩ := hcc i y hy
      have ea : ∀ j, (⟨b, off, none⟩ : Addr).add j = ⟨b, off + j, none⟩ := by
        intro j; unfold Addr.add; split <;> simp_all
      rw [ea]
      rcases h3 with ⟨rfl, rfl⟩ | ⟨rfl, rfl⟩ | ⟨rfl, rfl⟩
      · exact q0
      · exact q1
      · exact q2
    · intro u hu
      obtain ⟨j, hj⟩ := List.getElem?_of_mem hu
      obtain ⟨i, y, hy, h3⟩ := flat_inv ys j u hj
      rcases h3 with ⟨_, rfl⟩ | ⟨_, rfl⟩ | ⟨_, rfl⟩ <;> rfl
    · unfold maxLen; omega
    · omega
    · intro v' w' hown' hg _
      refine h v' w' ?_ ?_ ?_
      · unfold OwnB
        rw [List.length_append, flat_append]
        exact hown'
      · refine (Below.refl base w).grown hg hbase (fun k hk => ?_)
        rcases hown.2 with ⟨rfl, _⟩ | ⟨g', cap, cur, rfl, hb', _⟩
        · cases hk
        · simp only [Value.ownBlock, Option.some.injEq] at hk; omega
      · intro k cs hk
        refine (hg.block k hk.lt ?_).trans hk
        rcases hown.2 with ⟨rfl, _⟩ | ⟨g', cap, cur, rfl, hb', hh, _⟩
        · simp [Value.ownBlock]
        · intro e
          have e2 : k = g' := by simpa [Value.ownBlock] using e
          subst e2
          unfold Blk at hk
          rw [hk] at hh
          injection hh with hh
          injection hh with _ hh
          exact absurd hh (by decide)
set_option maxHeartbeats 1000000 in
theorem specGoesOnOk_any (n : Int) (A : Option Addr) (bs : List Bd) (now : Int) (A' : Option Addr) (c' : Nat) (xs : List Int) (w : World) (h : BAt w A bs) (h' : IAt w A' xs) (hlen : bs.length ≤ 1099511627776) (hlen' : xs.length ≤ 1099511627776) :
    Calls Try.prog 41 #[.agg #[.int .i64 n, .slice A bs.length bs.length], .agg #[.int .i64 now, .slice A' xs.length c']] w fun e w' => e = .returned (.bool (goV n bs now xs)) ∧ Below w.heap.size w w' := by
  cases hs : stOk n bs now xs
  · have HR := Lib.hid (show goV n bs now xs = false by simp [goV, hs])
    go_enter Try.func41, Try.ntmps41
    go_wp2_with fail
    refine (specStateOk_any _ _ _ bs _ _ _ xs _ (h.below (by repeat (first | with_reducible exact Below.refl _ _ | with_reducible refine valloc ?_ _ | with_reducible refine vdrew ?_ | with_reducible refine vdrewN ?_ _ | with_reducible refine via (by assumption) ?_ | refine vset ?_ (by first | exact Nat.le_refl _ | (simp; done) | (simp; omega) | omega) _))) (h'.below (by repeat (first | with_reducible exact Below.refl _ _ | with_reducible refine valloc ?_ _ | with_reducible refine vdrew ?_ | with_reducible refine vdrewN ?_ _ | with_reducible refine via (by assumption) ?_ | refine vset ?_ (by first | exact Nat.le_refl _ | (simp; done) | (simp; omega) | omega) _))) hlen hlen').mono ?_; rintro e w1 ⟨rfl, hbw1⟩
    go_wp2
    go_ret
    refine ⟨ret_bool HR.out.symm, ?_⟩
    repeat (first | with_reducible exact Below.refl _ _ | with_reducible refine valloc ?_ _ | with_reducible refine vdrew ?_ | with_reducible refine vdrewN ?_ _ | with_reducible refine via (by assumption) ?_ | refine vset ?_ (by first | exact Nat.le_refl _ | (simp; done) | (simp; omega) | omega) _)
  · obtain ⟨hfit, hl, hnow, _, hxs⟩ := stOk_fit hs
    subst hl
    have hp : planOk xs.length bs = true := by simp only [fitsOk, Bool.and_eq_true] at hfit; exact hfit.1
    obtain ⟨h1, h6, h16, hin⟩ := planOk_of hp
    have HR := Lib.hid (show goV xs.length bs now xs = diagOk xs.length (closeS xs.length (ent (bs ++ goB now xs xs.length))) by
      rw [diag_both (by omega) (fun y hy => by
        rcases List.mem_append.1 hy with hy | hy
        · have := hin y hy; omega
        · have := goB_in hnow hxs _ (Nat.le_refl _) y hy; omega)]
      simp [goV, hs])
    have HG := Lib.hid (goB_len now xs)
    have HX := Lib.hid hxs
    have hA0 : A = none → bs.length = 0 := fun e => by
      rcases Nat.eq_zero_or_pos bs.length with q | q
      · exact q
      · obtain ⟨b, off, e2, _⟩ := h q; rw [e] at e2; cases e2
    have HA0 := Lib.hid hA0
    clear hin hxs hA0
    go_enter Try.func41, Try.ntmps41
    go_wp2_with fail
    refine (specStateOk_any _ _ _ bs _ _ _ xs _ (h.below (by repeat (first | with_reducible exact Below.refl _ _ | with_reducible refine valloc ?_ _ | with_reducible refine vdrew ?_ | with_reducible refine vdrewN ?_ _ | with_reducible refine via (by assumption) ?_ | refine vset ?_ (by first | exact Nat.le_refl _ | (simp; done) | (simp; omega) | omega) _))) (h'.below (by repeat (first | with_reducible exact Below.refl _ _ | with_reducible refine valloc ?_ _ | with_reducible refine vdrew ?_ | with_reducible refine vdrewN ?_ _ | with_reducible refine via (by assumption) ?_ | refine vset ?_ (by first | exact Nat.le_refl _ | (simp; done) | (simp; omega) | omega) _))) hlen hlen').mono ?_; rintro e w1 ⟨rfl, hbw1⟩
    have i0 : w1.cell? ⟨w.heap.size, 0, none⟩ = some (.int .i64 xs.length) := cB hbw1 (by simp)
    have ib : w1.cell? ⟨w.heap.size, 1, none⟩ = some (.slice A bs.length bs.length) := cB hbw1 (by simp)
    have i1 : w1.cell? ⟨w.heap.size + 1, 0, none⟩ = some (.int .i64 now) := cB hbw1 (by simp)
    have i2 : w1.cell? ⟨w.heap.size + 1, 1, none⟩ = some (.slice A' xs.length c') := cB hbw1 (by simp)
    have BB1 : Below w.heap.size w w1 := (by repeat (first | with_reducible exact Below.refl _ _ | with_reducible refine valloc ?_ _ | with_reducible refine vdrew ?_ | with_reducible refine vdrewN ?_ _ | with_reducible refine via (by assumption) ?_ | refine vset ?_ (by first | exact Nat.le_refl _ | (simp; done) | (simp; omega) | omega) _))
    obtain ⟨hcw1, hfw1⟩ := bcell hbw1; have hzw1 := hbw1.size; (try simp only [sz] at hzw1); (try simp only [szc] at hzw1); have hzw1_0 : w.heap.size < w1.heap.size := (by omega); have hzw1_1 : w.heap.size + 1 < w1.heap.size := (by omega)
    have HB1 := Lib.hid (h.below BB1)
    go_upto_region 3 with (fail)
    go_cut [5] from 12 to 18 (fun s5 wx => ∃ (B : Nat) (G : Option Addr) (c2 : Nat), s5 = .pointer (some ⟨B, 0, none⟩) ∧ w1.heap.size ≤ B ∧ OwnB wx w1.heap.size (.slice G bs.length c2) bs ∧ Blk wx B 30 #[.int .i64 xs.length, .slice G bs.length c2] ∧ Below w1.heap.size w1 wx)
    case first =>
      go_region_held3 (fun w' => w'.cell? ⟨w.heap.size, 0, none⟩ = some (.int .i64 xs.length) ∧ w'.cell? ⟨w.heap.size, 1, none⟩ = some (.slice A bs.length bs.length)) (first | go_keep | (go_split_ands; (repeat' apply And.intro) <;> (first | assumption | exact cA (by assumption) _ | exact cD (by assumption) | exact cD (cA (by assumption) _) | exact cA (cA (by assumption) _) _ | exact cD (cA (cA (by assumption) _) _) | exact cS (by assumption) (by omega) | exact cS (cS (by assumption) (by omega)) (by omega) | exact cS (cA (by assumption) _) (by omega) | exact cS (cS (cA (by assumption) _) (by omega)) (by omega))))
        ((refine step_pushD (by rfl) _ _ (by rfl) w1.heap.size _ [] (by rfl) (by first | exact ((OwnB.empty w1 _ _ rfl (Nat.le_refl _)).alloc _).drew | exact (OwnB.empty (w1.alloc _) _ _ (by simp) (by simp)).drew | exact (OwnB.empty w1 _ _ rfl (Nat.le_refl _)).drew | exact (OwnB.empty w1 _ _ rfl (Nat.le_refl _)).alloc _ | exact OwnB.empty (w1.alloc _) _ _ (by simp) (by simp) | exact OwnB.empty w1 _ _ rfl (Nat.le_refl _)) A bs.length bs.length bs rfl (by rfl) (HB1.out.below (by repeat (first | with_reducible exact Below.refl _ _ | with_reducible refine valloc ?_ _ | with_reducible refine vdrew ?_ | with_reducible refine vdrewN ?_ _ | with_reducible refine via (by assumption) ?_ | refine vset ?_ (by first | exact Nat.le_refl _ | (simp; done) | (simp; omega) | omega) _))) HA0.out (by simp; omega) (by simp; try omega) ?_; intro v2 w2 hown2 hb2 hst2; rw [List.nil_append] at hown2; obtain ⟨G2, c2, rfl, hB2⟩ := hown2.bat; have hne1 : w1.heap.size + 1 ≠ w.heap.size := (by omega); have e0 : w2.cell? ⟨w.heap.size, 0, none⟩ = some (.int .i64 xs.length) := (by first | exact cBel hb2 hzw1_0 (cD (cA (cA i0 _) _)) | exact cBel hb2 hzw1_0 (cD (cA i0 _))); have e1 : w2.cell? ⟨w.heap.size, 1, none⟩ = some (.slice A bs.length bs.length) := (by first | exact cBel hb2 hzw1_0 (cD (cA (cA ib _) _)) | exact cBel hb2 hzw1_0 (cD (cA ib _))); (try (have hq : Blk w2 (w1.heap.size + 1) 30 #[.int .i64 0, .slice none 0 0] := (by first | exact hst2 _ _ (Blk.drew (Blk.new' (by simp) _ _)) | exact hst2 _ _ (Blk.new' (by simp) _ _)); have q0 : w2.cell? ⟨w1.heap.size + 1, 0, none⟩ = some (.int .i64 0) := hq.cell 0; have q1 : w2.cell? ⟨w1.heap.size + 1, 1, none⟩ = some (.slice none 0 0) := hq.cell 1; have fr0 := hq.frozen 0; have fr1 := hq.frozen 1)); (try (have hq : Blk w2 w1.heap.size 30 #[.int .i64 0, .slice none 0 0] := hst2 _ _ (Blk.drew (Blk.alloc (Blk.new _ _ _) _)); have hne2 : w1.heap.size ≠ w.heap.size := (by omega); have q0 : w2.cell? ⟨w1.heap.size, 0, none⟩ = some (.int .i64 0) := hq.cell 0; have q1 : w2.cell? ⟨w1.heap.size, 1, none⟩ = some (.slice none 0 0) := hq.cell 1; have fr0 := hq.frozen 0; have fr1 := hq.frozen 1))))
      all_goals go_wp2_with fail
      all_goals go_meet
      all_goals
        have hzz := hb2.size
        simp at hzz
        have BW2 : Below w1.heap.size w1 w2 := Below.trans ((by repeat (first | with_reducible exact Below.refl _ _ | with_reducible refine valloc ?_ _ | with_reducible refine vdrew ?_ | with_reducible refine vdrewN ?_ _ | with_reducible refine via (by assumption) ?_ | refine vset ?_ (by first | exact Nat.le_refl _ | (simp; done) | (simp; omega) | omega) _))) hb2
        first
          | exact ⟨_, G2, c2, rfl, by omega, hown2.alloc _, Blk.new' rfl _ _, BW2.alloc (by omega) _⟩
          | exact ⟨_, G2, c2, rfl, by omega, (hown2.box hq).box (hq.set_ 0 _), (hq.set_ 0 _).set_ 1 _, (BW2.setCell (by simp) _).setCell (by simp) _⟩
    case rest =>
      obtain ⟨B, G, c2, rfl, hBge, hO, hQ, hbc⟩ := hcut
      have HO0 := Lib.hid hO
      have HQ0 := Lib.hid hQ
      have HI1 := Lib.hid (h'.below BB1)
      clear hO hQ
      go_wp2
      go_loopw [6] (fun k W => ∃ (kk : Nat) (G : Option Addr) (cg : Nat) (L : List Bd), L = bs ++ goB now xs kk ∧ kk ≤ xs.length ∧ k = .int .i64 kk ∧ OwnB W w1.heap.size (.slice G L.length cg) L ∧ Blk W B 30 #[.int .i64 xs.length, .slice G L.length cg] ∧ Below w1.heap.size w1 W) (fun k _ => xs.length - (intOf k).toNat)
      case atStart => exact ⟨0, G, c2, bs, by simp [goB], Nat.zero_le _, rfl, HO0.out, HQ0.out, hbc⟩
      case round =>
        obtain ⟨k, G, cg, L, hL, hk, rfl, hO, hQ, hb⟩ := hrel
        have HO := Lib.hid hO
        have HQ := Lib.hid hQ
        have HL := Lib.hid hL
        have g1 := cBel hb hzw1_1 i1
        have g2 := cBel hb hzw1_1 i2
        have s0 : wr.cell? ⟨B, 0, none⟩ = some (.int .i64 xs.length) := hQ.cell 0
        have s1 : wr.cell? ⟨B, 1, none⟩ = some (.slice G L.length cg) := hQ.cell 1
        have hzr := hb.size
        have hBz := hQ.lt
        have hll : L.length ≤ 28 := by have := HG.out k; rw [hL, List.length_append]; omega
        clear hO hQ hL
        by_cases hlt : k < xs.length
        · obtain ⟨bx, ox, x, rfl, hbx, hx, hxm, cx⟩ := (HI1.out.below hb).at_ hlt
          have X1 := Lib.hid (nthI_of hx)
          have hxi := HX.out x hxm
          clear hx hxm
          obtain ⟨w3, hw3⟩ : ∃ w3 : World, w3 = wr := ⟨_, rfl⟩
          subst hw3
          cases hxe : (x == -1)
          · have hne : ¬ x = -1 := by intro e; rw [e] at hxe; simp at hxe
            have hxn : (x != -1) = true := by rw [bne, hxe]; rfl
            have HS := Lib.hid (goB_yes (now := now) X1.out hne)
            have EN : IntKind.i64.wrap (-x) = -x := (IntWalk.i64_left _).trans (IntWalk.wrap64_in _ (by omega))
            clear hne
            go_wp2_with (at_builtin; first
              | (refine wpList_pushD rfl _ _ rfl w1.heap.size _ L rfl (HO.out.alloc _) (some ⟨w3.heap.size, 0, none⟩) 1 1 [⟨0, k, x⟩] rfl rfl (bd1 _ _ _ _) (fun q => by cases q) (by simp; omega) (by simp; omega) ?_; intro v1 w4 hown4 hb4 hst4; obtain ⟨L4, hL4⟩ : ∃ L4, L4 = L ++ [⟨0, (k : Int), x⟩] := ⟨_, rfl⟩; rw [← hL4] at hown4; obtain ⟨G4, c4, rfl, _⟩ := hown4.bat; have hl4 : L4.length ≤ 29 := (by rw [hL4, List.length_append, List.length_singleton]; omega); have hq4 := hst4 _ _ (HQ.out.alloc _); have t0 : w4.cell? ⟨B, 1, none⟩ = some (.slice G L.length cg) := hq4.cell 1; have t1 := hq4.frozen 1; have t2 : w4.cell? ⟨w.heap.size + 1, 0, none⟩ = some (.int .i64 now) := cBel hb4 hzw1_1 (cA g1 _); have HL4 := Lib.hid hL4; have HO5 := Lib.hid (hown4.box (i := 1) (u := .slice G4 L4.length c4) hq4); have HQ5 : Hid (Blk (w4.setCell ⟨B, 1, none⟩ (.slice G4 L4.length c4)) B 30 #[.int .i64 xs.length, .slice G4 L4.length c4]) := Lib.hid (hq4.set_ 1 _); have B5 := Lib.hid (Below.setCell ((hb.alloc hb.size _).trans hb4) (p := ⟨B, 1, none⟩) hBge (.slice G4 L4.length c4)); have hz4 : w1.heap.size ≤ w4.heap.size := (by have := B5.out.size; simpa using this); have r1 : (w4.setCell ⟨B, 1, none⟩ (.slice G4 L4.length c4)).cell? ⟨B, 1, none⟩ = some (.slice G4 L4.length c4) := HQ5.out.cell 1; clear hq4 hown4 hst4 hL4 hb4)
              | (refine wpList_pushD rfl _ _ rfl w1.heap.size _ L4 rfl (HO5.out.alloc _) (some ⟨w4.heap.size, 0, none⟩) 1 1 [⟨k, 0, -x⟩] rfl rfl (by simpa using bd1 (w4.setCell ⟨B, 1, none⟩ (.slice G4 L4.length c4)) k 0 (-x)) (fun q => by cases q) (by simp; omega) (by simp; omega) ?_; intro v1 w6 hown6 hb6 hst6; obtain ⟨L6, hL6⟩ : ∃ L6, L6 = L4 ++ [⟨(k : Int), 0, -x⟩] := ⟨_, rfl⟩; rw [← hL6] at hown6; obtain ⟨G6, c6, rfl, _⟩ := hown6.bat; have hq6 := hst6 _ _ (HQ5.out.alloc _); have t8 : w6.cell? ⟨B, 1, none⟩ = some (.slice G4 L4.length c4) := hq6.cell 1; have t9 := hq6.frozen 1; have HL6 := Lib.hid hL6; have HO7 := Lib.hid (hown6.box (i := 1) (u := .slice G6 L6.length c6) hq6); have HQ7 : Hid (Blk (w6.setCell ⟨B, 1, none⟩ (.slice G6 L6.length c6)) B 30 #[.int .i64 xs.length, .slice G6 L6.length c6]) := Lib.hid (hq6.set_ 1 _); have B7 := Lib.hid (Below.setCell ((B5.out.alloc B5.out.size _).trans hb6) (p := ⟨B, 1, none⟩) hBge (.slice G6 L6.length c6)); clear hq6 hown6 hst6 hL6 hb6))
            go_roundw
            case rel => exact ⟨k + 1, G6, c6, L6, by rw [HL6.out, HL4.out, HL.out, HS.out]; simp, by omega, by go_num, HO7.out, HQ7.out, B7.out⟩
            case measure => simp [intOf]; omega
          · have hxv := beq_iff_eq.1 hxe
            have hxn : (x != -1) = false := by rw [bne, hxe]; rfl
            have HS := Lib.hid (goB_no (now := now) (X1.out.trans hxv))
            have EN : IntKind.i64.wrap (-now) = -now := (IntWalk.i64_left _).trans (IntWalk.wrap64_in _ (by omega))
            clear hxv
            go_wp2_with (at_builtin; refine wpList_pushD rfl _ _ rfl w1.heap.size _ L rfl (HO.out.alloc _) (some ⟨w3.heap.size, 0, none⟩) 1 1 [⟨k, 0, -now⟩] rfl rfl (bd1 _ _ _ _) (fun q => by cases q) (by simp; omega) (by simp; omega) ?_; intro v1 w4 hown4 hb4 hst4; obtain ⟨L4, hL4⟩ : ∃ L4, L4 = L ++ [⟨(k : Int), 0, -now⟩] := ⟨_, rfl⟩; rw [← hL4] at hown4; obtain ⟨G4, c4, rfl, _⟩ := hown4.bat; have hq4 := hst4 _ _ (HQ.out.alloc _); have t0 : w4.cell? ⟨B, 1, none⟩ = some (.slice G L.length cg) := hq4.cell 1; have t1 := hq4.frozen 1; have HL4 := Lib.hid hL4; have HO5 := Lib.hid (hown4.box (i := 1) (u := .slice G4 L4.length c4) hq4); have HQ5 : Hid (Blk (w4.setCell ⟨B, 1, none⟩ (.slice G4 L4.length c4)) B 30 #[.int .i64 xs.length, .slice G4 L4.length c4]) := Lib.hid (hq4.set_ 1 _); have B5 := Lib.hid (Below.setCell ((hb.alloc hb.size _).trans hb4) (p := ⟨B, 1, none⟩) hBge (.slice G4 L4.length c4)); clear hq4 hown4 hst4 hL4 hb4)
            go_roundw
            case rel => exact ⟨k + 1, G4, c4, L4, by rw [HL4.out, HL.out, HS.out]; simp, by omega, by go_num, HO5.out, HQ5.out, B5.out⟩
            case measure => simp [intOf]; omega
        · obtain rfl : xs.length = k := by omega
          have HR2 := Lib.hid (show goV xs.length bs now xs = diagOk xs.length (closeS xs.length (ent L)) by rw [HR.out, HL.out])
          have BW := BB1.trans (hb.mono BB1.size)
          obtain ⟨G', cg', e', hB⟩ := HO.out.bat
          simp only [Value.slice.injEq, true_and] at e'
          obtain ⟨rfl, rfl⟩ := e'
          have HB := Lib.hid hB
          clear hB
          go_wp2_with fail
          refine (l2Closed_any xs.length _ _ L _ HB.out (by omega) (by omega) (by omega)).mono ?_; rintro e w5 ⟨A5, c5, rfl, hm5, hbw5⟩
          go_wp2_with fail
          refine (l2Fits_any xs.length _ _ _ _ (hm5.mat (Nat.le_refl _)) (by omega)).mono ?_; rintro e w6 ⟨rfl, hbw6⟩
          have b5 := BW.trans (hbw5.mono BW.size)
          clear hm5
          go_wp2
          go_ret
          exact ⟨ret_bool HR2.out.symm, b5.trans (hbw6.mono b5.size)⟩
end Go.Proofs.Ytaifpindiphlkab
