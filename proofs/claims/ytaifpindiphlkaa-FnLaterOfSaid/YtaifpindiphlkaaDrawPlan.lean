/- The contract of spec.l20Plan: it draws some plan, of at most seven points and twelve bounds, in new memory. -/
import Derived.Test.YtaifpindiphlkaaPick
import Derived.Test.YtaifpindiphlkaaKJ
import Derived.Deep.CutRange
import Derived.Deep.LoopGhost
namespace Go.Proofs.Ytaifpindiphlkaa
open Go.RowKit
set_option linter.unusedVariables false
set_option maxRecDepth 10000
set_option linter.unusedSimpArgs false

theorem OwnB.keep {w w1 : World} {base : Nat} {v : Value} {bs : List Bd} (h : OwnB w base v bs) (hb : ∀ k, base ≤ k → k < w.heap.size → w1.heap[k]? = w.heap[k]?) : OwnB w1 base v bs := by
  obtain ⟨h1, h2⟩ := h
  refine ⟨h1, ?_⟩
  rcases h2 with h2 | ⟨g, cap, cur, hv, hg, hh, r⟩
  · exact Or.inl h2
  · refine Or.inr ⟨g, cap, cur, hv, hg, ?_, r⟩
    rw [hb g hg (by
      rcases Nat.lt_or_ge g w.heap.size with hlt | hge
      · exact hlt
      · rw [Array.getElem?_eq_none hge] at hh; cases hh)]
    exact hh
theorem OwnL.keep {w w1 : World} {base : Nat} {v : Value} {xs : List Int} (h : OwnL w base v xs) (hb : ∀ k, base ≤ k → k < w.heap.size → w1.heap[k]? = w.heap[k]?) : OwnL w1 base v xs := by
  obtain ⟨h1, h2⟩ := h
  refine ⟨h1, ?_⟩
  rcases h2 with h2 | ⟨g, cap, cur, hv, hg, hh, r⟩
  · exact Or.inl h2
  · refine Or.inr ⟨g, cap, cur, hv, hg, ?_, r⟩
    rw [hb g hg (by
      rcases Nat.lt_or_ge g w.heap.size with hlt | hge
      · exact hlt
      · rw [Array.getElem?_eq_none hge] at hh; cases hh)]
    exact hh
theorem OwnB.rb {w : World} {base : Nat} {v : Value} {bs : List Bd} (h : OwnB w base v bs) : ∃ G c, v = .slice G bs.length c ∧ RB w base w.heap.size G bs ∧ bs.length ≤ c ∧ (G = none → c = 0) := by
  obtain ⟨h1, ⟨rfl, h0⟩ | ⟨g, cap, cur, rfl, hg, hh, hn, hc, hs, ht⟩⟩ := h
  · have : bs = [] := List.eq_nil_of_length_eq_zero h0
    subst this
    exact ⟨none, 0, rfl, .inl ⟨rfl, rfl⟩, Nat.le_refl _, fun _ => rfl⟩
  · have hlt : g < w.heap.size := by
      rcases Nat.lt_or_ge g w.heap.size with hlt | hge
      · exact hlt
      · rw [Array.getElem?_eq_none hge] at hh; cases hh
    refine ⟨some ⟨g, 0, none⟩, cap, rfl, .inr ⟨g, cur, rfl, hg, hlt, hh, by rw [hs]; omega, fun i x hi hx => ?_⟩, hn, fun e => by cases e⟩
    obtain ⟨a0, a1, a2⟩ := flat_at bs i x hx
    have key : ∀ j, j < bs.length * 3 → cur[j]? = (flat bs)[j]? := by
      intro j hj
      rw [← ht, List.getElem?_take_of_lt hj]; simp
    rw [key _ (by omega), key _ (by omega), key _ (by omega)]
    exact ⟨a0, a1, a2⟩
theorem Same.of_below {B lo hi : Nat} {w w1 : World} (hb : Below B w w1) (h : hi ≤ B) : Same lo hi w w1 := ⟨fun hh => ⟨Nat.le_trans hh hb.size, fun k _ hk => hb.block k (by omega)⟩⟩
theorem Same.of_only {lo hi lo' hi' : Nat} {w w1 : World} (ho : Only lo' hi' w w1) (h : hi ≤ lo' ∨ hi' ≤ lo) : Same lo hi w w1 := (Same.refl _ _ _).only ho h
theorem OwnL.pick {w w1 : World} {g base : Nat} {v : Value} {xs : List Int} (h : OwnL w base v xs) (ho : Only g (g + 1) w w1) (hg : g < base) : OwnL w1 base v xs := h.keep fun k hk hk' => ho.block k hk' (.inr (by omega))
theorem OwnB.pick {w w1 : World} {g base : Nat} {v : Value} {bs : List Bd} (h : OwnB w base v bs) (ho : Only g (g + 1) w w1) (hg : g < base) : OwnB w1 base v bs := h.keep fun k hk hk' => ho.block k hk' (.inr (by omega))
theorem Rd.below {w w1 : World} {base g q B : Nat} (h : Rd w base g q) (hb : Below B w w1) (hg : g < B) : Rd w1 base g q := h.same (Same.of_below hb hg)
theorem Blk.only {w w1 : World} {P lo hi : Nat} {t : TypeId} {cs : Array Value} (h : Blk w P t cs) (ho : Only lo hi w w1) (hd : P < lo ∨ hi ≤ P) : Blk w1 P t cs := (ho.block P h.lt hd).trans h
theorem Rd.alloc {w : World} {base g q : Nat} (h : Rd w base g q) (o : Obj) : Rd (w.alloc o) base g q := h.same ((Same.refl _ _ _).alloc _)
theorem ocell {W w1 : World} {g : Nat} (ho : Only g (g + 1) W w1) : (∀ b o, b < W.heap.size → ¬ b = g → w1.cell? ⟨b, o, none⟩ = W.cell? ⟨b, o, none⟩) ∧ (∀ b o, b < W.heap.size → ¬ b = g → w1.frozen? ⟨b, o, none⟩ = W.frozen? ⟨b, o, none⟩) :=
  ⟨fun b o h hn => World.cell?_of_block (w := W) (a := ⟨b, o, none⟩) (ho.block b h (by omega)), fun b o h hn => World.frozen?_of_block (w := W) (a := ⟨b, o, none⟩) (ho.block b h (by omega))⟩
theorem Only.new {lo hi : Nat} {w W : World} (h : Only lo hi w W) {p : Addr} (hp : w.heap.size ≤ p.block) (u : Value) : Only lo hi w (W.setCell p u) :=
  ⟨h.os, h.tape, h.output, Nat.le_trans h.size (Nat.le_of_eq (by simp)), fun k hk hd => (Below.heap_setCell W p u k (by omega)).trans (h.block k hk hd)⟩
theorem drewB {g P B : Nat} {w wr wx w11 : World} {o : Obj} {u : Value} (h1 : Only g (g + 1) w wr) (h2 : Only g (g + 1) wr wx) (hb : Below B (wx.alloc o) w11) (hB : w.heap.size ≤ B) (hP : w.heap.size ≤ P) {i : Nat} : Only g (g + 1) w (w11.setCell ⟨P, i, none⟩ u) := by
  have h3 : Only g (g + 1) w (wx.alloc o) := (Only.only h2 (Nat.le_refl _) (Nat.le_refl _) h1).alloc o
  have h4 : Only g (g + 1) w w11 := ⟨hb.os.trans h3.os, hb.tape.trans h3.tape, hb.output.trans h3.output, Nat.le_trans h3.size hb.size, fun k hk hd => (hb.block k (by omega)).trans (h3.block k hk hd)⟩
  exact h4.new hP u
/-- What is known of a plan that is drawn. -/
def PlanFacts (n : Int) (bs : List Bd) : Prop := 0 ≤ n ∧ n ≤ 7 ∧ bs.length ≤ 16 ∧ (planOk n bs = true → ∀ x ∈ bs, -63 ≤ x.m ∧ x.m ≤ 63)
theorem facts_good {n : Int} {bs : List Bd} (h0 : 0 ≤ n) (h7 : n ≤ 7) (hl : bs.length ≤ 12) (h : ∀ x ∈ bs, 0 ≤ x.f ∧ x.f < n ∧ 0 ≤ x.t ∧ x.t < n ∧ -45 ≤ x.m ∧ x.m ≤ 45) : PlanFacts n bs :=
  ⟨h0, h7, by omega, fun _ x hx => by have := h x hx; omega⟩
theorem facts_num {n : Int} {bs : List Bd} (h : n = 0 ∨ n = 7) (hl : bs.length ≤ 12) : PlanFacts n bs :=
  ⟨by omega, by omega, by omega, fun hp => by have := planOk_of hp; omega⟩
theorem facts_bound {n : Int} {bs : List Bd} {y : Bd} (h0 : 0 ≤ n) (h7 : n ≤ 7) (hl : bs.length + 1 ≤ 12) (hy : n ≤ y.t ∨ 99 < y.m) : PlanFacts n (bs ++ [y]) :=
  ⟨h0, h7, by rw [List.length_append, List.length_singleton]; omega, fun hp => by have := (planOk_of hp).2.2.2 y (by simp); omega⟩
/-- Some plan of at most seven points and twelve bounds, its bounds in new memory; the reader has gone on, and nothing else has turned. -/
def DrewPlan (base g q : Nat) (w : World) (e : Ending) (w' : World) : Prop :=
  ∃ (n : Int) (A : Option Addr) (c : Nat) (bs : List Bd), e = .returned (.agg #[.int .i64 n, .slice A bs.length c]) ∧ PlanFacts n bs ∧ bs.length ≤ c ∧ (A = none → c = 0) ∧ RB w' w.heap.size w'.heap.size A bs ∧ Rd w' base g (q + 100) ∧ Only g (g + 1) w w'
/-- The end of the walk. -/
theorem plan_end {base g q q' R lo : Nat} {n : Int} {v : Value} {bs : List Bd} {w W : World} {r0 r1 : Value} (hown : OwnB W lo v bs) (hR : Blk W R 25 #[r0, r1]) (hRw : w.heap.size ≤ R) (hlo : w.heap.size ≤ lo) (hRg : g < R) (hr : Rd W base g q') (hq : q' ≤ q + 100) (hF : Only g (g + 1) w W) (hf : PlanFacts n bs) {u0 : Value} {e : Ending} (he : e = .returned (.agg #[.int .i64 n, v])) :
    DrewPlan base g q w e ((W.setCell ⟨R, 0, none⟩ u0).setCell ⟨R, 1, none⟩ v) := by
  have h1 := hown.box (i := 0) (u := u0) hR
  have h2 := h1.box (i := 1) (u := v) (hR.set_ 0 u0)
  obtain ⟨G, c, rfl, hrb, hc, hn⟩ := h2.rb
  refine ⟨n, G, c, bs, he, hf, hc, hn, hrb.wide hlo (Nat.le_refl _), Rd.mono (hr.same (((Same.refl _ _ _).set_ (.inr (by dsimp only; omega)) _).set_ (.inr (by dsimp only; omega)) _)) hq, (hF.new (by dsimp only; exact hRw) _).new (by dsimp only; exact hRw) _⟩
set_option maxHeartbeats 4000000 in
theorem plan_any (base g q : Nat) (n : Int) (w : World) (h : Rd w base g q) (hq : q ≤ 100000) (hn1 : 1 ≤ n) (hn2 : n ≤ 1000) :
    Calls Try.prog 44 #[.pointer (some ⟨g, 0, none⟩), .int .i64 n] w (DrewPlan base g q w) := by
  have hg := h.lt
  go_enter Try.func44, Try.ntmps44
  go_wp2_with fail
  refine (pick_any base g q 5 _ (h.same ((Same.refl _ _ _).alloc _)) (by omega)).mono ?_
  rintro e w1 ⟨k1, rfl, k10, k11, _, hr1, ho1, hs1⟩
  have k11' := k11 (by omega)
  simp only [sz] at hs1
  go_wp2_with fail
  refine (pick_any base g (q + 1) 20 _ hr1 (by omega)).mono ?_
  rintro e w2 ⟨k2, rfl, k20, k21, _, hr2, ho2, hs2⟩
  have k21' := k21 (by omega)
  go_wp2_with fail
  obtain ⟨N, hN, hN1, hN6⟩ : ∃ N : Nat, 1 + k1 + k2 / 19 = (N : Int) ∧ 1 ≤ N ∧ N ≤ 6 := ⟨(1 + k1 + k2 / 19).toNat, by omega, by omega, by omega⟩
  rw [hN]
  have R1 : Blk w1 w.heap.size 25 #[.int .i64 0, .slice none 0 0] := (Blk.new w _ _).only ho1 (.inr hg)
  have R2 := R1.only ho2 (.inr hg)
  have hW2 := R2.lt
  have F2 : Only g (g + 1) w w2 := Only.only ho2 (Nat.le_refl _) (Nat.le_refl _) (Only.only ho1 (Nat.le_refl _) (Nat.le_refl _) ((Only.refl _ _ _).alloc _))
  clear hN k10 k11 k11' k20 k21 k21' ho1 ho2 hr1
  go_loopw [6, 7] (fun out j W => ∃ (k : Nat) (ts : List Int), k ≤ N ∧ j = .int .i64 k ∧ OwnL W (w2.heap.size + 1) out ts ∧ ts.length = k ∧ (∀ t ∈ ts, -9 ≤ t ∧ t ≤ 29) ∧ Rd W base g (q + 2 + 2 * k) ∧ Only g (g + 1) w W ∧ w2.heap.size + 1 ≤ W.heap.size ∧
      Blk W w2.heap.size 25 #[.int .i64 N, .slice none 0 0] ∧ Blk W w.heap.size 25 #[.int .i64 0, .slice none 0 0]) (fun _ j _ => N - (intOf j).toNat)
  case atStart => exact ⟨0, [], Nat.zero_le _, rfl, OwnL.empty (w2.alloc _) _ _ (by simp) (Nat.le_refl _), rfl, by simp, hr2.same (((Same.refl _ _ _).alloc _).alloc _), (F2.alloc _).alloc _, by simp, (Blk.new _ _ _).alloc _, (R2.alloc _).alloc _⟩
  case round =>
    obtain ⟨k, ts, hk, rfl, hown, htl, htb, hr, hF, hz, hP, hR⟩ := hrel
    have HO := Lib.hid hown
    have HTL := Lib.hid htl
    have HTB := Lib.hid htb
    have htl' : ts.length ≤ k := by omega
    have e0 : wr.cell? ⟨w2.heap.size, 0, none⟩ = some (.int .i64 N) := hP.cell 0
    clear hown htl htb
    by_cases hlt : k < N
    · go_wp2_with fail
      refine (pick_any base g _ 30 _ hr (by omega)).mono ?_
      rintro e w3 ⟨k3, rfl, k30, k31, _, hr3, ho3, hs3⟩
      have k31' := k31 (by omega)
      go_wp2_with fail
      refine (pick_any base g _ 10 _ hr3 (by omega)).mono ?_
      rintro e w4 ⟨k4, rfl, k40, k41, _, hr4, ho4, hs4⟩
      have k41' := k41 (by omega)
      have O4 := (HO.out.pick ho3 (by omega)).pick ho4 (by omega)
      go_wp2_with (at_builtin; refine wpList_push rfl _ _ rfl (w2.heap.size + 1) _ _ rfl (O4.alloc _) w4.heap.size (k3 - k4) rfl (by simp) (by omega) (by simp; omega) ?_; intro v1 w5 hown5 hb5)
      go_roundw
      case rel =>
        refine ⟨k + 1, ts ++ [k3 - k4], by omega, by go_num, hown5, by rw [List.length_append, HTL.out]; rfl, ?_, (Rd.below (hr4.same ((Same.refl _ _ _).alloc _)) hb5 (by omega)).mono (by omega), ?_, ?_, ((hP.only ho3 (.inr (by omega))).only ho4 (.inr (by omega)) |>.alloc _).below hb5 (Nat.lt_succ_self _), ((hR.only ho3 (.inr (by omega))).only ho4 (.inr (by omega)) |>.alloc _).below hb5 (by omega)⟩
        · intro t ht
          rcases List.mem_append.1 ht with ht | ht
          · exact HTB.out t ht
          · simp at ht; subst ht; omega
        · have h1 : Only g (g + 1) w (w4.alloc _) := (Only.only ho4 (Nat.le_refl _) (Nat.le_refl _) (Only.only ho3 (Nat.le_refl _) (Nat.le_refl _) hF)).alloc (Obj.cells #[.int .i64 (k3 - k4)] 3)
          exact ⟨hb5.os.trans h1.os, hb5.tape.trans h1.tape, hb5.output.trans h1.output, Nat.le_trans h1.size hb5.size, fun k hk hd => (hb5.block k (by omega)).trans (h1.block k hk hd)⟩
        · have := hb5.size; simp only [sz] at this; omega
      case measure => simp [intOf]; omega
    · obtain rfl : k = N := by omega
      go_wp2_with fail
      refine (pick_any base g _ 4 _ hr (by omega)).mono ?_
      rintro e w3 ⟨k3, rfl, k30, k31, _, hr3, ho3, hs3⟩
      go_wp2_with fail
      refine (pick_any base g _ 9 _ hr3 (by omega)).mono ?_
      rintro e w4 ⟨k4, rfl, k40, k41, _, hr4, ho4, hs4⟩
      have k41' := k41 (by omega)
      obtain ⟨G, cg, rfl, hri⟩ := ((HO.out.pick ho3 (by omega)).pick ho4 (by omega)).ri
      have P4 := (hP.only ho3 (.inr (by omega))).only ho4 (.inr (by omega))
      have R4 := (hR.only ho3 (.inr (by omega))).only ho4 (.inr (by omega))
      have F4 : Only g (g + 1) w w4 := Only.only ho4 (Nat.le_refl _) (Nat.le_refl _) (Only.only ho3 (Nat.le_refl _) (Nat.le_refl _) hF)
      have D4 := hr4.mono (show q + 2 + 2 * k + 1 + 1 ≤ q + 20 by omega)
      obtain ⟨J, rfl⟩ := Int.eq_ofNat_of_zero_le k40
      have HTL' := HTL.out
      clear hP hR hF hr hr3 hr4 ho3 ho4 HO e0 hk hlt F2 R1 R2 k31 k41 k30
      have HP4 := Lib.hid P4
      have HR4 := Lib.hid R4
      clear P4 R4
      go_wp2_with fail
      go_loopw [9, 10] (fun c b W => ∃ (j : Nat) (bs : List Bd) (Bv : Value), j ≤ 8 ∧ c = .int .i64 j ∧ OwnB W w4.heap.size Bv bs ∧ (∀ x ∈ bs, 0 ≤ x.f ∧ x.f < k ∧ 0 ≤ x.t ∧ x.t < k ∧ -45 ≤ x.m ∧ x.m ≤ 45) ∧ bs.length + j ≤ 8 ∧ Blk W w2.heap.size 25 #[.int .i64 k, Bv] ∧ Blk W w.heap.size 25 #[.int .i64 0, .slice none 0 0] ∧ RI W (w2.heap.size + 1) w4.heap.size G ts ∧ Rd W base g (q + 20 + 5 * bs.length) ∧ Only g (g + 1) w W ∧ w4.heap.size ≤ W.heap.size) (fun c _ _ => (intOf c).toNat)
      case atStart => exact ⟨J, [], _, by omega, rfl, OwnB.nil _ _, by simp, by simp; omega, HP4.out, HR4.out, hri, D4, F4, Nat.le_refl _⟩
      case round =>
        obtain ⟨j, bs, Bv, hj, rfl, hown, hin, hbj, hP, hR, hI, hr, hF, hz⟩ := hrel
        have HO := Lib.hid hown
        have HIN := Lib.hid hin
        have HP := Lib.hid hP
        have HR := Lib.hid hR
        have p0 : wr.cell? ⟨w2.heap.size, 0, none⟩ = some (.int .i64 k) := hP.cell 0
        have p1 : wr.cell? ⟨w2.heap.size, 1, none⟩ = some Bv := hP.cell 1
        clear hown hP hR hin
        by_cases hlt : 0 < j
        · obtain ⟨j, rfl⟩ : ∃ j' : Nat, j = j' + 1 := ⟨j - 1, by omega⟩
          go_upto_region 11 with (fail)
          go_cut [10] from 38 to 84 (fun s10 wx => ∃ (B : Nat) (f t : Int), s10 = .pointer (some ⟨B, 0, none⟩) ∧ wr.heap.size ≤ B ∧ Blk wx B 64 #[.int .i64 f, .int .i64 t, .int .i64 0] ∧ 0 ≤ f ∧ f < k ∧ 0 ≤ t ∧ t < k ∧ Rd wx base g (q + 22 + 5 * bs.length) ∧ Only g (g + 1) wr wx)
          case first =>
            have hgr := hr.lt
            have hneR : ¬ wr.heap.size = g := by omega
            have hmark5 : True := trivial
            have hw2 : w2.heap.size < wr.heap.size := cell_lt p0
            have hw2g : w2.heap.size < g ∨ g + 1 ≤ w2.heap.size := by omega
            go_region_held3 (fun w' => w'.cell? ⟨w2.heap.size, 0, none⟩ = some (.int .i64 k)) (first | go_keep | (go_split_ands; (repeat' apply And.intro) <;> (first | assumption | exact cA (by assumption) _ | exact cD (by assumption) | exact cD (cA (by assumption) _) | exact cA (cA (by assumption) _) _ | exact cS (by assumption) (by omega) | exact cS (cS (by assumption) (by omega)) (by omega) | exact cS (cS (cS (by assumption) (by omega)) (by omega)) (by omega))))
              (first
                | (go_at_call 56; clear hmark5; refine (pick_any base g _ _ _ (by first | assumption | exact Rd.alloc (by assumption) _ | exact Rd.drew (by assumption) | exact Rd.alloc (Rd.drew (by assumption)) _ | exact Rd.drew (Rd.alloc (by assumption) _)) (by omega)).mono ?_; rintro e w5 ⟨k5, rfl, k50, k51, _, hr5, ho5, hs5⟩; have s5 : w5.cell? ⟨w2.heap.size, 0, none⟩ = some (.int .i64 k) := (by first | exact Only.cell ho5 (cD p0) hw2g | exact Only.cell ho5 (cD (cA p0 _)) hw2g | exact Only.cell ho5 (cA p0 _) hw2g | exact Only.cell ho5 p0 hw2g); have hl5 := hr5.lt; have hz5 : wr.heap.size ≤ w5.heap.size := (by first | exact hs5 | exact Nat.le_trans (leA _ _) hs5); have hneq5 : ¬ w5.heap.size = w2.heap.size := (by omega); have F5 : Only g (g + 1) wr w5 := Only.only ho5 (Nat.le_refl _) (Nat.le_refl _) (by first | exact (Only.refl _ _ _).drew | exact ((Only.refl _ _ _).alloc _).drew | exact (Only.refl _ _ _).alloc _ | exact Only.refl _ _ _); (try (have hq5 : Blk w5 wr.heap.size 64 #[.int .i64 0, .int .i64 0, .int .i64 0] := (by first | exact (Blk.drew (Blk.new _ _ _)).only ho5 (.inr (by omega)) | exact (Blk.new _ _ _).only ho5 (.inr (by omega))); have hlx5 : wr.heap.size < w5.heap.size := hq5.lt)))
                | (go_at_call 56; refine (pick_any base g _ _ _ (by first | assumption | exact Rd.alloc (by assumption) _ | exact Rd.drew (by assumption) | exact Rd.alloc (Rd.drew (by assumption)) _ | exact Rd.drew (Rd.alloc (by assumption) _)) (by omega)).mono ?_; rintro e w6 ⟨k6, rfl, k60, k61, _, hr6, ho6, hs6⟩; have s6 : w6.cell? ⟨w2.heap.size, 0, none⟩ = some (.int .i64 k) := (by first | exact Only.cell ho6 s5 hw2g | exact Only.cell ho6 (cA s5 _) hw2g); have hl6 := hr6.lt; have hz6 : w5.heap.size ≤ w6.heap.size := (by first | exact hs6 | exact Nat.le_trans (leA _ _) hs6); have hneq6 : ¬ w6.heap.size = w2.heap.size := (by omega); have F6 : Only g (g + 1) wr w6 := Only.only ho6 (Nat.le_refl _) (Nat.le_refl _) (by first | exact F5 | exact F5.alloc _); (try (have hq6 : Blk w6 wr.heap.size 64 #[.int .i64 0, .int .i64 0, .int .i64 0] := hq5.only ho6 (.inr (by omega)); have q0 : w6.cell? ⟨wr.heap.size, 0, none⟩ = some (.int .i64 0) := hq6.cell 0; have q1 : w6.cell? ⟨wr.heap.size, 1, none⟩ = some (.int .i64 0) := hq6.cell 1; have q2 : w6.cell? ⟨wr.heap.size, 2, none⟩ = some (.int .i64 0) := hq6.cell 2; have fr0 := hq6.frozen 0; have fr1 := hq6.frozen 1; have fr2 := hq6.frozen 2)); (try (have hq6 : Blk w6 w5.heap.size 64 #[.int .i64 0, .int .i64 0, .int .i64 0] := (Blk.new _ _ _).only ho6 (.inr (by omega)); have q0 : w6.cell? ⟨w5.heap.size, 0, none⟩ = some (.int .i64 0) := hq6.cell 0; have q1 : w6.cell? ⟨w5.heap.size, 1, none⟩ = some (.int .i64 0) := hq6.cell 1; have q2 : w6.cell? ⟨w5.heap.size, 2, none⟩ = some (.int .i64 0) := hq6.cell 2; have fr0 := hq6.frozen 0; have fr1 := hq6.frozen 1; have fr2 := hq6.frozen 2))))
            all_goals go_wp2_with fail
            all_goals go_meet
            all_goals
              have K51 := k51 (by omega)
              have K61 := k61 (by omega)
              first
                | exact ⟨_, k5, k6, rfl, by omega, Blk.new _ _ _, k50, K51, k60, K61, (Rd.alloc hr6 _).mono (by omega), F6.alloc _⟩
                | exact ⟨_, k5, k6, rfl, by omega, ((hq6.set_ 0 _).set_ 1 _).set_ 2 _, k50, K51, k60, K61, (hr6.same ((((Same.refl _ _ _).set_ (.inr (by dsimp only; omega)) _).set_ (.inr (by dsimp only; omega)) _).set_ (.inr (by dsimp only; omega)) _)).mono (by omega), ((F6.new (by dsimp only; omega) _).new (by dsimp only; omega) _).new (by dsimp only; omega) _⟩
          case rest =>
            obtain ⟨B, f, t, rfl, hB, hBb, f0, f1, t0, t1, hr5, hF5⟩ := hcut
            obtain ⟨f, rfl⟩ := Int.eq_ofNat_of_zero_le f0
            obtain ⟨t, rfl⟩ := Int.eq_ofNat_of_zero_le t0
            have hgr := hr.lt
            have hBg : B < g ∨ g + 1 ≤ B := by omega
            have HIc := Lib.hid (hI.same (Same.of_only hF5 (.inr (by omega))) (by omega))
            obtain ⟨bt, ot, xt, rfl, hbt, hxt, hxtm, ct⟩ := HIc.out.iat.at_ (show t < ts.length by omega)
            obtain ⟨bf, of, xf, e', hbf, hxf, hxfm, cf⟩ := HIc.out.iat.at_ (show f < ts.length by omega)
            cases e'
            have bxt := HTB.out xt hxtm
            have bxf := HTB.out xf hxfm
            have hbtg : bt < g ∨ g + 1 ≤ bt := by
              rcases hI with ⟨e, _⟩ | ⟨g', cs, e, h1, h2, _⟩
              · cases e
              · cases e; omega
            have hneB : B ≠ bt := by
              rcases hI with ⟨e, _⟩ | ⟨g', cs, e, h1, h2, _⟩
              · cases e
              · cases e; omega
            have hn0 : (⟨B, 2, none⟩ : Addr) ≠ ⟨B, 0, none⟩ := by simp
            have hn1 : (⟨B, 2, none⟩ : Addr) ≠ ⟨B, 1, none⟩ := by simp
            have b0 : wc.cell? ⟨B, 0, none⟩ = some (.int .i64 f) := hBb.cell 0
            have b1 : wc.cell? ⟨B, 1, none⟩ = some (.int .i64 t) := hBb.cell 1
            have HBb := Lib.hid hBb
            have HI := Lib.hid hI
            have HF5 := Lib.hid hF5
            have HF := Lib.hid hF
            have HR5 := Lib.hid hr5
            clear hI hxt hxtm hxf hxfm hF5 hF p0 p1 hBb hr
            go_wp2_with fail
            go_region_held3 (fun w' => w'.cell? ⟨B, 0, none⟩ = some (.int .i64 f) ∧ w'.cell? ⟨B, 1, none⟩ = some (.int .i64 t) ∧ w'.cell? ⟨bt, ot + t, none⟩ = some (.int .i64 xt) ∧ w'.cell? ⟨bt, ot + f, none⟩ = some (.int .i64 xf)) (first | exact ⟨b0, b1, ct, cf⟩ | exact ⟨cD b0, cD b1, cD ct, cD cf⟩ | exact ⟨c0, c1, c2, c3⟩ | exact ⟨(hq7.set_ 2 _).cell 0, (hq7.set_ 2 _).cell 1, cS c2 hneB, cS c3 hneB⟩ | go_keep)
              (first | (go_at_call 56; refine (pick_any base g _ _ _ (by first | exact HR5.out | exact HR5.out.drew) (by omega)).mono ?_; rintro e w7 ⟨k7, rfl, k70, k71, _, hr7, ho7, hs7⟩; have c0 : w7.cell? ⟨B, 0, none⟩ = some (.int .i64 f) := Only.cell ho7 (cD b0) hBg; have c1 : w7.cell? ⟨B, 1, none⟩ = some (.int .i64 t) := Only.cell ho7 (cD b1) hBg; have c2 : w7.cell? ⟨bt, ot + t, none⟩ = some (.int .i64 xt) := Only.cell ho7 (cD ct) hbtg; have c3 : w7.cell? ⟨bt, ot + f, none⟩ = some (.int .i64 xf) := Only.cell ho7 (cD cf) hbtg; have hq7 := (HBb.out.drew).only ho7 hBg; have c4 : w7.cell? ⟨B, 2, none⟩ = some (.int .i64 0) := hq7.cell 2; have fr2 := hq7.frozen 2))
            have K7 := k71 (by omega)
            have F8 : Only g (g + 1) wr (w7.setCell ⟨B, 2, none⟩ (.int .i64 (xt - xf + k7))) := (Only.only ho7 (Nat.le_refl _) (Nat.le_refl _) HF5.out.drew).new hB _
            have B8 : Blk (w7.setCell ⟨B, 2, none⟩ (.int .i64 (xt - xf + k7))) B 64 #[.int .i64 f, .int .i64 t, .int .i64 (xt - xf + k7)] := by simpa using hq7.set_ 2 (.int .i64 (xt - xf + k7))
            have R8 : Rd (w7.setCell ⟨B, 2, none⟩ (.int .i64 (xt - xf + k7))) base g (q + 23 + 5 * bs.length) := (hr7.same ((Same.refl _ _ _).set_ (.inr (by dsimp only; omega)) _)).mono (by omega)
            have hm8 : -38 ≤ xt - xf + k7 ∧ xt - xf + k7 ≤ 45 := by omega
            clear c0 c1 c2 c3 c4 fr2 hq7 ho7 hs7 hr7 k71 ct cf HIc HF5 HR5 HBb b0 b1 hbt hbf hbtg hneB
            rw [IntWalk.i64_in (xt - xf) ⟨by omega, by omega⟩, IntWalk.i64_in (xt - xf + k7) ⟨by omega, by omega⟩]
            generalize xt - xf + k7 = m at F8 B8 R8 hm8 ⊢
            generalize w7.setCell ⟨B, 2, none⟩ (.int .i64 m) = w8 at F8 B8 R8 ⊢
            have BX8 := Lib.hid B8; have bx8_0 : w8.cell? ⟨B, 0, none⟩ = some (.int .i64 f) := B8.cell 0; have bx8_1 : w8.cell? ⟨B, 1, none⟩ = some (.int .i64 t) := B8.cell 1; have bx8_2 : w8.cell? ⟨B, 2, none⟩ = some (.int .i64 m) := B8.cell 2; have bf8 := B8.frozen 2; have PX8 := Lib.hid (HP.out.only F8 (.inr (by omega))); have px8_0 : w8.cell? ⟨w2.heap.size, 0, none⟩ = some (.int .i64 k) := PX8.out.cell 0; have px8_1 : w8.cell? ⟨w2.heap.size, 1, none⟩ = some Bv := PX8.out.cell 1; have pf8 := PX8.out.frozen 1; have OX8 := Lib.hid (HO.out.pick F8 (by omega)); have FX8 := Lib.hid F8; have RX8 := Lib.hid R8; have zx8 := F8.size; clear B8 F8 R8
            by_cases h3 : k3 = 0
            · have h3' : (k3 == 0) = true := by simpa using h3
              clear h3
              go_wp2_with fail
              refine (pick_any base g _ 3 _ (by first | exact RX8.out | exact RX8.out.drew) (by omega)).mono ?_
              rintro e w9 ⟨k9, rfl, k90, k91, _, hr9, ho9, hs9⟩
              have F9 : Only g (g + 1) wr w9 := Only.only ho9 (Nat.le_refl _) (Nat.le_refl _) (by first | exact FX8.out | exact FX8.out.drew)
              have B9 : Blk w9 B 64 #[.int .i64 f, .int .i64 t, .int .i64 m] := (by first | exact BX8.out.only ho9 hBg | exact BX8.out.drew.only ho9 hBg)
              have R9 := hr9.mono (show q + 23 + 5 * bs.length + 1 ≤ q + 24 + 5 * bs.length by omega)
              clear bx8_0 bx8_1 bx8_2 bf8 px8_0 px8_1 pf8 ho9 hs9 hr9 k91 h3'
              have BX9 := Lib.hid B9; have bx9_0 : w9.cell? ⟨B, 0, none⟩ = some (.int .i64 f) := B9.cell 0; have bx9_1 : w9.cell? ⟨B, 1, none⟩ = some (.int .i64 t) := B9.cell 1; have bx9_2 : w9.cell? ⟨B, 2, none⟩ = some (.int .i64 m) := B9.cell 2; have bf9 := B9.frozen 2; have PX9 := Lib.hid (HP.out.only F9 (.inr (by omega))); have px9_0 : w9.cell? ⟨w2.heap.size, 0, none⟩ = some (.int .i64 k) := PX9.out.cell 0; have px9_1 : w9.cell? ⟨w2.heap.size, 1, none⟩ = some Bv := PX9.out.cell 1; have pf9 := PX9.out.frozen 1; have OX9 := Lib.hid (HO.out.pick F9 (by omega)); have FX9 := Lib.hid F9; have RX9 := Lib.hid R9; have zx9 := F9.size; clear B9 F9 R9
              by_cases h9 : k9 = 0
              · have h9' : (k9 == 0) = true := by simpa using h9
                clear h9
                have hn2 : (⟨B, 2, none⟩ : Addr) ≠ ⟨w2.heap.size, 0, none⟩ := by intro e; injection e; omega
                go_wp2_with fail
                go_region_with (go_at_call 56; refine (pick_any base g _ _ _ (by first | exact RX9.out | exact RX9.out.drew) (by omega)).mono ?_; rintro e w10 ⟨k10, rfl, k100, k101, _, hr10, ho10, hs10⟩; have d2 : w10.cell? ⟨B, 2, none⟩ = some (.int .i64 m) := (by first | exact Only.cell ho10 bx9_2 hBg | exact Only.cell ho10 (cD bx9_2) hBg); have hq10 : Blk w10 B 64 #[.int .i64 f, .int .i64 t, .int .i64 m] := (by first | exact BX9.out.only ho10 hBg | exact BX9.out.drew.only ho10 hBg); have fr10 := hq10.frozen 2)
                all_goals
                  have K10 := k101 (by omega)
                  rw [IntWalk.i64_in (m - k10) ⟨by omega, by omega⟩]
                  have F12 : Only g (g + 1) wr (w10.setCell ⟨B, 2, none⟩ (.int .i64 (m - k10))) := (Only.only ho10 (Nat.le_refl _) (Nat.le_refl _) (by first | exact FX9.out | exact FX9.out.drew)).new hB _
                  have B12 : Blk (w10.setCell ⟨B, 2, none⟩ (.int .i64 (m - k10))) B 64 #[.int .i64 f, .int .i64 t, .int .i64 (m - k10)] := by simpa using hq10.set_ 2 (.int .i64 (m - k10))
                  have R12 : Rd (w10.setCell ⟨B, 2, none⟩ (.int .i64 (m - k10))) base g (q + 25 + 5 * bs.length) := (hr10.same ((Same.refl _ _ _).set_ (.inr (by dsimp only; omega)) _)).mono (by omega)
                  have hm12 : -45 ≤ m - k10 ∧ m - k10 ≤ 45 := by omega
                  clear d2 hq10 fr10 ho10 hs10 hr10 k101 bx9_0 bx9_1 bx9_2 bf9 px9_0 px9_1 pf9 h9' hn2
                  generalize m - k10 = m at F12 B12 R12 hm12 ⊢
                  generalize w10.setCell ⟨B, 2, none⟩ (.int .i64 m) = w12 at F12 B12 R12 ⊢
                  clear hm8
                  have BX12 := Lib.hid B12; have bx12_0 : w12.cell? ⟨B, 0, none⟩ = some (.int .i64 f) := B12.cell 0; have bx12_1 : w12.cell? ⟨B, 1, none⟩ = some (.int .i64 t) := B12.cell 1; have bx12_2 : w12.cell? ⟨B, 2, none⟩ = some (.int .i64 m) := B12.cell 2; have bf12 := B12.frozen 2; have PX12 := Lib.hid (HP.out.only F12 (.inr (by omega))); have px12_0 : w12.cell? ⟨w2.heap.size, 0, none⟩ = some (.int .i64 k) := PX12.out.cell 0; have px12_1 : w12.cell? ⟨w2.heap.size, 1, none⟩ = some Bv := PX12.out.cell 1; have pf12 := PX12.out.frozen 1; have OX12 := Lib.hid (HO.out.pick F12 (by omega)); have FX12 := Lib.hid F12; have RX12 := Lib.hid R12; have zx12 := F12.size; clear B12 F12 R12
                  go_wp2_with (at_builtin; refine wpList_pushD rfl _ _ rfl w4.heap.size _ _ rfl (OX12.out.alloc _) (some ⟨w12.heap.size, 0, none⟩) 1 1 [⟨f, t, m⟩] rfl rfl (bd1 _ _ _ _) (fun e => by cases e) (by simp; omega) (by simp; omega) ?_; intro v1 w11 hown11 hb11 hp11; obtain ⟨G11, c11, hv11, _, _, _⟩ := hown11.rb; obtain ⟨L11, hL11⟩ : ∃ L : Nat, L = (bs ++ [Bd.mk (f : Int) (t : Int) m]).length := ⟨_, rfl⟩; rw [← hL11] at hv11; subst hv11; have HL11 := Lib.hid hL11; clear hL11; have PZ := Lib.hid (hp11 _ _ (PX12.out.alloc _)); have pz0 : w11.cell? ⟨w2.heap.size, 0, none⟩ = some (.int .i64 k) := PZ.out.cell 0; have pz1 : w11.cell? ⟨w2.heap.size, 1, none⟩ = some Bv := PZ.out.cell 1; have pfz := PZ.out.frozen 1; have RZ := Lib.hid (hp11 _ _ ((HR.out.only FX12.out (.inr hg)).alloc _)); have HOW := Lib.hid hown11; clear hown11); go_roundw; (case rel => exact ⟨j, bs ++ [⟨f, t, m⟩], .slice G11 L11 c11, by omega, by go_num, HOW.out.box PZ.out, (fun x hx => by rcases List.mem_append.1 hx with hx | hx; (exact HIN.out x hx); (simp at hx; subst hx; refine ⟨?_, ?_, ?_, ?_, ?_, ?_⟩ <;> dsimp only <;> omega)), by simp; omega, by simpa using PZ.out.set_ 1 (.slice G11 L11 c11), RZ.out.far (by dsimp only; omega) _, ((HI.out.same (Same.of_only FX12.out (.inr (by omega))) (by omega)).same ((Same.refl _ _ _).alloc _) (by omega)).same ((Same.of_below hb11 (Nat.le_refl _)).set_ (.inl (by dsimp only; omega)) _) (by simp; omega), Rd.mono (Rd.same (Rd.below (RX12.out.alloc _) hb11 (by omega)) ((Same.refl _ _ _).set_ (.inr (by dsimp only; omega)) _)) (by simp; omega), drewB HF.out FX12.out hb11 (by omega) (by omega), by have := hb11.size; simp only [sz, szc] at *; omega⟩); (case measure => first | (simp [intOf]; done) | (simp [intOf]; omega))
              · have h9' : (k9 == 0) = false := by simpa using h9
                clear h9
                go_wp2_with (at_builtin; refine wpList_pushD rfl _ _ rfl w4.heap.size _ _ rfl (OX9.out.alloc _) (some ⟨w9.heap.size, 0, none⟩) 1 1 [⟨f, t, m⟩] rfl rfl (bd1 _ _ _ _) (fun e => by cases e) (by simp; omega) (by simp; omega) ?_; intro v1 w11 hown11 hb11 hp11; obtain ⟨G11, c11, hv11, _, _, _⟩ := hown11.rb; obtain ⟨L11, hL11⟩ : ∃ L : Nat, L = (bs ++ [Bd.mk (f : Int) (t : Int) m]).length := ⟨_, rfl⟩; rw [← hL11] at hv11; subst hv11; have HL11 := Lib.hid hL11; clear hL11; have PZ := Lib.hid (hp11 _ _ (PX9.out.alloc _)); have pz0 : w11.cell? ⟨w2.heap.size, 0, none⟩ = some (.int .i64 k) := PZ.out.cell 0; have pz1 : w11.cell? ⟨w2.heap.size, 1, none⟩ = some Bv := PZ.out.cell 1; have pfz := PZ.out.frozen 1; have RZ := Lib.hid (hp11 _ _ ((HR.out.only FX9.out (.inr hg)).alloc _)); have HOW := Lib.hid hown11; clear hown11); go_roundw; (case rel => exact ⟨j, bs ++ [⟨f, t, m⟩], .slice G11 L11 c11, by omega, by go_num, HOW.out.box PZ.out, (fun x hx => by rcases List.mem_append.1 hx with hx | hx; (exact HIN.out x hx); (simp at hx; subst hx; refine ⟨?_, ?_, ?_, ?_, ?_, ?_⟩ <;> dsimp only <;> omega)), by simp; omega, by simpa using PZ.out.set_ 1 (.slice G11 L11 c11), RZ.out.far (by dsimp only; omega) _, ((HI.out.same (Same.of_only FX9.out (.inr (by omega))) (by omega)).same ((Same.refl _ _ _).alloc _) (by omega)).same ((Same.of_below hb11 (Nat.le_refl _)).set_ (.inl (by dsimp only; omega)) _) (by simp; omega), Rd.mono (Rd.same (Rd.below (RX9.out.alloc _) hb11 (by omega)) ((Same.refl _ _ _).set_ (.inr (by dsimp only; omega)) _)) (by simp; omega), drewB HF.out FX9.out hb11 (by omega) (by omega), by have := hb11.size; simp only [sz, szc] at *; omega⟩); (case measure => first | (simp [intOf]; done) | (simp [intOf]; omega))
            · have h3' : (k3 == 0) = false := by simpa using h3
              clear h3
              go_wp2_with (at_builtin; refine wpList_pushD rfl _ _ rfl w4.heap.size _ _ rfl (OX8.out.alloc _) (some ⟨w8.heap.size, 0, none⟩) 1 1 [⟨f, t, m⟩] rfl rfl (bd1 _ _ _ _) (fun e => by cases e) (by simp; omega) (by simp; omega) ?_; intro v1 w11 hown11 hb11 hp11; obtain ⟨G11, c11, hv11, _, _, _⟩ := hown11.rb; obtain ⟨L11, hL11⟩ : ∃ L : Nat, L = (bs ++ [Bd.mk (f : Int) (t : Int) m]).length := ⟨_, rfl⟩; rw [← hL11] at hv11; subst hv11; have HL11 := Lib.hid hL11; clear hL11; have PZ := Lib.hid (hp11 _ _ (PX8.out.alloc _)); have pz0 : w11.cell? ⟨w2.heap.size, 0, none⟩ = some (.int .i64 k) := PZ.out.cell 0; have pz1 : w11.cell? ⟨w2.heap.size, 1, none⟩ = some Bv := PZ.out.cell 1; have pfz := PZ.out.frozen 1; have RZ := Lib.hid (hp11 _ _ ((HR.out.only FX8.out (.inr hg)).alloc _)); have HOW := Lib.hid hown11; clear hown11); go_roundw; (case rel => exact ⟨j, bs ++ [⟨f, t, m⟩], .slice G11 L11 c11, by omega, by go_num, HOW.out.box PZ.out, (fun x hx => by rcases List.mem_append.1 hx with hx | hx; (exact HIN.out x hx); (simp at hx; subst hx; refine ⟨?_, ?_, ?_, ?_, ?_, ?_⟩ <;> dsimp only <;> omega)), by simp; omega, by simpa using PZ.out.set_ 1 (.slice G11 L11 c11), RZ.out.far (by dsimp only; omega) _, ((HI.out.same (Same.of_only FX8.out (.inr (by omega))) (by omega)).same ((Same.refl _ _ _).alloc _) (by omega)).same ((Same.of_below hb11 (Nat.le_refl _)).set_ (.inl (by dsimp only; omega)) _) (by simp; omega), Rd.mono (Rd.same (Rd.below (RX8.out.alloc _) hb11 (by omega)) ((Same.refl _ _ _).set_ (.inr (by dsimp only; omega)) _)) (by simp; omega), drewB HF.out FX8.out hb11 (by omega) (by omega), by have := hb11.size; simp only [sz, szc] at *; omega⟩); (case measure => first | (simp [intOf]; done) | (simp [intOf]; omega))
        · obtain rfl : j = 0 := by omega
          obtain ⟨GB, cB, hBv, _, _, _⟩ := HO.out.rb
          subst hBv
          have HF := Lib.hid hF
          clear hI p0 p1
          go_wp2_with fail
          refine (odd_any base g _ n _ hr (by omega) hn1 hn2).mono ?_
          rintro e w5 ⟨b, rfl, hr5, ho5, hs5⟩
          have F5 := Lib.hid (Only.only ho5 (Nat.le_refl _) (Nat.le_refl _) HF.out)
          have P5 := Lib.hid (HP.out.only ho5 (.inr (by omega)))
          have Q5 := Lib.hid (HR.out.only ho5 (.inr hg))
          have O5 := Lib.hid (HO.out.pick ho5 (by omega))
          have D5 := Lib.hid hr5
          have zs5 := ho5.size
          clear ho5 hr5 hr hF hs5
          cases b
          · have p0 : w5.cell? ⟨w2.heap.size, 0, none⟩ = some (.int .i64 k) := P5.out.cell 0
            have p1 : w5.cell? ⟨w2.heap.size, 1, none⟩ = some (.slice GB bs.length cB) := P5.out.cell 1
            have r0 : w5.cell? ⟨w.heap.size, 0, none⟩ = some (.int .i64 0) := Q5.out.cell 0
            have r1 : w5.cell? ⟨w.heap.size, 1, none⟩ = some (.slice none 0 0) := Q5.out.cell 1
            have f0 := Q5.out.frozen 0
            have f1 := Q5.out.frozen 1
            go_wp2
            refine bodyPost_ret (v := .agg #[.int .i64 k, .slice GB bs.length cB]) (by simp [results, Try.results44, go_sem, r0, r1]) rfl (plan_end O5.out Q5.out (Nat.le_refl _) (by omega) hg D5.out (by omega) F5.out (facts_good (by omega) (by omega) (by omega) HIN.out) rfl)
          · go_wp2_with fail
            refine (pick_any base g _ 3 _ D5.out (by omega)).mono ?_
            rintro e w6 ⟨k6, rfl, k60, k61, _, hr6, ho6, hs6⟩
            have K6 := k61 (by omega)
            have F6x := Lib.hid ho6
            have F6 := Lib.hid (Only.only ho6 (Nat.le_refl _) (Nat.le_refl _) F5.out)
            have P6 := Lib.hid (P5.out.only ho6 (.inr (by omega)))
            have Q6 := Lib.hid (Q5.out.only ho6 (.inr hg))
            have O6 := Lib.hid (O5.out.pick ho6 (by omega))
            have D6 := Lib.hid hr6
            have zs6 := ho6.size
            have Z6 := F6.out.size
            clear ho6 hr6 hs6 k61
            have hc : k6 = 0 ∨ k6 = 1 ∨ k6 = 2 := by omega
            have p0 : w6.cell? ⟨w2.heap.size, 0, none⟩ = some (.int .i64 k) := P6.out.cell 0
            have p1 : w6.cell? ⟨w2.heap.size, 1, none⟩ = some (.slice GB bs.length cB) := P6.out.cell 1
            have pf1 := P6.out.frozen 1
            have hPlt := P6.out.lt
            have r0 : w6.cell? ⟨w.heap.size, 0, none⟩ = some (.int .i64 0) := Q6.out.cell 0
            have r1 : w6.cell? ⟨w.heap.size, 1, none⟩ = some (.slice none 0 0) := Q6.out.cell 1
            have f0 := Q6.out.frozen 0
            have f1 := Q6.out.frozen 1
            have hneP : ¬ w2.heap.size = w.heap.size := by omega
            rcases hc with rfl | rfl | rfl
            · go_wp2_with fail
              refine (pick_any base g _ 2 _ (D6.out.alloc _) (by omega)).mono ?_
              rintro e w7 ⟨k7, rfl, k70, k71, _, hr7, ho7, hs7⟩
              have K7 := k71 (by omega)
              have hB7 := (Blk.new w6 3 #[.int .i64 0, .int .i64 7]).only ho7 (.inr (by omega))
              have F7 := Lib.hid (Only.only ho7 (Nat.le_refl _) (Nat.le_refl _) (F6.out.alloc (.cells #[.int .i64 0, .int .i64 7] 3)))
              have P7 := Lib.hid ((P6.out.alloc (.cells #[.int .i64 0, .int .i64 7] 3)).only ho7 (.inr (by omega)))
              have Q7 := Lib.hid ((Q6.out.alloc (.cells #[.int .i64 0, .int .i64 7] 3)).only ho7 (.inr hg))
              have O7 := Lib.hid ((O6.out.alloc (.cells #[.int .i64 0, .int .i64 7] 3)).pick ho7 (by omega))
              have D7 := Lib.hid hr7
              have b0 : w7.cell? ⟨w6.heap.size, 0, none⟩ = some (.int .i64 0) := hB7.cell 0
              have b1 : w7.cell? ⟨w6.heap.size, 1, none⟩ = some (.int .i64 7) := hB7.cell 1
              clear ho7 hr7 hs7 k71 hB7 p0 p1 pf1 r0 r1 f0 f1
              have p0 : w7.cell? ⟨w2.heap.size, 0, none⟩ = some (.int .i64 k) := P7.out.cell 0
              have p1 : w7.cell? ⟨w2.heap.size, 1, none⟩ = some (.slice GB bs.length cB) := P7.out.cell 1
              have pf0 := P7.out.frozen 0
              have r0 : w7.cell? ⟨w.heap.size, 0, none⟩ = some (.int .i64 0) := Q7.out.cell 0
              have r1 : w7.cell? ⟨w.heap.size, 1, none⟩ = some (.slice none 0 0) := Q7.out.cell 1
              have f0 := Q7.out.frozen 0
              have f1 := Q7.out.frozen 1
              have hc : k7 = 0 ∨ k7 = 1 := by omega
              rcases hc with rfl | rfl
              · go_wp2
                refine bodyPost_ret (v := .agg #[.int .i64 0, .slice GB bs.length cB]) (by simp [results, Try.results44, go_sem, r0, r1, hneP]) rfl (plan_end (O7.out.box P7.out) (Q7.out.far (by dsimp only; omega) _) (Nat.le_refl _) (by omega) hg (D7.out.same ((Same.refl _ _ _).set_ (.inr (by dsimp only; omega)) _)) (by omega) (F7.out.new (by dsimp only; omega) _) (facts_num (Or.inl rfl) (by omega)) rfl)
              · go_wp2
                refine bodyPost_ret (v := .agg #[.int .i64 7, .slice GB bs.length cB]) (by simp [results, Try.results44, go_sem, r0, r1, hneP]) rfl (plan_end (O7.out.box P7.out) (Q7.out.far (by dsimp only; omega) _) (Nat.le_refl _) (by omega) hg (D7.out.same ((Same.refl _ _ _).set_ (.inr (by dsimp only; omega)) _)) (by omega) (F7.out.new (by dsimp only; omega) _) (facts_num (Or.inr rfl) (by omega)) rfl)
            · go_wp2_with (at_builtin; refine wpList_pushD rfl _ _ rfl w4.heap.size _ _ rfl (O6.out.alloc _) (some ⟨w6.heap.size, 0, none⟩) 1 1 [Bd.mk 0 k 0] rfl rfl (bd1 _ _ _ _) (fun e => by cases e) (by simp; omega) (by simp; omega) ?_; intro v1 w11 hown11 hb11 hp11; obtain ⟨G11, c11, hv11, _, _, _⟩ := hown11.rb; obtain ⟨L11, hL11⟩ : ∃ L : Nat, L = (bs ++ [Bd.mk 0 k 0]).length := ⟨_, rfl⟩; rw [← hL11] at hv11; subst hv11; have HL11 := Lib.hid hL11; clear hL11; have PZ := Lib.hid (hp11 _ _ (P6.out.alloc _)); have pz0 : w11.cell? ⟨w2.heap.size, 0, none⟩ = some (.int .i64 k) := PZ.out.cell 0; have pz1 : w11.cell? ⟨w2.heap.size, 1, none⟩ = some (.slice GB bs.length cB) := PZ.out.cell 1; have pfz := PZ.out.frozen 1; have QZ := Lib.hid (hp11 _ _ (Q6.out.alloc _)); have qz0 : w11.cell? ⟨w.heap.size, 0, none⟩ = some (.int .i64 0) := QZ.out.cell 0; have qz1 : w11.cell? ⟨w.heap.size, 1, none⟩ = some (.slice none 0 0) := QZ.out.cell 1; have qf0 := QZ.out.frozen 0; have qf1 := QZ.out.frozen 1; have HOW := Lib.hid hown11; clear hown11); refine bodyPost_ret (v := .agg #[.int .i64 k, .slice G11 L11 c11]) (by simp [results, Try.results44, go_sem, qz0, qz1, hneP]) rfl (plan_end (HOW.out.box PZ.out) (QZ.out.far (by dsimp only; omega) _) (Nat.le_refl _) (by omega) hg (Rd.same (Rd.below (D6.out.alloc _) hb11 (by omega)) ((Same.refl _ _ _).set_ (.inr (by dsimp only; omega)) _)) (by omega) (drewB F5.out (F6x.out) hb11 (by omega) (by omega)) (facts_bound (by omega) (by omega) (by omega) (Or.inl (by dsimp only; omega))) rfl)
            · go_wp2_with (at_builtin; refine wpList_pushD rfl _ _ rfl w4.heap.size _ _ rfl (O6.out.alloc _) (some ⟨w6.heap.size, 0, none⟩) 1 1 [Bd.mk 0 0 100] rfl rfl (bd1 _ _ _ _) (fun e => by cases e) (by simp; omega) (by simp; omega) ?_; intro v1 w11 hown11 hb11 hp11; obtain ⟨G11, c11, hv11, _, _, _⟩ := hown11.rb; obtain ⟨L11, hL11⟩ : ∃ L : Nat, L = (bs ++ [Bd.mk 0 0 100]).length := ⟨_, rfl⟩; rw [← hL11] at hv11; subst hv11; have HL11 := Lib.hid hL11; clear hL11; have PZ := Lib.hid (hp11 _ _ (P6.out.alloc _)); have pz0 : w11.cell? ⟨w2.heap.size, 0, none⟩ = some (.int .i64 k) := PZ.out.cell 0; have pz1 : w11.cell? ⟨w2.heap.size, 1, none⟩ = some (.slice GB bs.length cB) := PZ.out.cell 1; have pfz := PZ.out.frozen 1; have QZ := Lib.hid (hp11 _ _ (Q6.out.alloc _)); have qz0 : w11.cell? ⟨w.heap.size, 0, none⟩ = some (.int .i64 0) := QZ.out.cell 0; have qz1 : w11.cell? ⟨w.heap.size, 1, none⟩ = some (.slice none 0 0) := QZ.out.cell 1; have qf0 := QZ.out.frozen 0; have qf1 := QZ.out.frozen 1; have HOW := Lib.hid hown11; clear hown11); refine bodyPost_ret (v := .agg #[.int .i64 k, .slice G11 L11 c11]) (by simp [results, Try.results44, go_sem, qz0, qz1, hneP]) rfl (plan_end (HOW.out.box PZ.out) (QZ.out.far (by dsimp only; omega) _) (Nat.le_refl _) (by omega) hg (Rd.same (Rd.below (D6.out.alloc _) hb11 (by omega)) ((Same.refl _ _ _).set_ (.inr (by dsimp only; omega)) _)) (by omega) (drewB F5.out (F6x.out) hb11 (by omega) (by omega)) (facts_bound (by omega) (by omega) (by omega) (Or.inr (by decide))) rfl)
end Go.Proofs.Ytaifpindiphlkaa
