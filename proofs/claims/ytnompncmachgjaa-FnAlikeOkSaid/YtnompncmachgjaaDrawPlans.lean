/- The contract of spec.l20Plans: two plans in new memory. -/
import Derived.Test.YtnompncmachgjaaDrawFew
import Derived.Test.YtnompncmachgjaaStepKit
namespace Go.Proofs.Ytnompncmachgjaa
open Go.RowKit
set_option linter.unusedVariables false
set_option maxRecDepth 10000
set_option linter.unusedSimpArgs false

/-- Two plans in new memory; the reader has gone on, and nothing else has turned. -/
def DrewPP (base g q : Nat) (w : World) (e : Ending) (w' : World) : Prop :=
  ∃ (n1 : Int) (A1 : Option Addr) (c1 : Nat) (bs1 : List Bd) (n2 : Int) (A2 : Option Addr) (c2 : Nat) (bs2 : List Bd), e = .returned (.tuple #[.agg #[.int .i64 n1, .slice A1 bs1.length c1], .agg #[.int .i64 n2, .slice A2 bs2.length c2]]) ∧ bs1.length ≤ 16 ∧ bs2.length ≤ 16 ∧ (A1 = none → c1 = 0) ∧ RB w' w.heap.size w'.heap.size A1 bs1 ∧ RB w' w.heap.size w'.heap.size A2 bs2 ∧ Rd w' base g (q + 500) ∧ Only g (g + 1) w w'
/-- Two boxes for the results, two boxes with plans. -/
structure Pp (base g q : Nat) (w0 w : World) (P1 : Nat) (n1 : Int) (A1 : Option Addr) (c1 : Nat) (bs1 : List Bd) (P2 : Nat) (n2 : Int) (A2 : Option Addr) (c2 : Nat) (bs2 : List Bd) : Prop where
  r1 : Blk w w0.heap.size 25 #[.int .i64 0, .slice none 0 0]
  r2 : Blk w (w0.heap.size + 1) 25 #[.int .i64 0, .slice none 0 0]
  b1 : Blk w P1 25 #[.int .i64 n1, .slice A1 bs1.length c1]
  b2 : Blk w P2 25 #[.int .i64 n2, .slice A2 bs2.length c2]
  rb1 : RB w (w0.heap.size + 2) w.heap.size A1 bs1
  rb2 : RB w (w0.heap.size + 2) w.heap.size A2 bs2
  rd : Rd w base g q
  only : Only g (g + 1) w0 w
  h1 : w0.heap.size + 1 < P1
  h2 : P1 < P2
  hg : g < w0.heap.size
section
variable {base g q q' P1 P2 : Nat} {w0 w w' : World} {n1 n2 : Int} {A1 A2 : Option Addr} {c1 c2 : Nat} {bs1 bs2 : List Bd}
theorem Pp.step (h : Pp base g q w0 w P1 n1 A1 c1 bs1 P2 n2 A2 c2 bs2) (hr : Rd w' base g q') (ho : Only g (g + 1) w w') : Pp base g q' w0 w' P1 n1 A1 c1 bs1 P2 n2 A2 c2 bs2 := by
  have e1 := h.hg
  have e2 := h.h1
  have e3 := h.h2
  exact ⟨h.r1.only ho (.inr (by omega)), h.r2.only ho (.inr (by omega)), h.b1.only ho (.inr (by omega)), h.b2.only ho (.inr (by omega)), (h.rb1.same (Same.of_only ho (.inr (by omega))) (Nat.le_refl _)).wide (Nat.le_refl _) ho.size, (h.rb2.same (Same.of_only ho (.inr (by omega))) (Nat.le_refl _)).wide (Nat.le_refl _) ho.size, hr, Only.only ho (Nat.le_refl _) (Nat.le_refl _) h.only, h.h1, h.h2, h.hg⟩
theorem Pp.below (h : Pp base g q w0 w P1 n1 A1 c1 bs1 P2 n2 A2 c2 bs2) (hb : Below w.heap.size w w') : Pp base g q w0 w' P1 n1 A1 c1 bs1 P2 n2 A2 c2 bs2 :=
  h.step (h.rd.below hb h.rd.lt) ((Only.refl _ _ _).below hb)
theorem Pp.lt (h : Pp base g q w0 w P1 n1 A1 c1 bs1 P2 n2 A2 c2 bs2) : P2 < w.heap.size := h.b2.lt
end
theorem pp_start {base g q : Nat} {w wA w1 w2 w3 w4 : World} {n1 n2 : Int} {A1 A2 : Option Addr} {c1 c2 : Nat} {bs1 bs2 : List Bd} (hg : g < w.heap.size) (e0 : wA = (w.alloc (.cells #[.int .i64 0, .slice none 0 0] 25)).alloc (.cells #[.int .i64 0, .slice none 0 0] 25)) (hrb1 : RB w1 wA.heap.size w1.heap.size A1 bs1) (ho1 : Only g (g + 1) wA w1) (e2 : w2 = w1.alloc (.cells #[.int .i64 n1, .slice A1 bs1.length c1] 25)) (hrb2 : RB w3 w2.heap.size w3.heap.size A2 bs2) (ho3 : Only g (g + 1) w2 w3) (hrd : Rd w3 base g q) (e4 : w4 = w3.alloc (.cells #[.int .i64 n2, .slice A2 bs2.length c2] 25)) : Pp base g q w w4 w1.heap.size n1 A1 c1 bs1 w3.heap.size n2 A2 c2 bs2 := by
  subst e0; subst e2; subst e4
  have z1 := ho1.size
  have z3 := ho3.size
  rw [sz, sz] at z1
  rw [sz] at z3
  rw [sz, sz] at hrb1
  rw [sz] at hrb2
  refine ⟨?_, ?_, ?_, Blk.new _ _ _, ?_, ?_, hrd.alloc _, ?_, by omega, by omega, hg⟩
  · exact ((((((Blk.new w _ _).alloc _).only ho1 (.inr (by omega))).alloc _).only ho3 (.inr (by omega))).alloc _)
  · exact (((((Blk.new' (by rw [sz]) _ _).only ho1 (.inr (by omega))).alloc _).only ho3 (.inr (by omega))).alloc _)
  · exact ((Blk.new w1 _ _).only ho3 (.inr (by omega))).alloc _
  · exact (((hrb1.same ((Same.refl _ _ _).alloc _) (Nat.le_refl _)).same (Same.of_only ho3 (.inr (by omega))) (by rw [sz]; omega)).same ((Same.refl _ _ _).alloc _) (by omega)).wide (by omega) (by rw [sz]; omega)
  · exact (hrb2.same ((Same.refl _ _ _).alloc _) (Nat.le_refl _)).wide (by omega) (by rw [sz]; omega)
  · exact (Only.only ho3 (Nat.le_refl _) (Nat.le_refl _) ((Only.only ho1 (Nat.le_refl _) (Nat.le_refl _) (((Only.refl _ _ _).alloc _).alloc _)).alloc _)).alloc _
/-- The results come into their boxes. -/
theorem pp_end {base g q q' lo : Nat} {w W : World} {na nb : Int} {Aa Ab : Option Addr} {ca cb : Nat} {La Lb : List Bd} {a1 a2 a3 a4 u0 u1 u2 u3 : Value} {e : Ending} (hr1 : Blk W w.heap.size 25 #[a1, a2]) (hr2 : Blk W (w.heap.size + 1) 25 #[a3, a4]) (ha : RB W lo W.heap.size Aa La) (hb : RB W lo W.heap.size Ab Lb) (hlo : w.heap.size ≤ lo) (hla : La.length ≤ 16) (hlb : Lb.length ≤ 16) (hna : Aa = none → ca = 0) (hrd : Rd W base g q') (ho : Only g (g + 1) w W) (hg : g < w.heap.size) (hq : q' ≤ q + 500) (he : e = .returned (.tuple #[.agg #[.int .i64 na, .slice Aa La.length ca], .agg #[.int .i64 nb, .slice Ab Lb.length cb]])) :
    DrewPP base g q w e ((((W.setCell ⟨w.heap.size, 0, none⟩ u0).setCell ⟨w.heap.size, 1, none⟩ u1).setCell ⟨w.heap.size + 1, 0, none⟩ u2).setCell ⟨w.heap.size + 1, 1, none⟩ u3) := by
  have s2 := ((hr2.far (show (w.heap.size + 1) ≠ (⟨w.heap.size, 0, none⟩ : Addr).block by dsimp only; omega) u0).far (show (w.heap.size + 1) ≠ (⟨w.heap.size, 1, none⟩ : Addr).block by dsimp only; omega) u1)
  have bx : ∀ {A : Option Addr} {L : List Bd}, RB W lo W.heap.size A L → RB ((((W.setCell ⟨w.heap.size, 0, none⟩ u0).setCell ⟨w.heap.size, 1, none⟩ u1).setCell ⟨w.heap.size + 1, 0, none⟩ u2).setCell ⟨w.heap.size + 1, 1, none⟩ u3) w.heap.size ((((W.setCell ⟨w.heap.size, 0, none⟩ u0).setCell ⟨w.heap.size, 1, none⟩ u1).setCell ⟨w.heap.size + 1, 0, none⟩ u2).setCell ⟨w.heap.size + 1, 1, none⟩ u3).heap.size A L := fun h => by
    rw [szc, szc, szc, szc]
    exact ((((h.box hr1).box (hr1.set_ 0 _)).box s2).box (s2.set_ 0 _)).wide hlo (Nat.le_refl _)
  refine ⟨na, Aa, ca, La, nb, Ab, cb, Lb, he, hla, hlb, hna, bx ha, bx hb, (hrd.same (((((Same.refl _ _ _).set_ (.inr (by dsimp only; omega)) _).set_ (.inr (by dsimp only; omega)) _).set_ (.inr (by dsimp only; omega)) _).set_ (.inr (by dsimp only; omega)) _)).mono hq, (((ho.new (by dsimp only; omega) _).new (by dsimp only; omega) _).new (by dsimp only; omega) _).new (by dsimp only; omega) _⟩
/-- While the third plan is made: it lies in box X, its bounds in a row of the call's own. -/
structure Lp (base g q : Nat) (w4 W : World) (X b1 : Nat) (n1 : Int) (u v : Value) (L : List Bd) : Prop where
  rd : Rd W base g q
  only : Only g (g + 1) w4 W
  box : Blk W X 25 #[.int .i64 n1, u]
  own : OwnB W b1 v L
  hz : b1 ≤ W.heap.size
  hX : w4.heap.size ≤ X
  hb : X < b1
  hg : g < w4.heap.size
section
variable {base g q q' X b1 : Nat} {w4 W W' : World} {n1 : Int} {u v v' : Value} {L L' : List Bd}
theorem Lp.mono (h : Lp base g q w4 W X b1 n1 u v L) (hq : q ≤ q') : Lp base g q' w4 W X b1 n1 u v L := ⟨h.rd.mono hq, h.only, h.box, h.own, h.hz, h.hX, h.hb, h.hg⟩
theorem Lp.drewE (h : Lp base g q w4 W X b1 n1 u v L) (e : W' = W.drew) : Lp base g q w4 W' X b1 n1 u v L := by subst e; exact ⟨h.rd, h.only.drew, h.box, h.own, h.hz, h.hX, h.hb, h.hg⟩
theorem Lp.allocE (h : Lp base g q w4 W X b1 n1 u v L) {o : Obj} (e : W' = W.alloc o) : Lp base g q w4 W' X b1 n1 u v L := by
  subst e
  exact ⟨h.rd.alloc _, h.only.alloc _, h.box.alloc _, h.own.alloc _, by rw [sz]; have := h.hz; omega, h.hX, h.hb, h.hg⟩
theorem Lp.pick (h : Lp base g q w4 W X b1 n1 u v L) (hr : Rd W' base g q') (ho : Only g (g + 1) W W') : Lp base g q' w4 W' X b1 n1 u v L := by
  have e1 := h.hg
  have e2 := h.hX
  have e3 := h.hb
  exact ⟨hr, Only.only ho (Nat.le_refl _) (Nat.le_refl _) h.only, h.box.only ho (.inr (by omega)), h.own.pick ho (by omega), Nat.le_trans h.hz ho.size, h.hX, h.hb, h.hg⟩
theorem Lp.grow (h : Lp base g q w4 W X b1 n1 u v L) (hg : W.grownBy W' v.ownBlock) (hown : OwnB W' b1 v' L') : Lp base g q w4 W' X b1 n1 u v' L' := by
  have e1 := h.hg
  have e2 := h.hX
  have e3 := h.hb
  have hb := grownB h.own hg h.hz
  refine ⟨h.rd.below hb (by omega), ?_, h.box.below hb (by omega), hown, Nat.le_trans h.hz hb.size, h.hX, h.hb, h.hg⟩
  exact ⟨hb.os.trans h.only.os, hb.tape.trans h.only.tape, hb.output.trans h.only.output, Nat.le_trans h.only.size hb.size, fun k hk hd => (hb.block k (by omega)).trans (h.only.block k hk hd)⟩
theorem Lp.storeE (h : Lp base g q w4 W X b1 n1 u v L) (e : W' = W.setCell ⟨X, 1, none⟩ v) : Lp base g q w4 W' X b1 n1 v v L := by
  subst e
  have e1 := h.hg
  have e2 := h.hX
  have e3 := h.hb
  refine ⟨h.rd.same ((Same.refl _ _ _).set_ (.inr (by dsimp only; omega)) _), h.only.new (by dsimp only; omega) _, by simpa using h.box.set_ 1 v, h.own.box h.box, by rw [szc]; exact h.hz, h.hX, h.hb, h.hg⟩
theorem Lp.own_lt (h : Lp base g q w4 W X b1 n1 u v L) {k : Nat} (hk : W.heap.size ≤ k) : some k ≠ v.ownBlock := fun e => by
  have := World.ownsRow.lt h.own k e.symm; omega
end
set_option maxHeartbeats 4000000 in
theorem plans_draw (base g q : Nat) (w : World) (h : Rd w base g q) (hq : q ≤ 60000) :
    Calls Try.prog 107 #[.pointer (some ⟨g, 0, none⟩)] w (DrewPP base g q w) := by
  have hg := h.lt
  go_enter Try.func107, Try.ntmps107
  go_wp2_with fail
  refine (few_draw base g q 14 _ ((h.alloc _).alloc _) (by omega) (by omega) (by omega)).mono ?_; rintro e w1 ⟨n1, A1, c1, bs1, rfl, hf1, hc1, hn1, hrb1, hrd1, ho1⟩
  go_upto_region 2 with (fail)
  refine name_c (fun w2 hw2 => ?_)
  have hr2 : Rd w2 base g (q + 150) := by rw [hw2]; exact hrd1.alloc _
  have HN1 := Lib.hid hn1
  have HW2 := Lib.hid hw2
  clear hw2
  go_wp2_with fail
  refine (few_draw base g (q + 150) 14 _ hr2 (by omega) (by omega) (by omega)).mono ?_; rintro e w3 ⟨n2, A2, c2, bs2, rfl, hf2, hc2, hn2, hrb2, hrd2, ho2⟩
  go_upto_region 3 with (fail)
  refine name_c (fun w4 hw4 => ?_)
  have P4 := Lib.hid (pp_start hg rfl hrb1 ho1 HW2.out hrb2 ho2 hrd2 hw4)
  have hl1 := hf1.2.2
  have hl2 := hf2.2.2
  clear hr2 HW2 hw4 hrb1 hrb2 hrd1 hrd2 ho1 ho2 hn1 hn2 h hf1 hf2 hc1 hc2
  generalize w1.heap.size = Q1 at *
  generalize w3.heap.size = Q2 at *
  have p0 : w4.cell? ⟨Q1, 0, none⟩ = some (.int .i64 n1) := P4.out.b1.cell 0
  have p1 : w4.cell? ⟨Q1, 1, none⟩ = some (.slice A1 bs1.length c1) := P4.out.b1.cell 1
  have q0 : w4.cell? ⟨Q2, 0, none⟩ = some (.int .i64 n2) := P4.out.b2.cell 0
  have q1 : w4.cell? ⟨Q2, 1, none⟩ = some (.slice A2 bs2.length c2) := P4.out.b2.cell 1
  by_cases hnn : n1 = n2
  · have hnn' : (n1 == n2) = true := by simpa using hnn
    clear hnn
    have hl3 := P4.out.h1
    have hl4 := P4.out.h2
    have HR1 := Lib.hid P4.out.r1
    have HR2 := Lib.hid P4.out.r2
    have HRA := Lib.hid P4.out.rb1
    have HRB := Lib.hid P4.out.rb2
    have HRD := Lib.hid P4.out.rd
    have HON := Lib.hid P4.out.only
    have s0 := P4.out.b1.cell 0
    have s1 := P4.out.b1.cell 1
    have s2 := P4.out.b2.cell 0
    have s3 := P4.out.b2.cell 1
    simp only [List.getElem?_toArray, List.getElem?_cons_zero, List.getElem?_cons_succ] at s0 s1 s2 s3
    go_upto_region 4 with (fail)
    refine wp_region_held_drew (S := (fun w' => w'.cell? ⟨Q1, 0, none⟩ = some (.int .i64 n1) ∧ w'.cell? ⟨Q1, 1, none⟩ = some (.slice A1 bs1.length c1) ∧ w'.cell? ⟨Q2, 0, none⟩ = some (.int .i64 n2) ∧ w'.cell? ⟨Q2, 1, none⟩ = some (.slice A2 bs2.length c2))) (by kernel_rfl) ?_ (fun hHeld => ?_)
    · (try dsimp only)
      (first | done | exact ⟨cD s0, cD s1, cD s2, cD s3⟩)
    refine name_h (fun wz0 hwz0 => ?_)
    replace hHeld : ((fun w' => w'.cell? ⟨Q1, 0, none⟩ = some (.int .i64 n1) ∧ w'.cell? ⟨Q1, 1, none⟩ = some (.slice A1 bs1.length c1) ∧ w'.cell? ⟨Q2, 0, none⟩ = some (.int .i64 n2) ∧ w'.cell? ⟨Q2, 1, none⟩ = some (.slice A2 bs2.length c2))) wz0 := by rw [hwz0]; exact hHeld
    (have Ewz0 := Lib.hid hwz0; have s0wz0 : wz0.cell? ⟨Q1, 0, none⟩ = some (.int .i64 n1) := (by rw [hwz0]; exact cD s0); have s1wz0 : wz0.cell? ⟨Q1, 1, none⟩ = some (.slice A1 bs1.length c1) := (by rw [hwz0]; exact cD s1); have s2wz0 : wz0.cell? ⟨Q2, 0, none⟩ = some (.int .i64 n2) := (by rw [hwz0]; exact cD s2); have s3wz0 : wz0.cell? ⟨Q2, 1, none⟩ = some (.slice A2 bs2.length c2) := (by rw [hwz0]; exact cD s3); have r1wz0 : Blk wz0 w.heap.size 25 #[.int .i64 0, .slice none 0 0] := (by rw [hwz0]; exact HR1.out); have r2wz0 : Blk wz0 (w.heap.size + 1) 25 #[.int .i64 0, .slice none 0 0] := (by rw [hwz0]; exact HR2.out); clear s0 s1 s2 s3)
    clear hwz0
    (refine wpAnyH_take (i := 0) (v := ?tv1) rfl (by kernel_rfl) (by kernel_rfl) (by kernel_rfl) (fun _ _ _ h => h) (Or.inl ⟨by kernel_rfl, ?ty1⟩) (by assumption) ?tr1; (case ty1 => (intro w' hSw; (try dsimp only at hSw); go_simp <;> with_reducible rfl)); (try simp only [Act.put, List.getElem_toArray, List.getElem_cons_succ, List.getElem_cons_zero, List.setIfInBounds_toArray, List.set_cons_zero, List.set_cons_succ]))
    (refine wpAnyH_take (i := 1) (v := ?tv2) rfl (by kernel_rfl) (by kernel_rfl) (by kernel_rfl) (fun _ _ _ h => h) (Or.inl ⟨by kernel_rfl, ?ty2⟩) (by assumption) ?tr2; (case ty2 => (intro w' hSw; (try dsimp only at hSw); go_simp <;> with_reducible rfl)); (try simp only [Act.put, List.getElem_toArray, List.getElem_cons_succ, List.getElem_cons_zero, List.setIfInBounds_toArray, List.set_cons_zero, List.set_cons_succ]))
    refine wpAnyH_ready (rs := [2]) (by kernel_rfl) (by simp) ?_
    refine (AllReadyH.cons rfl (fun K hK => ?_) AllReadyH.nil)
    (obtain ⟨z0, z1, f0, f1⟩ := r1wz0.two; go_simp; refine name_k (fun wz1 hwz1 => ?_); have s0wz1 : wz1.cell? ⟨Q1, 0, none⟩ = some (.int .i64 n1) := (by rw [hwz1]; exact cS (cS s0wz0 (by omega)) (by omega)); have s1wz1 : wz1.cell? ⟨Q1, 1, none⟩ = some (.slice A1 bs1.length c1) := (by rw [hwz1]; exact cS (cS s1wz0 (by omega)) (by omega)); have s2wz1 : wz1.cell? ⟨Q2, 0, none⟩ = some (.int .i64 n2) := (by rw [hwz1]; exact cS (cS s2wz0 (by omega)) (by omega)); have s3wz1 : wz1.cell? ⟨Q2, 1, none⟩ = some (.slice A2 bs2.length c2) := (by rw [hwz1]; exact cS (cS s3wz0 (by omega)) (by omega)); have m1wz1 : Blk wz1 w.heap.size 25 #[.int .i64 n1, .slice A1 bs1.length c1] := (by rw [hwz1]; simpa using (r1wz0.set_ 0 (.int .i64 n1)).set_ 1 (.slice A1 bs1.length c1)); have r2wz1 : Blk wz1 (w.heap.size + 1) 25 #[.int .i64 0, .slice none 0 0] := (by rw [hwz1]; exact (r2wz0.far (by dsimp only; omega) _).far (by dsimp only; omega) _); have Ewz1 := Lib.hid hwz1; clear hwz1 z0 z1 f0 f1)
    refine hK.out _ _ ?_ (fun hHeld => ?_)
    focus ((try dsimp only); (first | done | exact ⟨s0wz1, s1wz1, s2wz1, s3wz1⟩))
    clear hK K
    (try simp only [Act.put, List.getElem_toArray, List.getElem_cons_succ, List.getElem_cons_zero, List.setIfInBounds_toArray, List.set_cons_zero, List.set_cons_succ])
    refine wpAnyH_ready (rs := [3]) (by kernel_rfl) (by simp) ?_
    refine (AllReadyH.cons rfl (fun K hK => ?_) AllReadyH.nil)
    (obtain ⟨z0, z1, f0, f1⟩ := r2wz1.two; go_simp; refine name_k (fun wz2 hwz2 => ?_); have s0wz2 : wz2.cell? ⟨Q1, 0, none⟩ = some (.int .i64 n1) := (by rw [hwz2]; exact cS (cS s0wz1 (by omega)) (by omega)); have s1wz2 : wz2.cell? ⟨Q1, 1, none⟩ = some (.slice A1 bs1.length c1) := (by rw [hwz2]; exact cS (cS s1wz1 (by omega)) (by omega)); have s2wz2 : wz2.cell? ⟨Q2, 0, none⟩ = some (.int .i64 n2) := (by rw [hwz2]; exact cS (cS s2wz1 (by omega)) (by omega)); have s3wz2 : wz2.cell? ⟨Q2, 1, none⟩ = some (.slice A2 bs2.length c2) := (by rw [hwz2]; exact cS (cS s3wz1 (by omega)) (by omega)); have m1wz2 : Blk wz2 w.heap.size 25 #[.int .i64 n1, .slice A1 bs1.length c1] := (by rw [hwz2]; exact (m1wz1.far (by dsimp only; omega) _).far (by dsimp only; omega) _); have m2wz2 : Blk wz2 (w.heap.size + 1) 25 #[.int .i64 n2, .slice A2 bs2.length c2] := (by rw [hwz2]; simpa using (r2wz1.set_ 0 (.int .i64 n2)).set_ 1 (.slice A2 bs2.length c2)); have Ewz2 := Lib.hid hwz2; clear hwz2 z0 z1 f0 f1)
    refine hK.out _ _ ?_ (fun hHeld => ?_)
    focus ((try dsimp only); (first | done | exact ⟨s0wz2, s1wz2, s2wz2, s3wz2⟩))
    clear hK K
    (try simp only [Act.put, List.getElem_toArray, List.getElem_cons_succ, List.getElem_cons_zero, List.setIfInBounds_toArray, List.set_cons_zero, List.set_cons_succ])
    refine wpAnyH_done (by kernel_rfl) ?_ _
    obtain ⟨u0, u1, _, _⟩ := m1wz2.two
    obtain ⟨u2, u3, _, _⟩ := m2wz2.two
    have R1 := Lib.hid r1wz0
    have R2 := Lib.hid r2wz0
    clear hHeld s0wz0 s1wz0 s2wz0 s3wz0 s0wz1 s1wz1 s2wz1 s3wz1 s0wz2 s1wz2 s2wz2 s3wz2 m1wz1 r2wz1 m1wz2 m2wz2 r1wz0 r2wz0
    go_wp2
    refine bodyPost_ret (v := .tuple #[.agg #[.int .i64 n1, .slice A1 bs1.length c1], .agg #[.int .i64 n2, .slice A2 bs2.length c2]]) (by simp [results, Try.results107, go_sem, u0, u1, u2, u3]) rfl ?_
    rw [Ewz2.out, Ewz1.out]
    exact pp_end R1.out R2.out (lo := w.heap.size + 2) (q' := q + 150 + 150) (show RB wz0 (w.heap.size + 2) wz0.heap.size _ _ by rw [Ewz0.out]; exact HRA.out) (show RB wz0 (w.heap.size + 2) wz0.heap.size _ _ by rw [Ewz0.out]; exact HRB.out) (by omega) (by omega) (by omega) HN1.out (show Rd wz0 base g _ by rw [Ewz0.out]; exact HRD.out) (show Only g (g + 1) w wz0 by rw [Ewz0.out]; exact HON.out.drew) hg (by omega) rfl
  have hnn' : (n1 == n2) = false := beq_eq_false_iff_ne.2 hnn
  clear hnn
  go_wp2_with fail
  refine (pick_any base g _ 9 _ P4.out.rd (by omega)).mono ?_; rintro e w5 ⟨k5, rfl, k50, k51, _, hr5, ho5, hs5⟩
  have P5 := Lib.hid (P4.out.step hr5 ho5)
  clear hr5 ho5 hs5 k51 P4 p0 p1 q0 q1
  have p0 : w5.cell? ⟨Q1, 0, none⟩ = some (.int .i64 n1) := P5.out.b1.cell 0
  have p1 : w5.cell? ⟨Q1, 1, none⟩ = some (.slice A1 bs1.length c1) := P5.out.b1.cell 1
  have q0 : w5.cell? ⟨Q2, 0, none⟩ = some (.int .i64 n2) := P5.out.b2.cell 0
  have q1 : w5.cell? ⟨Q2, 1, none⟩ = some (.slice A2 bs2.length c2) := P5.out.b2.cell 1
  by_cases hk5 : k5 = 0
  · subst hk5
    have hl3 := P5.out.h1
    have hl4 := P5.out.h2
    have HR1 := Lib.hid P5.out.r1
    have HR2 := Lib.hid P5.out.r2
    have HRA := Lib.hid P5.out.rb1
    have HRB := Lib.hid P5.out.rb2
    have HRD := Lib.hid P5.out.rd
    have HON := Lib.hid P5.out.only
    have s0 := P5.out.b1.cell 0
    have s1 := P5.out.b1.cell 1
    have s2 := P5.out.b2.cell 0
    have s3 := P5.out.b2.cell 1
    simp only [List.getElem?_toArray, List.getElem?_cons_zero, List.getElem?_cons_succ] at s0 s1 s2 s3
    go_upto_region 4 with (fail)
    refine wp_region_held_drew (S := (fun w' => w'.cell? ⟨Q1, 0, none⟩ = some (.int .i64 n1) ∧ w'.cell? ⟨Q1, 1, none⟩ = some (.slice A1 bs1.length c1) ∧ w'.cell? ⟨Q2, 0, none⟩ = some (.int .i64 n2) ∧ w'.cell? ⟨Q2, 1, none⟩ = some (.slice A2 bs2.length c2))) (by kernel_rfl) ?_ (fun hHeld => ?_)
    · (try dsimp only)
      (first | done | exact ⟨cD s0, cD s1, cD s2, cD s3⟩)
    refine name_h (fun wz0 hwz0 => ?_)
    replace hHeld : ((fun w' => w'.cell? ⟨Q1, 0, none⟩ = some (.int .i64 n1) ∧ w'.cell? ⟨Q1, 1, none⟩ = some (.slice A1 bs1.length c1) ∧ w'.cell? ⟨Q2, 0, none⟩ = some (.int .i64 n2) ∧ w'.cell? ⟨Q2, 1, none⟩ = some (.slice A2 bs2.length c2))) wz0 := by rw [hwz0]; exact hHeld
    (have Ewz0 := Lib.hid hwz0; have s0wz0 : wz0.cell? ⟨Q1, 0, none⟩ = some (.int .i64 n1) := (by rw [hwz0]; exact cD s0); have s1wz0 : wz0.cell? ⟨Q1, 1, none⟩ = some (.slice A1 bs1.length c1) := (by rw [hwz0]; exact cD s1); have s2wz0 : wz0.cell? ⟨Q2, 0, none⟩ = some (.int .i64 n2) := (by rw [hwz0]; exact cD s2); have s3wz0 : wz0.cell? ⟨Q2, 1, none⟩ = some (.slice A2 bs2.length c2) := (by rw [hwz0]; exact cD s3); have r1wz0 : Blk wz0 w.heap.size 25 #[.int .i64 0, .slice none 0 0] := (by rw [hwz0]; exact HR1.out); have r2wz0 : Blk wz0 (w.heap.size + 1) 25 #[.int .i64 0, .slice none 0 0] := (by rw [hwz0]; exact HR2.out); clear s0 s1 s2 s3)
    clear hwz0
    (refine wpAnyH_take (i := 0) (v := ?tv5) rfl (by kernel_rfl) (by kernel_rfl) (by kernel_rfl) (fun _ _ _ h => h) (Or.inl ⟨by kernel_rfl, ?ty5⟩) (by assumption) ?tr5; (case ty5 => (intro w' hSw; (try dsimp only at hSw); go_simp <;> with_reducible rfl)); (try simp only [Act.put, List.getElem_toArray, List.getElem_cons_succ, List.getElem_cons_zero, List.setIfInBounds_toArray, List.set_cons_zero, List.set_cons_succ]))
    (refine wpAnyH_take (i := 1) (v := ?tv6) rfl (by kernel_rfl) (by kernel_rfl) (by kernel_rfl) (fun _ _ _ h => h) (Or.inl ⟨by kernel_rfl, ?ty6⟩) (by assumption) ?tr6; (case ty6 => (intro w' hSw; (try dsimp only at hSw); go_simp <;> with_reducible rfl)); (try simp only [Act.put, List.getElem_toArray, List.getElem_cons_succ, List.getElem_cons_zero, List.setIfInBounds_toArray, List.set_cons_zero, List.set_cons_succ]))
    refine wpAnyH_ready (rs := [2]) (by kernel_rfl) (by simp) ?_
    refine (AllReadyH.cons rfl (fun K hK => ?_) AllReadyH.nil)
    (obtain ⟨z0, z1, f0, f1⟩ := r1wz0.two; go_simp; refine name_k (fun wz1 hwz1 => ?_); have s0wz1 : wz1.cell? ⟨Q1, 0, none⟩ = some (.int .i64 n1) := (by rw [hwz1]; exact cS (cS s0wz0 (by omega)) (by omega)); have s1wz1 : wz1.cell? ⟨Q1, 1, none⟩ = some (.slice A1 bs1.length c1) := (by rw [hwz1]; exact cS (cS s1wz0 (by omega)) (by omega)); have s2wz1 : wz1.cell? ⟨Q2, 0, none⟩ = some (.int .i64 n2) := (by rw [hwz1]; exact cS (cS s2wz0 (by omega)) (by omega)); have s3wz1 : wz1.cell? ⟨Q2, 1, none⟩ = some (.slice A2 bs2.length c2) := (by rw [hwz1]; exact cS (cS s3wz0 (by omega)) (by omega)); have m1wz1 : Blk wz1 w.heap.size 25 #[.int .i64 n1, .slice A1 bs1.length c1] := (by rw [hwz1]; simpa using (r1wz0.set_ 0 (.int .i64 n1)).set_ 1 (.slice A1 bs1.length c1)); have r2wz1 : Blk wz1 (w.heap.size + 1) 25 #[.int .i64 0, .slice none 0 0] := (by rw [hwz1]; exact (r2wz0.far (by dsimp only; omega) _).far (by dsimp only; omega) _); have Ewz1 := Lib.hid hwz1; clear hwz1 z0 z1 f0 f1)
    refine hK.out _ _ ?_ (fun hHeld => ?_)
    focus ((try dsimp only); (first | done | exact ⟨s0wz1, s1wz1, s2wz1, s3wz1⟩))
    clear hK K
    (try simp only [Act.put, List.getElem_toArray, List.getElem_cons_succ, List.getElem_cons_zero, List.setIfInBounds_toArray, List.set_cons_zero, List.set_cons_succ])
    refine wpAnyH_ready (rs := [3]) (by kernel_rfl) (by simp) ?_
    refine (AllReadyH.cons rfl (fun K hK => ?_) AllReadyH.nil)
    (obtain ⟨z0, z1, f0, f1⟩ := r2wz1.two; go_simp; refine name_k (fun wz2 hwz2 => ?_); have s0wz2 : wz2.cell? ⟨Q1, 0, none⟩ = some (.int .i64 n1) := (by rw [hwz2]; exact cS (cS s0wz1 (by omega)) (by omega)); have s1wz2 : wz2.cell? ⟨Q1, 1, none⟩ = some (.slice A1 bs1.length c1) := (by rw [hwz2]; exact cS (cS s1wz1 (by omega)) (by omega)); have s2wz2 : wz2.cell? ⟨Q2, 0, none⟩ = some (.int .i64 n2) := (by rw [hwz2]; exact cS (cS s2wz1 (by omega)) (by omega)); have s3wz2 : wz2.cell? ⟨Q2, 1, none⟩ = some (.slice A2 bs2.length c2) := (by rw [hwz2]; exact cS (cS s3wz1 (by omega)) (by omega)); have m1wz2 : Blk wz2 w.heap.size 25 #[.int .i64 n1, .slice A1 bs1.length c1] := (by rw [hwz2]; exact (m1wz1.far (by dsimp only; omega) _).far (by dsimp only; omega) _); have m2wz2 : Blk wz2 (w.heap.size + 1) 25 #[.int .i64 n2, .slice A2 bs2.length c2] := (by rw [hwz2]; simpa using (r2wz1.set_ 0 (.int .i64 n2)).set_ 1 (.slice A2 bs2.length c2)); have Ewz2 := Lib.hid hwz2; clear hwz2 z0 z1 f0 f1)
    refine hK.out _ _ ?_ (fun hHeld => ?_)
    focus ((try dsimp only); (first | done | exact ⟨s0wz2, s1wz2, s2wz2, s3wz2⟩))
    clear hK K
    (try simp only [Act.put, List.getElem_toArray, List.getElem_cons_succ, List.getElem_cons_zero, List.setIfInBounds_toArray, List.set_cons_zero, List.set_cons_succ])
    refine wpAnyH_done (by kernel_rfl) ?_ _
    obtain ⟨u0, u1, _, _⟩ := m1wz2.two
    obtain ⟨u2, u3, _, _⟩ := m2wz2.two
    have R1 := Lib.hid r1wz0
    have R2 := Lib.hid r2wz0
    clear hHeld s0wz0 s1wz0 s2wz0 s3wz0 s0wz1 s1wz1 s2wz1 s3wz1 s0wz2 s1wz2 s2wz2 s3wz2 m1wz1 r2wz1 m1wz2 m2wz2 r1wz0 r2wz0
    go_wp2
    refine bodyPost_ret (v := .tuple #[.agg #[.int .i64 n1, .slice A1 bs1.length c1], .agg #[.int .i64 n2, .slice A2 bs2.length c2]]) (by simp [results, Try.results107, go_sem, u0, u1, u2, u3]) rfl ?_
    rw [Ewz2.out, Ewz1.out]
    exact pp_end R1.out R2.out (lo := w.heap.size + 2) (q' := q + 150 + 150 + 1) (show RB wz0 (w.heap.size + 2) wz0.heap.size _ _ by rw [Ewz0.out]; exact HRA.out) (show RB wz0 (w.heap.size + 2) wz0.heap.size _ _ by rw [Ewz0.out]; exact HRB.out) (by omega) (by omega) (by omega) HN1.out (show Rd wz0 base g _ by rw [Ewz0.out]; exact HRD.out) (show Only g (g + 1) w wz0 by rw [Ewz0.out]; exact HON.out.drew) hg (by omega) rfl
  have hk5' : (k5 == 0) = false := beq_eq_false_iff_ne.2 hk5
  clear hk5
  go_wp2_with fail
  refine (specPlanOk_any n1 A1 c1 bs1 _ P5.out.rb1.bat (by omega)).mono ?_; rintro e w6 ⟨rfl, hb6⟩
  have P6 := Lib.hid (P5.out.below hb6)
  clear hb6 P5 p0 p1 q0 q1
  have p0 : w6.cell? ⟨Q1, 0, none⟩ = some (.int .i64 n1) := P6.out.b1.cell 0
  have p1 : w6.cell? ⟨Q1, 1, none⟩ = some (.slice A1 bs1.length c1) := P6.out.b1.cell 1
  have q0 : w6.cell? ⟨Q2, 0, none⟩ = some (.int .i64 n2) := P6.out.b2.cell 0
  have q1 : w6.cell? ⟨Q2, 1, none⟩ = some (.slice A2 bs2.length c2) := P6.out.b2.cell 1
  cases hp : planOk n1 bs1
  · clear hp
    have hl3 := P6.out.h1
    have hl4 := P6.out.h2
    have HR1 := Lib.hid P6.out.r1
    have HR2 := Lib.hid P6.out.r2
    have HRA := Lib.hid P6.out.rb1
    have HRB := Lib.hid P6.out.rb2
    have HRD := Lib.hid P6.out.rd
    have HON := Lib.hid P6.out.only
    have s0 := P6.out.b1.cell 0
    have s1 := P6.out.b1.cell 1
    have s2 := P6.out.b2.cell 0
    have s3 := P6.out.b2.cell 1
    simp only [List.getElem?_toArray, List.getElem?_cons_zero, List.getElem?_cons_succ] at s0 s1 s2 s3
    go_upto_region 4 with (fail)
    refine wp_region_held_drew (S := (fun w' => w'.cell? ⟨Q1, 0, none⟩ = some (.int .i64 n1) ∧ w'.cell? ⟨Q1, 1, none⟩ = some (.slice A1 bs1.length c1) ∧ w'.cell? ⟨Q2, 0, none⟩ = some (.int .i64 n2) ∧ w'.cell? ⟨Q2, 1, none⟩ = some (.slice A2 bs2.length c2))) (by kernel_rfl) ?_ (fun hHeld => ?_)
    · (try dsimp only)
      (first | done | exact ⟨cD s0, cD s1, cD s2, cD s3⟩)
    refine name_h (fun wz0 hwz0 => ?_)
    replace hHeld : ((fun w' => w'.cell? ⟨Q1, 0, none⟩ = some (.int .i64 n1) ∧ w'.cell? ⟨Q1, 1, none⟩ = some (.slice A1 bs1.length c1) ∧ w'.cell? ⟨Q2, 0, none⟩ = some (.int .i64 n2) ∧ w'.cell? ⟨Q2, 1, none⟩ = some (.slice A2 bs2.length c2))) wz0 := by rw [hwz0]; exact hHeld
    (have Ewz0 := Lib.hid hwz0; have s0wz0 : wz0.cell? ⟨Q1, 0, none⟩ = some (.int .i64 n1) := (by rw [hwz0]; exact cD s0); have s1wz0 : wz0.cell? ⟨Q1, 1, none⟩ = some (.slice A1 bs1.length c1) := (by rw [hwz0]; exact cD s1); have s2wz0 : wz0.cell? ⟨Q2, 0, none⟩ = some (.int .i64 n2) := (by rw [hwz0]; exact cD s2); have s3wz0 : wz0.cell? ⟨Q2, 1, none⟩ = some (.slice A2 bs2.length c2) := (by rw [hwz0]; exact cD s3); have r1wz0 : Blk wz0 w.heap.size 25 #[.int .i64 0, .slice none 0 0] := (by rw [hwz0]; exact HR1.out); have r2wz0 : Blk wz0 (w.heap.size + 1) 25 #[.int .i64 0, .slice none 0 0] := (by rw [hwz0]; exact HR2.out); clear s0 s1 s2 s3)
    clear hwz0
    (refine wpAnyH_take (i := 0) (v := ?tv9) rfl (by kernel_rfl) (by kernel_rfl) (by kernel_rfl) (fun _ _ _ h => h) (Or.inl ⟨by kernel_rfl, ?ty9⟩) (by assumption) ?tr9; (case ty9 => (intro w' hSw; (try dsimp only at hSw); go_simp <;> with_reducible rfl)); (try simp only [Act.put, List.getElem_toArray, List.getElem_cons_succ, List.getElem_cons_zero, List.setIfInBounds_toArray, List.set_cons_zero, List.set_cons_succ]))
    (refine wpAnyH_take (i := 1) (v := ?tv10) rfl (by kernel_rfl) (by kernel_rfl) (by kernel_rfl) (fun _ _ _ h => h) (Or.inl ⟨by kernel_rfl, ?ty10⟩) (by assumption) ?tr10; (case ty10 => (intro w' hSw; (try dsimp only at hSw); go_simp <;> with_reducible rfl)); (try simp only [Act.put, List.getElem_toArray, List.getElem_cons_succ, List.getElem_cons_zero, List.setIfInBounds_toArray, List.set_cons_zero, List.set_cons_succ]))
    refine wpAnyH_ready (rs := [2]) (by kernel_rfl) (by simp) ?_
    refine (AllReadyH.cons rfl (fun K hK => ?_) AllReadyH.nil)
    (obtain ⟨z0, z1, f0, f1⟩ := r1wz0.two; go_simp; refine name_k (fun wz1 hwz1 => ?_); have s0wz1 : wz1.cell? ⟨Q1, 0, none⟩ = some (.int .i64 n1) := (by rw [hwz1]; exact cS (cS s0wz0 (by omega)) (by omega)); have s1wz1 : wz1.cell? ⟨Q1, 1, none⟩ = some (.slice A1 bs1.length c1) := (by rw [hwz1]; exact cS (cS s1wz0 (by omega)) (by omega)); have s2wz1 : wz1.cell? ⟨Q2, 0, none⟩ = some (.int .i64 n2) := (by rw [hwz1]; exact cS (cS s2wz0 (by omega)) (by omega)); have s3wz1 : wz1.cell? ⟨Q2, 1, none⟩ = some (.slice A2 bs2.length c2) := (by rw [hwz1]; exact cS (cS s3wz0 (by omega)) (by omega)); have m1wz1 : Blk wz1 w.heap.size 25 #[.int .i64 n1, .slice A1 bs1.length c1] := (by rw [hwz1]; simpa using (r1wz0.set_ 0 (.int .i64 n1)).set_ 1 (.slice A1 bs1.length c1)); have r2wz1 : Blk wz1 (w.heap.size + 1) 25 #[.int .i64 0, .slice none 0 0] := (by rw [hwz1]; exact (r2wz0.far (by dsimp only; omega) _).far (by dsimp only; omega) _); have Ewz1 := Lib.hid hwz1; clear hwz1 z0 z1 f0 f1)
    refine hK.out _ _ ?_ (fun hHeld => ?_)
    focus ((try dsimp only); (first | done | exact ⟨s0wz1, s1wz1, s2wz1, s3wz1⟩))
    clear hK K
    (try simp only [Act.put, List.getElem_toArray, List.getElem_cons_succ, List.getElem_cons_zero, List.setIfInBounds_toArray, List.set_cons_zero, List.set_cons_succ])
    refine wpAnyH_ready (rs := [3]) (by kernel_rfl) (by simp) ?_
    refine (AllReadyH.cons rfl (fun K hK => ?_) AllReadyH.nil)
    (obtain ⟨z0, z1, f0, f1⟩ := r2wz1.two; go_simp; refine name_k (fun wz2 hwz2 => ?_); have s0wz2 : wz2.cell? ⟨Q1, 0, none⟩ = some (.int .i64 n1) := (by rw [hwz2]; exact cS (cS s0wz1 (by omega)) (by omega)); have s1wz2 : wz2.cell? ⟨Q1, 1, none⟩ = some (.slice A1 bs1.length c1) := (by rw [hwz2]; exact cS (cS s1wz1 (by omega)) (by omega)); have s2wz2 : wz2.cell? ⟨Q2, 0, none⟩ = some (.int .i64 n2) := (by rw [hwz2]; exact cS (cS s2wz1 (by omega)) (by omega)); have s3wz2 : wz2.cell? ⟨Q2, 1, none⟩ = some (.slice A2 bs2.length c2) := (by rw [hwz2]; exact cS (cS s3wz1 (by omega)) (by omega)); have m1wz2 : Blk wz2 w.heap.size 25 #[.int .i64 n1, .slice A1 bs1.length c1] := (by rw [hwz2]; exact (m1wz1.far (by dsimp only; omega) _).far (by dsimp only; omega) _); have m2wz2 : Blk wz2 (w.heap.size + 1) 25 #[.int .i64 n2, .slice A2 bs2.length c2] := (by rw [hwz2]; simpa using (r2wz1.set_ 0 (.int .i64 n2)).set_ 1 (.slice A2 bs2.length c2)); have Ewz2 := Lib.hid hwz2; clear hwz2 z0 z1 f0 f1)
    refine hK.out _ _ ?_ (fun hHeld => ?_)
    focus ((try dsimp only); (first | done | exact ⟨s0wz2, s1wz2, s2wz2, s3wz2⟩))
    clear hK K
    (try simp only [Act.put, List.getElem_toArray, List.getElem_cons_succ, List.getElem_cons_zero, List.setIfInBounds_toArray, List.set_cons_zero, List.set_cons_succ])
    refine wpAnyH_done (by kernel_rfl) ?_ _
    obtain ⟨u0, u1, _, _⟩ := m1wz2.two
    obtain ⟨u2, u3, _, _⟩ := m2wz2.two
    have R1 := Lib.hid r1wz0
    have R2 := Lib.hid r2wz0
    clear hHeld s0wz0 s1wz0 s2wz0 s3wz0 s0wz1 s1wz1 s2wz1 s3wz1 s0wz2 s1wz2 s2wz2 s3wz2 m1wz1 r2wz1 m1wz2 m2wz2 r1wz0 r2wz0
    go_wp2
    refine bodyPost_ret (v := .tuple #[.agg #[.int .i64 n1, .slice A1 bs1.length c1], .agg #[.int .i64 n2, .slice A2 bs2.length c2]]) (by simp [results, Try.results107, go_sem, u0, u1, u2, u3]) rfl ?_
    rw [Ewz2.out, Ewz1.out]
    exact pp_end R1.out R2.out (lo := w.heap.size + 2) (q' := q + 150 + 150 + 1) (show RB wz0 (w.heap.size + 2) wz0.heap.size _ _ by rw [Ewz0.out]; exact HRA.out) (show RB wz0 (w.heap.size + 2) wz0.heap.size _ _ by rw [Ewz0.out]; exact HRB.out) (by omega) (by omega) (by omega) HN1.out (show Rd wz0 base g _ by rw [Ewz0.out]; exact HRD.out) (show Only g (g + 1) w wz0 by rw [Ewz0.out]; exact HON.out.drew) hg (by omega) rfl
  have HP := Lib.hid hp
  clear hp
  go_wp2_with fail
  refine (specPlanOk_any n2 A2 c2 bs2 _ P6.out.rb2.bat (by omega)).mono ?_; rintro e w7 ⟨rfl, hb7⟩
  have P7 := Lib.hid (P6.out.below hb7)
  clear hb7 P6 p0 p1 q0 q1
  have p0 : w7.cell? ⟨Q1, 0, none⟩ = some (.int .i64 n1) := P7.out.b1.cell 0
  have p1 : w7.cell? ⟨Q1, 1, none⟩ = some (.slice A1 bs1.length c1) := P7.out.b1.cell 1
  cases hq2 : planOk n2 bs2
  · clear hq2
    have hl3 := P7.out.h1
    have hl4 := P7.out.h2
    have HR1 := Lib.hid P7.out.r1
    have HR2 := Lib.hid P7.out.r2
    have HRA := Lib.hid P7.out.rb1
    have HRB := Lib.hid P7.out.rb2
    have HRD := Lib.hid P7.out.rd
    have HON := Lib.hid P7.out.only
    have s0 := P7.out.b1.cell 0
    have s1 := P7.out.b1.cell 1
    have s2 := P7.out.b2.cell 0
    have s3 := P7.out.b2.cell 1
    simp only [List.getElem?_toArray, List.getElem?_cons_zero, List.getElem?_cons_succ] at s0 s1 s2 s3
    go_upto_region 4 with (fail)
    refine wp_region_held_drew (S := (fun w' => w'.cell? ⟨Q1, 0, none⟩ = some (.int .i64 n1) ∧ w'.cell? ⟨Q1, 1, none⟩ = some (.slice A1 bs1.length c1) ∧ w'.cell? ⟨Q2, 0, none⟩ = some (.int .i64 n2) ∧ w'.cell? ⟨Q2, 1, none⟩ = some (.slice A2 bs2.length c2))) (by kernel_rfl) ?_ (fun hHeld => ?_)
    · (try dsimp only)
      (first | done | exact ⟨cD s0, cD s1, cD s2, cD s3⟩)
    refine name_h (fun wz0 hwz0 => ?_)
    replace hHeld : ((fun w' => w'.cell? ⟨Q1, 0, none⟩ = some (.int .i64 n1) ∧ w'.cell? ⟨Q1, 1, none⟩ = some (.slice A1 bs1.length c1) ∧ w'.cell? ⟨Q2, 0, none⟩ = some (.int .i64 n2) ∧ w'.cell? ⟨Q2, 1, none⟩ = some (.slice A2 bs2.length c2))) wz0 := by rw [hwz0]; exact hHeld
    (have Ewz0 := Lib.hid hwz0; have s0wz0 : wz0.cell? ⟨Q1, 0, none⟩ = some (.int .i64 n1) := (by rw [hwz0]; exact cD s0); have s1wz0 : wz0.cell? ⟨Q1, 1, none⟩ = some (.slice A1 bs1.length c1) := (by rw [hwz0]; exact cD s1); have s2wz0 : wz0.cell? ⟨Q2, 0, none⟩ = some (.int .i64 n2) := (by rw [hwz0]; exact cD s2); have s3wz0 : wz0.cell? ⟨Q2, 1, none⟩ = some (.slice A2 bs2.length c2) := (by rw [hwz0]; exact cD s3); have r1wz0 : Blk wz0 w.heap.size 25 #[.int .i64 0, .slice none 0 0] := (by rw [hwz0]; exact HR1.out); have r2wz0 : Blk wz0 (w.heap.size + 1) 25 #[.int .i64 0, .slice none 0 0] := (by rw [hwz0]; exact HR2.out); clear s0 s1 s2 s3)
    clear hwz0
    (refine wpAnyH_take (i := 0) (v := ?tv13) rfl (by kernel_rfl) (by kernel_rfl) (by kernel_rfl) (fun _ _ _ h => h) (Or.inl ⟨by kernel_rfl, ?ty13⟩) (by assumption) ?tr13; (case ty13 => (intro w' hSw; (try dsimp only at hSw); go_simp <;> with_reducible rfl)); (try simp only [Act.put, List.getElem_toArray, List.getElem_cons_succ, List.getElem_cons_zero, List.setIfInBounds_toArray, List.set_cons_zero, List.set_cons_succ]))
    (refine wpAnyH_take (i := 1) (v := ?tv14) rfl (by kernel_rfl) (by kernel_rfl) (by kernel_rfl) (fun _ _ _ h => h) (Or.inl ⟨by kernel_rfl, ?ty14⟩) (by assumption) ?tr14; (case ty14 => (intro w' hSw; (try dsimp only at hSw); go_simp <;> with_reducible rfl)); (try simp only [Act.put, List.getElem_toArray, List.getElem_cons_succ, List.getElem_cons_zero, List.setIfInBounds_toArray, List.set_cons_zero, List.set_cons_succ]))
    refine wpAnyH_ready (rs := [2]) (by kernel_rfl) (by simp) ?_
    refine (AllReadyH.cons rfl (fun K hK => ?_) AllReadyH.nil)
    (obtain ⟨z0, z1, f0, f1⟩ := r1wz0.two; go_simp; refine name_k (fun wz1 hwz1 => ?_); have s0wz1 : wz1.cell? ⟨Q1, 0, none⟩ = some (.int .i64 n1) := (by rw [hwz1]; exact cS (cS s0wz0 (by omega)) (by omega)); have s1wz1 : wz1.cell? ⟨Q1, 1, none⟩ = some (.slice A1 bs1.length c1) := (by rw [hwz1]; exact cS (cS s1wz0 (by omega)) (by omega)); have s2wz1 : wz1.cell? ⟨Q2, 0, none⟩ = some (.int .i64 n2) := (by rw [hwz1]; exact cS (cS s2wz0 (by omega)) (by omega)); have s3wz1 : wz1.cell? ⟨Q2, 1, none⟩ = some (.slice A2 bs2.length c2) := (by rw [hwz1]; exact cS (cS s3wz0 (by omega)) (by omega)); have m1wz1 : Blk wz1 w.heap.size 25 #[.int .i64 n1, .slice A1 bs1.length c1] := (by rw [hwz1]; simpa using (r1wz0.set_ 0 (.int .i64 n1)).set_ 1 (.slice A1 bs1.length c1)); have r2wz1 : Blk wz1 (w.heap.size + 1) 25 #[.int .i64 0, .slice none 0 0] := (by rw [hwz1]; exact (r2wz0.far (by dsimp only; omega) _).far (by dsimp only; omega) _); have Ewz1 := Lib.hid hwz1; clear hwz1 z0 z1 f0 f1)
    refine hK.out _ _ ?_ (fun hHeld => ?_)
    focus ((try dsimp only); (first | done | exact ⟨s0wz1, s1wz1, s2wz1, s3wz1⟩))
    clear hK K
    (try simp only [Act.put, List.getElem_toArray, List.getElem_cons_succ, List.getElem_cons_zero, List.setIfInBounds_toArray, List.set_cons_zero, List.set_cons_succ])
    refine wpAnyH_ready (rs := [3]) (by kernel_rfl) (by simp) ?_
    refine (AllReadyH.cons rfl (fun K hK => ?_) AllReadyH.nil)
    (obtain ⟨z0, z1, f0, f1⟩ := r2wz1.two; go_simp; refine name_k (fun wz2 hwz2 => ?_); have s0wz2 : wz2.cell? ⟨Q1, 0, none⟩ = some (.int .i64 n1) := (by rw [hwz2]; exact cS (cS s0wz1 (by omega)) (by omega)); have s1wz2 : wz2.cell? ⟨Q1, 1, none⟩ = some (.slice A1 bs1.length c1) := (by rw [hwz2]; exact cS (cS s1wz1 (by omega)) (by omega)); have s2wz2 : wz2.cell? ⟨Q2, 0, none⟩ = some (.int .i64 n2) := (by rw [hwz2]; exact cS (cS s2wz1 (by omega)) (by omega)); have s3wz2 : wz2.cell? ⟨Q2, 1, none⟩ = some (.slice A2 bs2.length c2) := (by rw [hwz2]; exact cS (cS s3wz1 (by omega)) (by omega)); have m1wz2 : Blk wz2 w.heap.size 25 #[.int .i64 n1, .slice A1 bs1.length c1] := (by rw [hwz2]; exact (m1wz1.far (by dsimp only; omega) _).far (by dsimp only; omega) _); have m2wz2 : Blk wz2 (w.heap.size + 1) 25 #[.int .i64 n2, .slice A2 bs2.length c2] := (by rw [hwz2]; simpa using (r2wz1.set_ 0 (.int .i64 n2)).set_ 1 (.slice A2 bs2.length c2)); have Ewz2 := Lib.hid hwz2; clear hwz2 z0 z1 f0 f1)
    refine hK.out _ _ ?_ (fun hHeld => ?_)
    focus ((try dsimp only); (first | done | exact ⟨s0wz2, s1wz2, s2wz2, s3wz2⟩))
    clear hK K
    (try simp only [Act.put, List.getElem_toArray, List.getElem_cons_succ, List.getElem_cons_zero, List.setIfInBounds_toArray, List.set_cons_zero, List.set_cons_succ])
    refine wpAnyH_done (by kernel_rfl) ?_ _
    obtain ⟨u0, u1, _, _⟩ := m1wz2.two
    obtain ⟨u2, u3, _, _⟩ := m2wz2.two
    have R1 := Lib.hid r1wz0
    have R2 := Lib.hid r2wz0
    clear hHeld s0wz0 s1wz0 s2wz0 s3wz0 s0wz1 s1wz1 s2wz1 s3wz1 s0wz2 s1wz2 s2wz2 s3wz2 m1wz1 r2wz1 m1wz2 m2wz2 r1wz0 r2wz0
    go_wp2
    refine bodyPost_ret (v := .tuple #[.agg #[.int .i64 n1, .slice A1 bs1.length c1], .agg #[.int .i64 n2, .slice A2 bs2.length c2]]) (by simp [results, Try.results107, go_sem, u0, u1, u2, u3]) rfl ?_
    rw [Ewz2.out, Ewz1.out]
    exact pp_end R1.out R2.out (lo := w.heap.size + 2) (q' := q + 150 + 150 + 1) (show RB wz0 (w.heap.size + 2) wz0.heap.size _ _ by rw [Ewz0.out]; exact HRA.out) (show RB wz0 (w.heap.size + 2) wz0.heap.size _ _ by rw [Ewz0.out]; exact HRB.out) (by omega) (by omega) (by omega) HN1.out (show Rd wz0 base g _ by rw [Ewz0.out]; exact HRD.out) (show Only g (g + 1) w wz0 by rw [Ewz0.out]; exact HON.out.drew) hg (by omega) rfl
  clear hq2
  go_upto_region 6 with (fail)
  refine name_c (fun w8 hw8 => ?_)
  have hXl := P7.out.lt
  have hl3 := P7.out.h1
  have hl4 := P7.out.h2
  have hzX := sizeE hw8
  have LP := Lib.hid (show Lp base g (q + 150 + 150 + 1) w7 w8 w7.heap.size w8.heap.size n1 (.slice none 0 0) (.slice none 0 0) [] from ⟨by rw [hw8]; exact P7.out.rd.alloc _, by rw [hw8]; exact (Only.refl _ _ _).alloc _, Blk.newE hw8, OwnB.nil _ _, Nat.le_refl _, Nat.le_refl _, by omega, by have := P7.out.rd.lt; omega⟩)
  obtain ⟨X, hX⟩ : ∃ X, X = w7.heap.size := ⟨_, rfl⟩
  obtain ⟨b1, hb1⟩ : ∃ b1, b1 = w8.heap.size := ⟨_, rfl⟩
  rw [← hX, ← hb1] at LP
  rw [← hX]
  have hQX : Q2 < X ∧ w7.heap.size ≤ X ∧ X < b1 := by omega
  clear hw8 hzX hX hb1 p0 p1
  go_wp2
  go_loopw [7] (fun k W => ∃ (i : Nat) (G : Option Addr) (cg ll : Nat) (L : List Bd), ll = L.length ∧ L.length = ll ∧ i ≤ bs1.length ∧ ll ≤ i ∧ k = .int .i64 i ∧ Lp base g (q + 301 + 2 * i) w7 W X b1 n1 (.slice G ll cg) (.slice G ll cg) L) (fun k _ => bs1.length - (intOf k).toNat)
  case atStart => exact ⟨0, none, 0, 0, [], rfl, rfl, Nat.zero_le _, Nat.le_refl _, rfl, LP.out.mono (by omega)⟩
  case round =>
    clear LP
    obtain ⟨i, G, cg, ll, L, rfl, _, hi, hli, rfl, hLr⟩ := hrel
    have LR := Lib.hid hLr
    have PW := Lib.hid (P7.out.step hLr.rd hLr.only)
    have p0 : wr.cell? ⟨Q1, 0, none⟩ = some (.int .i64 n1) := PW.out.b1.cell 0
    have p1 : wr.cell? ⟨Q1, 1, none⟩ = some (.slice A1 bs1.length c1) := PW.out.b1.cell 1
    have hzr := hLr.hz
    have hgX := hLr.hg
    clear hLr
    by_cases hlt : i < bs1.length
    · obtain ⟨b, off, x, rfl, hbl, hx, hxm, c0, c3, c4⟩ := PW.out.rb1.bat.at_ hlt
      have hxin := (planOk_of HP.out).2.2.2 x hxm
      obtain ⟨f, t, mm⟩ := x
      simp only at c0 c3 c4 hxin
      have NE := Lib.hid (LR.out.own_lt (Nat.le_refl _))
      clear hx hxm
      go_upto_region 10 with (fail)
      refine name_c (fun w9 hw9 => ?_)
      have L9 := Lib.hid (LR.out.allocE hw9)
      have Y9 := Lib.hid (Blk.newE hw9)
      obtain ⟨Y, hY⟩ : ∃ Y, Y = wr.heap.size := ⟨_, rfl⟩
      rw [← hY] at NE Y9 ⊢
      have hYb : b1 ≤ Y := by omega
      clear hw9 hY c0 c3 c4 p0 p1 LR PW
      go_wp2_with fail
      refine (pick_any base g _ 3 _ L9.out.rd (by omega)).mono ?_; rintro e w10 ⟨k10, rfl, k100, k101, _, hr10, ho10, hs10⟩
      have L10 := Lib.hid (L9.out.pick hr10 ho10)
      have Y10 := Lib.hid (Y9.out.only ho10 (.inr (by omega)))
      clear hr10 ho10 hs10 k101 L9 Y9
      by_cases hk10 : k10 = 0
      · subst hk10
        go_wp2
        go_roundw
        case rel => exact ⟨i + 1, G, cg, L.length, L, rfl, rfl, by omega, by omega, by go_num, L10.out.mono (by omega)⟩
        case measure => simp [intOf]; omega
      · have hk1 : 0 < k10 := by omega
        have hk2 : decide (0 < k10) = true := decide_eq_true hk1
        clear hk10
        go_upto_region 11 with (fail)
        have x0 : w10.cell? ⟨Y, 0, none⟩ = some (.int .i64 f) := Y10.out.cell 0
        have x1 : w10.cell? ⟨Y, 1, none⟩ = some (.int .i64 t) := Y10.out.cell 1
        have x2 : w10.cell? ⟨Y, 2, none⟩ = some (.int .i64 mm) := Y10.out.cell 2
        refine wp_region_held_drew (S := (fun w' => w'.cell? ⟨Y, 0, none⟩ = some (.int .i64 f) ∧ w'.cell? ⟨Y, 1, none⟩ = some (.int .i64 t) ∧ w'.cell? ⟨Y, 2, none⟩ = some (.int .i64 mm))) (by kernel_rfl) ?_ (fun hHeld => ?_)
        · (try dsimp only)
          (first | done | exact ⟨cD x0, cD x1, cD x2⟩)
        refine name_h (fun wb0 hwb0 => ?_)
        replace hHeld : ((fun w' => w'.cell? ⟨Y, 0, none⟩ = some (.int .i64 f) ∧ w'.cell? ⟨Y, 1, none⟩ = some (.int .i64 t) ∧ w'.cell? ⟨Y, 2, none⟩ = some (.int .i64 mm))) wb0 := by rw [hwb0]; exact hHeld
        (have Lwb0 := Lib.hid (L10.out.drewE hwb0); have Ywb0 := Lib.hid (Y10.out.drewE hwb0))
        clear hwb0
        (refine wpAnyH_take (i := 0) (v := ?tv17) rfl (by kernel_rfl) (by kernel_rfl) (by kernel_rfl) (fun _ _ _ h => h) (Or.inl ⟨by kernel_rfl, ?ty17⟩) (by assumption) ?tr17; (case ty17 => (intro w' hSw; (try dsimp only at hSw); go_simp <;> with_reducible rfl)); (try simp only [Act.put, List.getElem_toArray, List.getElem_cons_succ, List.getElem_cons_zero, List.setIfInBounds_toArray, List.set_cons_zero, List.set_cons_succ]))
        (refine wpAnyH_take (i := 2) (v := ?tv18) rfl (by kernel_rfl) (by kernel_rfl) (by kernel_rfl) (fun _ _ _ h => h) (Or.inl ⟨by kernel_rfl, ?ty18⟩) (by assumption) ?tr18; (case ty18 => (intro w' hSw; (try dsimp only at hSw); go_simp <;> with_reducible rfl)); (try simp only [Act.put, List.getElem_toArray, List.getElem_cons_succ, List.getElem_cons_zero, List.setIfInBounds_toArray, List.set_cons_zero, List.set_cons_succ]))
        (refine wpAnyH_take (i := 3) (v := ?tv19) rfl (by kernel_rfl) (by kernel_rfl) (by kernel_rfl) (fun _ _ _ h => h) (Or.inl ⟨by kernel_rfl, ?ty19⟩) (by assumption) ?tr19; (case ty19 => (intro w' hSw; (try dsimp only at hSw); go_simp <;> with_reducible rfl)); (try simp only [Act.put, List.getElem_toArray, List.getElem_cons_succ, List.getElem_cons_zero, List.setIfInBounds_toArray, List.set_cons_zero, List.set_cons_succ]))
        (refine wpAnyH_take (i := 4) (v := ?tv20) rfl (by kernel_rfl) (by kernel_rfl) (by kernel_rfl) (fun _ _ _ h => h) (Or.inl ⟨by kernel_rfl, ?ty20⟩) (by assumption) ?tr20; (case ty20 => (intro w' hSw; (try dsimp only at hSw); go_simp <;> with_reducible rfl)); (try simp only [Act.put, List.getElem_toArray, List.getElem_cons_succ, List.getElem_cons_zero, List.setIfInBounds_toArray, List.set_cons_zero, List.set_cons_succ]))
        (refine wpAnyH_take (i := 5) (v := ?tv21) rfl (by kernel_rfl) (by kernel_rfl) (by kernel_rfl) (fun _ _ _ h => h) (Or.inl ⟨by kernel_rfl, ?ty21⟩) (by assumption) ?tr21; (case ty21 => (intro w' hSw; (try dsimp only at hSw); go_simp <;> with_reducible rfl)); (try simp only [Act.put, List.getElem_toArray, List.getElem_cons_succ, List.getElem_cons_zero, List.setIfInBounds_toArray, List.set_cons_zero, List.set_cons_succ]))
        (refine wpAnyH_take (i := 6) (v := ?tv22) rfl (by kernel_rfl) (by kernel_rfl) (by kernel_rfl) (fun _ _ _ h => h) (Or.inl ⟨by kernel_rfl, ?ty22⟩) (by assumption) ?tr22; (case ty22 => (intro w' hSw; (try dsimp only at hSw); go_simp <;> with_reducible rfl)); (try simp only [Act.put, List.getElem_toArray, List.getElem_cons_succ, List.getElem_cons_zero, List.setIfInBounds_toArray, List.set_cons_zero, List.set_cons_succ]))
        (refine wpAnyH_take (i := 7) (v := ?tv23) rfl (by kernel_rfl) (by kernel_rfl) (by kernel_rfl) (fun _ _ _ h => h) (Or.inl ⟨by kernel_rfl, ?ty23⟩) (by assumption) ?tr23; (case ty23 => (intro w' hSw; (try dsimp only at hSw); go_simp <;> with_reducible rfl)); (try simp only [Act.put, List.getElem_toArray, List.getElem_cons_succ, List.getElem_cons_zero, List.setIfInBounds_toArray, List.set_cons_zero, List.set_cons_succ]))
        (refine wpAnyH_take (i := 8) (v := ?tv24) rfl (by kernel_rfl) (by kernel_rfl) (by kernel_rfl) (fun _ _ _ h => h) (Or.inl ⟨by kernel_rfl, ?ty24⟩) (by assumption) ?tr24; (case ty24 => (intro w' hSw; (try dsimp only at hSw); go_simp <;> with_reducible rfl)); (try simp only [Act.put, List.getElem_toArray, List.getElem_cons_succ, List.getElem_cons_zero, List.setIfInBounds_toArray, List.set_cons_zero, List.set_cons_succ]))
        refine wpAnyH_ready (rs := [1, 9]) (by kernel_rfl) (by simp) ?_
        refine (AllReadyH.cons rfl (fun K hK => ?b25_1) (AllReadyH.cons rfl (fun K hK => ?b25_2) AllReadyH.nil))
        case' b25_2 =>
          (go_simp; go_at_call 108; refine (pick_any base g _ 4 _ Lwb0.out.rd (by omega)).mono ?_; rintro e wb1 ⟨k6, rfl, k60, k61, _, hr6, ho6, hs6⟩; (try go_wp2_with fail); have K6 := k61 (by omega); have hw6 : IntKind.i64.wrap (mm + k6) = mm + k6 := IntWalk.i64_in _ ⟨by omega, by omega⟩; have hw7 : IntKind.i64.wrap (mm + k6 - 1) = mm + k6 - 1 := IntWalk.i64_in _ ⟨by omega, by omega⟩; have Lwb1 := Lib.hid (Lwb0.out.pick hr6 ho6); have Ywb1 := Lib.hid (Ywb0.out.only ho6 (.inr (by omega))); clear hr6 ho6 hs6 k61)
          refine hK.out _ _ ?_ (fun hHeld => ?_)
          focus ((try dsimp only); (first | done | exact ⟨Ywb1.out.cell 0, Ywb1.out.cell 1, Ywb1.out.cell 2⟩))
          clear hK K
          (try simp only [Act.put, List.getElem_toArray, List.getElem_cons_succ, List.getElem_cons_zero, List.setIfInBounds_toArray, List.set_cons_zero, List.set_cons_succ])
          (refine wpAnyH_take (i := 10) (v := ?tv26) rfl (by kernel_rfl) (by kernel_rfl) (by kernel_rfl) (fun _ _ _ h => h) (Or.inl ⟨by kernel_rfl, ?ty26⟩) (by assumption) ?tr26; (case ty26 => (intro w' hSw; (try dsimp only at hSw); go_simp <;> with_reducible rfl)); (try simp only [Act.put, List.getElem_toArray, List.getElem_cons_succ, List.getElem_cons_zero, List.setIfInBounds_toArray, List.set_cons_zero, List.set_cons_succ]))
          (refine wpAnyH_take (i := 11) (v := ?tv27) rfl (by kernel_rfl) (by kernel_rfl) (by kernel_rfl) (fun _ _ _ h => h) (Or.inl ⟨by kernel_rfl, ?ty27⟩) (by assumption) ?tr27; (case ty27 => (intro w' hSw; (try dsimp only at hSw); go_simp <;> with_reducible rfl)); (try simp only [Act.put, List.getElem_toArray, List.getElem_cons_succ, List.getElem_cons_zero, List.setIfInBounds_toArray, List.set_cons_zero, List.set_cons_succ]))
          refine wpAnyH_ready (rs := [1, 12]) (by kernel_rfl) (by simp) ?_
          refine (AllReadyH.cons rfl (fun K hK => ?b28_1) (AllReadyH.cons rfl (fun K hK => ?b28_2) AllReadyH.nil))
          case' b28_2 =>
            (go_simp; refine name_k (fun wb2 hwb2 => ?_); have Lwb2 := Lwb1; have Ywb2 := Ywb1; rw [← hwb2] at Lwb2 Ywb2; clear hwb2)
            refine hK.out _ _ ?_ (fun hHeld => ?_)
            focus ((try dsimp only); (first | done | exact ⟨Ywb2.out.cell 0, Ywb2.out.cell 1, Ywb2.out.cell 2⟩))
            clear hK K
            (try simp only [Act.put, List.getElem_toArray, List.getElem_cons_succ, List.getElem_cons_zero, List.setIfInBounds_toArray, List.set_cons_zero, List.set_cons_succ])
            (refine wpAnyH_take (i := 13) (v := ?tv29) rfl (by kernel_rfl) (by kernel_rfl) (by kernel_rfl) (fun _ _ _ h => h) (Or.inl ⟨by kernel_rfl, ?ty29⟩) (by assumption) ?tr29; (case ty29 => (intro w' hSw; (try dsimp only at hSw); go_simp <;> with_reducible rfl)); (try simp only [Act.put, List.getElem_toArray, List.getElem_cons_succ, List.getElem_cons_zero, List.setIfInBounds_toArray, List.set_cons_zero, List.set_cons_succ]))
            refine wpAnyH_ready (rs := [1, 14]) (by kernel_rfl) (by simp) ?_
            refine (AllReadyH.cons rfl (fun K hK => ?b30_1) (AllReadyH.cons rfl (fun K hK => ?b30_2) AllReadyH.nil))
            case' b30_2 =>
              (go_simp; refine name_k (fun wb3 hwb3 => ?_); have Lwb3 := Lib.hid (Lwb2.out.allocE hwb3); have Ywb3 := Lib.hid (Ywb2.out.allocE hwb3); have Nwb3 := Lib.hid (Blk.newE hwb3); clear hwb3)
              refine hK.out _ _ ?_ (fun hHeld => ?_)
              focus ((try dsimp only); (first | done | exact ⟨Ywb3.out.cell 0, Ywb3.out.cell 1, Ywb3.out.cell 2⟩))
              clear hK K
              (try simp only [Act.put, List.getElem_toArray, List.getElem_cons_succ, List.getElem_cons_zero, List.setIfInBounds_toArray, List.set_cons_zero, List.set_cons_succ])
              refine wpAnyH_ready (rs := [1]) (by kernel_rfl) (by simp) ?_
              refine (AllReadyH.cons rfl (fun K hK => ?_) AllReadyH.nil)
              (have z1 := Lwb3.out.box.cell 1; go_simp; refine name_k (fun wb4 hwb4 => ?_); have Lwb4 := Lwb3; have Ywb4 := Ywb3; rw [← hwb4] at Lwb4 Ywb4; (try have Nwb4 := Nwb3; rw [← hwb4] at Nwb4); clear hwb4 z1)
              refine hK.out _ _ ?_ (fun hHeld => ?_)
              focus ((try dsimp only); (first | done | exact ⟨Ywb4.out.cell 0, Ywb4.out.cell 1, Ywb4.out.cell 2⟩))
              clear hK K
              (try simp only [Act.put, List.getElem_toArray, List.getElem_cons_succ, List.getElem_cons_zero, List.setIfInBounds_toArray, List.set_cons_zero, List.set_cons_succ])
              refine wpAnyH_ready (rs := [15]) (by kernel_rfl) (by simp) ?_
              refine (AllReadyH.cons rfl (fun K hK => ?_) AllReadyH.nil)
              (refine step_pushG (by rfl) _ _ (by rfl) b1 _ L (by rfl) Lwb4.out.own _ 1 1 _ rfl (by rfl) Nwb4.out.bat1 (fun q => by cases q) (by simp; omega) Lwb4.out.hz ?_; intro vwb5 wb5 ho hg; obtain ⟨L2, hL2⟩ : ∃ L2, L2 = L ++ [Bd.mk f t (if 99 < mm + k6 - 1 then 99 else mm + k6 - 1)] := ⟨_, rfl⟩; rw [← hL2] at ho; obtain ⟨G2, cg2, rfl, _⟩ := ho.rb; have Lwb5 := Lib.hid (Lwb4.out.grow hg ho); have Ywb5 := Lib.hid (Ywb4.out.grown hg NE.out); have HL2 := Lib.hid hL2; clear ho hg hL2)
              refine hK.out _ _ ?_ (fun hHeld => ?_)
              focus ((try dsimp only); (first | done | exact ⟨Ywb5.out.cell 0, Ywb5.out.cell 1, Ywb5.out.cell 2⟩))
              clear hK K
              (try simp only [Act.put, List.getElem_toArray, List.getElem_cons_succ, List.getElem_cons_zero, List.setIfInBounds_toArray, List.set_cons_zero, List.set_cons_succ])
              (refine wpAnyH_take (i := 16) (v := ?tv33) rfl (by kernel_rfl) (by kernel_rfl) (by kernel_rfl) (fun _ _ _ h => h) (Or.inl ⟨by kernel_rfl, ?ty33⟩) (by assumption) ?tr33; (case ty33 => (intro w' hSw; (try dsimp only at hSw); go_simp <;> with_reducible rfl)); (try simp only [Act.put, List.getElem_toArray, List.getElem_cons_succ, List.getElem_cons_zero, List.setIfInBounds_toArray, List.set_cons_zero, List.set_cons_succ]))
              refine wpAnyH_ready (rs := [17]) (by kernel_rfl) (by simp) ?_
              refine (AllReadyH.cons rfl (fun K hK => ?_) AllReadyH.nil)
              (obtain ⟨z0, z1, fr0, fr1⟩ := Lwb5.out.box.two; go_simp; refine name_k (fun wb6 hwb6 => ?_); have Lwb6 := Lib.hid (Lwb5.out.storeE hwb6); have Ywb6 := Lib.hid (show Blk wb6 Y 43 #[.int .i64 f, .int .i64 t, .int .i64 mm] by rw [hwb6]; exact Ywb5.out.far (by dsimp only; omega) _); clear hwb6 z0 z1 fr0 fr1)
              refine hK.out _ _ ?_ (fun hHeld => ?_)
              focus ((try dsimp only); (first | done | exact ⟨Ywb6.out.cell 0, Ywb6.out.cell 1, Ywb6.out.cell 2⟩))
              clear hK K
              (try simp only [Act.put, List.getElem_toArray, List.getElem_cons_succ, List.getElem_cons_zero, List.setIfInBounds_toArray, List.set_cons_zero, List.set_cons_succ])
              refine wpAnyH_done (by kernel_rfl) ?_ _
            case' b30_1 =>
              (have z1 := Lwb2.out.box.cell 1; go_simp; refine name_k (fun wb3 hwb3 => ?_); have Lwb3 := Lwb2; have Ywb3 := Ywb2; rw [← hwb3] at Lwb3 Ywb3; (try have Nwb3 := Nwb2; rw [← hwb3] at Nwb3); clear hwb3 z1)
              refine hK.out _ _ ?_ (fun hHeld => ?_)
              focus ((try dsimp only); (first | done | exact ⟨Ywb3.out.cell 0, Ywb3.out.cell 1, Ywb3.out.cell 2⟩))
              clear hK K
              (try simp only [Act.put, List.getElem_toArray, List.getElem_cons_succ, List.getElem_cons_zero, List.setIfInBounds_toArray, List.set_cons_zero, List.set_cons_succ])
              refine wpAnyH_ready (rs := [14]) (by kernel_rfl) (by simp) ?_
              refine (AllReadyH.cons rfl (fun K hK => ?_) AllReadyH.nil)
              (go_simp; refine name_k (fun wb4 hwb4 => ?_); have Lwb4 := Lib.hid (Lwb3.out.allocE hwb4); have Ywb4 := Lib.hid (Ywb3.out.allocE hwb4); have Nwb4 := Lib.hid (Blk.newE hwb4); clear hwb4)
              refine hK.out _ _ ?_ (fun hHeld => ?_)
              focus ((try dsimp only); (first | done | exact ⟨Ywb4.out.cell 0, Ywb4.out.cell 1, Ywb4.out.cell 2⟩))
              clear hK K
              (try simp only [Act.put, List.getElem_toArray, List.getElem_cons_succ, List.getElem_cons_zero, List.setIfInBounds_toArray, List.set_cons_zero, List.set_cons_succ])
              refine wpAnyH_ready (rs := [15]) (by kernel_rfl) (by simp) ?_
              refine (AllReadyH.cons rfl (fun K hK => ?_) AllReadyH.nil)
              (refine step_pushG (by rfl) _ _ (by rfl) b1 _ L (by rfl) Lwb4.out.own _ 1 1 _ rfl (by rfl) Nwb4.out.bat1 (fun q => by cases q) (by simp; omega) Lwb4.out.hz ?_; intro vwb5 wb5 ho hg; obtain ⟨L2, hL2⟩ : ∃ L2, L2 = L ++ [Bd.mk f t (if 99 < mm + k6 - 1 then 99 else mm + k6 - 1)] := ⟨_, rfl⟩; rw [← hL2] at ho; obtain ⟨G2, cg2, rfl, _⟩ := ho.rb; have Lwb5 := Lib.hid (Lwb4.out.grow hg ho); have Ywb5 := Lib.hid (Ywb4.out.grown hg NE.out); have HL2 := Lib.hid hL2; clear ho hg hL2)
              refine hK.out _ _ ?_ (fun hHeld => ?_)
              focus ((try dsimp only); (first | done | exact ⟨Ywb5.out.cell 0, Ywb5.out.cell 1, Ywb5.out.cell 2⟩))
              clear hK K
              (try simp only [Act.put, List.getElem_toArray, List.getElem_cons_succ, List.getElem_cons_zero, List.setIfInBounds_toArray, List.set_cons_zero, List.set_cons_succ])
              (refine wpAnyH_take (i := 16) (v := ?tv37) rfl (by kernel_rfl) (by kernel_rfl) (by kernel_rfl) (fun _ _ _ h => h) (Or.inl ⟨by kernel_rfl, ?ty37⟩) (by assumption) ?tr37; (case ty37 => (intro w' hSw; (try dsimp only at hSw); go_simp <;> with_reducible rfl)); (try simp only [Act.put, List.getElem_toArray, List.getElem_cons_succ, List.getElem_cons_zero, List.setIfInBounds_toArray, List.set_cons_zero, List.set_cons_succ]))
              refine wpAnyH_ready (rs := [17]) (by kernel_rfl) (by simp) ?_
              refine (AllReadyH.cons rfl (fun K hK => ?_) AllReadyH.nil)
              (obtain ⟨z0, z1, fr0, fr1⟩ := Lwb5.out.box.two; go_simp; refine name_k (fun wb6 hwb6 => ?_); have Lwb6 := Lib.hid (Lwb5.out.storeE hwb6); have Ywb6 := Lib.hid (show Blk wb6 Y 43 #[.int .i64 f, .int .i64 t, .int .i64 mm] by rw [hwb6]; exact Ywb5.out.far (by dsimp only; omega) _); clear hwb6 z0 z1 fr0 fr1)
              refine hK.out _ _ ?_ (fun hHeld => ?_)
              focus ((try dsimp only); (first | done | exact ⟨Ywb6.out.cell 0, Ywb6.out.cell 1, Ywb6.out.cell 2⟩))
              clear hK K
              (try simp only [Act.put, List.getElem_toArray, List.getElem_cons_succ, List.getElem_cons_zero, List.setIfInBounds_toArray, List.set_cons_zero, List.set_cons_succ])
              refine wpAnyH_done (by kernel_rfl) ?_ _
          case' b28_1 =>
            (have z1 := Lwb1.out.box.cell 1; go_simp; refine name_k (fun wb2 hwb2 => ?_); have Lwb2 := Lwb1; have Ywb2 := Ywb1; rw [← hwb2] at Lwb2 Ywb2; (try have Nwb2 := Nwb1; rw [← hwb2] at Nwb2); clear hwb2 z1)
            refine hK.out _ _ ?_ (fun hHeld => ?_)
            focus ((try dsimp only); (first | done | exact ⟨Ywb2.out.cell 0, Ywb2.out.cell 1, Ywb2.out.cell 2⟩))
            clear hK K
            (try simp only [Act.put, List.getElem_toArray, List.getElem_cons_succ, List.getElem_cons_zero, List.setIfInBounds_toArray, List.set_cons_zero, List.set_cons_succ])
            refine wpAnyH_ready (rs := [12]) (by kernel_rfl) (by simp) ?_
            refine (AllReadyH.cons rfl (fun K hK => ?_) AllReadyH.nil)
            (go_simp; refine name_k (fun wb3 hwb3 => ?_); have Lwb3 := Lwb2; have Ywb3 := Ywb2; rw [← hwb3] at Lwb3 Ywb3; clear hwb3)
            refine hK.out _ _ ?_ (fun hHeld => ?_)
            focus ((try dsimp only); (first | done | exact ⟨Ywb3.out.cell 0, Ywb3.out.cell 1, Ywb3.out.cell 2⟩))
            clear hK K
            (try simp only [Act.put, List.getElem_toArray, List.getElem_cons_succ, List.getElem_cons_zero, List.setIfInBounds_toArray, List.set_cons_zero, List.set_cons_succ])
            (refine wpAnyH_take (i := 13) (v := ?tv40) rfl (by kernel_rfl) (by kernel_rfl) (by kernel_rfl) (fun _ _ _ h => h) (Or.inl ⟨by kernel_rfl, ?ty40⟩) (by assumption) ?tr40; (case ty40 => (intro w' hSw; (try dsimp only at hSw); go_simp <;> with_reducible rfl)); (try simp only [Act.put, List.getElem_toArray, List.getElem_cons_succ, List.getElem_cons_zero, List.setIfInBounds_toArray, List.set_cons_zero, List.set_cons_succ]))
            refine wpAnyH_ready (rs := [14]) (by kernel_rfl) (by simp) ?_
            refine (AllReadyH.cons rfl (fun K hK => ?_) AllReadyH.nil)
            (go_simp; refine name_k (fun wb4 hwb4 => ?_); have Lwb4 := Lib.hid (Lwb3.out.allocE hwb4); have Ywb4 := Lib.hid (Ywb3.out.allocE hwb4); have Nwb4 := Lib.hid (Blk.newE hwb4); clear hwb4)
            refine hK.out _ _ ?_ (fun hHeld => ?_)
            focus ((try dsimp only); (first | done | exact ⟨Ywb4.out.cell 0, Ywb4.out.cell 1, Ywb4.out.cell 2⟩))
            clear hK K
            (try simp only [Act.put, List.getElem_toArray, List.getElem_cons_succ, List.getElem_cons_zero, List.setIfInBounds_toArray, List.set_cons_zero, List.set_cons_succ])
            refine wpAnyH_ready (rs := [15]) (by kernel_rfl) (by simp) ?_
            refine (AllReadyH.cons rfl (fun K hK => ?_) AllReadyH.nil)
            (refine step_pushG (by rfl) _ _ (by rfl) b1 _ L (by rfl) Lwb4.out.own _ 1 1 _ rfl (by rfl) Nwb4.out.bat1 (fun q => by cases q) (by simp; omega) Lwb4.out.hz ?_; intro vwb5 wb5 ho hg; obtain ⟨L2, hL2⟩ : ∃ L2, L2 = L ++ [Bd.mk f t (if 99 < mm + k6 - 1 then 99 else mm + k6 - 1)] := ⟨_, rfl⟩; rw [← hL2] at ho; obtain ⟨G2, cg2, rfl, _⟩ := ho.rb; have Lwb5 := Lib.hid (Lwb4.out.grow hg ho); have Ywb5 := Lib.hid (Ywb4.out.grown hg NE.out); have HL2 := Lib.hid hL2; clear ho hg hL2)
            refine hK.out _ _ ?_ (fun hHeld => ?_)
            focus ((try dsimp only); (first | done | exact ⟨Ywb5.out.cell 0, Ywb5.out.cell 1, Ywb5.out.cell 2⟩))
            clear hK K
            (try simp only [Act.put, List.getElem_toArray, List.getElem_cons_succ, List.getElem_cons_zero, List.setIfInBounds_toArray, List.set_cons_zero, List.set_cons_succ])
            (refine wpAnyH_take (i := 16) (v := ?tv43) rfl (by kernel_rfl) (by kernel_rfl) (by kernel_rfl) (fun _ _ _ h => h) (Or.inl ⟨by kernel_rfl, ?ty43⟩) (by assumption) ?tr43; (case ty43 => (intro w' hSw; (try dsimp only at hSw); go_simp <;> with_reducible rfl)); (try simp only [Act.put, List.getElem_toArray, List.getElem_cons_succ, List.getElem_cons_zero, List.setIfInBounds_toArray, List.set_cons_zero, List.set_cons_succ]))
            refine wpAnyH_ready (rs := [17]) (by kernel_rfl) (by simp) ?_
            refine (AllReadyH.cons rfl (fun K hK => ?_) AllReadyH.nil)
            (obtain ⟨z0, z1, fr0, fr1⟩ := Lwb5.out.box.two; go_simp; refine name_k (fun wb6 hwb6 => ?_); have Lwb6 := Lib.hid (Lwb5.out.storeE hwb6); have Ywb6 := Lib.hid (show Blk wb6 Y 43 #[.int .i64 f, .int .i64 t, .int .i64 mm] by rw [hwb6]; exact Ywb5.out.far (by dsimp only; omega) _); clear hwb6 z0 z1 fr0 fr1)
            refine hK.out _ _ ?_ (fun hHeld => ?_)
            focus ((try dsimp only); (first | done | exact ⟨Ywb6.out.cell 0, Ywb6.out.cell 1, Ywb6.out.cell 2⟩))
            clear hK K
            (try simp only [Act.put, List.getElem_toArray, List.getElem_cons_succ, List.getElem_cons_zero, List.setIfInBounds_toArray, List.set_cons_zero, List.set_cons_succ])
            refine wpAnyH_done (by kernel_rfl) ?_ _
        case' b25_1 =>
          (have z1 := Lwb0.out.box.cell 1; go_simp; refine name_k (fun wb1 hwb1 => ?_); have Lwb1 := Lwb0; have Ywb1 := Ywb0; rw [← hwb1] at Lwb1 Ywb1; (try have Nwb1 := Nwb0; rw [← hwb1] at Nwb1); clear hwb1 z1)
          refine hK.out _ _ ?_ (fun hHeld => ?_)
          focus ((try dsimp only); (first | done | exact ⟨Ywb1.out.cell 0, Ywb1.out.cell 1, Ywb1.out.cell 2⟩))
          clear hK K
          (try simp only [Act.put, List.getElem_toArray, List.getElem_cons_succ, List.getElem_cons_zero, List.setIfInBounds_toArray, List.set_cons_zero, List.set_cons_succ])
          refine wpAnyH_ready (rs := [9]) (by kernel_rfl) (by simp) ?_
          refine (AllReadyH.cons rfl (fun K hK => ?_) AllReadyH.nil)
          (go_simp; go_at_call 108; refine (pick_any base g _ 4 _ Lwb1.out.rd (by omega)).mono ?_; rintro e wb2 ⟨k6, rfl, k60, k61, _, hr6, ho6, hs6⟩; (try go_wp2_with fail); have K6 := k61 (by omega); have hw6 : IntKind.i64.wrap (mm + k6) = mm + k6 := IntWalk.i64_in _ ⟨by omega, by omega⟩; have hw7 : IntKind.i64.wrap (mm + k6 - 1) = mm + k6 - 1 := IntWalk.i64_in _ ⟨by omega, by omega⟩; have Lwb2 := Lib.hid (Lwb1.out.pick hr6 ho6); have Ywb2 := Lib.hid (Ywb1.out.only ho6 (.inr (by omega))); clear hr6 ho6 hs6 k61)
          refine hK.out _ _ ?_ (fun hHeld => ?_)
          focus ((try dsimp only); (first | done | exact ⟨Ywb2.out.cell 0, Ywb2.out.cell 1, Ywb2.out.cell 2⟩))
          clear hK K
          (try simp only [Act.put, List.getElem_toArray, List.getElem_cons_succ, List.getElem_cons_zero, List.setIfInBounds_toArray, List.set_cons_zero, List.set_cons_succ])
          (refine wpAnyH_take (i := 10) (v := ?tv46) rfl (by kernel_rfl) (by kernel_rfl) (by kernel_rfl) (fun _ _ _ h => h) (Or.inl ⟨by kernel_rfl, ?ty46⟩) (by assumption) ?tr46; (case ty46 => (intro w' hSw; (try dsimp only at hSw); go_simp <;> with_reducible rfl)); (try simp only [Act.put, List.getElem_toArray, List.getElem_cons_succ, List.getElem_cons_zero, List.setIfInBounds_toArray, List.set_cons_zero, List.set_cons_succ]))
          (refine wpAnyH_take (i := 11) (v := ?tv47) rfl (by kernel_rfl) (by kernel_rfl) (by kernel_rfl) (fun _ _ _ h => h) (Or.inl ⟨by kernel_rfl, ?ty47⟩) (by assumption) ?tr47; (case ty47 => (intro w' hSw; (try dsimp only at hSw); go_simp <;> with_reducible rfl)); (try simp only [Act.put, List.getElem_toArray, List.getElem_cons_succ, List.getElem_cons_zero, List.setIfInBounds_toArray, List.set_cons_zero, List.set_cons_succ]))
          refine wpAnyH_ready (rs := [12]) (by kernel_rfl) (by simp) ?_
          refine (AllReadyH.cons rfl (fun K hK => ?_) AllReadyH.nil)
          (go_simp; refine name_k (fun wb3 hwb3 => ?_); have Lwb3 := Lwb2; have Ywb3 := Ywb2; rw [← hwb3] at Lwb3 Ywb3; clear hwb3)
          refine hK.out _ _ ?_ (fun hHeld => ?_)
          focus ((try dsimp only); (first | done | exact ⟨Ywb3.out.cell 0, Ywb3.out.cell 1, Ywb3.out.cell 2⟩))
          clear hK K
          (try simp only [Act.put, List.getElem_toArray, List.getElem_cons_succ, List.getElem_cons_zero, List.setIfInBounds_toArray, List.set_cons_zero, List.set_cons_succ])
          (refine wpAnyH_take (i := 13) (v := ?tv49) rfl (by kernel_rfl) (by kernel_rfl) (by kernel_rfl) (fun _ _ _ h => h) (Or.inl ⟨by kernel_rfl, ?ty49⟩) (by assumption) ?tr49; (case ty49 => (intro w' hSw; (try dsimp only at hSw); go_simp <;> with_reducible rfl)); (try simp only [Act.put, List.getElem_toArray, List.getElem_cons_succ, List.getElem_cons_zero, List.setIfInBounds_toArray, List.set_cons_zero, List.set_cons_succ]))
          refine wpAnyH_ready (rs := [14]) (by kernel_rfl) (by simp) ?_
          refine (AllReadyH.cons rfl (fun K hK => ?_) AllReadyH.nil)
          (go_simp; refine name_k (fun wb4 hwb4 => ?_); have Lwb4 := Lib.hid (Lwb3.out.allocE hwb4); have Ywb4 := Lib.hid (Ywb3.out.allocE hwb4); have Nwb4 := Lib.hid (Blk.newE hwb4); clear hwb4)
          refine hK.out _ _ ?_ (fun hHeld => ?_)
          focus ((try dsimp only); (first | done | exact ⟨Ywb4.out.cell 0, Ywb4.out.cell 1, Ywb4.out.cell 2⟩))
          clear hK K
          (try simp only [Act.put, List.getElem_toArray, List.getElem_cons_succ, List.getElem_cons_zero, List.setIfInBounds_toArray, List.set_cons_zero, List.set_cons_succ])
          refine wpAnyH_ready (rs := [15]) (by kernel_rfl) (by simp) ?_
          refine (AllReadyH.cons rfl (fun K hK => ?_) AllReadyH.nil)
          (refine step_pushG (by rfl) _ _ (by rfl) b1 _ L (by rfl) Lwb4.out.own _ 1 1 _ rfl (by rfl) Nwb4.out.bat1 (fun q => by cases q) (by simp; omega) Lwb4.out.hz ?_; intro vwb5 wb5 ho hg; obtain ⟨L2, hL2⟩ : ∃ L2, L2 = L ++ [Bd.mk f t (if 99 < mm + k6 - 1 then 99 else mm + k6 - 1)] := ⟨_, rfl⟩; rw [← hL2] at ho; obtain ⟨G2, cg2, rfl, _⟩ := ho.rb; have Lwb5 := Lib.hid (Lwb4.out.grow hg ho); have Ywb5 := Lib.hid (Ywb4.out.grown hg NE.out); have HL2 := Lib.hid hL2; clear ho hg hL2)
          refine hK.out _ _ ?_ (fun hHeld => ?_)
          focus ((try dsimp only); (first | done | exact ⟨Ywb5.out.cell 0, Ywb5.out.cell 1, Ywb5.out.cell 2⟩))
          clear hK K
          (try simp only [Act.put, List.getElem_toArray, List.getElem_cons_succ, List.getElem_cons_zero, List.setIfInBounds_toArray, List.set_cons_zero, List.set_cons_succ])
          (refine wpAnyH_take (i := 16) (v := ?tv52) rfl (by kernel_rfl) (by kernel_rfl) (by kernel_rfl) (fun _ _ _ h => h) (Or.inl ⟨by kernel_rfl, ?ty52⟩) (by assumption) ?tr52; (case ty52 => (intro w' hSw; (try dsimp only at hSw); go_simp <;> with_reducible rfl)); (try simp only [Act.put, List.getElem_toArray, List.getElem_cons_succ, List.getElem_cons_zero, List.setIfInBounds_toArray, List.set_cons_zero, List.set_cons_succ]))
          refine wpAnyH_ready (rs := [17]) (by kernel_rfl) (by simp) ?_
          refine (AllReadyH.cons rfl (fun K hK => ?_) AllReadyH.nil)
          (obtain ⟨z0, z1, fr0, fr1⟩ := Lwb5.out.box.two; go_simp; refine name_k (fun wb6 hwb6 => ?_); have Lwb6 := Lib.hid (Lwb5.out.storeE hwb6); have Ywb6 := Lib.hid (show Blk wb6 Y 43 #[.int .i64 f, .int .i64 t, .int .i64 mm] by rw [hwb6]; exact Ywb5.out.far (by dsimp only; omega) _); clear hwb6 z0 z1 fr0 fr1)
          refine hK.out _ _ ?_ (fun hHeld => ?_)
          focus ((try dsimp only); (first | done | exact ⟨Ywb6.out.cell 0, Ywb6.out.cell 1, Ywb6.out.cell 2⟩))
          clear hK K
          (try simp only [Act.put, List.getElem_toArray, List.getElem_cons_succ, List.getElem_cons_zero, List.setIfInBounds_toArray, List.set_cons_zero, List.set_cons_succ])
          refine wpAnyH_done (by kernel_rfl) ?_ _
        all_goals
          have hll : L2.length ≤ i + 1 := by rw [HL2.out]; simp; omega
          go_wp2
          go_roundw
          case rel => exact ⟨i + 1, G2, cg2, L2.length, L2, rfl, rfl, by omega, hll, by go_num, Lwb6.out.mono (by omega)⟩
          case measure => simp [intOf]; omega
    · obtain ⟨G', cg', hv', hrb, hcc, hnn⟩ := LR.out.own.rb
      obtain ⟨rfl, rfl⟩ : G' = G ∧ cg' = cg := by injection hv' with e1 _ e2; exact ⟨e1.symm, e2.symm⟩
      have HR1 := Lib.hid PW.out.r1
      have HR2 := Lib.hid PW.out.r2
      have HRA := Lib.hid PW.out.rb1
      have HRB := Lib.hid (hrb.wide (lo' := w.heap.size + 2) (hi' := wr.heap.size) (by omega) (Nat.le_refl _))
      have HRD := Lib.hid LR.out.rd
      have HON := Lib.hid PW.out.only
      have s0 := p0
      have s1 := p1
      have s2 : wr.cell? ⟨X, 0, none⟩ = some (.int .i64 n1) := LR.out.box.cell 0
      have s3 : wr.cell? ⟨X, 1, none⟩ = some (.slice G' L.length cg') := LR.out.box.cell 1
      clear hv' hrb hnn p0 p1
      go_upto_region 12 with (fail)
      refine wp_region_held_drew (S := (fun w' => w'.cell? ⟨Q1, 0, none⟩ = some (.int .i64 n1) ∧ w'.cell? ⟨Q1, 1, none⟩ = some (.slice A1 bs1.length c1) ∧ w'.cell? ⟨X, 0, none⟩ = some (.int .i64 n1) ∧ w'.cell? ⟨X, 1, none⟩ = some (.slice G' L.length cg'))) (by kernel_rfl) ?_ (fun hHeld => ?_)
      · (try dsimp only)
        (first | done | exact ⟨cD s0, cD s1, cD s2, cD s3⟩)
      refine name_h (fun wz0 hwz0 => ?_)
      replace hHeld : ((fun w' => w'.cell? ⟨Q1, 0, none⟩ = some (.int .i64 n1) ∧ w'.cell? ⟨Q1, 1, none⟩ = some (.slice A1 bs1.length c1) ∧ w'.cell? ⟨X, 0, none⟩ = some (.int .i64 n1) ∧ w'.cell? ⟨X, 1, none⟩ = some (.slice G' L.length cg'))) wz0 := by rw [hwz0]; exact hHeld
      (have Ewz0 := Lib.hid hwz0; have s0wz0 : wz0.cell? ⟨Q1, 0, none⟩ = some (.int .i64 n1) := (by rw [hwz0]; exact cD s0); have s1wz0 : wz0.cell? ⟨Q1, 1, none⟩ = some (.slice A1 bs1.length c1) := (by rw [hwz0]; exact cD s1); have s2wz0 : wz0.cell? ⟨X, 0, none⟩ = some (.int .i64 n1) := (by rw [hwz0]; exact cD s2); have s3wz0 : wz0.cell? ⟨X, 1, none⟩ = some (.slice G' L.length cg') := (by rw [hwz0]; exact cD s3); have r1wz0 : Blk wz0 w.heap.size 25 #[.int .i64 0, .slice none 0 0] := (by rw [hwz0]; exact HR1.out); have r2wz0 : Blk wz0 (w.heap.size + 1) 25 #[.int .i64 0, .slice none 0 0] := (by rw [hwz0]; exact HR2.out); clear s0 s1 s2 s3)
      clear hwz0
      (refine wpAnyH_take (i := 0) (v := ?tv54) rfl (by kernel_rfl) (by kernel_rfl) (by kernel_rfl) (fun _ _ _ h => h) (Or.inl ⟨by kernel_rfl, ?ty54⟩) (by assumption) ?tr54; (case ty54 => (intro w' hSw; (try dsimp only at hSw); go_simp <;> with_reducible rfl)); (try simp only [Act.put, List.getElem_toArray, List.getElem_cons_succ, List.getElem_cons_zero, List.setIfInBounds_toArray, List.set_cons_zero, List.set_cons_succ]))
      (refine wpAnyH_take (i := 1) (v := ?tv55) rfl (by kernel_rfl) (by kernel_rfl) (by kernel_rfl) (fun _ _ _ h => h) (Or.inl ⟨by kernel_rfl, ?ty55⟩) (by assumption) ?tr55; (case ty55 => (intro w' hSw; (try dsimp only at hSw); go_simp <;> with_reducible rfl)); (try simp only [Act.put, List.getElem_toArray, List.getElem_cons_succ, List.getElem_cons_zero, List.setIfInBounds_toArray, List.set_cons_zero, List.set_cons_succ]))
      refine wpAnyH_ready (rs := [2]) (by kernel_rfl) (by simp) ?_
      refine (AllReadyH.cons rfl (fun K hK => ?_) AllReadyH.nil)
      (obtain ⟨z0, z1, f0, f1⟩ := r1wz0.two; go_simp; refine name_k (fun wz1 hwz1 => ?_); have s0wz1 : wz1.cell? ⟨Q1, 0, none⟩ = some (.int .i64 n1) := (by rw [hwz1]; exact cS (cS s0wz0 (by omega)) (by omega)); have s1wz1 : wz1.cell? ⟨Q1, 1, none⟩ = some (.slice A1 bs1.length c1) := (by rw [hwz1]; exact cS (cS s1wz0 (by omega)) (by omega)); have s2wz1 : wz1.cell? ⟨X, 0, none⟩ = some (.int .i64 n1) := (by rw [hwz1]; exact cS (cS s2wz0 (by omega)) (by omega)); have s3wz1 : wz1.cell? ⟨X, 1, none⟩ = some (.slice G' L.length cg') := (by rw [hwz1]; exact cS (cS s3wz0 (by omega)) (by omega)); have m1wz1 : Blk wz1 w.heap.size 25 #[.int .i64 n1, .slice A1 bs1.length c1] := (by rw [hwz1]; simpa using (r1wz0.set_ 0 (.int .i64 n1)).set_ 1 (.slice A1 bs1.length c1)); have r2wz1 : Blk wz1 (w.heap.size + 1) 25 #[.int .i64 0, .slice none 0 0] := (by rw [hwz1]; exact (r2wz0.far (by dsimp only; omega) _).far (by dsimp only; omega) _); have Ewz1 := Lib.hid hwz1; clear hwz1 z0 z1 f0 f1)
      refine hK.out _ _ ?_ (fun hHeld => ?_)
      focus ((try dsimp only); (first | done | exact ⟨s0wz1, s1wz1, s2wz1, s3wz1⟩))
      clear hK K
      (try simp only [Act.put, List.getElem_toArray, List.getElem_cons_succ, List.getElem_cons_zero, List.setIfInBounds_toArray, List.set_cons_zero, List.set_cons_succ])
      refine wpAnyH_ready (rs := [3]) (by kernel_rfl) (by simp) ?_
      refine (AllReadyH.cons rfl (fun K hK => ?_) AllReadyH.nil)
      (obtain ⟨z0, z1, f0, f1⟩ := r2wz1.two; go_simp; refine name_k (fun wz2 hwz2 => ?_); have s0wz2 : wz2.cell? ⟨Q1, 0, none⟩ = some (.int .i64 n1) := (by rw [hwz2]; exact cS (cS s0wz1 (by omega)) (by omega)); have s1wz2 : wz2.cell? ⟨Q1, 1, none⟩ = some (.slice A1 bs1.length c1) := (by rw [hwz2]; exact cS (cS s1wz1 (by omega)) (by omega)); have s2wz2 : wz2.cell? ⟨X, 0, none⟩ = some (.int .i64 n1) := (by rw [hwz2]; exact cS (cS s2wz1 (by omega)) (by omega)); have s3wz2 : wz2.cell? ⟨X, 1, none⟩ = some (.slice G' L.length cg') := (by rw [hwz2]; exact cS (cS s3wz1 (by omega)) (by omega)); have m1wz2 : Blk wz2 w.heap.size 25 #[.int .i64 n1, .slice A1 bs1.length c1] := (by rw [hwz2]; exact (m1wz1.far (by dsimp only; omega) _).far (by dsimp only; omega) _); have m2wz2 : Blk wz2 (w.heap.size + 1) 25 #[.int .i64 n1, .slice G' L.length cg'] := (by rw [hwz2]; simpa using (r2wz1.set_ 0 (.int .i64 n1)).set_ 1 (.slice G' L.length cg')); have Ewz2 := Lib.hid hwz2; clear hwz2 z0 z1 f0 f1)
      refine hK.out _ _ ?_ (fun hHeld => ?_)
      focus ((try dsimp only); (first | done | exact ⟨s0wz2, s1wz2, s2wz2, s3wz2⟩))
      clear hK K
      (try simp only [Act.put, List.getElem_toArray, List.getElem_cons_succ, List.getElem_cons_zero, List.setIfInBounds_toArray, List.set_cons_zero, List.set_cons_succ])
      refine wpAnyH_done (by kernel_rfl) ?_ _
      obtain ⟨u0, u1, _, _⟩ := m1wz2.two
      obtain ⟨u2, u3, _, _⟩ := m2wz2.two
      have R1 := Lib.hid r1wz0
      have R2 := Lib.hid r2wz0
      clear hHeld s0wz0 s1wz0 s2wz0 s3wz0 s0wz1 s1wz1 s2wz1 s3wz1 s0wz2 s1wz2 s2wz2 s3wz2 m1wz1 r2wz1 m1wz2 m2wz2 r1wz0 r2wz0
      go_wp2
      refine bodyPost_ret (v := .tuple #[.agg #[.int .i64 n1, .slice A1 bs1.length c1], .agg #[.int .i64 n1, .slice G' L.length cg']]) (by simp [results, Try.results107, go_sem, u0, u1, u2, u3]) rfl ?_
      rw [Ewz2.out, Ewz1.out]
      exact pp_end R1.out R2.out (lo := w.heap.size + 2) (q' := q + 301 + 2 * i) (show RB wz0 (w.heap.size + 2) wz0.heap.size _ _ by rw [Ewz0.out]; exact HRA.out) (show RB wz0 (w.heap.size + 2) wz0.heap.size _ _ by rw [Ewz0.out]; exact HRB.out) (by omega) (by omega) (by omega) HN1.out (show Rd wz0 base g _ by rw [Ewz0.out]; exact HRD.out) (show Only g (g + 1) w wz0 by rw [Ewz0.out]; exact HON.out.drew) hg (by omega) rfl
end Go.Proofs.Ytnompncmachgjaa
