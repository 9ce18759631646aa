/- The contract of spec.DrawAlikeOk: two plans in new memory; for codes of bytes. -/
import Derived.Test.YtnompncmachgjaaDrawPlans
import Derived.Test.YtnompncmachgjaaTrim
namespace Go.Proofs.Ytnompncmachgjaa
open Go.RowKit
set_option linter.unusedVariables false
set_option maxRecDepth 10000
set_option linter.unusedSimpArgs false

def DrawnPP (w : World) (e : Ending) (w' : World) : Prop :=
  ∃ (n1 : Int) (A1 : Option Addr) (c1 : Nat) (bs1 : List Bd) (n2 : Int) (A2 : Option Addr) (c2 : Nat) (bs2 : List Bd), e = .returned (.tuple #[.agg #[.int .i64 n1, .slice A1 bs1.length c1], .agg #[.int .i64 n2, .slice A2 bs2.length c2]]) ∧ bs1.length ≤ 1000 ∧ bs2.length ≤ 1000 ∧ RB w' w.heap.size w'.heap.size A1 bs1 ∧ RB w' w.heap.size w'.heap.size A2 bs2 ∧ Below w.heap.size w w'
theorem dpp_end {lo : Nat} {w W : World} {na nb : Int} {Aa Ab : Option Addr} {ca cb : Nat} {La Lb : List Bd} {a1 a2 a3 a4 u0 u1 u2 u3 : Value} {e : Ending} (hr1 : Blk W w.heap.size 25 #[a1, a2]) (hr2 : Blk W (w.heap.size + 1) 25 #[a3, a4]) (ha : RB W lo W.heap.size Aa La) (hb : RB W lo W.heap.size Ab Lb) (hlo : w.heap.size ≤ lo) (hla : La.length ≤ 1000) (hlb : Lb.length ≤ 1000) (hbw : Below w.heap.size w W) (he : e = .returned (.tuple #[.agg #[.int .i64 na, .slice Aa La.length ca], .agg #[.int .i64 nb, .slice Ab Lb.length cb]])) :
    DrawnPP w e ((((W.setCell ⟨w.heap.size, 0, none⟩ u0).setCell ⟨w.heap.size, 1, none⟩ u1).setCell ⟨w.heap.size + 1, 0, none⟩ u2).setCell ⟨w.heap.size + 1, 1, none⟩ u3) := by
  have s2 := ((hr2.far (show (w.heap.size + 1) ≠ (⟨w.heap.size, 0, none⟩ : Addr).block by dsimp only; omega) u0).far (show (w.heap.size + 1) ≠ (⟨w.heap.size, 1, none⟩ : Addr).block by dsimp only; omega) u1)
  have bx : ∀ {A : Option Addr} {L : List Bd}, RB W lo W.heap.size A L → RB ((((W.setCell ⟨w.heap.size, 0, none⟩ u0).setCell ⟨w.heap.size, 1, none⟩ u1).setCell ⟨w.heap.size + 1, 0, none⟩ u2).setCell ⟨w.heap.size + 1, 1, none⟩ u3) w.heap.size ((((W.setCell ⟨w.heap.size, 0, none⟩ u0).setCell ⟨w.heap.size, 1, none⟩ u1).setCell ⟨w.heap.size + 1, 0, none⟩ u2).setCell ⟨w.heap.size + 1, 1, none⟩ u3).heap.size A L := fun h => by
    rw [szc, szc, szc, szc]
    exact ((((h.box hr1).box (hr1.set_ 0 _)).box s2).box (s2.set_ 0 _)).wide hlo (Nat.le_refl _)
  exact ⟨na, Aa, ca, La, nb, Ab, cb, Lb, he, hla, hlb, bx ha, bx hb, vset (vset (vset (vset hbw (by dsimp only; omega) _) (by dsimp only; omega) _) (by dsimp only; omega) _) (by dsimp only; omega) _⟩
set_option maxHeartbeats 2000000 in
theorem drawAlikeOk_any (A : Option Addr) (c : Nat) (xs : List Int) (w : World) (h : Bytes w A c xs) : Calls Try.prog 57 #[.slice A xs.length c] w (DrawnPP w) := by
  go_enter Try.func57, Try.ntmps57
  go_wp2_with fail
  have B0 : Below w.heap.size w ((w.alloc (.cells #[.int .i64 0, .slice none 0 0] 25)).alloc (.cells #[.int .i64 0, .slice none 0 0] 25)) := valloc (valloc (Below.refl _ _) _) _
  have T1 : Blk ((w.alloc (.cells #[.int .i64 0, .slice none 0 0] 25)).alloc (.cells #[.int .i64 0, .slice none 0 0] 25)) w.heap.size 25 #[.int .i64 0, .slice none 0 0] := (Blk.new w _ _).alloc _
  have T2 : Blk ((w.alloc (.cells #[.int .i64 0, .slice none 0 0] 25)).alloc (.cells #[.int .i64 0, .slice none 0 0] 25)) (w.heap.size + 1) 25 #[.int .i64 0, .slice none 0 0] := Blk.new' (by rw [sz]) _ _
  refine (open_of ((h.alloc _).alloc _)).mono ?_; rintro e w1 ⟨g, rfl, hr1, hb1, hg1⟩
  have hgb := hr1.base_le
  have hz1 := hb1.size
  simp only [sz] at hgb hz1
  have K1 := Lib.hid (T1.below' hb1)
  have K2 := Lib.hid (T2.below' hb1)
  have K3 := Lib.hid (via hb1 B0)
  clear T1 T2 B0 hb1 h
  go_wp2_with fail
  refine (plans_draw _ g 0 w1 hr1 (by omega)).mono ?_; rintro e w2 ⟨n1, A1, c1, bs1, n2, A2, c2, bs2, rfl, hl1, hl2, hn1, hrb1, hrb2, hrd, ho⟩
  have M1 := Lib.hid (K1.out.only ho (.inl (by omega)))
  have M2 := Lib.hid (K2.out.only ho (.inl (by omega)))
  have M3 := Lib.hid (viaOnly ho (by omega) K3.out)
  have HN1 := Lib.hid hn1
  have HA := Lib.hid hrb1
  have HB := Lib.hid hrb2
  have HD := Lib.hid hrd
  have hz2 := ho.size
  clear ho hn1 hrb1 hrb2 hrd K1 K2 K3 hr1
  go_upto_region 3 with (fail)
  refine name_c (fun w3 hw3 => ?_)
  obtain ⟨P1, hP1⟩ : ∃ P1, P1 = w2.heap.size := ⟨_, rfl⟩
  obtain ⟨P2, hP2⟩ : ∃ P2, P2 = w2.heap.size + 1 := ⟨_, rfl⟩
  have N1 := Lib.hid (show Blk w3 w.heap.size 25 #[.int .i64 0, .slice none 0 0] by rw [hw3]; exact (M1.out.alloc _).alloc _)
  have N2 := Lib.hid (show Blk w3 (w.heap.size + 1) 25 #[.int .i64 0, .slice none 0 0] by rw [hw3]; exact (M2.out.alloc _).alloc _)
  have N3 := Lib.hid (show Below w.heap.size w w3 by rw [hw3]; exact valloc (valloc M3.out _) _)
  have NP1 := Lib.hid (show Blk w3 P1 25 #[.int .i64 n1, .slice A1 bs1.length c1] by rw [hw3, hP1]; exact (Blk.new w2 _ _).alloc _)
  have NP2 := Lib.hid (show Blk w3 P2 25 #[.int .i64 n2, .slice A2 bs2.length c2] by rw [hw3, hP2]; exact Blk.new' (by rw [sz]) _ _)
  have hz3 : w2.heap.size + 2 ≤ w3.heap.size := by rw [hw3, sz, sz]; omega
  have NA := Lib.hid (show RB w3 w1.heap.size w3.heap.size A1 bs1 by rw [hw3]; exact ((HA.out.same ((Same.refl _ _ _).alloc _) (Nat.le_refl _)).same ((Same.refl _ _ _).alloc _) (leA _ _)).wide (by omega) (by rw [sz, sz]; omega))
  have NB := Lib.hid (show RB w3 w1.heap.size w3.heap.size A2 bs2 by rw [hw3]; exact ((HB.out.same ((Same.refl _ _ _).alloc _) (Nat.le_refl _)).same ((Same.refl _ _ _).alloc _) (leA _ _)).wide (by omega) (by rw [sz, sz]; omega))
  have ND := Lib.hid (show Rd w3 _ g (0 + 500) by rw [hw3]; exact (HD.out.alloc _).alloc _)
  rw [← hP2, ← hP1]
  clear hw3 M1 M2 M3 HA HB HD
  have hP : w.heap.size + 1 < P1 ∧ P1 < P2 ∧ w.heap.size + 2 ≤ g ∧ g < P1 := by omega
  clear hP1 hP2
  go_wp2_with fail
  refine (pick_any _ g _ 3 _ ND.out (by omega)).mono ?_; rintro e w4 ⟨k4, rfl, k40, k41, _, hr4, ho4, hs4⟩
  have HR1 := Lib.hid (N1.out.only ho4 (.inl (by omega)))
  have HR2 := Lib.hid (N2.out.only ho4 (.inl (by omega)))
  have HBW := Lib.hid (viaOnly ho4 (by omega) N3.out)
  have HRA := Lib.hid (((NA.out.same (Same.of_only ho4 (.inr (by omega))) (Nat.le_refl _)).wide (lo' := w.heap.size + 2) (hi' := w4.heap.size) (by omega) ho4.size))
  have HRB := Lib.hid (((NB.out.same (Same.of_only ho4 (.inr (by omega))) (Nat.le_refl _)).wide (lo' := w.heap.size + 2) (hi' := w4.heap.size) (by omega) ho4.size))
  have Q1 := NP1.out.only ho4 (.inr (by omega))
  have Q2 := NP2.out.only ho4 (.inr (by omega))
  have s0 : w4.cell? ⟨P1, 0, none⟩ = some (.int .i64 n1) := Q1.cell 0
  have s1 : w4.cell? ⟨P1, 1, none⟩ = some (.slice A1 bs1.length c1) := Q1.cell 1
  have s2 : w4.cell? ⟨P2, 0, none⟩ = some (.int .i64 n2) := Q2.cell 0
  have s3 : w4.cell? ⟨P2, 1, none⟩ = some (.slice A2 bs2.length c2) := Q2.cell 1
  clear N1 N2 N3 NP1 NP2 NA NB ND hr4 ho4 hs4 k41 Q1 Q2
  by_cases hk4 : k4 = 0
  · subst hk4
    go_upto_region 4 with (fail)
    refine wp_region_held_drew (S := (fun w' => w'.cell? ⟨P1, 0, none⟩ = some (.int .i64 n1) ∧ w'.cell? ⟨P1, 1, none⟩ = some (.slice A1 bs1.length c1))) (by kernel_rfl) ?_ (fun hHeld => ?_)
    · (try dsimp only)
      (first | done | exact ⟨cD s0, cD s1⟩)
    refine name_h (fun wz0 hwz0 => ?_)
    replace hHeld : ((fun w' => w'.cell? ⟨P1, 0, none⟩ = some (.int .i64 n1) ∧ w'.cell? ⟨P1, 1, none⟩ = some (.slice A1 bs1.length c1))) wz0 := by rw [hwz0]; exact hHeld
    (have Ewz0 := Lib.hid hwz0; have s0wz0 : wz0.cell? ⟨P1, 0, none⟩ = some (.int .i64 n1) := (by rw [hwz0]; exact cD s0); have s1wz0 : wz0.cell? ⟨P1, 1, none⟩ = some (.slice A1 bs1.length c1) := (by rw [hwz0]; exact cD s1); have r1wz0 : Blk wz0 w.heap.size 25 #[.int .i64 0, .slice none 0 0] := (by rw [hwz0]; exact HR1.out); have r2wz0 : Blk wz0 (w.heap.size + 1) 25 #[.int .i64 0, .slice none 0 0] := (by rw [hwz0]; exact HR2.out); have QAwz0 := Lib.hid (show RB wz0 (w.heap.size + 2) wz0.heap.size A1 bs1 by rw [hwz0]; exact HRA.out); have QBwz0 := Lib.hid (show Below w.heap.size w wz0 by rw [hwz0]; exact vdrew HBW.out); clear s0 s1 s2 s3)
    clear hwz0
    (refine wpAnyH_take (i := 0) (v := ?tv1) rfl (by kernel_rfl) (by kernel_rfl) (by kernel_rfl) (fun _ _ _ h => h) (Or.inl ⟨by kernel_rfl, ?ty1⟩) (by assumption) ?tr1; (case ty1 => (intro w' hSw; (try dsimp only at hSw); go_simp <;> with_reducible rfl)); (try simp only [Act.put, List.getElem_toArray, List.getElem_cons_succ, List.getElem_cons_zero, List.setIfInBounds_toArray, List.set_cons_zero, List.set_cons_succ]))
    (refine wpAnyH_take (i := 1) (v := ?tv2) rfl (by kernel_rfl) (by kernel_rfl) (by kernel_rfl) (fun _ _ _ h => h) (Or.inl ⟨by kernel_rfl, ?ty2⟩) (by assumption) ?tr2; (case ty2 => (intro w' hSw; (try dsimp only at hSw); go_simp <;> with_reducible rfl)); (try simp only [Act.put, List.getElem_toArray, List.getElem_cons_succ, List.getElem_cons_zero, List.setIfInBounds_toArray, List.set_cons_zero, List.set_cons_succ]))
    refine wpAnyH_ready (rs := [2]) (by kernel_rfl) (by simp) ?_
    refine (AllReadyH.cons rfl (fun K hK => ?_) AllReadyH.nil)
    (go_simp; go_at_call 109; refine (trimmed_any n1 A1 c1 bs1 _ QAwz0.out.bat HN1.out (by omega)).mono ?_; rintro e wz1 ⟨n6, G6, c6, L6, rfl, l6, r6, hb6⟩; (try go_wp2_with fail); have hz6 := hb6.size; have hz5 := QBwz0.out.size; have hz7 := cell_lt s0wz0; have s0wz1 := cB hb6 s0wz0; have s1wz1 := cB hb6 s1wz0; have r1wz1 := r1wz0.below' hb6; have r2wz1 := r2wz0.below' hb6; have QAwz1 := Lib.hid ((QAwz0.out.same (Same.of_below hb6 (Nat.le_refl _)) (Nat.le_refl _)).wide (lo' := w.heap.size + 2) (hi' := wz1.heap.size) (Nat.le_refl _) hz6); have QLwz1 := Lib.hid (r6.wide (lo' := w.heap.size + 2) (hi' := wz1.heap.size) (by omega) (Nat.le_refl _)); have QBwz1 := Lib.hid (via hb6 QBwz0.out); clear hb6 r6)
    refine hK.out _ _ ?_ (fun hHeld => ?_)
    focus ((try dsimp only); (first | done | exact ⟨s0wz1, s1wz1⟩))
    clear hK K
    (try simp only [Act.put, List.getElem_toArray, List.getElem_cons_succ, List.getElem_cons_zero, List.setIfInBounds_toArray, List.set_cons_zero, List.set_cons_succ])
    refine wpAnyH_ready (rs := [3]) (by kernel_rfl) (by simp) ?_
    refine (AllReadyH.cons rfl (fun K hK => ?_) AllReadyH.nil)
    (obtain ⟨z0, z1, f0, f1⟩ := r1wz1.two; go_simp; refine name_k (fun wz2 hwz2 => ?_); have s0wz2 : wz2.cell? ⟨P1, 0, none⟩ = some (.int .i64 n1) := (by rw [hwz2]; exact cS (cS s0wz1 (by omega)) (by omega)); have s1wz2 : wz2.cell? ⟨P1, 1, none⟩ = some (.slice A1 bs1.length c1) := (by rw [hwz2]; exact cS (cS s1wz1 (by omega)) (by omega)); have m1wz2 : Blk wz2 w.heap.size 25 #[.int .i64 n1, .slice A1 bs1.length c1] := (by rw [hwz2]; simpa using (r1wz1.set_ 0 (.int .i64 n1)).set_ 1 (.slice A1 bs1.length c1)); have r2wz2 : Blk wz2 (w.heap.size + 1) 25 #[.int .i64 0, .slice none 0 0] := (by rw [hwz2]; exact (r2wz1.far (by dsimp only; omega) _).far (by dsimp only; omega) _); have Ewz2 := Lib.hid hwz2; clear hwz2 z0 z1 f0 f1)
    refine hK.out _ _ ?_ (fun hHeld => ?_)
    focus ((try dsimp only); (first | done | exact ⟨s0wz2, s1wz2⟩))
    clear hK K
    (try simp only [Act.put, List.getElem_toArray, List.getElem_cons_succ, List.getElem_cons_zero, List.setIfInBounds_toArray, List.set_cons_zero, List.set_cons_succ])
    refine wpAnyH_ready (rs := [4]) (by kernel_rfl) (by simp) ?_
    refine (AllReadyH.cons rfl (fun K hK => ?_) AllReadyH.nil)
    (obtain ⟨z0, z1, f0, f1⟩ := r2wz2.two; go_simp; refine name_k (fun wz3 hwz3 => ?_); have s0wz3 : wz3.cell? ⟨P1, 0, none⟩ = some (.int .i64 n1) := (by rw [hwz3]; exact cS (cS s0wz2 (by omega)) (by omega)); have s1wz3 : wz3.cell? ⟨P1, 1, none⟩ = some (.slice A1 bs1.length c1) := (by rw [hwz3]; exact cS (cS s1wz2 (by omega)) (by omega)); have m1wz3 : Blk wz3 w.heap.size 25 #[.int .i64 n1, .slice A1 bs1.length c1] := (by rw [hwz3]; exact (m1wz2.far (by dsimp only; omega) _).far (by dsimp only; omega) _); have m2wz3 : Blk wz3 (w.heap.size + 1) 25 #[.int .i64 n6, .slice G6 L6.length c6] := (by rw [hwz3]; simpa using (r2wz2.set_ 0 (.int .i64 n6)).set_ 1 (.slice G6 L6.length c6)); have Ewz3 := Lib.hid hwz3; clear hwz3 z0 z1 f0 f1)
    refine hK.out _ _ ?_ (fun hHeld => ?_)
    focus ((try dsimp only); (first | done | exact ⟨s0wz3, s1wz3⟩))
    clear hK K
    (try simp only [Act.put, List.getElem_toArray, List.getElem_cons_succ, List.getElem_cons_zero, List.setIfInBounds_toArray, List.set_cons_zero, List.set_cons_succ])
    refine wpAnyH_done (by kernel_rfl) ?_ _
    obtain ⟨u0, u1, _, _⟩ := m1wz3.two
    obtain ⟨u2, u3, _, _⟩ := m2wz3.two
    have R1 := Lib.hid r1wz1
    have R2 := Lib.hid r2wz1
    clear hHeld s0wz0 s1wz0 s0wz1 s1wz1 s0wz2 s1wz2 s0wz3 s1wz3 m1wz2 r2wz2 m1wz3 m2wz3 r1wz0 r2wz0 r1wz1 r2wz1
    go_wp2
    refine bodyPost_ret (v := .tuple #[.agg #[.int .i64 n1, .slice A1 bs1.length c1], .agg #[.int .i64 n6, .slice G6 L6.length c6]]) (by simp [results, Try.results57, go_sem, u0, u1, u2, u3]) rfl ?_
    rw [Ewz3.out, Ewz2.out]
    exact dpp_end R1.out R2.out (lo := w.heap.size + 2) QAwz1.out QLwz1.out (by omega) (by omega) (by omega) QBwz1.out rfl
  · have hk4' : (k4 == 0) = false := beq_eq_false_iff_ne.2 hk4
    clear hk4
    go_upto_region 5 with (fail)
    refine wp_region_held_drew (S := (fun w' => w'.cell? ⟨P1, 0, none⟩ = some (.int .i64 n1) ∧ w'.cell? ⟨P1, 1, none⟩ = some (.slice A1 bs1.length c1) ∧ w'.cell? ⟨P2, 0, none⟩ = some (.int .i64 n2) ∧ w'.cell? ⟨P2, 1, none⟩ = some (.slice A2 bs2.length c2))) (by kernel_rfl) ?_ (fun hHeld => ?_)
    · (try dsimp only)
      (first | done | exact ⟨cD s0, cD s1, cD s2, cD s3⟩)
    refine name_h (fun wz0 hwz0 => ?_)
    replace hHeld : ((fun w' => w'.cell? ⟨P1, 0, none⟩ = some (.int .i64 n1) ∧ w'.cell? ⟨P1, 1, none⟩ = some (.slice A1 bs1.length c1) ∧ w'.cell? ⟨P2, 0, none⟩ = some (.int .i64 n2) ∧ w'.cell? ⟨P2, 1, none⟩ = some (.slice A2 bs2.length c2))) wz0 := by rw [hwz0]; exact hHeld
    (have Ewz0 := Lib.hid hwz0; have s0wz0 : wz0.cell? ⟨P1, 0, none⟩ = some (.int .i64 n1) := (by rw [hwz0]; exact cD s0); have s1wz0 : wz0.cell? ⟨P1, 1, none⟩ = some (.slice A1 bs1.length c1) := (by rw [hwz0]; exact cD s1); have s2wz0 : wz0.cell? ⟨P2, 0, none⟩ = some (.int .i64 n2) := (by rw [hwz0]; exact cD s2); have s3wz0 : wz0.cell? ⟨P2, 1, none⟩ = some (.slice A2 bs2.length c2) := (by rw [hwz0]; exact cD s3); have r1wz0 : Blk wz0 w.heap.size 25 #[.int .i64 0, .slice none 0 0] := (by rw [hwz0]; exact HR1.out); have r2wz0 : Blk wz0 (w.heap.size + 1) 25 #[.int .i64 0, .slice none 0 0] := (by rw [hwz0]; exact HR2.out); clear s0 s1 s2 s3)
    clear hwz0
    (refine wpAnyH_take (i := 0) (v := ?tv6) rfl (by kernel_rfl) (by kernel_rfl) (by kernel_rfl) (fun _ _ _ h => h) (Or.inl ⟨by kernel_rfl, ?ty6⟩) (by assumption) ?tr6; (case ty6 => (intro w' hSw; (try dsimp only at hSw); go_simp <;> with_reducible rfl)); (try simp only [Act.put, List.getElem_toArray, List.getElem_cons_succ, List.getElem_cons_zero, List.setIfInBounds_toArray, List.set_cons_zero, List.set_cons_succ]))
    (refine wpAnyH_take (i := 1) (v := ?tv7) rfl (by kernel_rfl) (by kernel_rfl) (by kernel_rfl) (fun _ _ _ h => h) (Or.inl ⟨by kernel_rfl, ?ty7⟩) (by assumption) ?tr7; (case ty7 => (intro w' hSw; (try dsimp only at hSw); go_simp <;> with_reducible rfl)); (try simp only [Act.put, List.getElem_toArray, List.getElem_cons_succ, List.getElem_cons_zero, List.setIfInBounds_toArray, List.set_cons_zero, List.set_cons_succ]))
    refine wpAnyH_ready (rs := [2]) (by kernel_rfl) (by simp) ?_
    refine (AllReadyH.cons rfl (fun K hK => ?_) AllReadyH.nil)
    (obtain ⟨z0, z1, f0, f1⟩ := r1wz0.two; go_simp; refine name_k (fun wz1 hwz1 => ?_); have s0wz1 : wz1.cell? ⟨P1, 0, none⟩ = some (.int .i64 n1) := (by rw [hwz1]; exact cS (cS s0wz0 (by omega)) (by omega)); have s1wz1 : wz1.cell? ⟨P1, 1, none⟩ = some (.slice A1 bs1.length c1) := (by rw [hwz1]; exact cS (cS s1wz0 (by omega)) (by omega)); have s2wz1 : wz1.cell? ⟨P2, 0, none⟩ = some (.int .i64 n2) := (by rw [hwz1]; exact cS (cS s2wz0 (by omega)) (by omega)); have s3wz1 : wz1.cell? ⟨P2, 1, none⟩ = some (.slice A2 bs2.length c2) := (by rw [hwz1]; exact cS (cS s3wz0 (by omega)) (by omega)); have m1wz1 : Blk wz1 w.heap.size 25 #[.int .i64 n1, .slice A1 bs1.length c1] := (by rw [hwz1]; simpa using (r1wz0.set_ 0 (.int .i64 n1)).set_ 1 (.slice A1 bs1.length c1)); have r2wz1 : Blk wz1 (w.heap.size + 1) 25 #[.int .i64 0, .slice none 0 0] := (by rw [hwz1]; exact (r2wz0.far (by dsimp only; omega) _).far (by dsimp only; omega) _); have Ewz1 := Lib.hid hwz1; clear hwz1 z0 z1 f0 f1)
    refine hK.out _ _ ?_ (fun hHeld => ?_)
    focus ((try dsimp only); (first | done | exact ⟨s0wz1, s1wz1, s2wz1, s3wz1⟩))
    clear hK K
    (try simp only [Act.put, List.getElem_toArray, List.getElem_cons_succ, List.getElem_cons_zero, List.setIfInBounds_toArray, List.set_cons_zero, List.set_cons_succ])
    refine wpAnyH_ready (rs := [3]) (by kernel_rfl) (by simp) ?_
    refine (AllReadyH.cons rfl (fun K hK => ?_) AllReadyH.nil)
    (obtain ⟨z0, z1, f0, f1⟩ := r2wz1.two; go_simp; refine name_k (fun wz2 hwz2 => ?_); have s0wz2 : wz2.cell? ⟨P1, 0, none⟩ = some (.int .i64 n1) := (by rw [hwz2]; exact cS (cS s0wz1 (by omega)) (by omega)); have s1wz2 : wz2.cell? ⟨P1, 1, none⟩ = some (.slice A1 bs1.length c1) := (by rw [hwz2]; exact cS (cS s1wz1 (by omega)) (by omega)); have s2wz2 : wz2.cell? ⟨P2, 0, none⟩ = some (.int .i64 n2) := (by rw [hwz2]; exact cS (cS s2wz1 (by omega)) (by omega)); have s3wz2 : wz2.cell? ⟨P2, 1, none⟩ = some (.slice A2 bs2.length c2) := (by rw [hwz2]; exact cS (cS s3wz1 (by omega)) (by omega)); have m1wz2 : Blk wz2 w.heap.size 25 #[.int .i64 n1, .slice A1 bs1.length c1] := (by rw [hwz2]; exact (m1wz1.far (by dsimp only; omega) _).far (by dsimp only; omega) _); have m2wz2 : Blk wz2 (w.heap.size + 1) 25 #[.int .i64 n2, .slice A2 bs2.length c2] := (by rw [hwz2]; simpa using (r2wz1.set_ 0 (.int .i64 n2)).set_ 1 (.slice A2 bs2.length c2)); have Ewz2 := Lib.hid hwz2; clear hwz2 z0 z1 f0 f1)
    refine hK.out _ _ ?_ (fun hHeld => ?_)
    focus ((try dsimp only); (first | done | exact ⟨s0wz2, s1wz2, s2wz2, s3wz2⟩))
    clear hK K
    (try simp only [Act.put, List.getElem_toArray, List.getElem_cons_succ, List.getElem_cons_zero, List.setIfInBounds_toArray, List.set_cons_zero, List.set_cons_succ])
    refine wpAnyH_done (by kernel_rfl) ?_ _
    obtain ⟨u0, u1, _, _⟩ := m1wz2.two
    obtain ⟨u2, u3, _, _⟩ := m2wz2.two
    have R1 := Lib.hid r1wz0
    have R2 := Lib.hid r2wz0
    clear hHeld s0wz0 s1wz0 s2wz0 s3wz0 s0wz1 s1wz1 s2wz1 s3wz1 s0wz2 s1wz2 s2wz2 s3wz2 m1wz1 r2wz1 m1wz2 m2wz2 r1wz0 r2wz0
    go_wp2
    refine bodyPost_ret (v := .tuple #[.agg #[.int .i64 n1, .slice A1 bs1.length c1], .agg #[.int .i64 n2, .slice A2 bs2.length c2]]) (by simp [results, Try.results57, go_sem, u0, u1, u2, u3]) rfl ?_
    rw [Ewz2.out, Ewz1.out]
    exact dpp_end R1.out R2.out (lo := w.heap.size + 2) (show RB wz0 (w.heap.size + 2) wz0.heap.size _ _ by rw [Ewz0.out]; exact HRA.out) (show RB wz0 (w.heap.size + 2) wz0.heap.size _ _ by rw [Ewz0.out]; exact HRB.out) (by omega) (by omega) (by omega) (show Below w.heap.size w wz0 by rw [Ewz0.out]; exact vdrew HBW.out) rfl
end Go.Proofs.Ytnompncmachgjaa
