/- Contracts of the draws that join each point with the first one: of a plan and a point, and of a plan, two points and a number. -/
import Derived.Test.YtnompncmachgjaaDrawJoin
import Derived.Test.YtnompncmachgjaaKF
namespace Go.Proofs.Ytnompncmachgjaa
open Go.RowKit
set_option linter.unusedVariables false
set_option maxRecDepth 10000
set_option linter.unusedSimpArgs false

def DrawnPE (w : World) (e : Ending) (w' : World) : Prop :=
  ∃ (n : Int) (A : Option Addr) (c : Nat) (bs : List Bd) (d : Int), e = .returned (.tuple #[.agg #[.int .i64 n, .slice A bs.length c], .int .i64 d]) ∧ PlanFacts n bs ∧ bs.length ≤ c ∧ (A = none → c = 0) ∧ RB w' w.heap.size w'.heap.size A bs ∧ Below w.heap.size w w'
set_option maxHeartbeats 2000000 in
theorem drawEarliestOf_any (A : Option Addr) (c : Nat) (xs : List Int) (w : World) (h : Bytes w A c xs) : Calls Try.prog 64 #[.slice A xs.length c] w (DrawnPE w) := by
  go_enter Try.func64, Try.ntmps64
  go_wp2_with fail
  refine (open_of (h.alloc _)).mono ?_; rintro e w1 ⟨g, rfl, hr1, hb1, hg1⟩
  have hgb := hr1.base_le
  have hz1 := hb1.size
  simp only [sz] at hgb hz1
  go_wp2_with fail
  refine (joined_any _ g 0 _ w1 hr1 (by omega) (by omega) (by omega)).mono ?_; rintro e w2 ⟨n, A2, c2, bs, rfl, hf, hc, hn, hrb, hrd, ho⟩
  have HQ2 := Lib.hid (code_res rfl hb1 (by omega) ho)
  have HB2 := Lib.hid (viaOnly ho (by omega) (via hb1 (valloc (Below.refl w.heap.size w) _)))
  have HRB2 := Lib.hid hrb
  have HN := Lib.hid hn
  have HRD := Lib.hid hrd
  have hz2 := ho.size
  have hm7 := hf.2.1
  have HF := Lib.hid hf
  clear hb1 ho hrb hn hr1 hrd hf
  go_upto_region 3 with (fail)
  refine name_c (fun w3 hw3 => ?_)
  have HQ := Lib.hid (Blk.allocE HQ2.out hw3)
  have PB := Blk.newE hw3
  have hz3 := sizeE hw3
  have HD := Lib.hid (show Rd w3 (w.heap.size + 1) g (0 + 150) by rw [hw3]; simpa using HRD.out.alloc _)
  have HRB := Lib.hid (show RB w3 w1.heap.size w2.heap.size A2 bs by rw [hw3]; exact HRB2.out.same ((Same.refl _ _ _).alloc _) (Nat.le_refl _))
  have HB := Lib.hid (show Below w.heap.size w w3 by rw [hw3]; exact valloc HB2.out _)
  clear hw3 HQ2 HRD HRB2 HB2
  obtain ⟨p0, p1, x3, x4⟩ := PB.two
  clear PB x3 x4
  by_cases hd1 : n < 1
  · have hd2 : True := trivial
    refine wp_region_held_drew (S := (fun w' => w'.cell? ⟨w2.heap.size, 0, none⟩ = some (.int .i64 n) ∧ w'.cell? ⟨w2.heap.size, 1, none⟩ = some (.slice A2 bs.length c2))) (by kernel_rfl) ?_ (fun hHeld => ?_)
    · (try dsimp only)
      (first | done | exact ⟨cD p0, cD p1⟩)
    refine name_h (fun wa0 hwa0 => ?_)
    replace hHeld : ((fun w' => w'.cell? ⟨w2.heap.size, 0, none⟩ = some (.int .i64 n) ∧ w'.cell? ⟨w2.heap.size, 1, none⟩ = some (.slice A2 bs.length c2))) wa0 := by rw [hwa0]; exact hHeld
    (have Owa0 := Lib.hid (show Only g (g + 1) w3 wa0 by rw [hwa0]; exact (Only.refl _ _ _).drew); have Dwa0 := Lib.hid (show Rd wa0 (w.heap.size + 1) g (0 + 150) by rw [hwa0]; exact HD.out.drew))
    clear hwa0
    (refine wpAnyH_take (i := 0) (v := ?tv1) rfl (by kernel_rfl) (by kernel_rfl) (by kernel_rfl) (fun _ _ _ h => h) (Or.inl ⟨by kernel_rfl, ?ty1⟩) (by assumption) ?tr1; (case ty1 => (intro w' hSw; (try dsimp only at hSw); go_simp <;> with_reducible rfl)); (try simp only [Act.put, List.getElem_toArray, List.getElem_cons_succ, List.getElem_cons_zero, List.setIfInBounds_toArray, List.set_cons_zero, List.set_cons_succ]))
    (refine wpAnyH_take (i := 1) (v := ?tv2) rfl (by kernel_rfl) (by kernel_rfl) (by kernel_rfl) (fun _ _ _ h => h) (Or.inl ⟨by kernel_rfl, ?ty2⟩) (by assumption) ?tr2; (case ty2 => (intro w' hSw; (try dsimp only at hSw); go_simp <;> with_reducible rfl)); (try simp only [Act.put, List.getElem_toArray, List.getElem_cons_succ, List.getElem_cons_zero, List.setIfInBounds_toArray, List.set_cons_zero, List.set_cons_succ]))
    (refine wpAnyH_take (i := 2) (v := ?tv3) rfl (by kernel_rfl) (by kernel_rfl) (by kernel_rfl) (fun _ _ _ h => h) (Or.inl ⟨by kernel_rfl, ?ty3⟩) (by assumption) ?tr3; (case ty3 => (intro w' hSw; (try dsimp only at hSw); go_simp <;> with_reducible rfl)); (try simp only [Act.put, List.getElem_toArray, List.getElem_cons_succ, List.getElem_cons_zero, List.setIfInBounds_toArray, List.set_cons_zero, List.set_cons_succ]))
    (refine wpAnyH_take (i := 3) (v := ?tv4) rfl (by kernel_rfl) (by kernel_rfl) (by kernel_rfl) (fun _ _ _ h => h) (Or.inl ⟨by kernel_rfl, ?ty4⟩) (by assumption) ?tr4; (case ty4 => (intro w' hSw; (try dsimp only at hSw); go_simp <;> with_reducible rfl)); (try simp only [Act.put, List.getElem_toArray, List.getElem_cons_succ, List.getElem_cons_zero, List.setIfInBounds_toArray, List.set_cons_zero, List.set_cons_succ]))
    (refine wpAnyH_take (i := 4) (v := ?tv5) rfl (by kernel_rfl) (by kernel_rfl) (by kernel_rfl) (fun _ _ _ h => h) (Or.inl ⟨by kernel_rfl, ?ty5⟩) (by assumption) ?tr5; (case ty5 => (intro w' hSw; (try dsimp only at hSw); go_simp <;> with_reducible rfl)); (try simp only [Act.put, List.getElem_toArray, List.getElem_cons_succ, List.getElem_cons_zero, List.setIfInBounds_toArray, List.set_cons_zero, List.set_cons_succ]))
    (refine wpAnyH_take (i := 5) (v := ?tv6) rfl (by kernel_rfl) (by kernel_rfl) (by kernel_rfl) (fun _ _ _ h => h) (Or.inl ⟨by kernel_rfl, ?ty6⟩) (by assumption) ?tr6; (case ty6 => (intro w' hSw; (try dsimp only at hSw); go_simp <;> with_reducible rfl)); (try simp only [Act.put, List.getElem_toArray, List.getElem_cons_succ, List.getElem_cons_zero, List.setIfInBounds_toArray, List.set_cons_zero, List.set_cons_succ]))
    (refine wpAnyH_take (i := 8) (v := ?tv7) rfl (by kernel_rfl) (by kernel_rfl) (by kernel_rfl) (fun _ _ _ h => h) (Or.inl ⟨by kernel_rfl, ?ty7⟩) (by assumption) ?tr7; (case ty7 => (intro w' hSw; (try dsimp only at hSw); go_simp <;> with_reducible rfl)); (try simp only [Act.put, List.getElem_toArray, List.getElem_cons_succ, List.getElem_cons_zero, List.setIfInBounds_toArray, List.set_cons_zero, List.set_cons_succ]))
    (refine wpAnyH_take (i := 11) (v := ?tv8) rfl (by kernel_rfl) (by kernel_rfl) (by kernel_rfl) (fun _ _ _ h => h) (Or.inl ⟨by kernel_rfl, ?ty8⟩) (by assumption) ?tr8; (case ty8 => (intro w' hSw; (try dsimp only at hSw); go_simp <;> with_reducible rfl)); (try simp only [Act.put, List.getElem_toArray, List.getElem_cons_succ, List.getElem_cons_zero, List.setIfInBounds_toArray, List.set_cons_zero, List.set_cons_succ]))
    refine wpAnyH_ready (rs := [6]) (by kernel_rfl) (by simp) ?_
    refine (AllReadyH.cons rfl (fun K hK => ?_) AllReadyH.nil)
    (go_simp; go_at_call 108; refine (pick_any _ g _ _ _ Dwa0.out (by omega)).mono ?_; rintro e wa1 ⟨k4, rfl, k40, k41, _, hr4, ho4, hs4⟩; (try go_wp2_with fail); have Owa1 := Lib.hid (Only.only ho4 (Nat.le_refl _) (Nat.le_refl _) Owa0.out); have Dwa1 := Lib.hid hr4; clear hr4 ho4 hs4 k41)
    refine hK.out _ _ ?_ (fun hHeld => ?_)
    focus ((try dsimp only); (first | done | first | exact ⟨t0, t1⟩ | exact ⟨Only.cell Owa1.out p0 (by omega), Only.cell Owa1.out p1 (by omega)⟩))
    clear hK K
    (try simp only [Act.put, List.getElem_toArray, List.getElem_cons_succ, List.getElem_cons_zero, List.setIfInBounds_toArray, List.set_cons_zero, List.set_cons_succ])
    (refine wpAnyH_take (i := 7) (v := ?tv10) rfl (by kernel_rfl) (by kernel_rfl) (by kernel_rfl) (fun _ _ _ h => h) (Or.inl ⟨by kernel_rfl, ?ty10⟩) (by assumption) ?tr10; (case ty10 => (intro w' hSw; (try dsimp only at hSw); go_simp <;> with_reducible rfl)); (try simp only [Act.put, List.getElem_toArray, List.getElem_cons_succ, List.getElem_cons_zero, List.setIfInBounds_toArray, List.set_cons_zero, List.set_cons_succ]))
    refine wpAnyH_ready (rs := [9]) (by kernel_rfl) (by simp) ?_
    refine (AllReadyH.cons rfl (fun K hK => ?_) AllReadyH.nil)
    (go_simp; go_at_call 108; refine (pick_any _ g _ _ _ Dwa1.out (by omega)).mono ?_; rintro e wa2 ⟨k5, rfl, k50, k51, _, hr4, ho4, hs4⟩; (try go_wp2_with fail); have Owa2 := Lib.hid (Only.only ho4 (Nat.le_refl _) (Nat.le_refl _) Owa1.out); have Dwa2 := Lib.hid hr4; clear hr4 ho4 hs4 k51)
    refine hK.out _ _ ?_ (fun hHeld => ?_)
    focus ((try dsimp only); (first | done | first | exact ⟨t0, t1⟩ | exact ⟨Only.cell Owa2.out p0 (by omega), Only.cell Owa2.out p1 (by omega)⟩))
    clear hK K
    (try simp only [Act.put, List.getElem_toArray, List.getElem_cons_succ, List.getElem_cons_zero, List.setIfInBounds_toArray, List.set_cons_zero, List.set_cons_succ])
    (refine wpAnyH_take (i := 10) (v := ?tv12) rfl (by kernel_rfl) (by kernel_rfl) (by kernel_rfl) (fun _ _ _ h => h) (Or.inl ⟨by kernel_rfl, ?ty12⟩) (by assumption) ?tr12; (case ty12 => (intro w' hSw; (try dsimp only at hSw); go_simp <;> with_reducible rfl)); (try simp only [Act.put, List.getElem_toArray, List.getElem_cons_succ, List.getElem_cons_zero, List.setIfInBounds_toArray, List.set_cons_zero, List.set_cons_succ]))
    refine wpAnyH_ready (rs := [12]) (by kernel_rfl) (by simp) ?_
    refine (AllReadyH.cons rfl (fun K hK => ?_) AllReadyH.nil)
    (go_simp; go_at_call 108; refine (pick_any _ g _ _ _ Dwa2.out (by omega)).mono ?_; rintro e wa3 ⟨k6, rfl, k60, k61, _, hr4, ho4, hs4⟩; (try go_wp2_with fail); have Owa3 := Lib.hid (Only.only ho4 (Nat.le_refl _) (Nat.le_refl _) Owa2.out); have Dwa3 := Lib.hid hr4; clear hr4 ho4 hs4 k61)
    refine hK.out _ _ ?_ (fun hHeld => ?_)
    focus ((try dsimp only); (first | done | first | exact ⟨t0, t1⟩ | exact ⟨Only.cell Owa3.out p0 (by omega), Only.cell Owa3.out p1 (by omega)⟩))
    clear hK K
    (try simp only [Act.put, List.getElem_toArray, List.getElem_cons_succ, List.getElem_cons_zero, List.setIfInBounds_toArray, List.set_cons_zero, List.set_cons_succ])
    (refine wpAnyH_take (i := 13) (v := ?tv14) rfl (by kernel_rfl) (by kernel_rfl) (by kernel_rfl) (fun _ _ _ h => h) (Or.inl ⟨by kernel_rfl, ?ty14⟩) (by assumption) ?tr14; (case ty14 => (intro w' hSw; (try dsimp only at hSw); go_simp <;> with_reducible rfl)); (try simp only [Act.put, List.getElem_toArray, List.getElem_cons_succ, List.getElem_cons_zero, List.setIfInBounds_toArray, List.set_cons_zero, List.set_cons_succ]))
    (refine wpAnyH_take (i := 14) (v := ?tv15) rfl (by kernel_rfl) (by kernel_rfl) (by kernel_rfl) (fun _ _ _ h => h) (Or.inl ⟨by kernel_rfl, ?ty15⟩) (by assumption) ?tr15; (case ty15 => (intro w' hSw; (try dsimp only at hSw); go_simp <;> with_reducible rfl)); (try simp only [Act.put, List.getElem_toArray, List.getElem_cons_succ, List.getElem_cons_zero, List.setIfInBounds_toArray, List.set_cons_zero, List.set_cons_succ]))
    (refine wpAnyH_take (i := 15) (v := ?tv16) rfl (by kernel_rfl) (by kernel_rfl) (by kernel_rfl) (fun _ _ _ h => h) (Or.inl ⟨by kernel_rfl, ?ty16⟩) (by assumption) ?tr16; (case ty16 => (intro w' hSw; (try dsimp only at hSw); go_simp <;> with_reducible rfl)); (try simp only [Act.put, List.getElem_toArray, List.getElem_cons_succ, List.getElem_cons_zero, List.setIfInBounds_toArray, List.set_cons_zero, List.set_cons_succ]))
    refine wpAnyH_ready (rs := [16]) (by kernel_rfl) (by simp) ?_
    refine (AllReadyH.cons rfl (fun K hK => ?_) AllReadyH.nil)
    (have Qwa4 := Lib.hid (HQ.out.only Owa3.out (by omega)); obtain ⟨q0, q1, fr0, fr1⟩ := Qwa4.out.two; go_simp; refine name_k (fun wa4 hwa4 => ?_); have Wwa4 := Lib.hid hwa4; have Uwa4 : Only g (g + 1) w3 wa3 := Owa3.out; have t0 : wa4.cell? ⟨w2.heap.size, 0, none⟩ = some (.int .i64 n) := (by rw [hwa4]; exact cS (cS (Only.cell Uwa4 p0 (by omega)) (by omega)) (by omega)); have t1 : wa4.cell? ⟨w2.heap.size, 1, none⟩ = some (.slice A2 bs.length c2) := (by rw [hwa4]; exact cS (cS (Only.cell Uwa4 p1 (by omega)) (by omega)) (by omega)); have Owa4 := Owa3; clear hwa4 q0 q1 fr0 fr1)
    refine hK.out _ _ ?_ (fun hHeld => ?_)
    focus ((try dsimp only); (first | done | first | exact ⟨t0, t1⟩ | exact ⟨Only.cell Owa4.out p0 (by omega), Only.cell Owa4.out p1 (by omega)⟩))
    clear hK K
    (try simp only [Act.put, List.getElem_toArray, List.getElem_cons_succ, List.getElem_cons_zero, List.setIfInBounds_toArray, List.set_cons_zero, List.set_cons_succ])
    (refine wpAnyH_take (i := 17) (v := ?tv18) rfl (by kernel_rfl) (by kernel_rfl) (by kernel_rfl) (fun _ _ _ h => h) (Or.inl ⟨by kernel_rfl, ?ty18⟩) (by assumption) ?tr18; (case ty18 => (intro w' hSw; (try dsimp only at hSw); go_simp <;> with_reducible rfl)); (try simp only [Act.put, List.getElem_toArray, List.getElem_cons_succ, List.getElem_cons_zero, List.setIfInBounds_toArray, List.set_cons_zero, List.set_cons_succ]))
    refine wpAnyH_done (by kernel_rfl) ?_ _
    have Q3 := Lib.hid (HQ.out.only Owa3.out (by omega))
    have E4 := Lib.hid (HRB.out.same (Same.of_only Owa3.out (.inr (by omega))) (by omega))
    have B4 := Lib.hid (viaOnly Owa3.out (by omega) HB.out)
    have hz4 := Owa3.out.size
    generalize IntKind.i64.wrap (IntKind.i64.wrap (IntKind.i64.wrap (k4.tdiv 2) * k5) + IntKind.i64.wrap (IntKind.i64.wrap (k6.tdiv 29) * 9)) = d
    have t2 := Wwa4.out
    have u0 : wa4.cell? ⟨w.heap.size, 0, none⟩ = some (.int .i64 n) := by rw [t2]; exact (((Q3.out.set_ 0 _).set_ 1 _).cell 0)
    have u1 : wa4.cell? ⟨w.heap.size, 1, none⟩ = some (.slice A2 bs.length c2) := by rw [t2]; exact (((Q3.out.set_ 0 _).set_ 1 _).cell 1)
    clear t0 t1 t2 p0 p1
    go_wp2
    refine bodyPost_ret (v := .tuple #[.agg #[.int .i64 n, .slice A2 bs.length c2], .int .i64 d]) (by simp [results, Try.results64, go_sem, u0, u1]) rfl ⟨n, A2, c2, bs, d, rfl, HF.out, hc, HN.out, ?_, ?_⟩
    · rw [Wwa4.out, szc, szc]; exact ((E4.out.wide (lo' := w.heap.size) (hi' := wa3.heap.size) (by omega) (by omega)).box Q3.out).box (Q3.out.set_ 0 _)
    · rw [Wwa4.out]; exact vset (vset B4.out (Nat.le_refl _) _) (Nat.le_refl _) _
  · have hwn : IntKind.i64.wrap (n + 1) = n + 1 := IntWalk.i64_in _ ⟨by omega, by omega⟩
    refine wp_region_held_drew (S := (fun w' => w'.cell? ⟨w2.heap.size, 0, none⟩ = some (.int .i64 n) ∧ w'.cell? ⟨w2.heap.size, 1, none⟩ = some (.slice A2 bs.length c2))) (by kernel_rfl) ?_ (fun hHeld => ?_)
    · (try dsimp only)
      (first | done | exact ⟨cD p0, cD p1⟩)
    refine name_h (fun wa0 hwa0 => ?_)
    replace hHeld : ((fun w' => w'.cell? ⟨w2.heap.size, 0, none⟩ = some (.int .i64 n) ∧ w'.cell? ⟨w2.heap.size, 1, none⟩ = some (.slice A2 bs.length c2))) wa0 := by rw [hwa0]; exact hHeld
    (have Owa0 := Lib.hid (show Only g (g + 1) w3 wa0 by rw [hwa0]; exact (Only.refl _ _ _).drew); have Dwa0 := Lib.hid (show Rd wa0 (w.heap.size + 1) g (0 + 150) by rw [hwa0]; exact HD.out.drew))
    clear hwa0
    (refine wpAnyH_take (i := 0) (v := ?tv19) rfl (by kernel_rfl) (by kernel_rfl) (by kernel_rfl) (fun _ _ _ h => h) (Or.inl ⟨by kernel_rfl, ?ty19⟩) (by assumption) ?tr19; (case ty19 => (intro w' hSw; (try dsimp only at hSw); go_simp <;> with_reducible rfl)); (try simp only [Act.put, List.getElem_toArray, List.getElem_cons_succ, List.getElem_cons_zero, List.setIfInBounds_toArray, List.set_cons_zero, List.set_cons_succ]))
    (refine wpAnyH_take (i := 1) (v := ?tv20) rfl (by kernel_rfl) (by kernel_rfl) (by kernel_rfl) (fun _ _ _ h => h) (Or.inl ⟨by kernel_rfl, ?ty20⟩) (by assumption) ?tr20; (case ty20 => (intro w' hSw; (try dsimp only at hSw); go_simp <;> with_reducible rfl)); (try simp only [Act.put, List.getElem_toArray, List.getElem_cons_succ, List.getElem_cons_zero, List.setIfInBounds_toArray, List.set_cons_zero, List.set_cons_succ]))
    (refine wpAnyH_take (i := 2) (v := ?tv21) rfl (by kernel_rfl) (by kernel_rfl) (by kernel_rfl) (fun _ _ _ h => h) (Or.inl ⟨by kernel_rfl, ?ty21⟩) (by assumption) ?tr21; (case ty21 => (intro w' hSw; (try dsimp only at hSw); go_simp <;> with_reducible rfl)); (try simp only [Act.put, List.getElem_toArray, List.getElem_cons_succ, List.getElem_cons_zero, List.setIfInBounds_toArray, List.set_cons_zero, List.set_cons_succ]))
    (refine wpAnyH_take (i := 3) (v := ?tv22) rfl (by kernel_rfl) (by kernel_rfl) (by kernel_rfl) (fun _ _ _ h => h) (Or.inl ⟨by kernel_rfl, ?ty22⟩) (by assumption) ?tr22; (case ty22 => (intro w' hSw; (try dsimp only at hSw); go_simp <;> with_reducible rfl)); (try simp only [Act.put, List.getElem_toArray, List.getElem_cons_succ, List.getElem_cons_zero, List.setIfInBounds_toArray, List.set_cons_zero, List.set_cons_succ]))
    (refine wpAnyH_take (i := 4) (v := ?tv23) rfl (by kernel_rfl) (by kernel_rfl) (by kernel_rfl) (fun _ _ _ h => h) (Or.inl ⟨by kernel_rfl, ?ty23⟩) (by assumption) ?tr23; (case ty23 => (intro w' hSw; (try dsimp only at hSw); go_simp <;> with_reducible rfl)); (try simp only [Act.put, List.getElem_toArray, List.getElem_cons_succ, List.getElem_cons_zero, List.setIfInBounds_toArray, List.set_cons_zero, List.set_cons_succ]))
    (refine wpAnyH_take (i := 5) (v := ?tv24) rfl (by kernel_rfl) (by kernel_rfl) (by kernel_rfl) (fun _ _ _ h => h) (Or.inl ⟨by kernel_rfl, ?ty24⟩) (by assumption) ?tr24; (case ty24 => (intro w' hSw; (try dsimp only at hSw); go_simp <;> with_reducible rfl)); (try simp only [Act.put, List.getElem_toArray, List.getElem_cons_succ, List.getElem_cons_zero, List.setIfInBounds_toArray, List.set_cons_zero, List.set_cons_succ]))
    (refine wpAnyH_take (i := 8) (v := ?tv25) rfl (by kernel_rfl) (by kernel_rfl) (by kernel_rfl) (fun _ _ _ h => h) (Or.inl ⟨by kernel_rfl, ?ty25⟩) (by assumption) ?tr25; (case ty25 => (intro w' hSw; (try dsimp only at hSw); go_simp <;> with_reducible rfl)); (try simp only [Act.put, List.getElem_toArray, List.getElem_cons_succ, List.getElem_cons_zero, List.setIfInBounds_toArray, List.set_cons_zero, List.set_cons_succ]))
    (refine wpAnyH_take (i := 11) (v := ?tv26) rfl (by kernel_rfl) (by kernel_rfl) (by kernel_rfl) (fun _ _ _ h => h) (Or.inl ⟨by kernel_rfl, ?ty26⟩) (by assumption) ?tr26; (case ty26 => (intro w' hSw; (try dsimp only at hSw); go_simp <;> with_reducible rfl)); (try simp only [Act.put, List.getElem_toArray, List.getElem_cons_succ, List.getElem_cons_zero, List.setIfInBounds_toArray, List.set_cons_zero, List.set_cons_succ]))
    refine wpAnyH_ready (rs := [6]) (by kernel_rfl) (by simp) ?_
    refine (AllReadyH.cons rfl (fun K hK => ?_) AllReadyH.nil)
    (go_simp; go_at_call 108; refine (pick_any _ g _ _ _ Dwa0.out (by omega)).mono ?_; rintro e wa1 ⟨k4, rfl, k40, k41, _, hr4, ho4, hs4⟩; (try go_wp2_with fail); have Owa1 := Lib.hid (Only.only ho4 (Nat.le_refl _) (Nat.le_refl _) Owa0.out); have Dwa1 := Lib.hid hr4; clear hr4 ho4 hs4 k41)
    refine hK.out _ _ ?_ (fun hHeld => ?_)
    focus ((try dsimp only); (first | done | first | exact ⟨t0, t1⟩ | exact ⟨Only.cell Owa1.out p0 (by omega), Only.cell Owa1.out p1 (by omega)⟩))
    clear hK K
    (try simp only [Act.put, List.getElem_toArray, List.getElem_cons_succ, List.getElem_cons_zero, List.setIfInBounds_toArray, List.set_cons_zero, List.set_cons_succ])
    (refine wpAnyH_take (i := 7) (v := ?tv28) rfl (by kernel_rfl) (by kernel_rfl) (by kernel_rfl) (fun _ _ _ h => h) (Or.inl ⟨by kernel_rfl, ?ty28⟩) (by assumption) ?tr28; (case ty28 => (intro w' hSw; (try dsimp only at hSw); go_simp <;> with_reducible rfl)); (try simp only [Act.put, List.getElem_toArray, List.getElem_cons_succ, List.getElem_cons_zero, List.setIfInBounds_toArray, List.set_cons_zero, List.set_cons_succ]))
    refine wpAnyH_ready (rs := [9]) (by kernel_rfl) (by simp) ?_
    refine (AllReadyH.cons rfl (fun K hK => ?_) AllReadyH.nil)
    (go_simp; go_at_call 108; refine (pick_any _ g _ _ _ Dwa1.out (by omega)).mono ?_; rintro e wa2 ⟨k5, rfl, k50, k51, _, hr4, ho4, hs4⟩; (try go_wp2_with fail); have Owa2 := Lib.hid (Only.only ho4 (Nat.le_refl _) (Nat.le_refl _) Owa1.out); have Dwa2 := Lib.hid hr4; clear hr4 ho4 hs4 k51)
    refine hK.out _ _ ?_ (fun hHeld => ?_)
    focus ((try dsimp only); (first | done | first | exact ⟨t0, t1⟩ | exact ⟨Only.cell Owa2.out p0 (by omega), Only.cell Owa2.out p1 (by omega)⟩))
    clear hK K
    (try simp only [Act.put, List.getElem_toArray, List.getElem_cons_succ, List.getElem_cons_zero, List.setIfInBounds_toArray, List.set_cons_zero, List.set_cons_succ])
    (refine wpAnyH_take (i := 10) (v := ?tv30) rfl (by kernel_rfl) (by kernel_rfl) (by kernel_rfl) (fun _ _ _ h => h) (Or.inl ⟨by kernel_rfl, ?ty30⟩) (by assumption) ?tr30; (case ty30 => (intro w' hSw; (try dsimp only at hSw); go_simp <;> with_reducible rfl)); (try simp only [Act.put, List.getElem_toArray, List.getElem_cons_succ, List.getElem_cons_zero, List.setIfInBounds_toArray, List.set_cons_zero, List.set_cons_succ]))
    refine wpAnyH_ready (rs := [12]) (by kernel_rfl) (by simp) ?_
    refine (AllReadyH.cons rfl (fun K hK => ?_) AllReadyH.nil)
    (go_simp; go_at_call 108; refine (pick_any _ g _ _ _ Dwa2.out (by omega)).mono ?_; rintro e wa3 ⟨k6, rfl, k60, k61, _, hr4, ho4, hs4⟩; (try go_wp2_with fail); have Owa3 := Lib.hid (Only.only ho4 (Nat.le_refl _) (Nat.le_refl _) Owa2.out); have Dwa3 := Lib.hid hr4; clear hr4 ho4 hs4 k61)
    refine hK.out _ _ ?_ (fun hHeld => ?_)
    focus ((try dsimp only); (first | done | first | exact ⟨t0, t1⟩ | exact ⟨Only.cell Owa3.out p0 (by omega), Only.cell Owa3.out p1 (by omega)⟩))
    clear hK K
    (try simp only [Act.put, List.getElem_toArray, List.getElem_cons_succ, List.getElem_cons_zero, List.setIfInBounds_toArray, List.set_cons_zero, List.set_cons_succ])
    (refine wpAnyH_take (i := 13) (v := ?tv32) rfl (by kernel_rfl) (by kernel_rfl) (by kernel_rfl) (fun _ _ _ h => h) (Or.inl ⟨by kernel_rfl, ?ty32⟩) (by assumption) ?tr32; (case ty32 => (intro w' hSw; (try dsimp only at hSw); go_simp <;> with_reducible rfl)); (try simp only [Act.put, List.getElem_toArray, List.getElem_cons_succ, List.getElem_cons_zero, List.setIfInBounds_toArray, List.set_cons_zero, List.set_cons_succ]))
    (refine wpAnyH_take (i := 14) (v := ?tv33) rfl (by kernel_rfl) (by kernel_rfl) (by kernel_rfl) (fun _ _ _ h => h) (Or.inl ⟨by kernel_rfl, ?ty33⟩) (by assumption) ?tr33; (case ty33 => (intro w' hSw; (try dsimp only at hSw); go_simp <;> with_reducible rfl)); (try simp only [Act.put, List.getElem_toArray, List.getElem_cons_succ, List.getElem_cons_zero, List.setIfInBounds_toArray, List.set_cons_zero, List.set_cons_succ]))
    (refine wpAnyH_take (i := 15) (v := ?tv34) rfl (by kernel_rfl) (by kernel_rfl) (by kernel_rfl) (fun _ _ _ h => h) (Or.inl ⟨by kernel_rfl, ?ty34⟩) (by assumption) ?tr34; (case ty34 => (intro w' hSw; (try dsimp only at hSw); go_simp <;> with_reducible rfl)); (try simp only [Act.put, List.getElem_toArray, List.getElem_cons_succ, List.getElem_cons_zero, List.setIfInBounds_toArray, List.set_cons_zero, List.set_cons_succ]))
    refine wpAnyH_ready (rs := [16]) (by kernel_rfl) (by simp) ?_
    refine (AllReadyH.cons rfl (fun K hK => ?_) AllReadyH.nil)
    (have Qwa4 := Lib.hid (HQ.out.only Owa3.out (by omega)); obtain ⟨q0, q1, fr0, fr1⟩ := Qwa4.out.two; go_simp; refine name_k (fun wa4 hwa4 => ?_); have Wwa4 := Lib.hid hwa4; have Uwa4 : Only g (g + 1) w3 wa3 := Owa3.out; have t0 : wa4.cell? ⟨w2.heap.size, 0, none⟩ = some (.int .i64 n) := (by rw [hwa4]; exact cS (cS (Only.cell Uwa4 p0 (by omega)) (by omega)) (by omega)); have t1 : wa4.cell? ⟨w2.heap.size, 1, none⟩ = some (.slice A2 bs.length c2) := (by rw [hwa4]; exact cS (cS (Only.cell Uwa4 p1 (by omega)) (by omega)) (by omega)); have Owa4 := Owa3; clear hwa4 q0 q1 fr0 fr1)
    refine hK.out _ _ ?_ (fun hHeld => ?_)
    focus ((try dsimp only); (first | done | first | exact ⟨t0, t1⟩ | exact ⟨Only.cell Owa4.out p0 (by omega), Only.cell Owa4.out p1 (by omega)⟩))
    clear hK K
    (try simp only [Act.put, List.getElem_toArray, List.getElem_cons_succ, List.getElem_cons_zero, List.setIfInBounds_toArray, List.set_cons_zero, List.set_cons_succ])
    (refine wpAnyH_take (i := 17) (v := ?tv36) rfl (by kernel_rfl) (by kernel_rfl) (by kernel_rfl) (fun _ _ _ h => h) (Or.inl ⟨by kernel_rfl, ?ty36⟩) (by assumption) ?tr36; (case ty36 => (intro w' hSw; (try dsimp only at hSw); go_simp <;> with_reducible rfl)); (try simp only [Act.put, List.getElem_toArray, List.getElem_cons_succ, List.getElem_cons_zero, List.setIfInBounds_toArray, List.set_cons_zero, List.set_cons_succ]))
    refine wpAnyH_done (by kernel_rfl) ?_ _
    have Q3 := Lib.hid (HQ.out.only Owa3.out (by omega))
    have E4 := Lib.hid (HRB.out.same (Same.of_only Owa3.out (.inr (by omega))) (by omega))
    have B4 := Lib.hid (viaOnly Owa3.out (by omega) HB.out)
    have hz4 := Owa3.out.size
    generalize IntKind.i64.wrap (IntKind.i64.wrap (IntKind.i64.wrap (k4.tdiv 2) * k5) + IntKind.i64.wrap (IntKind.i64.wrap (k6.tdiv 29) * 9)) = d
    have t2 := Wwa4.out
    have u0 : wa4.cell? ⟨w.heap.size, 0, none⟩ = some (.int .i64 n) := by rw [t2]; exact (((Q3.out.set_ 0 _).set_ 1 _).cell 0)
    have u1 : wa4.cell? ⟨w.heap.size, 1, none⟩ = some (.slice A2 bs.length c2) := by rw [t2]; exact (((Q3.out.set_ 0 _).set_ 1 _).cell 1)
    clear t0 t1 t2 p0 p1
    go_wp2
    refine bodyPost_ret (v := .tuple #[.agg #[.int .i64 n, .slice A2 bs.length c2], .int .i64 d]) (by simp [results, Try.results64, go_sem, u0, u1]) rfl ⟨n, A2, c2, bs, d, rfl, HF.out, hc, HN.out, ?_, ?_⟩
    · rw [Wwa4.out, szc, szc]; exact ((E4.out.wide (lo' := w.heap.size) (hi' := wa3.heap.size) (by omega) (by omega)).box Q3.out).box (Q3.out.set_ 0 _)
    · rw [Wwa4.out]; exact vset (vset B4.out (Nat.le_refl _) _) (Nat.le_refl _) _
end Go.Proofs.Ytnompncmachgjaa
