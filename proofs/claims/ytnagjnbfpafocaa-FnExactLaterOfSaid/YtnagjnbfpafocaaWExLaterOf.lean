/- The walk of the law FnExactLaterOf: it returns true and changes nothing that was there; no condition but that the rows' lengths are those of slices. -/
import Derived.Test.YtnagjnbfpafocaaLists
import Derived.Test.YtnagjnbfpafocaaMarks
import Derived.Deep.RegionHeld3
namespace Go.Proofs.Ytnagjnbfpafocaa
open Go.RowKit
set_option linter.unusedVariables false
set_option linter.unusedSimpArgs false

set_option maxHeartbeats 4000000 in
theorem FnExactLaterOf_walk (n0 : Int) (A0 : Option Addr) (c0 : Nat) (bs0 : List Bd) (A1 : Option Addr) (c1 : Nat) (xs1 : List Int) (A2 : Option Addr) (c2 : Nat) (xs2 : List Int) (w : World) (hB0 : BAt w A0 bs0) (hl0 : bs0.length ≤ 9223372036854775807) (hB1 : IAt w A1 xs1) (hl1 : xs1.length ≤ 9223372036854775807) (hB2 : IAt w A2 xs2) (hl2 : xs2.length ≤ 9223372036854775807) :
    Calls Try.prog 14 #[.agg #[.int .i64 n0, .slice A0 bs0.length c0], .slice A1 xs1.length c1, .slice A2 xs2.length c2] w fun e w' => e = .returned (.bool true) ∧ Below w.heap.size w w' := by
  by_cases hL1 : (1048576 : Int) < (xs1.length : Int)
  · go_enter Try.func14, Try.ntmps14
    go_wp2
    go_ret
    refine ⟨rfl, ?_⟩
    repeat (first | with_reducible exact Below.refl _ _ | with_reducible refine valloc ?_ _ | with_reducible refine vdrew ?_ | with_reducible refine vdrewN ?_ _ | with_reducible refine via (by assumption) ?_ | refine viaOnly (by assumption) (by omega) ?_)
  by_cases hL2 : (1048576 : Int) < (xs2.length : Int)
  · go_enter Try.func14, Try.ntmps14
    go_wp2
    go_ret
    refine ⟨rfl, ?_⟩
    repeat (first | with_reducible exact Below.refl _ _ | with_reducible refine valloc ?_ _ | with_reducible refine vdrew ?_ | with_reducible refine vdrewN ?_ _ | with_reducible refine via (by assumption) ?_ | refine viaOnly (by assumption) (by omega) ?_)
  by_cases hS0 : (1048576 : Int) - (bs0.length : Int) < 0
  · go_enter Try.func14, Try.ntmps14
    go_wp2_with fail
    refine (szPlan_any _ _ _ _ _ _ (by omega) (by omega) (by omega)).mono ?_; rintro e w1 ⟨rfl, hbw1⟩
    have q0_0 : w1.cell? ⟨w.heap.size, 0, none⟩ = some (.int .i64 n0) := (hbw1.cell (p := ⟨w.heap.size, 0, none⟩) (by simp <;> omega)).trans (by simp)
    have q0_1 : w1.cell? ⟨w.heap.size, 1, none⟩ = some (.slice A0 bs0.length c0) := (hbw1.cell (p := ⟨w.heap.size, 1, none⟩) (by simp <;> omega)).trans (by simp)
    have hzw1 : w.heap.size ≤ w1.heap.size := (by have := hbw1.size; (try simp only [sz] at this); (try simp only [szc] at this); first | exact this | omega)
    have hlt1_q0_0 := cell_lt q0_0
    go_wp2
    go_ret
    refine ⟨rfl, ?_⟩
    repeat (first | with_reducible exact Below.refl _ _ | with_reducible refine valloc ?_ _ | with_reducible refine vdrew ?_ | with_reducible refine vdrewN ?_ _ | with_reducible refine via (by assumption) ?_ | refine viaOnly (by assumption) (by omega) ?_)
  have hm0 : bs0.length ≤ 1048576 := by omega
  have hm1 : xs1.length ≤ 1048576 := by omega
  have hm2 : xs2.length ≤ 1048576 := by omega
  have hres : (laterOf n0 bs0 xs1 xs2).length ≤ 1048576 := Nat.le_trans (laterOf_len _ _ _ _) hm1
  go_enter Try.func14, Try.ntmps14
  go_wp2_with fail
  refine (szPlan_any _ _ _ _ _ _ (by omega) (by omega) (by omega)).mono ?_; rintro e w1 ⟨rfl, hbw1⟩
  have q0_0 : w1.cell? ⟨w.heap.size, 0, none⟩ = some (.int .i64 n0) := (hbw1.cell (p := ⟨w.heap.size, 0, none⟩) (by simp <;> omega)).trans (by simp)
  have q0_1 : w1.cell? ⟨w.heap.size, 1, none⟩ = some (.slice A0 bs0.length c0) := (hbw1.cell (p := ⟨w.heap.size, 1, none⟩) (by simp <;> omega)).trans (by simp)
  have hzw1 : w.heap.size ≤ w1.heap.size := (by have := hbw1.size; (try simp only [sz] at this); (try simp only [szc] at this); first | exact this | omega)
  have hlt1_q0_0 := cell_lt q0_0
  go_wp2_with fail
  refine (toPlan_any _ _ _ bs0 _ (hB0.below (by repeat (first | with_reducible exact Below.refl _ _ | with_reducible refine valloc ?_ _ | with_reducible refine vdrew ?_ | with_reducible refine vdrewN ?_ _ | with_reducible refine via (by assumption) ?_ | refine viaOnly (by assumption) (by omega) ?_))) (by omega)).mono ?_; rintro e w2 ⟨G2, rfl, r2, hbw2⟩
  have hzw2 : w1.heap.size ≤ w2.heap.size := (by have := hbw2.size; (try simp only [sz] at this); (try simp only [szc] at this); first | exact this | omega)
  replace q0_0 : w2.cell? ⟨w.heap.size, 0, none⟩ = some (.int .i64 n0) := by first | exact cB hbw2 q0_0 | exact cB hbw2 (cA q0_0 _) | exact cB hbw2 (cA (cA q0_0 _) _)
  replace q0_1 : w2.cell? ⟨w.heap.size, 1, none⟩ = some (.slice A0 bs0.length c0) := by first | exact cB hbw2 q0_1 | exact cB hbw2 (cA q0_1 _) | exact cB hbw2 (cA (cA q0_1 _) _)
  have hlt2_q0_0 := cell_lt q0_0
  replace r2 := r2.wide (lo' := w1.heap.size) (hi' := w2.heap.size) (by first | exact Nat.le_refl _ | (simp only [sz, szc]; omega)) (Nat.le_refl _)
  go_wp2_with fail
  refine (toIntS_any _ _ xs1 _ (hB1.below (by repeat (first | with_reducible exact Below.refl _ _ | with_reducible refine valloc ?_ _ | with_reducible refine vdrew ?_ | with_reducible refine vdrewN ?_ _ | with_reducible refine via (by assumption) ?_ | refine viaOnly (by assumption) (by omega) ?_))) (by omega)).mono ?_; rintro e w3 ⟨G3, rfl, r3, hbw3⟩
  have hzw3 : w2.heap.size ≤ w3.heap.size := (by have := hbw3.size; (try simp only [sz] at this); (try simp only [szc] at this); first | exact this | omega)
  replace q0_0 : w3.cell? ⟨w.heap.size, 0, none⟩ = some (.int .i64 n0) := by first | exact cB hbw3 q0_0 | exact cB hbw3 (cA q0_0 _) | exact cB hbw3 (cA (cA q0_0 _) _)
  replace q0_1 : w3.cell? ⟨w.heap.size, 1, none⟩ = some (.slice A0 bs0.length c0) := by first | exact cB hbw3 q0_1 | exact cB hbw3 (cA q0_1 _) | exact cB hbw3 (cA (cA q0_1 _) _)
  have hlt3_q0_0 := cell_lt q0_0
  replace r3 := r3.wide (lo' := w2.heap.size) (hi' := w3.heap.size) (by first | exact Nat.le_refl _ | (simp only [sz, szc]; omega)) (Nat.le_refl _)
  go_wp2_with fail
  refine (toIntS_any _ _ xs2 _ (hB2.below (by repeat (first | with_reducible exact Below.refl _ _ | with_reducible refine valloc ?_ _ | with_reducible refine vdrew ?_ | with_reducible refine vdrewN ?_ _ | with_reducible refine via (by assumption) ?_ | refine viaOnly (by assumption) (by omega) ?_))) (by omega)).mono ?_; rintro e w4 ⟨G4, rfl, r4, hbw4⟩
  have hzw4 : w3.heap.size ≤ w4.heap.size := (by have := hbw4.size; (try simp only [sz] at this); (try simp only [szc] at this); first | exact this | omega)
  replace q0_0 : w4.cell? ⟨w.heap.size, 0, none⟩ = some (.int .i64 n0) := by first | exact cB hbw4 q0_0 | exact cB hbw4 (cA q0_0 _) | exact cB hbw4 (cA (cA q0_0 _) _)
  replace q0_1 : w4.cell? ⟨w.heap.size, 1, none⟩ = some (.slice A0 bs0.length c0) := by first | exact cB hbw4 q0_1 | exact cB hbw4 (cA q0_1 _) | exact cB hbw4 (cA (cA q0_1 _) _)
  have hlt4_q0_0 := cell_lt q0_0
  replace r4 := r4.wide (lo' := w3.heap.size) (hi' := w4.heap.size) (by first | exact Nat.le_refl _ | (simp only [sz, szc]; omega)) (Nat.le_refl _)
  go_wp2_with fail
  refine (specLaterOf_any _ _ _ _ _ _ _ _ _ _ _ (r2.same (by repeat (first | with_reducible exact Same.refl _ _ _ | with_reducible refine Same.alloc ?_ _ | with_reducible refine Same.drew ?_ | with_reducible refine Same.drewN ?_ _ | with_reducible refine Same.below (by assumption) ?_ | refine Same.only (by assumption) (by omega) ?_)) (Nat.le_refl _)).bat (r3.same (by repeat (first | with_reducible exact Same.refl _ _ _ | with_reducible refine Same.alloc ?_ _ | with_reducible refine Same.drew ?_ | with_reducible refine Same.drewN ?_ _ | with_reducible refine Same.below (by assumption) ?_ | refine Same.only (by assumption) (by omega) ?_)) (Nat.le_refl _)).iat (r4.same (by repeat (first | with_reducible exact Same.refl _ _ _ | with_reducible refine Same.alloc ?_ _ | with_reducible refine Same.drew ?_ | with_reducible refine Same.drewN ?_ _ | with_reducible refine Same.below (by assumption) ?_ | refine Same.only (by assumption) (by omega) ?_)) (Nat.le_refl _)).iat (by omega) (by omega) (by omega)).mono ?_; rintro e w5 ⟨G5, C5, rfl, r5, hbw5⟩
  have hzw5 : w4.heap.size ≤ w5.heap.size := (by have := hbw5.size; (try simp only [sz] at this); (try simp only [szc] at this); first | exact this | omega)
  replace q0_0 : w5.cell? ⟨w.heap.size, 0, none⟩ = some (.int .i64 n0) := by first | exact cB hbw5 q0_0 | exact cB hbw5 (cA q0_0 _) | exact cB hbw5 (cA (cA q0_0 _) _)
  replace q0_1 : w5.cell? ⟨w.heap.size, 1, none⟩ = some (.slice A0 bs0.length c0) := by first | exact cB hbw5 q0_1 | exact cB hbw5 (cA q0_1 _) | exact cB hbw5 (cA (cA q0_1 _) _)
  have hlt5_q0_0 := cell_lt q0_0
  replace r5 := r5.wide (lo' := w4.heap.size) (hi' := w5.heap.size) (by first | exact Nat.le_refl _ | (simp only [sz, szc]; omega)) (Nat.le_refl _)
  go_wp2_with fail
  refine (toPlan_any _ _ _ bs0 _ (hB0.below (by repeat (first | with_reducible exact Below.refl _ _ | with_reducible refine valloc ?_ _ | with_reducible refine vdrew ?_ | with_reducible refine vdrewN ?_ _ | with_reducible refine via (by assumption) ?_ | refine viaOnly (by assumption) (by omega) ?_))) (by omega)).mono ?_; rintro e w6 ⟨G6, rfl, r6, hbw6⟩
  have hzw6 : w5.heap.size ≤ w6.heap.size := (by have := hbw6.size; (try simp only [sz] at this); (try simp only [szc] at this); first | exact this | omega)
  replace q0_0 : w6.cell? ⟨w.heap.size, 0, none⟩ = some (.int .i64 n0) := by first | exact cB hbw6 q0_0 | exact cB hbw6 (cA q0_0 _) | exact cB hbw6 (cA (cA q0_0 _) _)
  replace q0_1 : w6.cell? ⟨w.heap.size, 1, none⟩ = some (.slice A0 bs0.length c0) := by first | exact cB hbw6 q0_1 | exact cB hbw6 (cA q0_1 _) | exact cB hbw6 (cA (cA q0_1 _) _)
  have hlt6_q0_0 := cell_lt q0_0
  replace r6 := r6.wide (lo' := w5.heap.size) (hi' := w6.heap.size) (by first | exact Nat.le_refl _ | (simp only [sz, szc]; omega)) (Nat.le_refl _)
  go_wp2_with fail
  refine (toIntS_any _ _ xs1 _ (hB1.below (by repeat (first | with_reducible exact Below.refl _ _ | with_reducible refine valloc ?_ _ | with_reducible refine vdrew ?_ | with_reducible refine vdrewN ?_ _ | with_reducible refine via (by assumption) ?_ | refine viaOnly (by assumption) (by omega) ?_))) (by omega)).mono ?_; rintro e w7 ⟨G7, rfl, r7, hbw7⟩
  have x0_0 : w7.cell? ⟨w6.heap.size, 0, none⟩ = some (.int .i64 n0) := (hbw7.cell (p := ⟨w6.heap.size, 0, none⟩) (by simp <;> omega)).trans (by simp)
  have x0_1 : w7.cell? ⟨w6.heap.size, 1, none⟩ = some (.slice G6 bs0.length bs0.length) := (hbw7.cell (p := ⟨w6.heap.size, 1, none⟩) (by simp <;> omega)).trans (by simp)
  have hzw7 : w6.heap.size ≤ w7.heap.size := (by have := hbw7.size; (try simp only [sz] at this); (try simp only [szc] at this); first | exact this | omega)
  replace q0_0 : w7.cell? ⟨w.heap.size, 0, none⟩ = some (.int .i64 n0) := by first | exact cB hbw7 q0_0 | exact cB hbw7 (cA q0_0 _) | exact cB hbw7 (cA (cA q0_0 _) _)
  replace q0_1 : w7.cell? ⟨w.heap.size, 1, none⟩ = some (.slice A0 bs0.length c0) := by first | exact cB hbw7 q0_1 | exact cB hbw7 (cA q0_1 _) | exact cB hbw7 (cA (cA q0_1 _) _)
  have hlt7_q0_0 := cell_lt q0_0
  have hlt7_x0_0 := cell_lt x0_0
  replace r7 := r7.wide (lo' := w6.heap.size + 1) (hi' := w7.heap.size) (by first | exact Nat.le_refl _ | (simp only [sz, szc]; omega)) (Nat.le_refl _)
  go_wp2_with fail
  refine (toIntS_any _ _ xs2 _ (hB2.below (by repeat (first | with_reducible exact Below.refl _ _ | with_reducible refine valloc ?_ _ | with_reducible refine vdrew ?_ | with_reducible refine vdrewN ?_ _ | with_reducible refine via (by assumption) ?_ | refine viaOnly (by assumption) (by omega) ?_))) (by omega)).mono ?_; rintro e w8 ⟨G8, rfl, r8, hbw8⟩
  have hzw8 : w7.heap.size ≤ w8.heap.size := (by have := hbw8.size; (try simp only [sz] at this); (try simp only [szc] at this); first | exact this | omega)
  replace q0_0 : w8.cell? ⟨w.heap.size, 0, none⟩ = some (.int .i64 n0) := by first | exact cB hbw8 q0_0 | exact cB hbw8 (cA q0_0 _) | exact cB hbw8 (cA (cA q0_0 _) _)
  replace q0_1 : w8.cell? ⟨w.heap.size, 1, none⟩ = some (.slice A0 bs0.length c0) := by first | exact cB hbw8 q0_1 | exact cB hbw8 (cA q0_1 _) | exact cB hbw8 (cA (cA q0_1 _) _)
  replace x0_0 : w8.cell? ⟨w6.heap.size, 0, none⟩ = some (.int .i64 n0) := by first | exact cB hbw8 x0_0 | exact cB hbw8 (cA x0_0 _) | exact cB hbw8 (cA (cA x0_0 _) _)
  replace x0_1 : w8.cell? ⟨w6.heap.size, 1, none⟩ = some (.slice G6 bs0.length bs0.length) := by first | exact cB hbw8 x0_1 | exact cB hbw8 (cA x0_1 _) | exact cB hbw8 (cA (cA x0_1 _) _)
  have hlt8_q0_0 := cell_lt q0_0
  have hlt8_x0_0 := cell_lt x0_0
  replace r8 := r8.wide (lo' := w7.heap.size) (hi' := w8.heap.size) (by first | exact Nat.le_refl _ | (simp only [sz, szc]; omega)) (Nat.le_refl _)
  go_wp2_with fail
  refine (laterOf_any _ _ _ _ _ _ _ _ _ _ _ (r6.same (by repeat (first | with_reducible exact Same.refl _ _ _ | with_reducible refine Same.alloc ?_ _ | with_reducible refine Same.drew ?_ | with_reducible refine Same.drewN ?_ _ | with_reducible refine Same.below (by assumption) ?_ | refine Same.only (by assumption) (by omega) ?_)) (Nat.le_refl _)).bat (r7.same (by repeat (first | with_reducible exact Same.refl _ _ _ | with_reducible refine Same.alloc ?_ _ | with_reducible refine Same.drew ?_ | with_reducible refine Same.drewN ?_ _ | with_reducible refine Same.below (by assumption) ?_ | refine Same.only (by assumption) (by omega) ?_)) (Nat.le_refl _)).iat (r8.same (by repeat (first | with_reducible exact Same.refl _ _ _ | with_reducible refine Same.alloc ?_ _ | with_reducible refine Same.drew ?_ | with_reducible refine Same.drewN ?_ _ | with_reducible refine Same.below (by assumption) ?_ | refine Same.only (by assumption) (by omega) ?_)) (Nat.le_refl _)).iat (by omega) (by omega) (by omega)).mono ?_; rintro e w9 ⟨G9, C9, rfl, r9, hbw9⟩
  have hzw9 : w8.heap.size ≤ w9.heap.size := (by have := hbw9.size; (try simp only [sz] at this); (try simp only [szc] at this); first | exact this | omega)
  replace q0_0 : w9.cell? ⟨w.heap.size, 0, none⟩ = some (.int .i64 n0) := by first | exact cB hbw9 q0_0 | exact cB hbw9 (cA q0_0 _) | exact cB hbw9 (cA (cA q0_0 _) _)
  replace q0_1 : w9.cell? ⟨w.heap.size, 1, none⟩ = some (.slice A0 bs0.length c0) := by first | exact cB hbw9 q0_1 | exact cB hbw9 (cA q0_1 _) | exact cB hbw9 (cA (cA q0_1 _) _)
  replace x0_0 : w9.cell? ⟨w6.heap.size, 0, none⟩ = some (.int .i64 n0) := by first | exact cB hbw9 x0_0 | exact cB hbw9 (cA x0_0 _) | exact cB hbw9 (cA (cA x0_0 _) _)
  replace x0_1 : w9.cell? ⟨w6.heap.size, 1, none⟩ = some (.slice G6 bs0.length bs0.length) := by first | exact cB hbw9 x0_1 | exact cB hbw9 (cA x0_1 _) | exact cB hbw9 (cA (cA x0_1 _) _)
  have hlt9_q0_0 := cell_lt q0_0
  have hlt9_x0_0 := cell_lt x0_0
  replace r9 := r9.wide (lo' := w8.heap.size) (hi' := w9.heap.size) (by first | exact Nat.le_refl _ | (simp only [sz, szc]; omega)) (Nat.le_refl _)
  go_wp2_with fail
  refine (eqIntS_same _ _ _ _ _ _ (r9.same (by repeat (first | with_reducible exact Same.refl _ _ _ | with_reducible refine Same.alloc ?_ _ | with_reducible refine Same.drew ?_ | with_reducible refine Same.drewN ?_ _ | with_reducible refine Same.below (by assumption) ?_ | refine Same.only (by assumption) (by omega) ?_)) (Nat.le_refl _)).iat (r5.same (by repeat (first | with_reducible exact Same.refl _ _ _ | with_reducible refine Same.alloc ?_ _ | with_reducible refine Same.drew ?_ | with_reducible refine Same.drewN ?_ _ | with_reducible refine Same.below (by assumption) ?_ | refine Same.only (by assumption) (by omega) ?_)) (Nat.le_refl _)).iat (by omega)).mono ?_; rintro e w10 ⟨rfl, hbw10⟩
  have hzw10 : w9.heap.size ≤ w10.heap.size := (by have := hbw10.size; (try simp only [sz] at this); (try simp only [szc] at this); first | exact this | omega)
  replace q0_0 : w10.cell? ⟨w.heap.size, 0, none⟩ = some (.int .i64 n0) := by first | exact cB hbw10 q0_0 | exact cB hbw10 (cA q0_0 _) | exact cB hbw10 (cA (cA q0_0 _) _)
  replace q0_1 : w10.cell? ⟨w.heap.size, 1, none⟩ = some (.slice A0 bs0.length c0) := by first | exact cB hbw10 q0_1 | exact cB hbw10 (cA q0_1 _) | exact cB hbw10 (cA (cA q0_1 _) _)
  replace x0_0 : w10.cell? ⟨w6.heap.size, 0, none⟩ = some (.int .i64 n0) := by first | exact cB hbw10 x0_0 | exact cB hbw10 (cA x0_0 _) | exact cB hbw10 (cA (cA x0_0 _) _)
  replace x0_1 : w10.cell? ⟨w6.heap.size, 1, none⟩ = some (.slice G6 bs0.length bs0.length) := by first | exact cB hbw10 x0_1 | exact cB hbw10 (cA x0_1 _) | exact cB hbw10 (cA (cA x0_1 _) _)
  have hlt10_q0_0 := cell_lt q0_0
  have hlt10_x0_0 := cell_lt x0_0
  go_wp2_with fail
  go_region_held3 (fun w' => w'.cell? ⟨w.heap.size, 0, none⟩ = some (.int .i64 n0) ∧ w'.cell? ⟨w.heap.size, 1, none⟩ = some (.slice A0 bs0.length c0) ∧ w'.cell? ⟨w6.heap.size, 0, none⟩ = some (.int .i64 n0) ∧ w'.cell? ⟨w6.heap.size, 1, none⟩ = some (.slice G6 bs0.length bs0.length)) (first | go_keep | (go_split_ands; (repeat' apply And.intro) <;> (first | assumption | (refine cB (by assumption) ?_; first | assumption | (simp; assumption)) | (simp; assumption))))
    (first
      | (go_at_call 20; refine (toPlan_any _ _ _ bs0 _ (hB0.below (by repeat (first | with_reducible exact Below.refl _ _ | with_reducible refine valloc ?_ _ | with_reducible refine vdrew ?_ | with_reducible refine vdrewN ?_ _ | with_reducible refine via (by assumption) ?_ | refine viaOnly (by assumption) (by omega) ?_))) (by omega)).mono ?_; rintro e w11 ⟨G11, rfl, r11, hbw11⟩)
      | (go_at_call 21; refine (eqPlan_same _ _ _ _ _ bs0 _ (r6.same (by repeat (first | with_reducible exact Same.refl _ _ _ | with_reducible refine Same.alloc ?_ _ | with_reducible refine Same.drew ?_ | with_reducible refine Same.drewN ?_ _ | with_reducible refine Same.below (by assumption) ?_ | refine Same.only (by assumption) (by omega) ?_)) (Nat.le_refl _)).bat r11.bat (by omega)).mono ?_; rintro e w12 ⟨rfl, hbw12⟩))
  have hzw11 : w10.heap.size ≤ w11.heap.size := hbw11.size
  have hzw12 : w11.heap.size ≤ w12.heap.size := hbw12.size
  replace q0_0 : w12.cell? ⟨w.heap.size, 0, none⟩ = some (.int .i64 n0) := cB hbw12 (cB hbw11 q0_0)
  replace q0_1 : w12.cell? ⟨w.heap.size, 1, none⟩ = some (.slice A0 bs0.length c0) := cB hbw12 (cB hbw11 q0_1)
  replace x0_0 : w12.cell? ⟨w6.heap.size, 0, none⟩ = some (.int .i64 n0) := cB hbw12 (cB hbw11 x0_0)
  replace x0_1 : w12.cell? ⟨w6.heap.size, 1, none⟩ = some (.slice G6 bs0.length bs0.length) := cB hbw12 (cB hbw11 x0_1)
  have hlt12_q0_0 := cell_lt q0_0
  have hlt12_x0_0 := cell_lt x0_0
  go_wp2_with fail
  refine (toIntS_any _ _ xs1 _ (hB1.below (by repeat (first | with_reducible exact Below.refl _ _ | with_reducible refine valloc ?_ _ | with_reducible refine vdrew ?_ | with_reducible refine vdrewN ?_ _ | with_reducible refine via (by assumption) ?_ | refine viaOnly (by assumption) (by omega) ?_))) (by omega)).mono ?_; rintro e w13 ⟨G13, rfl, r13, hbw13⟩
  have hzw13 : w12.heap.size ≤ w13.heap.size := (by have := hbw13.size; (try simp only [sz] at this); (try simp only [szc] at this); first | exact this | omega)
  replace q0_0 : w13.cell? ⟨w.heap.size, 0, none⟩ = some (.int .i64 n0) := by first | exact cB hbw13 q0_0 | exact cB hbw13 (cA q0_0 _) | exact cB hbw13 (cA (cA q0_0 _) _)
  replace q0_1 : w13.cell? ⟨w.heap.size, 1, none⟩ = some (.slice A0 bs0.length c0) := by first | exact cB hbw13 q0_1 | exact cB hbw13 (cA q0_1 _) | exact cB hbw13 (cA (cA q0_1 _) _)
  replace x0_0 : w13.cell? ⟨w6.heap.size, 0, none⟩ = some (.int .i64 n0) := by first | exact cB hbw13 x0_0 | exact cB hbw13 (cA x0_0 _) | exact cB hbw13 (cA (cA x0_0 _) _)
  replace x0_1 : w13.cell? ⟨w6.heap.size, 1, none⟩ = some (.slice G6 bs0.length bs0.length) := by first | exact cB hbw13 x0_1 | exact cB hbw13 (cA x0_1 _) | exact cB hbw13 (cA (cA x0_1 _) _)
  have hlt13_q0_0 := cell_lt q0_0
  have hlt13_x0_0 := cell_lt x0_0
  replace r13 := r13.wide (lo' := w12.heap.size) (hi' := w13.heap.size) (by first | exact Nat.le_refl _ | (simp only [sz, szc]; omega)) (Nat.le_refl _)
  go_wp2_with fail
  refine (eqIntS_same _ _ _ _ xs1 _ (r7.same (by repeat (first | with_reducible exact Same.refl _ _ _ | with_reducible refine Same.alloc ?_ _ | with_reducible refine Same.drew ?_ | with_reducible refine Same.drewN ?_ _ | with_reducible refine Same.below (by assumption) ?_ | refine Same.only (by assumption) (by omega) ?_)) (Nat.le_refl _)).iat (r13.same (by repeat (first | with_reducible exact Same.refl _ _ _ | with_reducible refine Same.alloc ?_ _ | with_reducible refine Same.drew ?_ | with_reducible refine Same.drewN ?_ _ | with_reducible refine Same.below (by assumption) ?_ | refine Same.only (by assumption) (by omega) ?_)) (Nat.le_refl _)).iat (by omega)).mono ?_; rintro e w14 ⟨rfl, hbw14⟩
  have hzw14 : w13.heap.size ≤ w14.heap.size := (by have := hbw14.size; (try simp only [sz] at this); (try simp only [szc] at this); first | exact this | omega)
  replace q0_0 : w14.cell? ⟨w.heap.size, 0, none⟩ = some (.int .i64 n0) := by first | exact cB hbw14 q0_0 | exact cB hbw14 (cA q0_0 _) | exact cB hbw14 (cA (cA q0_0 _) _)
  replace q0_1 : w14.cell? ⟨w.heap.size, 1, none⟩ = some (.slice A0 bs0.length c0) := by first | exact cB hbw14 q0_1 | exact cB hbw14 (cA q0_1 _) | exact cB hbw14 (cA (cA q0_1 _) _)
  replace x0_0 : w14.cell? ⟨w6.heap.size, 0, none⟩ = some (.int .i64 n0) := by first | exact cB hbw14 x0_0 | exact cB hbw14 (cA x0_0 _) | exact cB hbw14 (cA (cA x0_0 _) _)
  replace x0_1 : w14.cell? ⟨w6.heap.size, 1, none⟩ = some (.slice G6 bs0.length bs0.length) := by first | exact cB hbw14 x0_1 | exact cB hbw14 (cA x0_1 _) | exact cB hbw14 (cA (cA x0_1 _) _)
  have hlt14_q0_0 := cell_lt q0_0
  have hlt14_x0_0 := cell_lt x0_0
  go_wp2_with fail
  refine (toIntS_any _ _ xs2 _ (hB2.below (by repeat (first | with_reducible exact Below.refl _ _ | with_reducible refine valloc ?_ _ | with_reducible refine vdrew ?_ | with_reducible refine vdrewN ?_ _ | with_reducible refine via (by assumption) ?_ | refine viaOnly (by assumption) (by omega) ?_))) (by omega)).mono ?_; rintro e w15 ⟨G15, rfl, r15, hbw15⟩
  have hzw15 : w14.heap.size ≤ w15.heap.size := (by have := hbw15.size; (try simp only [sz] at this); (try simp only [szc] at this); first | exact this | omega)
  replace q0_0 : w15.cell? ⟨w.heap.size, 0, none⟩ = some (.int .i64 n0) := by first | exact cB hbw15 q0_0 | exact cB hbw15 (cA q0_0 _) | exact cB hbw15 (cA (cA q0_0 _) _)
  replace q0_1 : w15.cell? ⟨w.heap.size, 1, none⟩ = some (.slice A0 bs0.length c0) := by first | exact cB hbw15 q0_1 | exact cB hbw15 (cA q0_1 _) | exact cB hbw15 (cA (cA q0_1 _) _)
  replace x0_0 : w15.cell? ⟨w6.heap.size, 0, none⟩ = some (.int .i64 n0) := by first | exact cB hbw15 x0_0 | exact cB hbw15 (cA x0_0 _) | exact cB hbw15 (cA (cA x0_0 _) _)
  replace x0_1 : w15.cell? ⟨w6.heap.size, 1, none⟩ = some (.slice G6 bs0.length bs0.length) := by first | exact cB hbw15 x0_1 | exact cB hbw15 (cA x0_1 _) | exact cB hbw15 (cA (cA x0_1 _) _)
  have hlt15_q0_0 := cell_lt q0_0
  have hlt15_x0_0 := cell_lt x0_0
  replace r15 := r15.wide (lo' := w14.heap.size) (hi' := w15.heap.size) (by first | exact Nat.le_refl _ | (simp only [sz, szc]; omega)) (Nat.le_refl _)
  go_wp2_with fail
  refine (eqIntS_same _ _ _ _ xs2 _ (r8.same (by repeat (first | with_reducible exact Same.refl _ _ _ | with_reducible refine Same.alloc ?_ _ | with_reducible refine Same.drew ?_ | with_reducible refine Same.drewN ?_ _ | with_reducible refine Same.below (by assumption) ?_ | refine Same.only (by assumption) (by omega) ?_)) (Nat.le_refl _)).iat (r15.same (by repeat (first | with_reducible exact Same.refl _ _ _ | with_reducible refine Same.alloc ?_ _ | with_reducible refine Same.drew ?_ | with_reducible refine Same.drewN ?_ _ | with_reducible refine Same.below (by assumption) ?_ | refine Same.only (by assumption) (by omega) ?_)) (Nat.le_refl _)).iat (by omega)).mono ?_; rintro e w16 ⟨rfl, hbw16⟩
  have hzw16 : w15.heap.size ≤ w16.heap.size := (by have := hbw16.size; (try simp only [sz] at this); (try simp only [szc] at this); first | exact this | omega)
  replace q0_0 : w16.cell? ⟨w.heap.size, 0, none⟩ = some (.int .i64 n0) := by first | exact cB hbw16 q0_0 | exact cB hbw16 (cA q0_0 _) | exact cB hbw16 (cA (cA q0_0 _) _)
  replace q0_1 : w16.cell? ⟨w.heap.size, 1, none⟩ = some (.slice A0 bs0.length c0) := by first | exact cB hbw16 q0_1 | exact cB hbw16 (cA q0_1 _) | exact cB hbw16 (cA (cA q0_1 _) _)
  replace x0_0 : w16.cell? ⟨w6.heap.size, 0, none⟩ = some (.int .i64 n0) := by first | exact cB hbw16 x0_0 | exact cB hbw16 (cA x0_0 _) | exact cB hbw16 (cA (cA x0_0 _) _)
  replace x0_1 : w16.cell? ⟨w6.heap.size, 1, none⟩ = some (.slice G6 bs0.length bs0.length) := by first | exact cB hbw16 x0_1 | exact cB hbw16 (cA x0_1 _) | exact cB hbw16 (cA (cA x0_1 _) _)
  have hlt16_q0_0 := cell_lt q0_0
  have hlt16_x0_0 := cell_lt x0_0
  go_wp2_with fail
  refine (markPlan_any _ _ _ bs0 _ (w5.heap.size) w6.heap.size _ (r6.same (by repeat (first | with_reducible exact Same.refl _ _ _ | with_reducible refine Same.alloc ?_ _ | with_reducible refine Same.drew ?_ | with_reducible refine Same.drewN ?_ _ | with_reducible refine Same.below (by assumption) ?_ | refine Same.only (by assumption) (by omega) ?_)) (Nat.le_refl _)) (by omega) (by omega) (by omega) (by omega)).mono ?_; rintro e w17 ⟨rfl, how17⟩
  have hzw17 : w16.heap.size ≤ w17.heap.size := (by have := how17.size; (try simp only [sz] at this); (try simp only [szc] at this); first | exact this | omega)
  replace q0_0 : w17.cell? ⟨w.heap.size, 0, none⟩ = some (.int .i64 n0) := Only.cell how17 q0_0 (by omega)
  replace q0_1 : w17.cell? ⟨w.heap.size, 1, none⟩ = some (.slice A0 bs0.length c0) := Only.cell how17 q0_1 (by omega)
  replace x0_0 : w17.cell? ⟨w6.heap.size, 0, none⟩ = some (.int .i64 n0) := Only.cell how17 x0_0 (by omega)
  replace x0_1 : w17.cell? ⟨w6.heap.size, 1, none⟩ = some (.slice G6 bs0.length bs0.length) := Only.cell how17 x0_1 (by omega)
  have hlt17_q0_0 := cell_lt q0_0
  have hlt17_x0_0 := cell_lt x0_0
  go_wp2_with fail
  refine (markIntS_any _ _ xs1 _ (w6.heap.size + 1) w7.heap.size _ (r7.same (by repeat (first | with_reducible exact Same.refl _ _ _ | with_reducible refine Same.alloc ?_ _ | with_reducible refine Same.drew ?_ | with_reducible refine Same.drewN ?_ _ | with_reducible refine Same.below (by assumption) ?_ | refine Same.only (by assumption) (by omega) ?_)) (Nat.le_refl _)) (by omega) (by omega) (by omega)).mono ?_; rintro e w18 ⟨rfl, rm18, how18⟩
  have hzw18 : w17.heap.size ≤ w18.heap.size := (by have := how18.size; (try simp only [sz] at this); (try simp only [szc] at this); first | exact this | omega)
  replace q0_0 : w18.cell? ⟨w.heap.size, 0, none⟩ = some (.int .i64 n0) := Only.cell how18 q0_0 (by omega)
  replace q0_1 : w18.cell? ⟨w.heap.size, 1, none⟩ = some (.slice A0 bs0.length c0) := Only.cell how18 q0_1 (by omega)
  replace x0_0 : w18.cell? ⟨w6.heap.size, 0, none⟩ = some (.int .i64 n0) := Only.cell how18 x0_0 (by omega)
  replace x0_1 : w18.cell? ⟨w6.heap.size, 1, none⟩ = some (.slice G6 bs0.length bs0.length) := Only.cell how18 x0_1 (by omega)
  have hlt18_q0_0 := cell_lt q0_0
  have hlt18_x0_0 := cell_lt x0_0
  go_wp2_with fail
  refine (markIntS_any _ _ xs2 _ (w7.heap.size) w8.heap.size _ (r8.same (by repeat (first | with_reducible exact Same.refl _ _ _ | with_reducible refine Same.alloc ?_ _ | with_reducible refine Same.drew ?_ | with_reducible refine Same.drewN ?_ _ | with_reducible refine Same.below (by assumption) ?_ | refine Same.only (by assumption) (by omega) ?_)) (Nat.le_refl _)) (by omega) (by omega) (by omega)).mono ?_; rintro e w19 ⟨rfl, rm19, how19⟩
  have hzw19 : w18.heap.size ≤ w19.heap.size := (by have := how19.size; (try simp only [sz] at this); (try simp only [szc] at this); first | exact this | omega)
  replace q0_0 : w19.cell? ⟨w.heap.size, 0, none⟩ = some (.int .i64 n0) := Only.cell how19 q0_0 (by omega)
  replace q0_1 : w19.cell? ⟨w.heap.size, 1, none⟩ = some (.slice A0 bs0.length c0) := Only.cell how19 q0_1 (by omega)
  replace x0_0 : w19.cell? ⟨w6.heap.size, 0, none⟩ = some (.int .i64 n0) := Only.cell how19 x0_0 (by omega)
  replace x0_1 : w19.cell? ⟨w6.heap.size, 1, none⟩ = some (.slice G6 bs0.length bs0.length) := Only.cell how19 x0_1 (by omega)
  have hlt19_q0_0 := cell_lt q0_0
  have hlt19_x0_0 := cell_lt x0_0
  go_wp2_with fail
  refine (eqIntS_same _ _ _ _ _ _ (r9.same (by repeat (first | with_reducible exact Same.refl _ _ _ | with_reducible refine Same.alloc ?_ _ | with_reducible refine Same.drew ?_ | with_reducible refine Same.drewN ?_ _ | with_reducible refine Same.below (by assumption) ?_ | refine Same.only (by assumption) (by omega) ?_)) (Nat.le_refl _)).iat (r5.same (by repeat (first | with_reducible exact Same.refl _ _ _ | with_reducible refine Same.alloc ?_ _ | with_reducible refine Same.drew ?_ | with_reducible refine Same.drewN ?_ _ | with_reducible refine Same.below (by assumption) ?_ | refine Same.only (by assumption) (by omega) ?_)) (Nat.le_refl _)).iat (by omega)).mono ?_; rintro e w20 ⟨rfl, hbw20⟩
  have hzw20 : w19.heap.size ≤ w20.heap.size := (by have := hbw20.size; (try simp only [sz] at this); (try simp only [szc] at this); first | exact this | omega)
  replace q0_0 : w20.cell? ⟨w.heap.size, 0, none⟩ = some (.int .i64 n0) := by first | exact cB hbw20 q0_0 | exact cB hbw20 (cA q0_0 _) | exact cB hbw20 (cA (cA q0_0 _) _)
  replace q0_1 : w20.cell? ⟨w.heap.size, 1, none⟩ = some (.slice A0 bs0.length c0) := by first | exact cB hbw20 q0_1 | exact cB hbw20 (cA q0_1 _) | exact cB hbw20 (cA (cA q0_1 _) _)
  replace x0_0 : w20.cell? ⟨w6.heap.size, 0, none⟩ = some (.int .i64 n0) := by first | exact cB hbw20 x0_0 | exact cB hbw20 (cA x0_0 _) | exact cB hbw20 (cA (cA x0_0 _) _)
  replace x0_1 : w20.cell? ⟨w6.heap.size, 1, none⟩ = some (.slice G6 bs0.length bs0.length) := by first | exact cB hbw20 x0_1 | exact cB hbw20 (cA x0_1 _) | exact cB hbw20 (cA (cA x0_1 _) _)
  have hlt20_q0_0 := cell_lt q0_0
  have hlt20_x0_0 := cell_lt x0_0
  go_wp2_with fail
  refine (markIntS_any _ _ _ _ (w8.heap.size) w9.heap.size _ (r9.same (by repeat (first | with_reducible exact Same.refl _ _ _ | with_reducible refine Same.alloc ?_ _ | with_reducible refine Same.drew ?_ | with_reducible refine Same.drewN ?_ _ | with_reducible refine Same.below (by assumption) ?_ | refine Same.only (by assumption) (by omega) ?_)) (Nat.le_refl _)) (by omega) (by omega) (by omega)).mono ?_; rintro e w21 ⟨rfl, rm21, how21⟩
  have hzw21 : w20.heap.size ≤ w21.heap.size := (by have := how21.size; (try simp only [sz] at this); (try simp only [szc] at this); first | exact this | omega)
  replace q0_0 : w21.cell? ⟨w.heap.size, 0, none⟩ = some (.int .i64 n0) := Only.cell how21 q0_0 (by omega)
  replace q0_1 : w21.cell? ⟨w.heap.size, 1, none⟩ = some (.slice A0 bs0.length c0) := Only.cell how21 q0_1 (by omega)
  replace x0_0 : w21.cell? ⟨w6.heap.size, 0, none⟩ = some (.int .i64 n0) := Only.cell how21 x0_0 (by omega)
  replace x0_1 : w21.cell? ⟨w6.heap.size, 1, none⟩ = some (.slice G6 bs0.length bs0.length) := Only.cell how21 x0_1 (by omega)
  have hlt21_q0_0 := cell_lt q0_0
  have hlt21_x0_0 := cell_lt x0_0
  go_wp2_with fail
  refine (heldIntS_any _ _ _ _ _ (rm21.same (by repeat (first | with_reducible exact Same.refl _ _ _ | with_reducible refine Same.alloc ?_ _ | with_reducible refine Same.drew ?_ | with_reducible refine Same.drewN ?_ _ | with_reducible refine Same.below (by assumption) ?_ | refine Same.only (by assumption) (by omega) ?_)) (by omega)).iat (by omega) (by omega) (by omega)).mono ?_; rintro e w22 ⟨rfl, hbw22⟩
  have hzw22 : w21.heap.size ≤ w22.heap.size := (by have := hbw22.size; (try simp only [sz] at this); (try simp only [szc] at this); first | exact this | omega)
  replace q0_0 : w22.cell? ⟨w.heap.size, 0, none⟩ = some (.int .i64 n0) := by first | exact cB hbw22 q0_0 | exact cB hbw22 (cA q0_0 _) | exact cB hbw22 (cA (cA q0_0 _) _)
  replace q0_1 : w22.cell? ⟨w.heap.size, 1, none⟩ = some (.slice A0 bs0.length c0) := by first | exact cB hbw22 q0_1 | exact cB hbw22 (cA q0_1 _) | exact cB hbw22 (cA (cA q0_1 _) _)
  replace x0_0 : w22.cell? ⟨w6.heap.size, 0, none⟩ = some (.int .i64 n0) := by first | exact cB hbw22 x0_0 | exact cB hbw22 (cA x0_0 _) | exact cB hbw22 (cA (cA x0_0 _) _)
  replace x0_1 : w22.cell? ⟨w6.heap.size, 1, none⟩ = some (.slice G6 bs0.length bs0.length) := by first | exact cB hbw22 x0_1 | exact cB hbw22 (cA x0_1 _) | exact cB hbw22 (cA (cA x0_1 _) _)
  have hlt22_q0_0 := cell_lt q0_0
  have hlt22_x0_0 := cell_lt x0_0
  go_wp2_with fail
  refine (toPlan_any _ _ _ bs0 _ (hB0.below (by repeat (first | with_reducible exact Below.refl _ _ | with_reducible refine valloc ?_ _ | with_reducible refine vdrew ?_ | with_reducible refine vdrewN ?_ _ | with_reducible refine via (by assumption) ?_ | refine viaOnly (by assumption) (by omega) ?_))) (by omega)).mono ?_; rintro e w23 ⟨G23, rfl, r23, hbw23⟩
  have hzw23 : w22.heap.size ≤ w23.heap.size := (by have := hbw23.size; (try simp only [sz] at this); (try simp only [szc] at this); first | exact this | omega)
  replace q0_0 : w23.cell? ⟨w.heap.size, 0, none⟩ = some (.int .i64 n0) := by first | exact cB hbw23 q0_0 | exact cB hbw23 (cA q0_0 _) | exact cB hbw23 (cA (cA q0_0 _) _)
  replace q0_1 : w23.cell? ⟨w.heap.size, 1, none⟩ = some (.slice A0 bs0.length c0) := by first | exact cB hbw23 q0_1 | exact cB hbw23 (cA q0_1 _) | exact cB hbw23 (cA (cA q0_1 _) _)
  replace x0_0 : w23.cell? ⟨w6.heap.size, 0, none⟩ = some (.int .i64 n0) := by first | exact cB hbw23 x0_0 | exact cB hbw23 (cA x0_0 _) | exact cB hbw23 (cA (cA x0_0 _) _)
  replace x0_1 : w23.cell? ⟨w6.heap.size, 1, none⟩ = some (.slice G6 bs0.length bs0.length) := by first | exact cB hbw23 x0_1 | exact cB hbw23 (cA x0_1 _) | exact cB hbw23 (cA (cA x0_1 _) _)
  have hlt23_q0_0 := cell_lt q0_0
  have hlt23_x0_0 := cell_lt x0_0
  replace r23 := r23.wide (lo' := w22.heap.size) (hi' := w23.heap.size) (by first | exact Nat.le_refl _ | (simp only [sz, szc]; omega)) (Nat.le_refl _)
  go_wp2_with fail
  refine (toIntS_any _ _ xs1 _ (hB1.below (by repeat (first | with_reducible exact Below.refl _ _ | with_reducible refine valloc ?_ _ | with_reducible refine vdrew ?_ | with_reducible refine vdrewN ?_ _ | with_reducible refine via (by assumption) ?_ | refine viaOnly (by assumption) (by omega) ?_))) (by omega)).mono ?_; rintro e w24 ⟨G24, rfl, r24, hbw24⟩
  have hzw24 : w23.heap.size ≤ w24.heap.size := (by have := hbw24.size; (try simp only [sz] at this); (try simp only [szc] at this); first | exact this | omega)
  replace q0_0 : w24.cell? ⟨w.heap.size, 0, none⟩ = some (.int .i64 n0) := by first | exact cB hbw24 q0_0 | exact cB hbw24 (cA q0_0 _) | exact cB hbw24 (cA (cA q0_0 _) _)
  replace q0_1 : w24.cell? ⟨w.heap.size, 1, none⟩ = some (.slice A0 bs0.length c0) := by first | exact cB hbw24 q0_1 | exact cB hbw24 (cA q0_1 _) | exact cB hbw24 (cA (cA q0_1 _) _)
  replace x0_0 : w24.cell? ⟨w6.heap.size, 0, none⟩ = some (.int .i64 n0) := by first | exact cB hbw24 x0_0 | exact cB hbw24 (cA x0_0 _) | exact cB hbw24 (cA (cA x0_0 _) _)
  replace x0_1 : w24.cell? ⟨w6.heap.size, 1, none⟩ = some (.slice G6 bs0.length bs0.length) := by first | exact cB hbw24 x0_1 | exact cB hbw24 (cA x0_1 _) | exact cB hbw24 (cA (cA x0_1 _) _)
  have hlt24_q0_0 := cell_lt q0_0
  have hlt24_x0_0 := cell_lt x0_0
  replace r24 := r24.wide (lo' := w23.heap.size) (hi' := w24.heap.size) (by first | exact Nat.le_refl _ | (simp only [sz, szc]; omega)) (Nat.le_refl _)
  go_wp2_with fail
  refine (toIntS_any _ _ xs2 _ (hB2.below (by repeat (first | with_reducible exact Below.refl _ _ | with_reducible refine valloc ?_ _ | with_reducible refine vdrew ?_ | with_reducible refine vdrewN ?_ _ | with_reducible refine via (by assumption) ?_ | refine viaOnly (by assumption) (by omega) ?_))) (by omega)).mono ?_; rintro e w25 ⟨G25, rfl, r25, hbw25⟩
  have hzw25 : w24.heap.size ≤ w25.heap.size := (by have := hbw25.size; (try simp only [sz] at this); (try simp only [szc] at this); first | exact this | omega)
  replace q0_0 : w25.cell? ⟨w.heap.size, 0, none⟩ = some (.int .i64 n0) := by first | exact cB hbw25 q0_0 | exact cB hbw25 (cA q0_0 _) | exact cB hbw25 (cA (cA q0_0 _) _)
  replace q0_1 : w25.cell? ⟨w.heap.size, 1, none⟩ = some (.slice A0 bs0.length c0) := by first | exact cB hbw25 q0_1 | exact cB hbw25 (cA q0_1 _) | exact cB hbw25 (cA (cA q0_1 _) _)
  replace x0_0 : w25.cell? ⟨w6.heap.size, 0, none⟩ = some (.int .i64 n0) := by first | exact cB hbw25 x0_0 | exact cB hbw25 (cA x0_0 _) | exact cB hbw25 (cA (cA x0_0 _) _)
  replace x0_1 : w25.cell? ⟨w6.heap.size, 1, none⟩ = some (.slice G6 bs0.length bs0.length) := by first | exact cB hbw25 x0_1 | exact cB hbw25 (cA x0_1 _) | exact cB hbw25 (cA (cA x0_1 _) _)
  have hlt25_q0_0 := cell_lt q0_0
  have hlt25_x0_0 := cell_lt x0_0
  replace r25 := r25.wide (lo' := w24.heap.size) (hi' := w25.heap.size) (by first | exact Nat.le_refl _ | (simp only [sz, szc]; omega)) (Nat.le_refl _)
  go_wp2_with fail
  refine (laterOf_any _ _ _ _ _ _ _ _ _ _ _ (r23.same (by repeat (first | with_reducible exact Same.refl _ _ _ | with_reducible refine Same.alloc ?_ _ | with_reducible refine Same.drew ?_ | with_reducible refine Same.drewN ?_ _ | with_reducible refine Same.below (by assumption) ?_ | refine Same.only (by assumption) (by omega) ?_)) (Nat.le_refl _)).bat (r24.same (by repeat (first | with_reducible exact Same.refl _ _ _ | with_reducible refine Same.alloc ?_ _ | with_reducible refine Same.drew ?_ | with_reducible refine Same.drewN ?_ _ | with_reducible refine Same.below (by assumption) ?_ | refine Same.only (by assumption) (by omega) ?_)) (Nat.le_refl _)).iat (r25.same (by repeat (first | with_reducible exact Same.refl _ _ _ | with_reducible refine Same.alloc ?_ _ | with_reducible refine Same.drew ?_ | with_reducible refine Same.drewN ?_ _ | with_reducible refine Same.below (by assumption) ?_ | refine Same.only (by assumption) (by omega) ?_)) (Nat.le_refl _)).iat (by omega) (by omega) (by omega)).mono ?_; rintro e w26 ⟨G26, C26, rfl, r26, hbw26⟩
  have hzw26 : w25.heap.size ≤ w26.heap.size := (by have := hbw26.size; (try simp only [sz] at this); (try simp only [szc] at this); first | exact this | omega)
  replace q0_0 : w26.cell? ⟨w.heap.size, 0, none⟩ = some (.int .i64 n0) := by first | exact cB hbw26 q0_0 | exact cB hbw26 (cA q0_0 _) | exact cB hbw26 (cA (cA q0_0 _) _)
  replace q0_1 : w26.cell? ⟨w.heap.size, 1, none⟩ = some (.slice A0 bs0.length c0) := by first | exact cB hbw26 q0_1 | exact cB hbw26 (cA q0_1 _) | exact cB hbw26 (cA (cA q0_1 _) _)
  replace x0_0 : w26.cell? ⟨w6.heap.size, 0, none⟩ = some (.int .i64 n0) := by first | exact cB hbw26 x0_0 | exact cB hbw26 (cA x0_0 _) | exact cB hbw26 (cA (cA x0_0 _) _)
  replace x0_1 : w26.cell? ⟨w6.heap.size, 1, none⟩ = some (.slice G6 bs0.length bs0.length) := by first | exact cB hbw26 x0_1 | exact cB hbw26 (cA x0_1 _) | exact cB hbw26 (cA (cA x0_1 _) _)
  have hlt26_q0_0 := cell_lt q0_0
  have hlt26_x0_0 := cell_lt x0_0
  replace r26 := r26.wide (lo' := w25.heap.size) (hi' := w26.heap.size) (by first | exact Nat.le_refl _ | (simp only [sz, szc]; omega)) (Nat.le_refl _)
  go_wp2_with fail
  refine (eqIntS_same _ _ _ _ _ _ (r26.same (by repeat (first | with_reducible exact Same.refl _ _ _ | with_reducible refine Same.alloc ?_ _ | with_reducible refine Same.drew ?_ | with_reducible refine Same.drewN ?_ _ | with_reducible refine Same.below (by assumption) ?_ | refine Same.only (by assumption) (by omega) ?_)) (Nat.le_refl _)).iat (r5.same (by repeat (first | with_reducible exact Same.refl _ _ _ | with_reducible refine Same.alloc ?_ _ | with_reducible refine Same.drew ?_ | with_reducible refine Same.drewN ?_ _ | with_reducible refine Same.below (by assumption) ?_ | refine Same.only (by assumption) (by omega) ?_)) (Nat.le_refl _)).iat (by omega)).mono ?_; rintro e w27 ⟨rfl, hbw27⟩
  have hzw27 : w26.heap.size ≤ w27.heap.size := (by have := hbw27.size; (try simp only [sz] at this); (try simp only [szc] at this); first | exact this | omega)
  replace q0_0 : w27.cell? ⟨w.heap.size, 0, none⟩ = some (.int .i64 n0) := by first | exact cB hbw27 q0_0 | exact cB hbw27 (cA q0_0 _) | exact cB hbw27 (cA (cA q0_0 _) _)
  replace q0_1 : w27.cell? ⟨w.heap.size, 1, none⟩ = some (.slice A0 bs0.length c0) := by first | exact cB hbw27 q0_1 | exact cB hbw27 (cA q0_1 _) | exact cB hbw27 (cA (cA q0_1 _) _)
  replace x0_0 : w27.cell? ⟨w6.heap.size, 0, none⟩ = some (.int .i64 n0) := by first | exact cB hbw27 x0_0 | exact cB hbw27 (cA x0_0 _) | exact cB hbw27 (cA (cA x0_0 _) _)
  replace x0_1 : w27.cell? ⟨w6.heap.size, 1, none⟩ = some (.slice G6 bs0.length bs0.length) := by first | exact cB hbw27 x0_1 | exact cB hbw27 (cA x0_1 _) | exact cB hbw27 (cA (cA x0_1 _) _)
  have hlt27_q0_0 := cell_lt q0_0
  have hlt27_x0_0 := cell_lt x0_0
  go_wp2_with fail
  refine (heldIntS_any _ _ _ _ _ (rm21.same (by repeat (first | with_reducible exact Same.refl _ _ _ | with_reducible refine Same.alloc ?_ _ | with_reducible refine Same.drew ?_ | with_reducible refine Same.drewN ?_ _ | with_reducible refine Same.below (by assumption) ?_ | refine Same.only (by assumption) (by omega) ?_)) (by omega)).iat (by omega) (by omega) (by omega)).mono ?_; rintro e w28 ⟨rfl, hbw28⟩
  have hzw28 : w27.heap.size ≤ w28.heap.size := (by have := hbw28.size; (try simp only [sz] at this); (try simp only [szc] at this); first | exact this | omega)
  replace q0_0 : w28.cell? ⟨w.heap.size, 0, none⟩ = some (.int .i64 n0) := by first | exact cB hbw28 q0_0 | exact cB hbw28 (cA q0_0 _) | exact cB hbw28 (cA (cA q0_0 _) _)
  replace q0_1 : w28.cell? ⟨w.heap.size, 1, none⟩ = some (.slice A0 bs0.length c0) := by first | exact cB hbw28 q0_1 | exact cB hbw28 (cA q0_1 _) | exact cB hbw28 (cA (cA q0_1 _) _)
  replace x0_0 : w28.cell? ⟨w6.heap.size, 0, none⟩ = some (.int .i64 n0) := by first | exact cB hbw28 x0_0 | exact cB hbw28 (cA x0_0 _) | exact cB hbw28 (cA (cA x0_0 _) _)
  replace x0_1 : w28.cell? ⟨w6.heap.size, 1, none⟩ = some (.slice G6 bs0.length bs0.length) := by first | exact cB hbw28 x0_1 | exact cB hbw28 (cA x0_1 _) | exact cB hbw28 (cA (cA x0_1 _) _)
  have hlt28_q0_0 := cell_lt q0_0
  have hlt28_x0_0 := cell_lt x0_0
  go_wp2
  go_ret
  refine ⟨rfl, ?_⟩
  repeat (first | with_reducible exact Below.refl _ _ | with_reducible refine valloc ?_ _ | with_reducible refine vdrew ?_ | with_reducible refine vdrewN ?_ _ | with_reducible refine via (by assumption) ?_ | refine viaOnly (by assumption) (by omega) ?_)
end Go.Proofs.Ytnagjnbfpafocaa
