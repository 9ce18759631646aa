/- The walk of the law FnExactEndedFrom: it returns true and changes nothing that was there; no condition but that the rows' lengths are those of slices. -/
import Derived.Test.YtaifpindiphlkacKI
import Derived.Test.YtaifpindiphlkacKB
import Derived.Deep.RegionHeld3
namespace Go.Proofs.Ytaifpindiphlkac
open Go.RowKit
set_option linter.unusedVariables false
set_option maxRecDepth 10000
set_option linter.unusedSimpArgs false

set_option maxHeartbeats 4000000 in
theorem FnExactEndedFrom_walk (n0 : Int) (A0 : Option Addr) (c0 : Nat) (bs0 : List Bd) (A1 : Option Addr) (c1 : Nat) (xs1 : List Int) (w : World) (hB0 : BAt w A0 bs0) (hl0 : bs0.length ≤ 9223372036854775807) (hB1 : IAt w A1 xs1) (hl1 : xs1.length ≤ 9223372036854775807) :
    Calls Try.prog 7 #[.agg #[.int .i64 n0, .slice A0 bs0.length c0], .slice A1 xs1.length c1] w fun e w' => e = .returned (.bool true) ∧ Below w.heap.size w w' := by
  by_cases hL1 : (1048576 : Int) < (xs1.length : Int)
  · go_enter Try.func7, Try.ntmps7
    go_wp2
    go_ret
    refine ⟨rfl, ?_⟩
    repeat (first | with_reducible exact Below.refl _ _ | with_reducible refine valloc ?_ _ | with_reducible refine vdrew ?_ | with_reducible refine vdrewN ?_ _ | with_reducible refine via (by assumption) ?_ | refine viaOnly (by assumption) (by omega) ?_)
  by_cases hS0 : (1048576 : Int) - (bs0.length : Int) < 0
  · go_enter Try.func7, Try.ntmps7
    go_wp2_with fail
    refine (szPlan_any _ _ _ _ _ _ (by omega) (by omega) (by omega)).mono ?_; rintro e w1 ⟨rfl, hbw1⟩
    have q0_0 : w1.cell? ⟨w.heap.size, 0, none⟩ = some (.int .i64 n0) := (hbw1.cell (p := ⟨w.heap.size, 0, none⟩) (by simp <;> omega)).trans (by simp)
    have q0_1 : w1.cell? ⟨w.heap.size, 1, none⟩ = some (.slice A0 bs0.length c0) := (hbw1.cell (p := ⟨w.heap.size, 1, none⟩) (by simp <;> omega)).trans (by simp)
    have hzw1 : w.heap.size ≤ w1.heap.size := (by have := hbw1.size; (try simp only [sz] at this); (try simp only [szc] at this); first | exact this | omega)
    have hlt1_q0_0 := cell_lt q0_0
    go_wp2
    go_ret
    refine ⟨rfl, ?_⟩
    repeat (first | with_reducible exact Below.refl _ _ | with_reducible refine valloc ?_ _ | with_reducible refine vdrew ?_ | with_reducible refine vdrewN ?_ _ | with_reducible refine via (by assumption) ?_ | refine viaOnly (by assumption) (by omega) ?_)
  have hm0 : bs0.length ≤ 1048576 := by omega
  have hm1 : xs1.length ≤ 1048576 := by omega
  have hres : (endedL n0 bs0 xs1).length ≤ 1048576 := Nat.le_trans (endedL_len _ _ _) (by omega)
  go_enter Try.func7, Try.ntmps7
  go_wp2_with fail
  refine (szPlan_any _ _ _ _ _ _ (by omega) (by omega) (by omega)).mono ?_; rintro e w1 ⟨rfl, hbw1⟩
  have q0_0 : w1.cell? ⟨w.heap.size, 0, none⟩ = some (.int .i64 n0) := (hbw1.cell (p := ⟨w.heap.size, 0, none⟩) (by simp <;> omega)).trans (by simp)
  have q0_1 : w1.cell? ⟨w.heap.size, 1, none⟩ = some (.slice A0 bs0.length c0) := (hbw1.cell (p := ⟨w.heap.size, 1, none⟩) (by simp <;> omega)).trans (by simp)
  have hzw1 : w.heap.size ≤ w1.heap.size := (by have := hbw1.size; (try simp only [sz] at this); (try simp only [szc] at this); first | exact this | omega)
  have hlt1_q0_0 := cell_lt q0_0
  go_wp2_with fail
  refine (toPlan_any _ _ _ bs0 _ (hB0.below (by repeat (first | with_reducible exact Below.refl _ _ | with_reducible refine valloc ?_ _ | with_reducible refine vdrew ?_ | with_reducible refine vdrewN ?_ _ | with_reducible refine via (by assumption) ?_ | refine viaOnly (by assumption) (by omega) ?_))) (by omega)).mono ?_; rintro e w2 ⟨G2, rfl, r2, hbw2⟩
  have hzw2 : w1.heap.size ≤ w2.heap.size := (by have := hbw2.size; (try simp only [sz] at this); (try simp only [szc] at this); first | exact this | omega)
  replace q0_0 : w2.cell? ⟨w.heap.size, 0, none⟩ = some (.int .i64 n0) := by first | exact cB hbw2 q0_0 | exact cB hbw2 (cA q0_0 _) | exact cB hbw2 (cA (cA q0_0 _) _)
  replace q0_1 : w2.cell? ⟨w.heap.size, 1, none⟩ = some (.slice A0 bs0.length c0) := by first | exact cB hbw2 q0_1 | exact cB hbw2 (cA q0_1 _) | exact cB hbw2 (cA (cA q0_1 _) _)
  have hlt2_q0_0 := cell_lt q0_0
  replace r2 := r2.wide (lo' := w1.heap.size) (hi' := w2.heap.size) (by first | exact Nat.le_refl _ | (simp only [sz, szc]; omega)) (Nat.le_refl _)
  go_wp2_with fail
  refine (toIntS_any _ _ xs1 _ (hB1.below (by repeat (first | with_reducible exact Below.refl _ _ | with_reducible refine valloc ?_ _ | with_reducible refine vdrew ?_ | with_reducible refine vdrewN ?_ _ | with_reducible refine via (by assumption) ?_ | refine viaOnly (by assumption) (by omega) ?_))) (by omega)).mono ?_; rintro e w3 ⟨G3, rfl, r3, hbw3⟩
  have hzw3 : w2.heap.size ≤ w3.heap.size := (by have := hbw3.size; (try simp only [sz] at this); (try simp only [szc] at this); first | exact this | omega)
  replace q0_0 : w3.cell? ⟨w.heap.size, 0, none⟩ = some (.int .i64 n0) := by first | exact cB hbw3 q0_0 | exact cB hbw3 (cA q0_0 _) | exact cB hbw3 (cA (cA q0_0 _) _)
  replace q0_1 : w3.cell? ⟨w.heap.size, 1, none⟩ = some (.slice A0 bs0.length c0) := by first | exact cB hbw3 q0_1 | exact cB hbw3 (cA q0_1 _) | exact cB hbw3 (cA (cA q0_1 _) _)
  have hlt3_q0_0 := cell_lt q0_0
  replace r3 := r3.wide (lo' := w2.heap.size) (hi' := w3.heap.size) (by first | exact Nat.le_refl _ | (simp only [sz, szc]; omega)) (Nat.le_refl _)
  go_wp2_with fail
  refine (specEndedFrom_any _ _ _ _ _ _ _ (r2.same (by repeat (first | with_reducible exact Same.refl _ _ _ | with_reducible refine Same.alloc ?_ _ | with_reducible refine Same.drew ?_ | with_reducible refine Same.drewN ?_ _ | with_reducible refine Same.below (by assumption) ?_ | refine Same.only (by assumption) (by omega) ?_)) (Nat.le_refl _)).bat (r3.same (by repeat (first | with_reducible exact Same.refl _ _ _ | with_reducible refine Same.alloc ?_ _ | with_reducible refine Same.drew ?_ | with_reducible refine Same.drewN ?_ _ | with_reducible refine Same.below (by assumption) ?_ | refine Same.only (by assumption) (by omega) ?_)) (Nat.le_refl _)).iat (by omega) (by omega)).mono ?_; rintro e w4 ⟨G4, C4, rfl, r4, hbw4⟩
  have hzw4 : w3.heap.size ≤ w4.heap.size := (by have := hbw4.size; (try simp only [sz] at this); (try simp only [szc] at this); first | exact this | omega)
  replace q0_0 : w4.cell? ⟨w.heap.size, 0, none⟩ = some (.int .i64 n0) := by first | exact cB hbw4 q0_0 | exact cB hbw4 (cA q0_0 _) | exact cB hbw4 (cA (cA q0_0 _) _)
  replace q0_1 : w4.cell? ⟨w.heap.size, 1, none⟩ = some (.slice A0 bs0.length c0) := by first | exact cB hbw4 q0_1 | exact cB hbw4 (cA q0_1 _) | exact cB hbw4 (cA (cA q0_1 _) _)
  have hlt4_q0_0 := cell_lt q0_0
  replace r4 := r4.wide (lo' := w3.heap.size) (hi' := w4.heap.size) (by first | exact Nat.le_refl _ | (simp only [sz, szc]; omega)) (Nat.le_refl _)
  go_wp2_with fail
  refine (toPlan_any _ _ _ bs0 _ (hB0.below (by repeat (first | with_reducible exact Below.refl _ _ | with_reducible refine valloc ?_ _ | with_reducible refine vdrew ?_ | with_reducible refine vdrewN ?_ _ | with_reducible refine via (by assumption) ?_ | refine viaOnly (by assumption) (by omega) ?_))) (by omega)).mono ?_; rintro e w5 ⟨G5, rfl, r5, hbw5⟩
  have hzw5 : w4.heap.size ≤ w5.heap.size := (by have := hbw5.size; (try simp only [sz] at this); (try simp only [szc] at this); first | exact this | omega)
  replace q0_0 : w5.cell? ⟨w.heap.size, 0, none⟩ = some (.int .i64 n0) := by first | exact cB hbw5 q0_0 | exact cB hbw5 (cA q0_0 _) | exact cB hbw5 (cA (cA q0_0 _) _)
  replace q0_1 : w5.cell? ⟨w.heap.size, 1, none⟩ = some (.slice A0 bs0.length c0) := by first | exact cB hbw5 q0_1 | exact cB hbw5 (cA q0_1 _) | exact cB hbw5 (cA (cA q0_1 _) _)
  have hlt5_q0_0 := cell_lt q0_0
  replace r5 := r5.wide (lo' := w4.heap.size) (hi' := w5.heap.size) (by first | exact Nat.le_refl _ | (simp only [sz, szc]; omega)) (Nat.le_refl _)
  go_wp2_with fail
  refine (toIntS_any _ _ xs1 _ (hB1.below (by repeat (first | with_reducible exact Below.refl _ _ | with_reducible refine valloc ?_ _ | with_reducible refine vdrew ?_ | with_reducible refine vdrewN ?_ _ | with_reducible refine via (by assumption) ?_ | refine viaOnly (by assumption) (by omega) ?_))) (by omega)).mono ?_; rintro e w6 ⟨G6, rfl, r6, hbw6⟩
  have x0_0 : w6.cell? ⟨w5.heap.size, 0, none⟩ = some (.int .i64 n0) := (hbw6.cell (p := ⟨w5.heap.size, 0, none⟩) (by simp <;> omega)).trans (by simp)
  have x0_1 : w6.cell? ⟨w5.heap.size, 1, none⟩ = some (.slice G5 bs0.length bs0.length) := (hbw6.cell (p := ⟨w5.heap.size, 1, none⟩) (by simp <;> omega)).trans (by simp)
  have hzw6 : w5.heap.size ≤ w6.heap.size := (by have := hbw6.size; (try simp only [sz] at this); (try simp only [szc] at this); first | exact this | omega)
  replace q0_0 : w6.cell? ⟨w.heap.size, 0, none⟩ = some (.int .i64 n0) := by first | exact cB hbw6 q0_0 | exact cB hbw6 (cA q0_0 _) | exact cB hbw6 (cA (cA q0_0 _) _)
  replace q0_1 : w6.cell? ⟨w.heap.size, 1, none⟩ = some (.slice A0 bs0.length c0) := by first | exact cB hbw6 q0_1 | exact cB hbw6 (cA q0_1 _) | exact cB hbw6 (cA (cA q0_1 _) _)
  have hlt6_q0_0 := cell_lt q0_0
  have hlt6_x0_0 := cell_lt x0_0
  replace r6 := r6.wide (lo' := w5.heap.size + 1) (hi' := w6.heap.size) (by first | exact Nat.le_refl _ | (simp only [sz, szc]; omega)) (Nat.le_refl _)
  go_wp2_with fail
  refine (endedFrom_any _ _ _ _ _ _ _ (r5.same (by repeat (first | with_reducible exact Same.refl _ _ _ | with_reducible refine Same.alloc ?_ _ | with_reducible refine Same.drew ?_ | with_reducible refine Same.drewN ?_ _ | with_reducible refine Same.below (by assumption) ?_ | refine Same.only (by assumption) (by omega) ?_)) (Nat.le_refl _)).bat (r6.same (by repeat (first | with_reducible exact Same.refl _ _ _ | with_reducible refine Same.alloc ?_ _ | with_reducible refine Same.drew ?_ | with_reducible refine Same.drewN ?_ _ | with_reducible refine Same.below (by assumption) ?_ | refine Same.only (by assumption) (by omega) ?_)) (Nat.le_refl _)).iat (by omega) (by omega)).mono ?_; rintro e w7 ⟨G7, C7, rfl, r7, hbw7⟩
  have hzw7 : w6.heap.size ≤ w7.heap.size := (by have := hbw7.size; (try simp only [sz] at this); (try simp only [szc] at this); first | exact this | omega)
  replace q0_0 : w7.cell? ⟨w.heap.size, 0, none⟩ = some (.int .i64 n0) := by first | exact cB hbw7 q0_0 | exact cB hbw7 (cA q0_0 _) | exact cB hbw7 (cA (cA q0_0 _) _)
  replace q0_1 : w7.cell? ⟨w.heap.size, 1, none⟩ = some (.slice A0 bs0.length c0) := by first | exact cB hbw7 q0_1 | exact cB hbw7 (cA q0_1 _) | exact cB hbw7 (cA (cA q0_1 _) _)
  replace x0_0 : w7.cell? ⟨w5.heap.size, 0, none⟩ = some (.int .i64 n0) := by first | exact cB hbw7 x0_0 | exact cB hbw7 (cA x0_0 _) | exact cB hbw7 (cA (cA x0_0 _) _)
  replace x0_1 : w7.cell? ⟨w5.heap.size, 1, none⟩ = some (.slice G5 bs0.length bs0.length) := by first | exact cB hbw7 x0_1 | exact cB hbw7 (cA x0_1 _) | exact cB hbw7 (cA (cA x0_1 _) _)
  have hlt7_q0_0 := cell_lt q0_0
  have hlt7_x0_0 := cell_lt x0_0
  replace r7 := r7.wide (lo' := w6.heap.size) (hi' := w7.heap.size) (by first | exact Nat.le_refl _ | (simp only [sz, szc]; omega)) (Nat.le_refl _)
  go_wp2_with fail
  refine (eqIntS_same _ _ _ _ _ _ (r7.same (by repeat (first | with_reducible exact Same.refl _ _ _ | with_reducible refine Same.alloc ?_ _ | with_reducible refine Same.drew ?_ | with_reducible refine Same.drewN ?_ _ | with_reducible refine Same.below (by assumption) ?_ | refine Same.only (by assumption) (by omega) ?_)) (Nat.le_refl _)).iat (r4.same (by repeat (first | with_reducible exact Same.refl _ _ _ | with_reducible refine Same.alloc ?_ _ | with_reducible refine Same.drew ?_ | with_reducible refine Same.drewN ?_ _ | with_reducible refine Same.below (by assumption) ?_ | refine Same.only (by assumption) (by omega) ?_)) (Nat.le_refl _)).iat (by omega)).mono ?_; rintro e w8 ⟨rfl, hbw8⟩
  have hzw8 : w7.heap.size ≤ w8.heap.size := (by have := hbw8.size; (try simp only [sz] at this); (try simp only [szc] at this); first | exact this | omega)
  replace q0_0 : w8.cell? ⟨w.heap.size, 0, none⟩ = some (.int .i64 n0) := by first | exact cB hbw8 q0_0 | exact cB hbw8 (cA q0_0 _) | exact cB hbw8 (cA (cA q0_0 _) _)
  replace q0_1 : w8.cell? ⟨w.heap.size, 1, none⟩ = some (.slice A0 bs0.length c0) := by first | exact cB hbw8 q0_1 | exact cB hbw8 (cA q0_1 _) | exact cB hbw8 (cA (cA q0_1 _) _)
  replace x0_0 : w8.cell? ⟨w5.heap.size, 0, none⟩ = some (.int .i64 n0) := by first | exact cB hbw8 x0_0 | exact cB hbw8 (cA x0_0 _) | exact cB hbw8 (cA (cA x0_0 _) _)
  replace x0_1 : w8.cell? ⟨w5.heap.size, 1, none⟩ = some (.slice G5 bs0.length bs0.length) := by first | exact cB hbw8 x0_1 | exact cB hbw8 (cA x0_1 _) | exact cB hbw8 (cA (cA x0_1 _) _)
  have hlt8_q0_0 := cell_lt q0_0
  have hlt8_x0_0 := cell_lt x0_0
  go_wp2_with fail
  go_region_held3 (fun w' => w'.cell? ⟨w.heap.size, 0, none⟩ = some (.int .i64 n0) ∧ w'.cell? ⟨w.heap.size, 1, none⟩ = some (.slice A0 bs0.length c0) ∧ w'.cell? ⟨w5.heap.size, 0, none⟩ = some (.int .i64 n0) ∧ w'.cell? ⟨w5.heap.size, 1, none⟩ = some (.slice G5 bs0.length bs0.length)) (first | go_keep | (go_split_ands; (repeat' apply And.intro) <;> (first | assumption | (refine cB (by assumption) ?_; first | assumption | (simp; assumption)) | (simp; assumption))))
    (first
      | (go_at_call 11; refine (toPlan_any _ _ _ bs0 _ (hB0.below (by repeat (first | with_reducible exact Below.refl _ _ | with_reducible refine valloc ?_ _ | with_reducible refine vdrew ?_ | with_reducible refine vdrewN ?_ _ | with_reducible refine via (by assumption) ?_ | refine viaOnly (by assumption) (by omega) ?_))) (by omega)).mono ?_; rintro e w9 ⟨G9, rfl, r9, hbw9⟩)
      | (go_at_call 14; refine (eqPlan_same _ _ _ _ _ bs0 _ (r5.same (by repeat (first | with_reducible exact Same.refl _ _ _ | with_reducible refine Same.alloc ?_ _ | with_reducible refine Same.drew ?_ | with_reducible refine Same.drewN ?_ _ | with_reducible refine Same.below (by assumption) ?_ | refine Same.only (by assumption) (by omega) ?_)) (Nat.le_refl _)).bat r9.bat (by omega)).mono ?_; rintro e w10 ⟨rfl, hbw10⟩))
  have hzw9 : w8.heap.size ≤ w9.heap.size := hbw9.size
  have hzw10 : w9.heap.size ≤ w10.heap.size := hbw10.size
  replace q0_0 : w10.cell? ⟨w.heap.size, 0, none⟩ = some (.int .i64 n0) := cB hbw10 (cB hbw9 q0_0)
  replace q0_1 : w10.cell? ⟨w.heap.size, 1, none⟩ = some (.slice A0 bs0.length c0) := cB hbw10 (cB hbw9 q0_1)
  replace x0_0 : w10.cell? ⟨w5.heap.size, 0, none⟩ = some (.int .i64 n0) := cB hbw10 (cB hbw9 x0_0)
  replace x0_1 : w10.cell? ⟨w5.heap.size, 1, none⟩ = some (.slice G5 bs0.length bs0.length) := cB hbw10 (cB hbw9 x0_1)
  have hlt10_q0_0 := cell_lt q0_0
  have hlt10_x0_0 := cell_lt x0_0
  go_wp2_with fail
  refine (toIntS_any _ _ xs1 _ (hB1.below (by repeat (first | with_reducible exact Below.refl _ _ | with_reducible refine valloc ?_ _ | with_reducible refine vdrew ?_ | with_reducible refine vdrewN ?_ _ | with_reducible refine via (by assumption) ?_ | refine viaOnly (by assumption) (by omega) ?_))) (by omega)).mono ?_; rintro e w11 ⟨G11, rfl, r11, hbw11⟩
  have hzw11 : w10.heap.size ≤ w11.heap.size := (by have := hbw11.size; (try simp only [sz] at this); (try simp only [szc] at this); first | exact this | omega)
  replace q0_0 : w11.cell? ⟨w.heap.size, 0, none⟩ = some (.int .i64 n0) := by first | exact cB hbw11 q0_0 | exact cB hbw11 (cA q0_0 _) | exact cB hbw11 (cA (cA q0_0 _) _)
  replace q0_1 : w11.cell? ⟨w.heap.size, 1, none⟩ = some (.slice A0 bs0.length c0) := by first | exact cB hbw11 q0_1 | exact cB hbw11 (cA q0_1 _) | exact cB hbw11 (cA (cA q0_1 _) _)
  replace x0_0 : w11.cell? ⟨w5.heap.size, 0, none⟩ = some (.int .i64 n0) := by first | exact cB hbw11 x0_0 | exact cB hbw11 (cA x0_0 _) | exact cB hbw11 (cA (cA x0_0 _) _)
  replace x0_1 : w11.cell? ⟨w5.heap.size, 1, none⟩ = some (.slice G5 bs0.length bs0.length) := by first | exact cB hbw11 x0_1 | exact cB hbw11 (cA x0_1 _) | exact cB hbw11 (cA (cA x0_1 _) _)
  have hlt11_q0_0 := cell_lt q0_0
  have hlt11_x0_0 := cell_lt x0_0
  replace r11 := r11.wide (lo' := w10.heap.size) (hi' := w11.heap.size) (by first | exact Nat.le_refl _ | (simp only [sz, szc]; omega)) (Nat.le_refl _)
  go_wp2_with fail
  refine (eqIntS_same _ _ _ _ xs1 _ (r6.same (by repeat (first | with_reducible exact Same.refl _ _ _ | with_reducible refine Same.alloc ?_ _ | with_reducible refine Same.drew ?_ | with_reducible refine Same.drewN ?_ _ | with_reducible refine Same.below (by assumption) ?_ | refine Same.only (by assumption) (by omega) ?_)) (Nat.le_refl _)).iat (r11.same (by repeat (first | with_reducible exact Same.refl _ _ _ | with_reducible refine Same.alloc ?_ _ | with_reducible refine Same.drew ?_ | with_reducible refine Same.drewN ?_ _ | with_reducible refine Same.below (by assumption) ?_ | refine Same.only (by assumption) (by omega) ?_)) (Nat.le_refl _)).iat (by omega)).mono ?_; rintro e w12 ⟨rfl, hbw12⟩
  have hzw12 : w11.heap.size ≤ w12.heap.size := (by have := hbw12.size; (try simp only [sz] at this); (try simp only [szc] at this); first | exact this | omega)
  replace q0_0 : w12.cell? ⟨w.heap.size, 0, none⟩ = some (.int .i64 n0) := by first | exact cB hbw12 q0_0 | exact cB hbw12 (cA q0_0 _) | exact cB hbw12 (cA (cA q0_0 _) _)
  replace q0_1 : w12.cell? ⟨w.heap.size, 1, none⟩ = some (.slice A0 bs0.length c0) := by first | exact cB hbw12 q0_1 | exact cB hbw12 (cA q0_1 _) | exact cB hbw12 (cA (cA q0_1 _) _)
  replace x0_0 : w12.cell? ⟨w5.heap.size, 0, none⟩ = some (.int .i64 n0) := by first | exact cB hbw12 x0_0 | exact cB hbw12 (cA x0_0 _) | exact cB hbw12 (cA (cA x0_0 _) _)
  replace x0_1 : w12.cell? ⟨w5.heap.size, 1, none⟩ = some (.slice G5 bs0.length bs0.length) := by first | exact cB hbw12 x0_1 | exact cB hbw12 (cA x0_1 _) | exact cB hbw12 (cA (cA x0_1 _) _)
  have hlt12_q0_0 := cell_lt q0_0
  have hlt12_x0_0 := cell_lt x0_0
  go_wp2_with fail
  refine (markPlan_any _ _ _ bs0 _ (w4.heap.size) w5.heap.size _ (r5.same (by repeat (first | with_reducible exact Same.refl _ _ _ | with_reducible refine Same.alloc ?_ _ | with_reducible refine Same.drew ?_ | with_reducible refine Same.drewN ?_ _ | with_reducible refine Same.below (by assumption) ?_ | refine Same.only (by assumption) (by omega) ?_)) (Nat.le_refl _)) (by omega) (by omega) (by omega) (by omega)).mono ?_; rintro e w13 ⟨rfl, how13⟩
  have hzw13 : w12.heap.size ≤ w13.heap.size := (by have := how13.size; (try simp only [sz] at this); (try simp only [szc] at this); first | exact this | omega)
  replace q0_0 : w13.cell? ⟨w.heap.size, 0, none⟩ = some (.int .i64 n0) := Only.cell how13 q0_0 (by omega)
  replace q0_1 : w13.cell? ⟨w.heap.size, 1, none⟩ = some (.slice A0 bs0.length c0) := Only.cell how13 q0_1 (by omega)
  replace x0_0 : w13.cell? ⟨w5.heap.size, 0, none⟩ = some (.int .i64 n0) := Only.cell how13 x0_0 (by omega)
  replace x0_1 : w13.cell? ⟨w5.heap.size, 1, none⟩ = some (.slice G5 bs0.length bs0.length) := Only.cell how13 x0_1 (by omega)
  have hlt13_q0_0 := cell_lt q0_0
  have hlt13_x0_0 := cell_lt x0_0
  go_wp2_with fail
  refine (markIntS_any _ _ xs1 _ (w5.heap.size + 1) w6.heap.size _ (r6.same (by repeat (first | with_reducible exact Same.refl _ _ _ | with_reducible refine Same.alloc ?_ _ | with_reducible refine Same.drew ?_ | with_reducible refine Same.drewN ?_ _ | with_reducible refine Same.below (by assumption) ?_ | refine Same.only (by assumption) (by omega) ?_)) (Nat.le_refl _)) (by omega) (by omega) (by omega)).mono ?_; rintro e w14 ⟨rfl, rm14, how14⟩
  have hzw14 : w13.heap.size ≤ w14.heap.size := (by have := how14.size; (try simp only [sz] at this); (try simp only [szc] at this); first | exact this | omega)
  replace q0_0 : w14.cell? ⟨w.heap.size, 0, none⟩ = some (.int .i64 n0) := Only.cell how14 q0_0 (by omega)
  replace q0_1 : w14.cell? ⟨w.heap.size, 1, none⟩ = some (.slice A0 bs0.length c0) := Only.cell how14 q0_1 (by omega)
  replace x0_0 : w14.cell? ⟨w5.heap.size, 0, none⟩ = some (.int .i64 n0) := Only.cell how14 x0_0 (by omega)
  replace x0_1 : w14.cell? ⟨w5.heap.size, 1, none⟩ = some (.slice G5 bs0.length bs0.length) := Only.cell how14 x0_1 (by omega)
  have hlt14_q0_0 := cell_lt q0_0
  have hlt14_x0_0 := cell_lt x0_0
  go_wp2_with fail
  refine (eqIntS_same _ _ _ _ _ _ (r7.same (by repeat (first | with_reducible exact Same.refl _ _ _ | with_reducible refine Same.alloc ?_ _ | with_reducible refine Same.drew ?_ | with_reducible refine Same.drewN ?_ _ | with_reducible refine Same.below (by assumption) ?_ | refine Same.only (by assumption) (by omega) ?_)) (Nat.le_refl _)).iat (r4.same (by repeat (first | with_reducible exact Same.refl _ _ _ | with_reducible refine Same.alloc ?_ _ | with_reducible refine Same.drew ?_ | with_reducible refine Same.drewN ?_ _ | with_reducible refine Same.below (by assumption) ?_ | refine Same.only (by assumption) (by omega) ?_)) (Nat.le_refl _)).iat (by omega)).mono ?_; rintro e w15 ⟨rfl, hbw15⟩
  have hzw15 : w14.heap.size ≤ w15.heap.size := (by have := hbw15.size; (try simp only [sz] at this); (try simp only [szc] at this); first | exact this | omega)
  replace q0_0 : w15.cell? ⟨w.heap.size, 0, none⟩ = some (.int .i64 n0) := by first | exact cB hbw15 q0_0 | exact cB hbw15 (cA q0_0 _) | exact cB hbw15 (cA (cA q0_0 _) _)
  replace q0_1 : w15.cell? ⟨w.heap.size, 1, none⟩ = some (.slice A0 bs0.length c0) := by first | exact cB hbw15 q0_1 | exact cB hbw15 (cA q0_1 _) | exact cB hbw15 (cA (cA q0_1 _) _)
  replace x0_0 : w15.cell? ⟨w5.heap.size, 0, none⟩ = some (.int .i64 n0) := by first | exact cB hbw15 x0_0 | exact cB hbw15 (cA x0_0 _) | exact cB hbw15 (cA (cA x0_0 _) _)
  replace x0_1 : w15.cell? ⟨w5.heap.size, 1, none⟩ = some (.slice G5 bs0.length bs0.length) := by first | exact cB hbw15 x0_1 | exact cB hbw15 (cA x0_1 _) | exact cB hbw15 (cA (cA x0_1 _) _)
  have hlt15_q0_0 := cell_lt q0_0
  have hlt15_x0_0 := cell_lt x0_0
  go_wp2_with fail
  refine (markIntS_any _ _ _ _ (w6.heap.size) w7.heap.size _ (r7.same (by repeat (first | with_reducible exact Same.refl _ _ _ | with_reducible refine Same.alloc ?_ _ | with_reducible refine Same.drew ?_ | with_reducible refine Same.drewN ?_ _ | with_reducible refine Same.below (by assumption) ?_ | refine Same.only (by assumption) (by omega) ?_)) (Nat.le_refl _)) (by omega) (by omega) (by omega)).mono ?_; rintro e w16 ⟨rfl, rm16, how16⟩
  have hzw16 : w15.heap.size ≤ w16.heap.size := (by have := how16.size; (try simp only [sz] at this); (try simp only [szc] at this); first | exact this | omega)
  replace q0_0 : w16.cell? ⟨w.heap.size, 0, none⟩ = some (.int .i64 n0) := Only.cell how16 q0_0 (by omega)
  replace q0_1 : w16.cell? ⟨w.heap.size, 1, none⟩ = some (.slice A0 bs0.length c0) := Only.cell how16 q0_1 (by omega)
  replace x0_0 : w16.cell? ⟨w5.heap.size, 0, none⟩ = some (.int .i64 n0) := Only.cell how16 x0_0 (by omega)
  replace x0_1 : w16.cell? ⟨w5.heap.size, 1, none⟩ = some (.slice G5 bs0.length bs0.length) := Only.cell how16 x0_1 (by omega)
  have hlt16_q0_0 := cell_lt q0_0
  have hlt16_x0_0 := cell_lt x0_0
  go_wp2_with fail
  refine (heldIntS_any _ _ _ _ _ (rm16.same (by repeat (first | with_reducible exact Same.refl _ _ _ | with_reducible refine Same.alloc ?_ _ | with_reducible refine Same.drew ?_ | with_reducible refine Same.drewN ?_ _ | with_reducible refine Same.below (by assumption) ?_ | refine Same.only (by assumption) (by omega) ?_)) (by omega)).iat (by omega) (by omega) (by omega)).mono ?_; rintro e w17 ⟨rfl, hbw17⟩
  have hzw17 : w16.heap.size ≤ w17.heap.size := (by have := hbw17.size; (try simp only [sz] at this); (try simp only [szc] at this); first | exact this | omega)
  replace q0_0 : w17.cell? ⟨w.heap.size, 0, none⟩ = some (.int .i64 n0) := by first | exact cB hbw17 q0_0 | exact cB hbw17 (cA q0_0 _) | exact cB hbw17 (cA (cA q0_0 _) _)
  replace q0_1 : w17.cell? ⟨w.heap.size, 1, none⟩ = some (.slice A0 bs0.length c0) := by first | exact cB hbw17 q0_1 | exact cB hbw17 (cA q0_1 _) | exact cB hbw17 (cA (cA q0_1 _) _)
  replace x0_0 : w17.cell? ⟨w5.heap.size, 0, none⟩ = some (.int .i64 n0) := by first | exact cB hbw17 x0_0 | exact cB hbw17 (cA x0_0 _) | exact cB hbw17 (cA (cA x0_0 _) _)
  replace x0_1 : w17.cell? ⟨w5.heap.size, 1, none⟩ = some (.slice G5 bs0.length bs0.length) := by first | exact cB hbw17 x0_1 | exact cB hbw17 (cA x0_1 _) | exact cB hbw17 (cA (cA x0_1 _) _)
  have hlt17_q0_0 := cell_lt q0_0
  have hlt17_x0_0 := cell_lt x0_0
  go_wp2_with fail
  refine (toPlan_any _ _ _ bs0 _ (hB0.below (by repeat (first | with_reducible exact Below.refl _ _ | with_reducible refine valloc ?_ _ | with_reducible refine vdrew ?_ | with_reducible refine vdrewN ?_ _ | with_reducible refine via (by assumption) ?_ | refine viaOnly (by assumption) (by omega) ?_))) (by omega)).mono ?_; rintro e w18 ⟨G18, rfl, r18, hbw18⟩
  have hzw18 : w17.heap.size ≤ w18.heap.size := (by have := hbw18.size; (try simp only [sz] at this); (try simp only [szc] at this); first | exact this | omega)
  replace q0_0 : w18.cell? ⟨w.heap.size, 0, none⟩ = some (.int .i64 n0) := by first | exact cB hbw18 q0_0 | exact cB hbw18 (cA q0_0 _) | exact cB hbw18 (cA (cA q0_0 _) _)
  replace q0_1 : w18.cell? ⟨w.heap.size, 1, none⟩ = some (.slice A0 bs0.length c0) := by first | exact cB hbw18 q0_1 | exact cB hbw18 (cA q0_1 _) | exact cB hbw18 (cA (cA q0_1 _) _)
  replace x0_0 : w18.cell? ⟨w5.heap.size, 0, none⟩ = some (.int .i64 n0) := by first | exact cB hbw18 x0_0 | exact cB hbw18 (cA x0_0 _) | exact cB hbw18 (cA (cA x0_0 _) _)
  replace x0_1 : w18.cell? ⟨w5.heap.size, 1, none⟩ = some (.slice G5 bs0.length bs0.length) := by first | exact cB hbw18 x0_1 | exact cB hbw18 (cA x0_1 _) | exact cB hbw18 (cA (cA x0_1 _) _)
  have hlt18_q0_0 := cell_lt q0_0
  have hlt18_x0_0 := cell_lt x0_0
  replace r18 := r18.wide (lo' := w17.heap.size) (hi' := w18.heap.size) (by first | exact Nat.le_refl _ | (simp only [sz, szc]; omega)) (Nat.le_refl _)
  go_wp2_with fail
  refine (toIntS_any _ _ xs1 _ (hB1.below (by repeat (first | with_reducible exact Below.refl _ _ | with_reducible refine valloc ?_ _ | with_reducible refine vdrew ?_ | with_reducible refine vdrewN ?_ _ | with_reducible refine via (by assumption) ?_ | refine viaOnly (by assumption) (by omega) ?_))) (by omega)).mono ?_; rintro e w19 ⟨G19, rfl, r19, hbw19⟩
  have hzw19 : w18.heap.size ≤ w19.heap.size := (by have := hbw19.size; (try simp only [sz] at this); (try simp only [szc] at this); first | exact this | omega)
  replace q0_0 : w19.cell? ⟨w.heap.size, 0, none⟩ = some (.int .i64 n0) := by first | exact cB hbw19 q0_0 | exact cB hbw19 (cA q0_0 _) | exact cB hbw19 (cA (cA q0_0 _) _)
  replace q0_1 : w19.cell? ⟨w.heap.size, 1, none⟩ = some (.slice A0 bs0.length c0) := by first | exact cB hbw19 q0_1 | exact cB hbw19 (cA q0_1 _) | exact cB hbw19 (cA (cA q0_1 _) _)
  replace x0_0 : w19.cell? ⟨w5.heap.size, 0, none⟩ = some (.int .i64 n0) := by first | exact cB hbw19 x0_0 | exact cB hbw19 (cA x0_0 _) | exact cB hbw19 (cA (cA x0_0 _) _)
  replace x0_1 : w19.cell? ⟨w5.heap.size, 1, none⟩ = some (.slice G5 bs0.length bs0.length) := by first | exact cB hbw19 x0_1 | exact cB hbw19 (cA x0_1 _) | exact cB hbw19 (cA (cA x0_1 _) _)
  have hlt19_q0_0 := cell_lt q0_0
  have hlt19_x0_0 := cell_lt x0_0
  replace r19 := r19.wide (lo' := w18.heap.size) (hi' := w19.heap.size) (by first | exact Nat.le_refl _ | (simp only [sz, szc]; omega)) (Nat.le_refl _)
  go_wp2_with fail
  refine (endedFrom_any _ _ _ _ _ _ _ (r18.same (by repeat (first | with_reducible exact Same.refl _ _ _ | with_reducible refine Same.alloc ?_ _ | with_reducible refine Same.drew ?_ | with_reducible refine Same.drewN ?_ _ | with_reducible refine Same.below (by assumption) ?_ | refine Same.only (by assumption) (by omega) ?_)) (Nat.le_refl _)).bat (r19.same (by repeat (first | with_reducible exact Same.refl _ _ _ | with_reducible refine Same.alloc ?_ _ | with_reducible refine Same.drew ?_ | with_reducible refine Same.drewN ?_ _ | with_reducible refine Same.below (by assumption) ?_ | refine Same.only (by assumption) (by omega) ?_)) (Nat.le_refl _)).iat (by omega) (by omega)).mono ?_; rintro e w20 ⟨G20, C20, rfl, r20, hbw20⟩
  have hzw20 : w19.heap.size ≤ w20.heap.size := (by have := hbw20.size; (try simp only [sz] at this); (try simp only [szc] at this); first | exact this | omega)
  replace q0_0 : w20.cell? ⟨w.heap.size, 0, none⟩ = some (.int .i64 n0) := by first | exact cB hbw20 q0_0 | exact cB hbw20 (cA q0_0 _) | exact cB hbw20 (cA (cA q0_0 _) _)
  replace q0_1 : w20.cell? ⟨w.heap.size, 1, none⟩ = some (.slice A0 bs0.length c0) := by first | exact cB hbw20 q0_1 | exact cB hbw20 (cA q0_1 _) | exact cB hbw20 (cA (cA q0_1 _) _)
  replace x0_0 : w20.cell? ⟨w5.heap.size, 0, none⟩ = some (.int .i64 n0) := by first | exact cB hbw20 x0_0 | exact cB hbw20 (cA x0_0 _) | exact cB hbw20 (cA (cA x0_0 _) _)
  replace x0_1 : w20.cell? ⟨w5.heap.size, 1, none⟩ = some (.slice G5 bs0.length bs0.length) := by first | exact cB hbw20 x0_1 | exact cB hbw20 (cA x0_1 _) | exact cB hbw20 (cA (cA x0_1 _) _)
  have hlt20_q0_0 := cell_lt q0_0
  have hlt20_x0_0 := cell_lt x0_0
  replace r20 := r20.wide (lo' := w19.heap.size) (hi' := w20.heap.size) (by first | exact Nat.le_refl _ | (simp only [sz, szc]; omega)) (Nat.le_refl _)
  go_wp2_with fail
  refine (eqIntS_same _ _ _ _ _ _ (r20.same (by repeat (first | with_reducible exact Same.refl _ _ _ | with_reducible refine Same.alloc ?_ _ | with_reducible refine Same.drew ?_ | with_reducible refine Same.drewN ?_ _ | with_reducible refine Same.below (by assumption) ?_ | refine Same.only (by assumption) (by omega) ?_)) (Nat.le_refl _)).iat (r4.same (by repeat (first | with_reducible exact Same.refl _ _ _ | with_reducible refine Same.alloc ?_ _ | with_reducible refine Same.drew ?_ | with_reducible refine Same.drewN ?_ _ | with_reducible refine Same.below (by assumption) ?_ | refine Same.only (by assumption) (by omega) ?_)) (Nat.le_refl _)).iat (by omega)).mono ?_; rintro e w21 ⟨rfl, hbw21⟩
  have hzw21 : w20.heap.size ≤ w21.heap.size := (by have := hbw21.size; (try simp only [sz] at this); (try simp only [szc] at this); first | exact this | omega)
  replace q0_0 : w21.cell? ⟨w.heap.size, 0, none⟩ = some (.int .i64 n0) := by first | exact cB hbw21 q0_0 | exact cB hbw21 (cA q0_0 _) | exact cB hbw21 (cA (cA q0_0 _) _)
  replace q0_1 : w21.cell? ⟨w.heap.size, 1, none⟩ = some (.slice A0 bs0.length c0) := by first | exact cB hbw21 q0_1 | exact cB hbw21 (cA q0_1 _) | exact cB hbw21 (cA (cA q0_1 _) _)
  replace x0_0 : w21.cell? ⟨w5.heap.size, 0, none⟩ = some (.int .i64 n0) := by first | exact cB hbw21 x0_0 | exact cB hbw21 (cA x0_0 _) | exact cB hbw21 (cA (cA x0_0 _) _)
  replace x0_1 : w21.cell? ⟨w5.heap.size, 1, none⟩ = some (.slice G5 bs0.length bs0.length) := by first | exact cB hbw21 x0_1 | exact cB hbw21 (cA x0_1 _) | exact cB hbw21 (cA (cA x0_1 _) _)
  have hlt21_q0_0 := cell_lt q0_0
  have hlt21_x0_0 := cell_lt x0_0
  go_wp2_with fail
  refine (heldIntS_any _ _ _ _ _ (rm16.same (by repeat (first | with_reducible exact Same.refl _ _ _ | with_reducible refine Same.alloc ?_ _ | with_reducible refine Same.drew ?_ | with_reducible refine Same.drewN ?_ _ | with_reducible refine Same.below (by assumption) ?_ | refine Same.only (by assumption) (by omega) ?_)) (by omega)).iat (by omega) (by omega) (by omega)).mono ?_; rintro e w22 ⟨rfl, hbw22⟩
  have hzw22 : w21.heap.size ≤ w22.heap.size := (by have := hbw22.size; (try simp only [sz] at this); (try simp only [szc] at this); first | exact this | omega)
  replace q0_0 : w22.cell? ⟨w.heap.size, 0, none⟩ = some (.int .i64 n0) := by first | exact cB hbw22 q0_0 | exact cB hbw22 (cA q0_0 _) | exact cB hbw22 (cA (cA q0_0 _) _)
  replace q0_1 : w22.cell? ⟨w.heap.size, 1, none⟩ = some (.slice A0 bs0.length c0) := by first | exact cB hbw22 q0_1 | exact cB hbw22 (cA q0_1 _) | exact cB hbw22 (cA (cA q0_1 _) _)
  replace x0_0 : w22.cell? ⟨w5.heap.size, 0, none⟩ = some (.int .i64 n0) := by first | exact cB hbw22 x0_0 | exact cB hbw22 (cA x0_0 _) | exact cB hbw22 (cA (cA x0_0 _) _)
  replace x0_1 : w22.cell? ⟨w5.heap.size, 1, none⟩ = some (.slice G5 bs0.length bs0.length) := by first | exact cB hbw22 x0_1 | exact cB hbw22 (cA x0_1 _) | exact cB hbw22 (cA (cA x0_1 _) _)
  have hlt22_q0_0 := cell_lt q0_0
  have hlt22_x0_0 := cell_lt x0_0
  go_wp2
  go_ret
  refine ⟨rfl, ?_⟩
  repeat (first | with_reducible exact Below.refl _ _ | with_reducible refine valloc ?_ _ | with_reducible refine vdrew ?_ | with_reducible refine vdrewN ?_ _ | with_reducible refine via (by assumption) ?_ | refine viaOnly (by assumption) (by omega) ?_)
end Go.Proofs.Ytaifpindiphlkac
