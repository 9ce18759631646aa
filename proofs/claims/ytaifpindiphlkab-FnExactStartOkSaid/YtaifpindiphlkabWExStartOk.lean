/- The walk of the law FnExactStartOk: it returns true and changes nothing that was there; no condition but that the rows' lengths are those of slices. -/
import Derived.Test.YtaifpindiphlkabKI
import Derived.Test.YtaifpindiphlkabKB
import Derived.Deep.RegionHeld3
namespace Go.Proofs.Ytaifpindiphlkab
open Go.RowKit
set_option linter.unusedVariables false
set_option maxRecDepth 10000
set_option linter.unusedSimpArgs false

set_option maxHeartbeats 4000000 in
theorem FnExactStartOk_walk (n0 : Int) (A0 : Option Addr) (c0 : Nat) (bs0 : List Bd) (A1 : Option Addr) (c1 : Nat) (xs1 : List Int) (w : World) (hB0 : BAt w A0 bs0) (hl0 : bs0.length ≤ 9223372036854775807) (hB1 : IAt w A1 xs1) (hl1 : xs1.length ≤ 9223372036854775807) :
    Calls Try.prog 3 #[.agg #[.int .i64 n0, .slice A0 bs0.length c0], .slice A1 xs1.length c1] w fun e w' => e = .returned (.bool true) ∧ Below w.heap.size w w' := by
  by_cases hL1 : (1048576 : Int) < (xs1.length : Int)
  · go_enter Try.func3, Try.ntmps3
    go_wp2
    go_ret
    refine ⟨rfl, ?_⟩
    repeat (first | with_reducible exact Below.refl _ _ | with_reducible refine valloc ?_ _ | with_reducible refine vdrew ?_ | with_reducible refine vdrewN ?_ _ | with_reducible refine via (by assumption) ?_ | refine viaOnly (by assumption) (by omega) ?_)
  by_cases hS0 : (1048576 : Int) - (bs0.length : Int) < 0
  · go_enter Try.func3, Try.ntmps3
    go_wp2_with fail
    refine (szPlan_any _ _ _ _ _ _ (by omega) (by omega) (by omega)).mono ?_; rintro e w1 ⟨rfl, hbw1⟩
    have q0_0 : w1.cell? ⟨w.heap.size, 0, none⟩ = some (.int .i64 n0) := (hbw1.cell (p := ⟨w.heap.size, 0, none⟩) (by simp <;> omega)).trans (by simp)
    have q0_1 : w1.cell? ⟨w.heap.size, 1, none⟩ = some (.slice A0 bs0.length c0) := (hbw1.cell (p := ⟨w.heap.size, 1, none⟩) (by simp <;> omega)).trans (by simp)
    have hzw1 : w.heap.size ≤ w1.heap.size := (by have := hbw1.size; (try simp only [sz] at this); (try simp only [szc] at this); first | exact this | omega)
    have hlt1_q0_0 := cell_lt q0_0
    go_wp2
    go_ret
    refine ⟨rfl, ?_⟩
    repeat (first | with_reducible exact Below.refl _ _ | with_reducible refine valloc ?_ _ | with_reducible refine vdrew ?_ | with_reducible refine vdrewN ?_ _ | with_reducible refine via (by assumption) ?_ | refine viaOnly (by assumption) (by omega) ?_)
  have hm0 : bs0.length ≤ 1048576 := by omega
  have hm1 : xs1.length ≤ 1048576 := by omega
  go_enter Try.func3, Try.ntmps3
  go_wp2_with fail
  refine (szPlan_any _ _ _ _ _ _ (by omega) (by omega) (by omega)).mono ?_; rintro e w1 ⟨rfl, hbw1⟩
  have q0_0 : w1.cell? ⟨w.heap.size, 0, none⟩ = some (.int .i64 n0) := (hbw1.cell (p := ⟨w.heap.size, 0, none⟩) (by simp <;> omega)).trans (by simp)
  have q0_1 : w1.cell? ⟨w.heap.size, 1, none⟩ = some (.slice A0 bs0.length c0) := (hbw1.cell (p := ⟨w.heap.size, 1, none⟩) (by simp <;> omega)).trans (by simp)
  have hzw1 : w.heap.size ≤ w1.heap.size := (by have := hbw1.size; (try simp only [sz] at this); (try simp only [szc] at this); first | exact this | omega)
  have hlt1_q0_0 := cell_lt q0_0
  go_wp2_with fail
  refine (toPlan_any _ _ _ bs0 _ (hB0.below (by repeat (first | with_reducible exact Below.refl _ _ | with_reducible refine valloc ?_ _ | with_reducible refine vdrew ?_ | with_reducible refine vdrewN ?_ _ | with_reducible refine via (by assumption) ?_ | refine viaOnly (by assumption) (by omega) ?_))) (by omega)).mono ?_; rintro e w2 ⟨G2, rfl, r2, hbw2⟩
  have hzw2 : w1.heap.size ≤ w2.heap.size := (by have := hbw2.size; (try simp only [sz] at this); (try simp only [szc] at this); first | exact this | omega)
  replace q0_0 : w2.cell? ⟨w.heap.size, 0, none⟩ = some (.int .i64 n0) := by first | exact cB hbw2 q0_0 | exact cB hbw2 (cA q0_0 _) | exact cB hbw2 (cA (cA q0_0 _) _)
  replace q0_1 : w2.cell? ⟨w.heap.size, 1, none⟩ = some (.slice A0 bs0.length c0) := by first | exact cB hbw2 q0_1 | exact cB hbw2 (cA q0_1 _) | exact cB hbw2 (cA (cA q0_1 _) _)
  have hlt2_q0_0 := cell_lt q0_0
  replace r2 := r2.wide (lo' := w1.heap.size) (hi' := w2.heap.size) (by first | exact Nat.le_refl _ | (simp only [sz, szc]; omega)) (Nat.le_refl _)
  go_wp2_with fail
  refine (toIntS_any _ _ xs1 _ (hB1.below (by repeat (first | with_reducible exact Below.refl _ _ | with_reducible refine valloc ?_ _ | with_reducible refine vdrew ?_ | with_reducible refine vdrewN ?_ _ | with_reducible refine via (by assumption) ?_ | refine viaOnly (by assumption) (by omega) ?_))) (by omega)).mono ?_; rintro e w3 ⟨G3, rfl, r3, hbw3⟩
  have hzw3 : w2.heap.size ≤ w3.heap.size := (by have := hbw3.size; (try simp only [sz] at this); (try simp only [szc] at this); first | exact this | omega)
  replace q0_0 : w3.cell? ⟨w.heap.size, 0, none⟩ = some (.int .i64 n0) := by first | exact cB hbw3 q0_0 | exact cB hbw3 (cA q0_0 _) | exact cB hbw3 (cA (cA q0_0 _) _)
  replace q0_1 : w3.cell? ⟨w.heap.size, 1, none⟩ = some (.slice A0 bs0.length c0) := by first | exact cB hbw3 q0_1 | exact cB hbw3 (cA q0_1 _) | exact cB hbw3 (cA (cA q0_1 _) _)
  have hlt3_q0_0 := cell_lt q0_0
  replace r3 := r3.wide (lo' := w2.heap.size) (hi' := w3.heap.size) (by first | exact Nat.le_refl _ | (simp only [sz, szc]; omega)) (Nat.le_refl _)
  go_wp2_with fail
  refine (specStartOk_any _ _ _ _ _ _ _ _ (r2.same (by repeat (first | with_reducible exact Same.refl _ _ _ | with_reducible refine Same.alloc ?_ _ | with_reducible refine Same.drew ?_ | with_reducible refine Same.drewN ?_ _ | with_reducible refine Same.below (by assumption) ?_ | refine Same.only (by assumption) (by omega) ?_)) (Nat.le_refl _)).bat (r3.same (by repeat (first | with_reducible exact Same.refl _ _ _ | with_reducible refine Same.alloc ?_ _ | with_reducible refine Same.drew ?_ | with_reducible refine Same.drewN ?_ _ | with_reducible refine Same.below (by assumption) ?_ | refine Same.only (by assumption) (by omega) ?_)) (Nat.le_refl _)).iat (by omega) (by omega)).mono ?_; rintro e w4 ⟨rfl, hbw4⟩
  have hzw4 : w3.heap.size ≤ w4.heap.size := (by have := hbw4.size; (try simp only [sz] at this); (try simp only [szc] at this); first | exact this | omega)
  replace q0_0 : w4.cell? ⟨w.heap.size, 0, none⟩ = some (.int .i64 n0) := by first | exact cB hbw4 q0_0 | exact cB hbw4 (cA q0_0 _) | exact cB hbw4 (cA (cA q0_0 _) _)
  replace q0_1 : w4.cell? ⟨w.heap.size, 1, none⟩ = some (.slice A0 bs0.length c0) := by first | exact cB hbw4 q0_1 | exact cB hbw4 (cA q0_1 _) | exact cB hbw4 (cA (cA q0_1 _) _)
  have hlt4_q0_0 := cell_lt q0_0
  go_wp2_with fail
  refine (toPlan_any _ _ _ bs0 _ (hB0.below (by repeat (first | with_reducible exact Below.refl _ _ | with_reducible refine valloc ?_ _ | with_reducible refine vdrew ?_ | with_reducible refine vdrewN ?_ _ | with_reducible refine via (by assumption) ?_ | refine viaOnly (by assumption) (by omega) ?_))) (by omega)).mono ?_; rintro e w5 ⟨G5, rfl, r5, hbw5⟩
  have hzw5 : w4.heap.size ≤ w5.heap.size := (by have := hbw5.size; (try simp only [sz] at this); (try simp only [szc] at this); first | exact this | omega)
  replace q0_0 : w5.cell? ⟨w.heap.size, 0, none⟩ = some (.int .i64 n0) := by first | exact cB hbw5 q0_0 | exact cB hbw5 (cA q0_0 _) | exact cB hbw5 (cA (cA q0_0 _) _)
  replace q0_1 : w5.cell? ⟨w.heap.size, 1, none⟩ = some (.slice A0 bs0.length c0) := by first | exact cB hbw5 q0_1 | exact cB hbw5 (cA q0_1 _) | exact cB hbw5 (cA (cA q0_1 _) _)
  have hlt5_q0_0 := cell_lt q0_0
  replace r5 := r5.wide (lo' := w4.heap.size) (hi' := w5.heap.size) (by first | exact Nat.le_refl _ | (simp only [sz, szc]; omega)) (Nat.le_refl _)
  go_wp2_with fail
  refine (toIntS_any _ _ xs1 _ (hB1.below (by repeat (first | with_reducible exact Below.refl _ _ | with_reducible refine valloc ?_ _ | with_reducible refine vdrew ?_ | with_reducible refine vdrewN ?_ _ | with_reducible refine via (by assumption) ?_ | refine viaOnly (by assumption) (by omega) ?_))) (by omega)).mono ?_; rintro e w6 ⟨G6, rfl, r6, hbw6⟩
  have x0_0 : w6.cell? ⟨w5.heap.size, 0, none⟩ = some (.int .i64 n0) := (hbw6.cell (p := ⟨w5.heap.size, 0, none⟩) (by simp <;> omega)).trans (by simp)
  have x0_1 : w6.cell? ⟨w5.heap.size, 1, none⟩ = some (.slice G5 bs0.length bs0.length) := (hbw6.cell (p := ⟨w5.heap.size, 1, none⟩) (by simp <;> omega)).trans (by simp)
  have hzw6 : w5.heap.size ≤ w6.heap.size := (by have := hbw6.size; (try simp only [sz] at this); (try simp only [szc] at this); first | exact this | omega)
  replace q0_0 : w6.cell? ⟨w.heap.size, 0, none⟩ = some (.int .i64 n0) := by first | exact cB hbw6 q0_0 | exact cB hbw6 (cA q0_0 _) | exact cB hbw6 (cA (cA q0_0 _) _)
  replace q0_1 : w6.cell? ⟨w.heap.size, 1, none⟩ = some (.slice A0 bs0.length c0) := by first | exact cB hbw6 q0_1 | exact cB hbw6 (cA q0_1 _) | exact cB hbw6 (cA (cA q0_1 _) _)
  have hlt6_q0_0 := cell_lt q0_0
  have hlt6_x0_0 := cell_lt x0_0
  replace r6 := r6.wide (lo' := w5.heap.size + 1) (hi' := w6.heap.size) (by first | exact Nat.le_refl _ | (simp only [sz, szc]; omega)) (Nat.le_refl _)
  go_wp2_with fail
  refine (startOk_any _ _ _ _ _ _ _ (r5.same (by repeat (first | with_reducible exact Same.refl _ _ _ | with_reducible refine Same.alloc ?_ _ | with_reducible refine Same.drew ?_ | with_reducible refine Same.drewN ?_ _ | with_reducible refine Same.below (by assumption) ?_ | refine Same.only (by assumption) (by omega) ?_)) (Nat.le_refl _)).bat (r6.same (by repeat (first | with_reducible exact Same.refl _ _ _ | with_reducible refine Same.alloc ?_ _ | with_reducible refine Same.drew ?_ | with_reducible refine Same.drewN ?_ _ | with_reducible refine Same.below (by assumption) ?_ | refine Same.only (by assumption) (by omega) ?_)) (Nat.le_refl _)).iat (by omega) (by omega)).mono ?_; rintro e w7 ⟨rfl, hbw7⟩
  have hzw7 : w6.heap.size ≤ w7.heap.size := (by have := hbw7.size; (try simp only [sz] at this); (try simp only [szc] at this); first | exact this | omega)
  replace q0_0 : w7.cell? ⟨w.heap.size, 0, none⟩ = some (.int .i64 n0) := by first | exact cB hbw7 q0_0 | exact cB hbw7 (cA q0_0 _) | exact cB hbw7 (cA (cA q0_0 _) _)
  replace q0_1 : w7.cell? ⟨w.heap.size, 1, none⟩ = some (.slice A0 bs0.length c0) := by first | exact cB hbw7 q0_1 | exact cB hbw7 (cA q0_1 _) | exact cB hbw7 (cA (cA q0_1 _) _)
  replace x0_0 : w7.cell? ⟨w5.heap.size, 0, none⟩ = some (.int .i64 n0) := by first | exact cB hbw7 x0_0 | exact cB hbw7 (cA x0_0 _) | exact cB hbw7 (cA (cA x0_0 _) _)
  replace x0_1 : w7.cell? ⟨w5.heap.size, 1, none⟩ = some (.slice G5 bs0.length bs0.length) := by first | exact cB hbw7 x0_1 | exact cB hbw7 (cA x0_1 _) | exact cB hbw7 (cA (cA x0_1 _) _)
  have hlt7_q0_0 := cell_lt q0_0
  have hlt7_x0_0 := cell_lt x0_0
  go_wp2_with fail
  go_region_held3 (fun w' => w'.cell? ⟨w.heap.size, 0, none⟩ = some (.int .i64 n0) ∧ w'.cell? ⟨w.heap.size, 1, none⟩ = some (.slice A0 bs0.length c0) ∧ w'.cell? ⟨w5.heap.size, 0, none⟩ = some (.int .i64 n0) ∧ w'.cell? ⟨w5.heap.size, 1, none⟩ = some (.slice G5 bs0.length bs0.length)) (first | go_keep | (go_split_ands; (repeat' apply And.intro) <;> (first | assumption | (refine cB (by assumption) ?_; first | assumption | (simp; assumption)) | (simp; assumption))))
    (first
      | (go_at_call 13; refine (toPlan_any _ _ _ bs0 _ (hB0.below (by repeat (first | with_reducible exact Below.refl _ _ | with_reducible refine valloc ?_ _ | with_reducible refine vdrew ?_ | with_reducible refine vdrewN ?_ _ | with_reducible refine via (by assumption) ?_ | refine viaOnly (by assumption) (by omega) ?_))) (by omega)).mono ?_; rintro e w8 ⟨G8, rfl, r8, hbw8⟩)
      | (go_at_call 16; refine (eqPlan_same _ _ _ _ _ bs0 _ (r5.same (by repeat (first | with_reducible exact Same.refl _ _ _ | with_reducible refine Same.alloc ?_ _ | with_reducible refine Same.drew ?_ | with_reducible refine Same.drewN ?_ _ | with_reducible refine Same.below (by assumption) ?_ | refine Same.only (by assumption) (by omega) ?_)) (Nat.le_refl _)).bat r8.bat (by omega)).mono ?_; rintro e w9 ⟨rfl, hbw9⟩))
  have hzw8 : w7.heap.size ≤ w8.heap.size := hbw8.size
  have hzw9 : w8.heap.size ≤ w9.heap.size := hbw9.size
  replace q0_0 : w9.cell? ⟨w.heap.size, 0, none⟩ = some (.int .i64 n0) := cB hbw9 (cB hbw8 q0_0)
  replace q0_1 : w9.cell? ⟨w.heap.size, 1, none⟩ = some (.slice A0 bs0.length c0) := cB hbw9 (cB hbw8 q0_1)
  replace x0_0 : w9.cell? ⟨w5.heap.size, 0, none⟩ = some (.int .i64 n0) := cB hbw9 (cB hbw8 x0_0)
  replace x0_1 : w9.cell? ⟨w5.heap.size, 1, none⟩ = some (.slice G5 bs0.length bs0.length) := cB hbw9 (cB hbw8 x0_1)
  have hlt9_q0_0 := cell_lt q0_0
  have hlt9_x0_0 := cell_lt x0_0
  go_wp2_with fail
  refine (toIntS_any _ _ xs1 _ (hB1.below (by repeat (first | with_reducible exact Below.refl _ _ | with_reducible refine valloc ?_ _ | with_reducible refine vdrew ?_ | with_reducible refine vdrewN ?_ _ | with_reducible refine via (by assumption) ?_ | refine viaOnly (by assumption) (by omega) ?_))) (by omega)).mono ?_; rintro e w10 ⟨G10, rfl, r10, hbw10⟩
  have hzw10 : w9.heap.size ≤ w10.heap.size := (by have := hbw10.size; (try simp only [sz] at this); (try simp only [szc] at this); first | exact this | omega)
  replace q0_0 : w10.cell? ⟨w.heap.size, 0, none⟩ = some (.int .i64 n0) := by first | exact cB hbw10 q0_0 | exact cB hbw10 (cA q0_0 _) | exact cB hbw10 (cA (cA q0_0 _) _)
  replace q0_1 : w10.cell? ⟨w.heap.size, 1, none⟩ = some (.slice A0 bs0.length c0) := by first | exact cB hbw10 q0_1 | exact cB hbw10 (cA q0_1 _) | exact cB hbw10 (cA (cA q0_1 _) _)
  replace x0_0 : w10.cell? ⟨w5.heap.size, 0, none⟩ = some (.int .i64 n0) := by first | exact cB hbw10 x0_0 | exact cB hbw10 (cA x0_0 _) | exact cB hbw10 (cA (cA x0_0 _) _)
  replace x0_1 : w10.cell? ⟨w5.heap.size, 1, none⟩ = some (.slice G5 bs0.length bs0.length) := by first | exact cB hbw10 x0_1 | exact cB hbw10 (cA x0_1 _) | exact cB hbw10 (cA (cA x0_1 _) _)
  have hlt10_q0_0 := cell_lt q0_0
  have hlt10_x0_0 := cell_lt x0_0
  replace r10 := r10.wide (lo' := w9.heap.size) (hi' := w10.heap.size) (by first | exact Nat.le_refl _ | (simp only [sz, szc]; omega)) (Nat.le_refl _)
  go_wp2_with fail
  refine (eqIntS_same _ _ _ _ xs1 _ (r6.same (by repeat (first | with_reducible exact Same.refl _ _ _ | with_reducible refine Same.alloc ?_ _ | with_reducible refine Same.drew ?_ | with_reducible refine Same.drewN ?_ _ | with_reducible refine Same.below (by assumption) ?_ | refine Same.only (by assumption) (by omega) ?_)) (Nat.le_refl _)).iat (r10.same (by repeat (first | with_reducible exact Same.refl _ _ _ | with_reducible refine Same.alloc ?_ _ | with_reducible refine Same.drew ?_ | with_reducible refine Same.drewN ?_ _ | with_reducible refine Same.below (by assumption) ?_ | refine Same.only (by assumption) (by omega) ?_)) (Nat.le_refl _)).iat (by omega)).mono ?_; rintro e w11 ⟨rfl, hbw11⟩
  have hzw11 : w10.heap.size ≤ w11.heap.size := (by have := hbw11.size; (try simp only [sz] at this); (try simp only [szc] at this); first | exact this | omega)
  replace q0_0 : w11.cell? ⟨w.heap.size, 0, none⟩ = some (.int .i64 n0) := by first | exact cB hbw11 q0_0 | exact cB hbw11 (cA q0_0 _) | exact cB hbw11 (cA (cA q0_0 _) _)
  replace q0_1 : w11.cell? ⟨w.heap.size, 1, none⟩ = some (.slice A0 bs0.length c0) := by first | exact cB hbw11 q0_1 | exact cB hbw11 (cA q0_1 _) | exact cB hbw11 (cA (cA q0_1 _) _)
  replace x0_0 : w11.cell? ⟨w5.heap.size, 0, none⟩ = some (.int .i64 n0) := by first | exact cB hbw11 x0_0 | exact cB hbw11 (cA x0_0 _) | exact cB hbw11 (cA (cA x0_0 _) _)
  replace x0_1 : w11.cell? ⟨w5.heap.size, 1, none⟩ = some (.slice G5 bs0.length bs0.length) := by first | exact cB hbw11 x0_1 | exact cB hbw11 (cA x0_1 _) | exact cB hbw11 (cA (cA x0_1 _) _)
  have hlt11_q0_0 := cell_lt q0_0
  have hlt11_x0_0 := cell_lt x0_0
  go_wp2
  go_ret
  refine ⟨rfl, ?_⟩
  repeat (first | with_reducible exact Below.refl _ _ | with_reducible refine valloc ?_ _ | with_reducible refine vdrew ?_ | with_reducible refine vdrewN ?_ _ | with_reducible refine via (by assumption) ?_ | refine viaOnly (by assumption) (by omega) ?_)
end Go.Proofs.Ytaifpindiphlkab
