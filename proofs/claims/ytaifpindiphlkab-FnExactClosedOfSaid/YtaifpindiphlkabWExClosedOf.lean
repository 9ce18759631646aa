/- The walk of the law FnExactClosedOf: it returns true and changes nothing that was there; no condition but that the rows' lengths are those of slices. -/
import Derived.Test.YtaifpindiphlkabKH
import Derived.Deep.RegionHeld3
namespace Go.Proofs.Ytaifpindiphlkab
open Go.RowKit
set_option linter.unusedVariables false
set_option maxRecDepth 10000
set_option linter.unusedSimpArgs false

set_option maxHeartbeats 4000000 in
theorem FnExactClosedOf_walk (n0 : Int) (A0 : Option Addr) (c0 : Nat) (bs0 : List Bd) (w : World) (hB0 : BAt w A0 bs0) (hl0 : bs0.length ≤ 9223372036854775807) :
    Calls Try.prog 5 #[.agg #[.int .i64 n0, .slice A0 bs0.length c0]] w fun e w' => e = .returned (.bool true) ∧ Below w.heap.size w w' := by
  by_cases hS0 : (1048576 : Int) - (bs0.length : Int) < 0
  · go_enter Try.func5, Try.ntmps5
    go_wp2_with fail
    refine (szPlan_any _ _ _ _ _ _ (by omega) (by omega) (by omega)).mono ?_; rintro e w1 ⟨rfl, hbw1⟩
    have q0_0 : w1.cell? ⟨w.heap.size, 0, none⟩ = some (.int .i64 n0) := (hbw1.cell (p := ⟨w.heap.size, 0, none⟩) (by simp <;> omega)).trans (by simp)
    have q0_1 : w1.cell? ⟨w.heap.size, 1, none⟩ = some (.slice A0 bs0.length c0) := (hbw1.cell (p := ⟨w.heap.size, 1, none⟩) (by simp <;> omega)).trans (by simp)
    have hzw1 : w.heap.size ≤ w1.heap.size := (by have := hbw1.size; (try simp only [sz] at this); (try simp only [szc] at this); first | exact this | omega)
    have hlt1_q0_0 := cell_lt q0_0
    go_wp2
    go_ret
    refine ⟨rfl, ?_⟩
    repeat (first | with_reducible exact Below.refl _ _ | with_reducible refine valloc ?_ _ | with_reducible refine vdrew ?_ | with_reducible refine vdrewN ?_ _ | with_reducible refine via (by assumption) ?_ | refine viaOnly (by assumption) (by omega) ?_)
  have hm0 : bs0.length ≤ 1048576 := by omega
  have hres : fitN n0 bs0 ≤ 6 := fitN_le _ _
  go_enter Try.func5, Try.ntmps5
  go_wp2_with fail
  refine (szPlan_any _ _ _ _ _ _ (by omega) (by omega) (by omega)).mono ?_; rintro e w1 ⟨rfl, hbw1⟩
  have q0_0 : w1.cell? ⟨w.heap.size, 0, none⟩ = some (.int .i64 n0) := (hbw1.cell (p := ⟨w.heap.size, 0, none⟩) (by simp <;> omega)).trans (by simp)
  have q0_1 : w1.cell? ⟨w.heap.size, 1, none⟩ = some (.slice A0 bs0.length c0) := (hbw1.cell (p := ⟨w.heap.size, 1, none⟩) (by simp <;> omega)).trans (by simp)
  have hzw1 : w.heap.size ≤ w1.heap.size := (by have := hbw1.size; (try simp only [sz] at this); (try simp only [szc] at this); first | exact this | omega)
  have hlt1_q0_0 := cell_lt q0_0
  go_wp2_with fail
  refine (toPlan_any _ _ _ bs0 _ (hB0.below (by repeat (first | with_reducible exact Below.refl _ _ | with_reducible refine valloc ?_ _ | with_reducible refine vdrew ?_ | with_reducible refine vdrewN ?_ _ | with_reducible refine via (by assumption) ?_ | refine viaOnly (by assumption) (by omega) ?_))) (by omega)).mono ?_; rintro e w2 ⟨G2, rfl, r2, hbw2⟩
  have hzw2 : w1.heap.size ≤ w2.heap.size := (by have := hbw2.size; (try simp only [sz] at this); (try simp only [szc] at this); first | exact this | omega)
  replace q0_0 : w2.cell? ⟨w.heap.size, 0, none⟩ = some (.int .i64 n0) := by first | exact cB hbw2 q0_0 | exact cB hbw2 (cA q0_0 _) | exact cB hbw2 (cA (cA q0_0 _) _)
  replace q0_1 : w2.cell? ⟨w.heap.size, 1, none⟩ = some (.slice A0 bs0.length c0) := by first | exact cB hbw2 q0_1 | exact cB hbw2 (cA q0_1 _) | exact cB hbw2 (cA (cA q0_1 _) _)
  have hlt2_q0_0 := cell_lt q0_0
  replace r2 := r2.wide (lo' := w1.heap.size) (hi' := w2.heap.size) (by first | exact Nat.le_refl _ | (simp only [sz, szc]; omega)) (Nat.le_refl _)
  go_wp2_with fail
  refine (specClosedOf_any _ _ _ _ _ (r2.same (by repeat (first | with_reducible exact Same.refl _ _ _ | with_reducible refine Same.alloc ?_ _ | with_reducible refine Same.drew ?_ | with_reducible refine Same.drewN ?_ _ | with_reducible refine Same.below (by assumption) ?_ | refine Same.only (by assumption) (by omega) ?_)) (Nat.le_refl _)).bat (by omega)).mono ?_; rintro e w3 ⟨G3, C3, rfl, r3, hbw3⟩
  have hzw3 : w2.heap.size ≤ w3.heap.size := (by have := hbw3.size; (try simp only [sz] at this); (try simp only [szc] at this); first | exact this | omega)
  replace q0_0 : w3.cell? ⟨w.heap.size, 0, none⟩ = some (.int .i64 n0) := by first | exact cB hbw3 q0_0 | exact cB hbw3 (cA q0_0 _) | exact cB hbw3 (cA (cA q0_0 _) _)
  replace q0_1 : w3.cell? ⟨w.heap.size, 1, none⟩ = some (.slice A0 bs0.length c0) := by first | exact cB hbw3 q0_1 | exact cB hbw3 (cA q0_1 _) | exact cB hbw3 (cA (cA q0_1 _) _)
  have hlt3_q0_0 := cell_lt q0_0
  replace r3 := r3.wide (lo' := w2.heap.size) (hi' := w3.heap.size) (by first | exact Nat.le_refl _ | (simp only [sz, szc]; omega)) (Nat.le_refl _)
  go_wp2_with fail
  refine (toPlan_any _ _ _ bs0 _ (hB0.below (by repeat (first | with_reducible exact Below.refl _ _ | with_reducible refine valloc ?_ _ | with_reducible refine vdrew ?_ | with_reducible refine vdrewN ?_ _ | with_reducible refine via (by assumption) ?_ | refine viaOnly (by assumption) (by omega) ?_))) (by omega)).mono ?_; rintro e w4 ⟨G4, rfl, r4, hbw4⟩
  have hzw4 : w3.heap.size ≤ w4.heap.size := (by have := hbw4.size; (try simp only [sz] at this); (try simp only [szc] at this); first | exact this | omega)
  replace q0_0 : w4.cell? ⟨w.heap.size, 0, none⟩ = some (.int .i64 n0) := by first | exact cB hbw4 q0_0 | exact cB hbw4 (cA q0_0 _) | exact cB hbw4 (cA (cA q0_0 _) _)
  replace q0_1 : w4.cell? ⟨w.heap.size, 1, none⟩ = some (.slice A0 bs0.length c0) := by first | exact cB hbw4 q0_1 | exact cB hbw4 (cA q0_1 _) | exact cB hbw4 (cA (cA q0_1 _) _)
  have hlt4_q0_0 := cell_lt q0_0
  replace r4 := r4.wide (lo' := w3.heap.size) (hi' := w4.heap.size) (by first | exact Nat.le_refl _ | (simp only [sz, szc]; omega)) (Nat.le_refl _)
  go_wp2_with fail
  refine (closedOf_any _ _ _ _ _ (r4.same (by repeat (first | with_reducible exact Same.refl _ _ _ | with_reducible refine Same.alloc ?_ _ | with_reducible refine Same.drew ?_ | with_reducible refine Same.drewN ?_ _ | with_reducible refine Same.below (by assumption) ?_ | refine Same.only (by assumption) (by omega) ?_)) (Nat.le_refl _)).bat (by omega)).mono ?_; rintro e w5 ⟨G5, C5, rfl, r5, hbw5⟩
  have x0_0 : w5.cell? ⟨w4.heap.size, 0, none⟩ = some (.int .i64 n0) := (hbw5.cell (p := ⟨w4.heap.size, 0, none⟩) (by simp <;> omega)).trans (by simp)
  have x0_1 : w5.cell? ⟨w4.heap.size, 1, none⟩ = some (.slice G4 bs0.length bs0.length) := (hbw5.cell (p := ⟨w4.heap.size, 1, none⟩) (by simp <;> omega)).trans (by simp)
  have hzw5 : w4.heap.size ≤ w5.heap.size := (by have := hbw5.size; (try simp only [sz] at this); (try simp only [szc] at this); first | exact this | omega)
  replace q0_0 : w5.cell? ⟨w.heap.size, 0, none⟩ = some (.int .i64 n0) := by first | exact cB hbw5 q0_0 | exact cB hbw5 (cA q0_0 _) | exact cB hbw5 (cA (cA q0_0 _) _)
  replace q0_1 : w5.cell? ⟨w.heap.size, 1, none⟩ = some (.slice A0 bs0.length c0) := by first | exact cB hbw5 q0_1 | exact cB hbw5 (cA q0_1 _) | exact cB hbw5 (cA (cA q0_1 _) _)
  have hlt5_q0_0 := cell_lt q0_0
  have hlt5_x0_0 := cell_lt x0_0
  replace r5 := r5.wide (lo' := w4.heap.size + 1) (hi' := w5.heap.size) (by first | exact Nat.le_refl _ | (simp only [sz, szc]; omega)) (Nat.le_refl _)
  go_wp2_with fail
  refine (eqIntSS_same _ _ _ _ _ _ _ _ ((r5.same (by repeat (first | with_reducible exact Same.refl _ _ _ | with_reducible refine Same.alloc ?_ _ | with_reducible refine Same.drew ?_ | with_reducible refine Same.drewN ?_ _ | with_reducible refine Same.below (by assumption) ?_ | refine Same.only (by assumption) (by omega) ?_)) (Nat.le_refl _)).mat (by omega)) ((r3.same (by repeat (first | with_reducible exact Same.refl _ _ _ | with_reducible refine Same.alloc ?_ _ | with_reducible refine Same.drew ?_ | with_reducible refine Same.drewN ?_ _ | with_reducible refine Same.below (by assumption) ?_ | refine Same.only (by assumption) (by omega) ?_)) (Nat.le_refl _)).mat (by omega)) (by omega) (by omega)).mono ?_; rintro e w6 ⟨rfl, hbw6⟩
  have hzw6 : w5.heap.size ≤ w6.heap.size := (by have := hbw6.size; (try simp only [sz] at this); (try simp only [szc] at this); first | exact this | omega)
  replace q0_0 : w6.cell? ⟨w.heap.size, 0, none⟩ = some (.int .i64 n0) := by first | exact cB hbw6 q0_0 | exact cB hbw6 (cA q0_0 _) | exact cB hbw6 (cA (cA q0_0 _) _)
  replace q0_1 : w6.cell? ⟨w.heap.size, 1, none⟩ = some (.slice A0 bs0.length c0) := by first | exact cB hbw6 q0_1 | exact cB hbw6 (cA q0_1 _) | exact cB hbw6 (cA (cA q0_1 _) _)
  replace x0_0 : w6.cell? ⟨w4.heap.size, 0, none⟩ = some (.int .i64 n0) := by first | exact cB hbw6 x0_0 | exact cB hbw6 (cA x0_0 _) | exact cB hbw6 (cA (cA x0_0 _) _)
  replace x0_1 : w6.cell? ⟨w4.heap.size, 1, none⟩ = some (.slice G4 bs0.length bs0.length) := by first | exact cB hbw6 x0_1 | exact cB hbw6 (cA x0_1 _) | exact cB hbw6 (cA (cA x0_1 _) _)
  have hlt6_q0_0 := cell_lt q0_0
  have hlt6_x0_0 := cell_lt x0_0
  go_wp2_with fail
  go_region_held3 (fun w' => w'.cell? ⟨w.heap.size, 0, none⟩ = some (.int .i64 n0) ∧ w'.cell? ⟨w.heap.size, 1, none⟩ = some (.slice A0 bs0.length c0) ∧ w'.cell? ⟨w4.heap.size, 0, none⟩ = some (.int .i64 n0) ∧ w'.cell? ⟨w4.heap.size, 1, none⟩ = some (.slice G4 bs0.length bs0.length)) (first | go_keep | (go_split_ands; (repeat' apply And.intro) <;> (first | assumption | (refine cB (by assumption) ?_; first | assumption | (simp; assumption)) | (simp; assumption))))
    (first
      | (go_at_call 13; refine (toPlan_any _ _ _ bs0 _ (hB0.below (by repeat (first | with_reducible exact Below.refl _ _ | with_reducible refine valloc ?_ _ | with_reducible refine vdrew ?_ | with_reducible refine vdrewN ?_ _ | with_reducible refine via (by assumption) ?_ | refine viaOnly (by assumption) (by omega) ?_))) (by omega)).mono ?_; rintro e w7 ⟨G7, rfl, r7, hbw7⟩)
      | (go_at_call 16; refine (eqPlan_same _ _ _ _ _ bs0 _ (r4.same (by repeat (first | with_reducible exact Same.refl _ _ _ | with_reducible refine Same.alloc ?_ _ | with_reducible refine Same.drew ?_ | with_reducible refine Same.drewN ?_ _ | with_reducible refine Same.below (by assumption) ?_ | refine Same.only (by assumption) (by omega) ?_)) (Nat.le_refl _)).bat r7.bat (by omega)).mono ?_; rintro e w8 ⟨rfl, hbw8⟩))
  have hzw7 : w6.heap.size ≤ w7.heap.size := hbw7.size
  have hzw8 : w7.heap.size ≤ w8.heap.size := hbw8.size
  replace q0_0 : w8.cell? ⟨w.heap.size, 0, none⟩ = some (.int .i64 n0) := cB hbw8 (cB hbw7 q0_0)
  replace q0_1 : w8.cell? ⟨w.heap.size, 1, none⟩ = some (.slice A0 bs0.length c0) := cB hbw8 (cB hbw7 q0_1)
  replace x0_0 : w8.cell? ⟨w4.heap.size, 0, none⟩ = some (.int .i64 n0) := cB hbw8 (cB hbw7 x0_0)
  replace x0_1 : w8.cell? ⟨w4.heap.size, 1, none⟩ = some (.slice G4 bs0.length bs0.length) := cB hbw8 (cB hbw7 x0_1)
  have hlt8_q0_0 := cell_lt q0_0
  have hlt8_x0_0 := cell_lt x0_0
  go_wp2_with fail
  refine (markPlan_any _ _ _ bs0 _ (w3.heap.size) w4.heap.size _ (r4.same (by repeat (first | with_reducible exact Same.refl _ _ _ | with_reducible refine Same.alloc ?_ _ | with_reducible refine Same.drew ?_ | with_reducible refine Same.drewN ?_ _ | with_reducible refine Same.below (by assumption) ?_ | refine Same.only (by assumption) (by omega) ?_)) (Nat.le_refl _)) (by omega) (by omega) (by omega) (by omega)).mono ?_; rintro e w9 ⟨rfl, how9⟩
  have hzw9 : w8.heap.size ≤ w9.heap.size := (by have := how9.size; (try simp only [sz] at this); (try simp only [szc] at this); first | exact this | omega)
  replace q0_0 : w9.cell? ⟨w.heap.size, 0, none⟩ = some (.int .i64 n0) := Only.cell how9 q0_0 (by omega)
  replace q0_1 : w9.cell? ⟨w.heap.size, 1, none⟩ = some (.slice A0 bs0.length c0) := Only.cell how9 q0_1 (by omega)
  replace x0_0 : w9.cell? ⟨w4.heap.size, 0, none⟩ = some (.int .i64 n0) := Only.cell how9 x0_0 (by omega)
  replace x0_1 : w9.cell? ⟨w4.heap.size, 1, none⟩ = some (.slice G4 bs0.length bs0.length) := Only.cell how9 x0_1 (by omega)
  have hlt9_q0_0 := cell_lt q0_0
  have hlt9_x0_0 := cell_lt x0_0
  go_wp2_with fail
  refine (eqIntSS_same _ _ _ _ _ _ _ _ ((r5.same (by repeat (first | with_reducible exact Same.refl _ _ _ | with_reducible refine Same.alloc ?_ _ | with_reducible refine Same.drew ?_ | with_reducible refine Same.drewN ?_ _ | with_reducible refine Same.below (by assumption) ?_ | refine Same.only (by assumption) (by omega) ?_)) (Nat.le_refl _)).mat (by omega)) ((r3.same (by repeat (first | with_reducible exact Same.refl _ _ _ | with_reducible refine Same.alloc ?_ _ | with_reducible refine Same.drew ?_ | with_reducible refine Same.drewN ?_ _ | with_reducible refine Same.below (by assumption) ?_ | refine Same.only (by assumption) (by omega) ?_)) (Nat.le_refl _)).mat (by omega)) (by omega) (by omega)).mono ?_; rintro e w10 ⟨rfl, hbw10⟩
  have hzw10 : w9.heap.size ≤ w10.heap.size := (by have := hbw10.size; (try simp only [sz] at this); (try simp only [szc] at this); first | exact this | omega)
  replace q0_0 : w10.cell? ⟨w.heap.size, 0, none⟩ = some (.int .i64 n0) := by first | exact cB hbw10 q0_0 | exact cB hbw10 (cA q0_0 _) | exact cB hbw10 (cA (cA q0_0 _) _)
  replace q0_1 : w10.cell? ⟨w.heap.size, 1, none⟩ = some (.slice A0 bs0.length c0) := by first | exact cB hbw10 q0_1 | exact cB hbw10 (cA q0_1 _) | exact cB hbw10 (cA (cA q0_1 _) _)
  replace x0_0 : w10.cell? ⟨w4.heap.size, 0, none⟩ = some (.int .i64 n0) := by first | exact cB hbw10 x0_0 | exact cB hbw10 (cA x0_0 _) | exact cB hbw10 (cA (cA x0_0 _) _)
  replace x0_1 : w10.cell? ⟨w4.heap.size, 1, none⟩ = some (.slice G4 bs0.length bs0.length) := by first | exact cB hbw10 x0_1 | exact cB hbw10 (cA x0_1 _) | exact cB hbw10 (cA (cA x0_1 _) _)
  have hlt10_q0_0 := cell_lt q0_0
  have hlt10_x0_0 := cell_lt x0_0
  go_wp2_with fail
  refine (markIntSS_res (w4.heap.size + 1) w5.heap.size _ _ _ _ _ _ (r5.same (by repeat (first | with_reducible exact Same.refl _ _ _ | with_reducible refine Same.alloc ?_ _ | with_reducible refine Same.drew ?_ | with_reducible refine Same.drewN ?_ _ | with_reducible refine Same.below (by assumption) ?_ | refine Same.only (by assumption) (by omega) ?_)) (Nat.le_refl _)) (by omega) (by omega) (by omega)).mono ?_; rintro e w11 ⟨rfl, rm11, how11⟩
  have hzw11 : w10.heap.size ≤ w11.heap.size := (by have := how11.size; (try simp only [sz] at this); (try simp only [szc] at this); first | exact this | omega)
  replace q0_0 : w11.cell? ⟨w.heap.size, 0, none⟩ = some (.int .i64 n0) := Only.cell how11 q0_0 (by omega)
  replace q0_1 : w11.cell? ⟨w.heap.size, 1, none⟩ = some (.slice A0 bs0.length c0) := Only.cell how11 q0_1 (by omega)
  replace x0_0 : w11.cell? ⟨w4.heap.size, 0, none⟩ = some (.int .i64 n0) := Only.cell how11 x0_0 (by omega)
  replace x0_1 : w11.cell? ⟨w4.heap.size, 1, none⟩ = some (.slice G4 bs0.length bs0.length) := Only.cell how11 x0_1 (by omega)
  have hlt11_q0_0 := cell_lt q0_0
  have hlt11_x0_0 := cell_lt x0_0
  go_wp2_with fail
  refine (heldIntSS_any _ _ _ _ _ _ ((rm11.same (by repeat (first | with_reducible exact Same.refl _ _ _ | with_reducible refine Same.alloc ?_ _ | with_reducible refine Same.drew ?_ | with_reducible refine Same.drewN ?_ _ | with_reducible refine Same.below (by assumption) ?_ | refine Same.only (by assumption) (by omega) ?_)) (by omega)).mat (by omega)) (by omega) (by omega) (by omega) (by omega)).mono ?_; rintro e w12 ⟨rfl, hbw12⟩
  have hzw12 : w11.heap.size ≤ w12.heap.size := (by have := hbw12.size; (try simp only [sz] at this); (try simp only [szc] at this); first | exact this | omega)
  replace q0_0 : w12.cell? ⟨w.heap.size, 0, none⟩ = some (.int .i64 n0) := by first | exact cB hbw12 q0_0 | exact cB hbw12 (cA q0_0 _) | exact cB hbw12 (cA (cA q0_0 _) _)
  replace q0_1 : w12.cell? ⟨w.heap.size, 1, none⟩ = some (.slice A0 bs0.length c0) := by first | exact cB hbw12 q0_1 | exact cB hbw12 (cA q0_1 _) | exact cB hbw12 (cA (cA q0_1 _) _)
  replace x0_0 : w12.cell? ⟨w4.heap.size, 0, none⟩ = some (.int .i64 n0) := by first | exact cB hbw12 x0_0 | exact cB hbw12 (cA x0_0 _) | exact cB hbw12 (cA (cA x0_0 _) _)
  replace x0_1 : w12.cell? ⟨w4.heap.size, 1, none⟩ = some (.slice G4 bs0.length bs0.length) := by first | exact cB hbw12 x0_1 | exact cB hbw12 (cA x0_1 _) | exact cB hbw12 (cA (cA x0_1 _) _)
  have hlt12_q0_0 := cell_lt q0_0
  have hlt12_x0_0 := cell_lt x0_0
  go_wp2_with fail
  refine (toPlan_any _ _ _ bs0 _ (hB0.below (by repeat (first | with_reducible exact Below.refl _ _ | with_reducible refine valloc ?_ _ | with_reducible refine vdrew ?_ | with_reducible refine vdrewN ?_ _ | with_reducible refine via (by assumption) ?_ | refine viaOnly (by assumption) (by omega) ?_))) (by omega)).mono ?_; rintro e w13 ⟨G13, rfl, r13, hbw13⟩
  have hzw13 : w12.heap.size ≤ w13.heap.size := (by have := hbw13.size; (try simp only [sz] at this); (try simp only [szc] at this); first | exact this | omega)
  replace q0_0 : w13.cell? ⟨w.heap.size, 0, none⟩ = some (.int .i64 n0) := by first | exact cB hbw13 q0_0 | exact cB hbw13 (cA q0_0 _) | exact cB hbw13 (cA (cA q0_0 _) _)
  replace q0_1 : w13.cell? ⟨w.heap.size, 1, none⟩ = some (.slice A0 bs0.length c0) := by first | exact cB hbw13 q0_1 | exact cB hbw13 (cA q0_1 _) | exact cB hbw13 (cA (cA q0_1 _) _)
  replace x0_0 : w13.cell? ⟨w4.heap.size, 0, none⟩ = some (.int .i64 n0) := by first | exact cB hbw13 x0_0 | exact cB hbw13 (cA x0_0 _) | exact cB hbw13 (cA (cA x0_0 _) _)
  replace x0_1 : w13.cell? ⟨w4.heap.size, 1, none⟩ = some (.slice G4 bs0.length bs0.length) := by first | exact cB hbw13 x0_1 | exact cB hbw13 (cA x0_1 _) | exact cB hbw13 (cA (cA x0_1 _) _)
  have hlt13_q0_0 := cell_lt q0_0
  have hlt13_x0_0 := cell_lt x0_0
  replace r13 := r13.wide (lo' := w12.heap.size) (hi' := w13.heap.size) (by first | exact Nat.le_refl _ | (simp only [sz, szc]; omega)) (Nat.le_refl _)
  go_wp2_with fail
  refine (closedOf_any _ _ _ _ _ (r13.same (by repeat (first | with_reducible exact Same.refl _ _ _ | with_reducible refine Same.alloc ?_ _ | with_reducible refine Same.drew ?_ | with_reducible refine Same.drewN ?_ _ | with_reducible refine Same.below (by assumption) ?_ | refine Same.only (by assumption) (by omega) ?_)) (Nat.le_refl _)).bat (by omega)).mono ?_; rintro e w14 ⟨G14, C14, rfl, r14, hbw14⟩
  have hzw14 : w13.heap.size ≤ w14.heap.size := (by have := hbw14.size; (try simp only [sz] at this); (try simp only [szc] at this); first | exact this | omega)
  replace q0_0 : w14.cell? ⟨w.heap.size, 0, none⟩ = some (.int .i64 n0) := by first | exact cB hbw14 q0_0 | exact cB hbw14 (cA q0_0 _) | exact cB hbw14 (cA (cA q0_0 _) _)
  replace q0_1 : w14.cell? ⟨w.heap.size, 1, none⟩ = some (.slice A0 bs0.length c0) := by first | exact cB hbw14 q0_1 | exact cB hbw14 (cA q0_1 _) | exact cB hbw14 (cA (cA q0_1 _) _)
  replace x0_0 : w14.cell? ⟨w4.heap.size, 0, none⟩ = some (.int .i64 n0) := by first | exact cB hbw14 x0_0 | exact cB hbw14 (cA x0_0 _) | exact cB hbw14 (cA (cA x0_0 _) _)
  replace x0_1 : w14.cell? ⟨w4.heap.size, 1, none⟩ = some (.slice G4 bs0.length bs0.length) := by first | exact cB hbw14 x0_1 | exact cB hbw14 (cA x0_1 _) | exact cB hbw14 (cA (cA x0_1 _) _)
  have hlt14_q0_0 := cell_lt q0_0
  have hlt14_x0_0 := cell_lt x0_0
  replace r14 := r14.wide (lo' := w13.heap.size) (hi' := w14.heap.size) (by first | exact Nat.le_refl _ | (simp only [sz, szc]; omega)) (Nat.le_refl _)
  go_wp2_with fail
  refine (eqIntSS_same _ _ _ _ _ _ _ _ ((r14.same (by repeat (first | with_reducible exact Same.refl _ _ _ | with_reducible refine Same.alloc ?_ _ | with_reducible refine Same.drew ?_ | with_reducible refine Same.drewN ?_ _ | with_reducible refine Same.below (by assumption) ?_ | refine Same.only (by assumption) (by omega) ?_)) (Nat.le_refl _)).mat (by omega)) ((r3.same (by repeat (first | with_reducible exact Same.refl _ _ _ | with_reducible refine Same.alloc ?_ _ | with_reducible refine Same.drew ?_ | with_reducible refine Same.drewN ?_ _ | with_reducible refine Same.below (by assumption) ?_ | refine Same.only (by assumption) (by omega) ?_)) (Nat.le_refl _)).mat (by omega)) (by omega) (by omega)).mono ?_; rintro e w15 ⟨rfl, hbw15⟩
  have hzw15 : w14.heap.size ≤ w15.heap.size := (by have := hbw15.size; (try simp only [sz] at this); (try simp only [szc] at this); first | exact this | omega)
  replace q0_0 : w15.cell? ⟨w.heap.size, 0, none⟩ = some (.int .i64 n0) := by first | exact cB hbw15 q0_0 | exact cB hbw15 (cA q0_0 _) | exact cB hbw15 (cA (cA q0_0 _) _)
  replace q0_1 : w15.cell? ⟨w.heap.size, 1, none⟩ = some (.slice A0 bs0.length c0) := by first | exact cB hbw15 q0_1 | exact cB hbw15 (cA q0_1 _) | exact cB hbw15 (cA (cA q0_1 _) _)
  replace x0_0 : w15.cell? ⟨w4.heap.size, 0, none⟩ = some (.int .i64 n0) := by first | exact cB hbw15 x0_0 | exact cB hbw15 (cA x0_0 _) | exact cB hbw15 (cA (cA x0_0 _) _)
  replace x0_1 : w15.cell? ⟨w4.heap.size, 1, none⟩ = some (.slice G4 bs0.length bs0.length) := by first | exact cB hbw15 x0_1 | exact cB hbw15 (cA x0_1 _) | exact cB hbw15 (cA (cA x0_1 _) _)
  have hlt15_q0_0 := cell_lt q0_0
  have hlt15_x0_0 := cell_lt x0_0
  go_wp2_with fail
  refine (heldIntSS_any _ _ _ _ _ _ ((rm11.same (by repeat (first | with_reducible exact Same.refl _ _ _ | with_reducible refine Same.alloc ?_ _ | with_reducible refine Same.drew ?_ | with_reducible refine Same.drewN ?_ _ | with_reducible refine Same.below (by assumption) ?_ | refine Same.only (by assumption) (by omega) ?_)) (by omega)).mat (by omega)) (by omega) (by omega) (by omega) (by omega)).mono ?_; rintro e w16 ⟨rfl, hbw16⟩
  have hzw16 : w15.heap.size ≤ w16.heap.size := (by have := hbw16.size; (try simp only [sz] at this); (try simp only [szc] at this); first | exact this | omega)
  replace q0_0 : w16.cell? ⟨w.heap.size, 0, none⟩ = some (.int .i64 n0) := by first | exact cB hbw16 q0_0 | exact cB hbw16 (cA q0_0 _) | exact cB hbw16 (cA (cA q0_0 _) _)
  replace q0_1 : w16.cell? ⟨w.heap.size, 1, none⟩ = some (.slice A0 bs0.length c0) := by first | exact cB hbw16 q0_1 | exact cB hbw16 (cA q0_1 _) | exact cB hbw16 (cA (cA q0_1 _) _)
  replace x0_0 : w16.cell? ⟨w4.heap.size, 0, none⟩ = some (.int .i64 n0) := by first | exact cB hbw16 x0_0 | exact cB hbw16 (cA x0_0 _) | exact cB hbw16 (cA (cA x0_0 _) _)
  replace x0_1 : w16.cell? ⟨w4.heap.size, 1, none⟩ = some (.slice G4 bs0.length bs0.length) := by first | exact cB hbw16 x0_1 | exact cB hbw16 (cA x0_1 _) | exact cB hbw16 (cA (cA x0_1 _) _)
  have hlt16_q0_0 := cell_lt q0_0
  have hlt16_x0_0 := cell_lt x0_0
  go_wp2
  go_ret
  refine ⟨rfl, ?_⟩
  repeat (first | with_reducible exact Below.refl _ _ | with_reducible refine valloc ?_ _ | with_reducible refine vdrew ?_ | with_reducible refine vdrewN ?_ _ | with_reducible refine via (by assumption) ?_ | refine viaOnly (by assumption) (by omega) ?_)
end Go.Proofs.Ytaifpindiphlkab
