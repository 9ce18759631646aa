/- The walk of the law FnExactMayBeOk: it returns true and changes nothing that was there; no condition but that the rows' lengths are those of slices. -/
import Derived.Test.YtacalapbfcmlgaaMayBe2
import Derived.Deep.RegionHeld3
namespace Go.Proofs.Ytacalapbfcmlgaa
open Go.RowKit
set_option linter.unusedVariables false
set_option linter.unusedSimpArgs false

set_option maxHeartbeats 4000000 in
theorem FnExactMayBeOk_walk (n0 : Int) (A0 : Option Addr) (c0 : Nat) (bs0 : List Bd) (a1 : Int) (a2 : Int) (a3 : Int) (w : World) (hB0 : BAt w A0 bs0) (hl0 : bs0.length ≤ 9223372036854775807) :
    Calls Try.prog 10 #[.agg #[.int .i64 n0, .slice A0 bs0.length c0], .int .i64 a1, .int .i64 a2, .int .i64 a3] w fun e w' => e = .returned (.bool true) ∧ Below w.heap.size w w' := by
  by_cases hS0 : (1048576 : Int) - (bs0.length : Int) < 0
  · go_enter Try.func10, Try.ntmps10
    go_wp2_with fail
    refine (szPlan_any _ _ _ _ _ _ (by omega) (by omega) (by omega)).mono ?_; rintro e w1 ⟨rfl, hbw1⟩
    have q0_0 : w1.cell? ⟨w.heap.size, 0, none⟩ = some (.int .i64 n0) := (hbw1.cell (p := ⟨w.heap.size, 0, none⟩) (by simp <;> omega)).trans (by simp)
    have q0_1 : w1.cell? ⟨w.heap.size, 1, none⟩ = some (.slice A0 bs0.length c0) := (hbw1.cell (p := ⟨w.heap.size, 1, none⟩) (by simp <;> omega)).trans (by simp)
    have hzw1 : w.heap.size ≤ w1.heap.size := (by have := hbw1.size; (try simp only [sz] at this); (try simp only [szc] at this); first | exact this | omega)
    have hlt1_q0_0 := cell_lt q0_0
    go_wp2
    go_ret
    refine ⟨rfl, ?_⟩
    repeat (first | with_reducible exact Below.refl _ _ | with_reducible refine valloc ?_ _ | with_reducible refine vdrew ?_ | with_reducible refine vdrewN ?_ _ | with_reducible refine via (by assumption) ?_ | refine viaOnly (by assumption) (by omega) ?_)
  have hm0 : bs0.length ≤ 1048576 := by omega
  go_enter Try.func10, Try.ntmps10
  go_wp2_with fail
  refine (szPlan_any _ _ _ _ _ _ (by omega) (by omega) (by omega)).mono ?_; rintro e w1 ⟨rfl, hbw1⟩
  have q0_0 : w1.cell? ⟨w.heap.size, 0, none⟩ = some (.int .i64 n0) := (hbw1.cell (p := ⟨w.heap.size, 0, none⟩) (by simp <;> omega)).trans (by simp)
  have q0_1 : w1.cell? ⟨w.heap.size, 1, none⟩ = some (.slice A0 bs0.length c0) := (hbw1.cell (p := ⟨w.heap.size, 1, none⟩) (by simp <;> omega)).trans (by simp)
  have hzw1 : w.heap.size ≤ w1.heap.size := (by have := hbw1.size; (try simp only [sz] at this); (try simp only [szc] at this); first | exact this | omega)
  have hlt1_q0_0 := cell_lt q0_0
  go_wp2_with fail
  refine (toPlan_any _ _ _ bs0 _ (hB0.below (by repeat (first | with_reducible exact Below.refl _ _ | with_reducible refine valloc ?_ _ | with_reducible refine vdrew ?_ | with_reducible refine vdrewN ?_ _ | with_reducible refine via (by assumption) ?_ | refine viaOnly (by assumption) (by omega) ?_))) (by omega)).mono ?_; rintro e w2 ⟨G2, rfl, r2, hbw2⟩
  have hzw2 : w1.heap.size ≤ w2.heap.size := (by have := hbw2.size; (try simp only [sz] at this); (try simp only [szc] at this); first | exact this | omega)
  replace q0_0 : w2.cell? ⟨w.heap.size, 0, none⟩ = some (.int .i64 n0) := by first | exact cB hbw2 q0_0 | exact cB hbw2 (cA q0_0 _) | exact cB hbw2 (cA (cA q0_0 _) _)
  replace q0_1 : w2.cell? ⟨w.heap.size, 1, none⟩ = some (.slice A0 bs0.length c0) := by first | exact cB hbw2 q0_1 | exact cB hbw2 (cA q0_1 _) | exact cB hbw2 (cA (cA q0_1 _) _)
  have hlt2_q0_0 := cell_lt q0_0
  replace r2 := r2.wide (lo' := w1.heap.size) (hi' := w2.heap.size) (by first | exact Nat.le_refl _ | (simp only [sz, szc]; omega)) (Nat.le_refl _)
  go_wp2_with fail
  refine (specMayBeOk_any _ _ _ _ _ _ _ _ (r2.same (by repeat (first | with_reducible exact Same.refl _ _ _ | with_reducible refine Same.alloc ?_ _ | with_reducible refine Same.drew ?_ | with_reducible refine Same.drewN ?_ _ | with_reducible refine Same.below (by assumption) ?_ | refine Same.only (by assumption) (by omega) ?_)) (Nat.le_refl _)).bat (by omega)).mono ?_; rintro e w3 ⟨rfl, hbw3⟩
  have hzw3 : w2.heap.size ≤ w3.heap.size := (by have := hbw3.size; (try simp only [sz] at this); (try simp only [szc] at this); first | exact this | omega)
  replace q0_0 : w3.cell? ⟨w.heap.size, 0, none⟩ = some (.int .i64 n0) := by first | exact cB hbw3 q0_0 | exact cB hbw3 (cA q0_0 _) | exact cB hbw3 (cA (cA q0_0 _) _)
  replace q0_1 : w3.cell? ⟨w.heap.size, 1, none⟩ = some (.slice A0 bs0.length c0) := by first | exact cB hbw3 q0_1 | exact cB hbw3 (cA q0_1 _) | exact cB hbw3 (cA (cA q0_1 _) _)
  have hlt3_q0_0 := cell_lt q0_0
  go_wp2_with fail
  refine (toPlan_any _ _ _ bs0 _ (hB0.below (by repeat (first | with_reducible exact Below.refl _ _ | with_reducible refine valloc ?_ _ | with_reducible refine vdrew ?_ | with_reducible refine vdrewN ?_ _ | with_reducible refine via (by assumption) ?_ | refine viaOnly (by assumption) (by omega) ?_))) (by omega)).mono ?_; rintro e w4 ⟨G4, rfl, r4, hbw4⟩
  have hzw4 : w3.heap.size ≤ w4.heap.size := (by have := hbw4.size; (try simp only [sz] at this); (try simp only [szc] at this); first | exact this | omega)
  replace q0_0 : w4.cell? ⟨w.heap.size, 0, none⟩ = some (.int .i64 n0) := by first | exact cB hbw4 q0_0 | exact cB hbw4 (cA q0_0 _) | exact cB hbw4 (cA (cA q0_0 _) _)
  replace q0_1 : w4.cell? ⟨w.heap.size, 1, none⟩ = some (.slice A0 bs0.length c0) := by first | exact cB hbw4 q0_1 | exact cB hbw4 (cA q0_1 _) | exact cB hbw4 (cA (cA q0_1 _) _)
  have hlt4_q0_0 := cell_lt q0_0
  replace r4 := r4.wide (lo' := w3.heap.size) (hi' := w4.heap.size) (by first | exact Nat.le_refl _ | (simp only [sz, szc]; omega)) (Nat.le_refl _)
  go_wp2_with fail
  refine (mayBeOk_any _ _ _ _ _ _ _ _ (r4.same (by repeat (first | with_reducible exact Same.refl _ _ _ | with_reducible refine Same.alloc ?_ _ | with_reducible refine Same.drew ?_ | with_reducible refine Same.drewN ?_ _ | with_reducible refine Same.below (by assumption) ?_ | refine Same.only (by assumption) (by omega) ?_)) (Nat.le_refl _)).bat (by omega)).mono ?_; rintro e w5 ⟨rfl, hbw5⟩
  have x0_0 : w5.cell? ⟨w4.heap.size, 0, none⟩ = some (.int .i64 n0) := (hbw5.cell (p := ⟨w4.heap.size, 0, none⟩) (by simp <;> omega)).trans (by simp)
  have x0_1 : w5.cell? ⟨w4.heap.size, 1, none⟩ = some (.slice G4 bs0.length bs0.length) := (hbw5.cell (p := ⟨w4.heap.size, 1, none⟩) (by simp <;> omega)).trans (by simp)
  have hzw5 : w4.heap.size ≤ w5.heap.size := (by have := hbw5.size; (try simp only [sz] at this); (try simp only [szc] at this); first | exact this | omega)
  replace q0_0 : w5.cell? ⟨w.heap.size, 0, none⟩ = some (.int .i64 n0) := by first | exact cB hbw5 q0_0 | exact cB hbw5 (cA q0_0 _) | exact cB hbw5 (cA (cA q0_0 _) _)
  replace q0_1 : w5.cell? ⟨w.heap.size, 1, none⟩ = some (.slice A0 bs0.length c0) := by first | exact cB hbw5 q0_1 | exact cB hbw5 (cA q0_1 _) | exact cB hbw5 (cA (cA q0_1 _) _)
  have hlt5_q0_0 := cell_lt q0_0
  have hlt5_x0_0 := cell_lt x0_0
  go_wp2_with fail
  go_region_held3 (fun w' => w'.cell? ⟨w.heap.size, 0, none⟩ = some (.int .i64 n0) ∧ w'.cell? ⟨w.heap.size, 1, none⟩ = some (.slice A0 bs0.length c0) ∧ w'.cell? ⟨w4.heap.size, 0, none⟩ = some (.int .i64 n0) ∧ w'.cell? ⟨w4.heap.size, 1, none⟩ = some (.slice G4 bs0.length bs0.length)) (first | go_keep | (go_split_ands; (repeat' apply And.intro) <;> (first | assumption | (refine cB (by assumption) ?_; first | assumption | (simp; assumption)) | (simp; assumption))))
    (first
      | (go_at_call 17; refine (toPlan_any _ _ _ bs0 _ (hB0.below (by repeat (first | with_reducible exact Below.refl _ _ | with_reducible refine valloc ?_ _ | with_reducible refine vdrew ?_ | with_reducible refine vdrewN ?_ _ | with_reducible refine via (by assumption) ?_ | refine viaOnly (by assumption) (by omega) ?_))) (by omega)).mono ?_; rintro e w6 ⟨G6, rfl, r6, hbw6⟩)
      | (go_at_call 21; refine (eqPlan_same _ _ _ _ _ bs0 _ (r4.same (by repeat (first | with_reducible exact Same.refl _ _ _ | with_reducible refine Same.alloc ?_ _ | with_reducible refine Same.drew ?_ | with_reducible refine Same.drewN ?_ _ | with_reducible refine Same.below (by assumption) ?_ | refine Same.only (by assumption) (by omega) ?_)) (Nat.le_refl _)).bat r6.bat (by omega)).mono ?_; rintro e w7 ⟨rfl, hbw7⟩))
  have hzw6 : w5.heap.size ≤ w6.heap.size := hbw6.size
  have hzw7 : w6.heap.size ≤ w7.heap.size := hbw7.size
  replace q0_0 : w7.cell? ⟨w.heap.size, 0, none⟩ = some (.int .i64 n0) := cB hbw7 (cB hbw6 q0_0)
  replace q0_1 : w7.cell? ⟨w.heap.size, 1, none⟩ = some (.slice A0 bs0.length c0) := cB hbw7 (cB hbw6 q0_1)
  replace x0_0 : w7.cell? ⟨w4.heap.size, 0, none⟩ = some (.int .i64 n0) := cB hbw7 (cB hbw6 x0_0)
  replace x0_1 : w7.cell? ⟨w4.heap.size, 1, none⟩ = some (.slice G4 bs0.length bs0.length) := cB hbw7 (cB hbw6 x0_1)
  have hlt7_q0_0 := cell_lt q0_0
  have hlt7_x0_0 := cell_lt x0_0
  go_wp2
  go_ret
  refine ⟨rfl, ?_⟩
  repeat (first | with_reducible exact Below.refl _ _ | with_reducible refine valloc ?_ _ | with_reducible refine vdrew ?_ | with_reducible refine vdrewN ?_ _ | with_reducible refine via (by assumption) ?_ | refine viaOnly (by assumption) (by omega) ?_)
end Go.Proofs.Ytacalapbfcmlgaa
