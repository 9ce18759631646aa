/- The walk of the law FnExactAlikeOk: it returns true and changes nothing that was there; no condition but that the rows' lengths are those of slices. -/
import Derived.Test.YtaifpindiphlkaaImplies
import Derived.Test.YtaifpindiphlkaaKB
import Derived.Deep.RegionHeld3
namespace Go.Proofs.Ytaifpindiphlkaa
open Go.RowKit
set_option linter.unusedVariables false
set_option maxRecDepth 10000
set_option linter.unusedSimpArgs false

set_option maxHeartbeats 4000000 in
theorem FnExactAlikeOk_walk (n0 : Int) (A0 : Option Addr) (c0 : Nat) (bs0 : List Bd) (n1 : Int) (A1 : Option Addr) (c1 : Nat) (bs1 : List Bd) (w : World) (hB0 : BAt w A0 bs0) (hl0 : bs0.length ≤ 9223372036854775807) (hB1 : BAt w A1 bs1) (hl1 : bs1.length ≤ 9223372036854775807) :
    Calls Try.prog 10 #[.agg #[.int .i64 n0, .slice A0 bs0.length c0], .agg #[.int .i64 n1, .slice A1 bs1.length c1]] w fun e w' => e = .returned (.bool true) ∧ Below w.heap.size w w' := by
  by_cases hS0 : (1048576 : Int) - (bs0.length : Int) < 0
  · go_enter Try.func10, Try.ntmps10
    go_wp2_with fail
    refine (szPlan_any _ _ _ _ _ _ (by omega) (by omega) (by omega)).mono ?_; rintro e w1 ⟨rfl, hbw1⟩
    have q0_0 : w1.cell? ⟨w.heap.size, 0, none⟩ = some (.int .i64 n0) := (hbw1.cell (p := ⟨w.heap.size, 0, none⟩) (by simp <;> omega)).trans (by simp)
    have q0_1 : w1.cell? ⟨w.heap.size, 1, none⟩ = some (.slice A0 bs0.length c0) := (hbw1.cell (p := ⟨w.heap.size, 1, none⟩) (by simp <;> omega)).trans (by simp)
    have q1_0 : w1.cell? ⟨w.heap.size + 1, 0, none⟩ = some (.int .i64 n1) := (hbw1.cell (p := ⟨w.heap.size + 1, 0, none⟩) (by simp <;> omega)).trans (by simp)
    have q1_1 : w1.cell? ⟨w.heap.size + 1, 1, none⟩ = some (.slice A1 bs1.length c1) := (hbw1.cell (p := ⟨w.heap.size + 1, 1, none⟩) (by simp <;> omega)).trans (by simp)
    have hzw1 : w.heap.size ≤ w1.heap.size := (by have := hbw1.size; (try simp only [sz] at this); (try simp only [szc] at this); first | exact this | omega)
    have hlt1_q0_0 := cell_lt q0_0
    have hlt1_q1_0 := cell_lt q1_0
    go_wp2
    go_ret
    refine ⟨rfl, ?_⟩
    repeat (first | with_reducible exact Below.refl _ _ | with_reducible refine valloc ?_ _ | with_reducible refine vdrew ?_ | with_reducible refine vdrewN ?_ _ | with_reducible refine via (by assumption) ?_ | refine viaOnly (by assumption) (by omega) ?_)
  by_cases hS1 : (1048576 : Int) - (bs0.length : Int) - (bs1.length : Int) < 0
  · go_enter Try.func10, Try.ntmps10
    go_wp2_with fail
    refine (szPlan_any _ _ _ _ _ _ (by omega) (by omega) (by omega)).mono ?_; rintro e w1 ⟨rfl, hbw1⟩
    have q0_0 : w1.cell? ⟨w.heap.size, 0, none⟩ = some (.int .i64 n0) := (hbw1.cell (p := ⟨w.heap.size, 0, none⟩) (by simp <;> omega)).trans (by simp)
    have q0_1 : w1.cell? ⟨w.heap.size, 1, none⟩ = some (.slice A0 bs0.length c0) := (hbw1.cell (p := ⟨w.heap.size, 1, none⟩) (by simp <;> omega)).trans (by simp)
    have q1_0 : w1.cell? ⟨w.heap.size + 1, 0, none⟩ = some (.int .i64 n1) := (hbw1.cell (p := ⟨w.heap.size + 1, 0, none⟩) (by simp <;> omega)).trans (by simp)
    have q1_1 : w1.cell? ⟨w.heap.size + 1, 1, none⟩ = some (.slice A1 bs1.length c1) := (hbw1.cell (p := ⟨w.heap.size + 1, 1, none⟩) (by simp <;> omega)).trans (by simp)
    have hzw1 : w.heap.size ≤ w1.heap.size := (by have := hbw1.size; (try simp only [sz] at this); (try simp only [szc] at this); first | exact this | omega)
    have hlt1_q0_0 := cell_lt q0_0
    have hlt1_q1_0 := cell_lt q1_0
    go_wp2_with fail
    refine (szPlan_any _ _ _ _ _ _ (by omega) (by omega) (by omega)).mono ?_; rintro e w2 ⟨rfl, hbw2⟩
    have hzw2 : w1.heap.size ≤ w2.heap.size := (by have := hbw2.size; (try simp only [sz] at this); (try simp only [szc] at this); first | exact this | omega)
    replace q0_0 : w2.cell? ⟨w.heap.size, 0, none⟩ = some (.int .i64 n0) := by first | exact cB hbw2 q0_0 | exact cB hbw2 (cA q0_0 _) | exact cB hbw2 (cA (cA q0_0 _) _)
    replace q0_1 : w2.cell? ⟨w.heap.size, 1, none⟩ = some (.slice A0 bs0.length c0) := by first | exact cB hbw2 q0_1 | exact cB hbw2 (cA q0_1 _) | exact cB hbw2 (cA (cA q0_1 _) _)
    replace q1_0 : w2.cell? ⟨w.heap.size + 1, 0, none⟩ = some (.int .i64 n1) := by first | exact cB hbw2 q1_0 | exact cB hbw2 (cA q1_0 _) | exact cB hbw2 (cA (cA q1_0 _) _)
    replace q1_1 : w2.cell? ⟨w.heap.size + 1, 1, none⟩ = some (.slice A1 bs1.length c1) := by first | exact cB hbw2 q1_1 | exact cB hbw2 (cA q1_1 _) | exact cB hbw2 (cA (cA q1_1 _) _)
    have hlt2_q0_0 := cell_lt q0_0
    have hlt2_q1_0 := cell_lt q1_0
    go_wp2
    go_ret
    refine ⟨rfl, ?_⟩
    repeat (first | with_reducible exact Below.refl _ _ | with_reducible refine valloc ?_ _ | with_reducible refine vdrew ?_ | with_reducible refine vdrewN ?_ _ | with_reducible refine via (by assumption) ?_ | refine viaOnly (by assumption) (by omega) ?_)
  have hm0 : bs0.length ≤ 1048576 := by omega
  have hm1 : bs1.length ≤ 1048576 := by omega
  go_enter Try.func10, Try.ntmps10
  go_wp2_with fail
  refine (szPlan_any _ _ _ _ _ _ (by omega) (by omega) (by omega)).mono ?_; rintro e w1 ⟨rfl, hbw1⟩
  have q0_0 : w1.cell? ⟨w.heap.size, 0, none⟩ = some (.int .i64 n0) := (hbw1.cell (p := ⟨w.heap.size, 0, none⟩) (by simp <;> omega)).trans (by simp)
  have q0_1 : w1.cell? ⟨w.heap.size, 1, none⟩ = some (.slice A0 bs0.length c0) := (hbw1.cell (p := ⟨w.heap.size, 1, none⟩) (by simp <;> omega)).trans (by simp)
  have q1_0 : w1.cell? ⟨w.heap.size + 1, 0, none⟩ = some (.int .i64 n1) := (hbw1.cell (p := ⟨w.heap.size + 1, 0, none⟩) (by simp <;> omega)).trans (by simp)
  have q1_1 : w1.cell? ⟨w.heap.size + 1, 1, none⟩ = some (.slice A1 bs1.length c1) := (hbw1.cell (p := ⟨w.heap.size + 1, 1, none⟩) (by simp <;> omega)).trans (by simp)
  have hzw1 : w.heap.size ≤ w1.heap.size := (by have := hbw1.size; (try simp only [sz] at this); (try simp only [szc] at this); first | exact this | omega)
  have hlt1_q0_0 := cell_lt q0_0
  have hlt1_q1_0 := cell_lt q1_0
  go_wp2_with fail
  refine (szPlan_any _ _ _ _ _ _ (by omega) (by omega) (by omega)).mono ?_; rintro e w2 ⟨rfl, hbw2⟩
  have hzw2 : w1.heap.size ≤ w2.heap.size := (by have := hbw2.size; (try simp only [sz] at this); (try simp only [szc] at this); first | exact this | omega)
  replace q0_0 : w2.cell? ⟨w.heap.size, 0, none⟩ = some (.int .i64 n0) := by first | exact cB hbw2 q0_0 | exact cB hbw2 (cA q0_0 _) | exact cB hbw2 (cA (cA q0_0 _) _)
  replace q0_1 : w2.cell? ⟨w.heap.size, 1, none⟩ = some (.slice A0 bs0.length c0) := by first | exact cB hbw2 q0_1 | exact cB hbw2 (cA q0_1 _) | exact cB hbw2 (cA (cA q0_1 _) _)
  replace q1_0 : w2.cell? ⟨w.heap.size + 1, 0, none⟩ = some (.int .i64 n1) := by first | exact cB hbw2 q1_0 | exact cB hbw2 (cA q1_0 _) | exact cB hbw2 (cA (cA q1_0 _) _)
  replace q1_1 : w2.cell? ⟨w.heap.size + 1, 1, none⟩ = some (.slice A1 bs1.length c1) := by first | exact cB hbw2 q1_1 | exact cB hbw2 (cA q1_1 _) | exact cB hbw2 (cA (cA q1_1 _) _)
  have hlt2_q0_0 := cell_lt q0_0
  have hlt2_q1_0 := cell_lt q1_0
  go_wp2_with fail
  have hmark3 : True := trivial
  go_region_held3 (fun w' => w'.cell? ⟨w.heap.size, 0, none⟩ = some (.int .i64 n0) ∧ w'.cell? ⟨w.heap.size, 1, none⟩ = some (.slice A0 bs0.length c0) ∧ w'.cell? ⟨w.heap.size + 1, 0, none⟩ = some (.int .i64 n1) ∧ w'.cell? ⟨w.heap.size + 1, 1, none⟩ = some (.slice A1 bs1.length c1)) (first | go_keep | (go_split_ands; (repeat' apply And.intro) <;> (first | assumption | (refine cB (by assumption) ?_; first | assumption | (simp; assumption)) | (simp; assumption))))
    (first
      | (go_at_call 33; clear hmark3; refine (toPlan_any _ _ _ bs0 _ (hB0.below (by repeat (first | with_reducible exact Below.refl _ _ | with_reducible refine valloc ?_ _ | with_reducible refine vdrew ?_ | with_reducible refine vdrewN ?_ _ | with_reducible refine via (by assumption) ?_ | refine viaOnly (by assumption) (by omega) ?_))) (by omega)).mono ?_; rintro e w3 ⟨G3, rfl, r3, hbw3⟩)
      | (go_at_call 33; refine (toPlan_any _ _ _ bs1 _ (hB1.below (by repeat (first | with_reducible exact Below.refl _ _ | with_reducible refine valloc ?_ _ | with_reducible refine vdrew ?_ | with_reducible refine vdrewN ?_ _ | with_reducible refine via (by assumption) ?_ | refine viaOnly (by assumption) (by omega) ?_))) (by omega)).mono ?_; rintro e w4 ⟨G4, rfl, r4, hbw4⟩)
      | (go_at_call 42; refine (specAlikeOk_any _ _ _ _ _ _ _ _ _ (r3.same (by repeat (first | with_reducible exact Same.refl _ _ _ | with_reducible refine Same.alloc ?_ _ | with_reducible refine Same.drew ?_ | with_reducible refine Same.drewN ?_ _ | with_reducible refine Same.below (by assumption) ?_ | refine Same.only (by assumption) (by omega) ?_)) (Nat.le_refl _)).bat (r4.same (by repeat (first | with_reducible exact Same.refl _ _ _ | with_reducible refine Same.alloc ?_ _ | with_reducible refine Same.drew ?_ | with_reducible refine Same.drewN ?_ _ | with_reducible refine Same.below (by assumption) ?_ | refine Same.only (by assumption) (by omega) ?_)) (Nat.le_refl _)).bat (by omega) (by omega)).mono ?_; rintro e w5 ⟨rfl, hbw5⟩))
  have hzw3 : w2.heap.size ≤ w3.heap.size := hbw3.size
  have hzw4 : w3.heap.size ≤ w4.heap.size := hbw4.size
  have hzw5 : w4.heap.size ≤ w5.heap.size := hbw5.size
  replace q0_0 : w5.cell? ⟨w.heap.size, 0, none⟩ = some (.int .i64 n0) := cB hbw5 (cB hbw4 (cB hbw3 (q0_0)))
  replace q0_1 : w5.cell? ⟨w.heap.size, 1, none⟩ = some (.slice A0 bs0.length c0) := cB hbw5 (cB hbw4 (cB hbw3 (q0_1)))
  replace q1_0 : w5.cell? ⟨w.heap.size + 1, 0, none⟩ = some (.int .i64 n1) := cB hbw5 (cB hbw4 (cB hbw3 (q1_0)))
  replace q1_1 : w5.cell? ⟨w.heap.size + 1, 1, none⟩ = some (.slice A1 bs1.length c1) := cB hbw5 (cB hbw4 (cB hbw3 (q1_1)))
  have hlt5_q0_0 := cell_lt q0_0
  have hlt5_q1_0 := cell_lt q1_0
  go_wp2_with fail
  refine (toPlan_any _ _ _ bs0 _ (hB0.below (by repeat (first | with_reducible exact Below.refl _ _ | with_reducible refine valloc ?_ _ | with_reducible refine vdrew ?_ | with_reducible refine vdrewN ?_ _ | with_reducible refine via (by assumption) ?_ | refine viaOnly (by assumption) (by omega) ?_))) (by omega)).mono ?_; rintro e w6 ⟨G6, rfl, r6, hbw6⟩
  have hzw6 : w5.heap.size ≤ w6.heap.size := (by have := hbw6.size; (try simp only [sz] at this); (try simp only [szc] at this); first | exact this | omega)
  replace q0_0 : w6.cell? ⟨w.heap.size, 0, none⟩ = some (.int .i64 n0) := by first | exact cB hbw6 q0_0 | exact cB hbw6 (cA q0_0 _) | exact cB hbw6 (cA (cA q0_0 _) _)
  replace q0_1 : w6.cell? ⟨w.heap.size, 1, none⟩ = some (.slice A0 bs0.length c0) := by first | exact cB hbw6 q0_1 | exact cB hbw6 (cA q0_1 _) | exact cB hbw6 (cA (cA q0_1 _) _)
  replace q1_0 : w6.cell? ⟨w.heap.size + 1, 0, none⟩ = some (.int .i64 n1) := by first | exact cB hbw6 q1_0 | exact cB hbw6 (cA q1_0 _) | exact cB hbw6 (cA (cA q1_0 _) _)
  replace q1_1 : w6.cell? ⟨w.heap.size + 1, 1, none⟩ = some (.slice A1 bs1.length c1) := by first | exact cB hbw6 q1_1 | exact cB hbw6 (cA q1_1 _) | exact cB hbw6 (cA (cA q1_1 _) _)
  have hlt6_q0_0 := cell_lt q0_0
  have hlt6_q1_0 := cell_lt q1_0
  replace r6 := r6.wide (lo' := w5.heap.size) (hi' := w6.heap.size) (by first | exact Nat.le_refl _ | (simp only [sz, szc]; omega)) (Nat.le_refl _)
  go_wp2_with fail
  refine (toPlan_any _ _ _ bs1 _ (hB1.below (by repeat (first | with_reducible exact Below.refl _ _ | with_reducible refine valloc ?_ _ | with_reducible refine vdrew ?_ | with_reducible refine vdrewN ?_ _ | with_reducible refine via (by assumption) ?_ | refine viaOnly (by assumption) (by omega) ?_))) (by omega)).mono ?_; rintro e w7 ⟨G7, rfl, r7, hbw7⟩
  have x0_0 : w7.cell? ⟨w6.heap.size, 0, none⟩ = some (.int .i64 n0) := (hbw7.cell (p := ⟨w6.heap.size, 0, none⟩) (by simp <;> omega)).trans (by simp)
  have x0_1 : w7.cell? ⟨w6.heap.size, 1, none⟩ = some (.slice G6 bs0.length bs0.length) := (hbw7.cell (p := ⟨w6.heap.size, 1, none⟩) (by simp <;> omega)).trans (by simp)
  have hzw7 : w6.heap.size ≤ w7.heap.size := (by have := hbw7.size; (try simp only [sz] at this); (try simp only [szc] at this); first | exact this | omega)
  replace q0_0 : w7.cell? ⟨w.heap.size, 0, none⟩ = some (.int .i64 n0) := by first | exact cB hbw7 q0_0 | exact cB hbw7 (cA q0_0 _) | exact cB hbw7 (cA (cA q0_0 _) _)
  replace q0_1 : w7.cell? ⟨w.heap.size, 1, none⟩ = some (.slice A0 bs0.length c0) := by first | exact cB hbw7 q0_1 | exact cB hbw7 (cA q0_1 _) | exact cB hbw7 (cA (cA q0_1 _) _)
  replace q1_0 : w7.cell? ⟨w.heap.size + 1, 0, none⟩ = some (.int .i64 n1) := by first | exact cB hbw7 q1_0 | exact cB hbw7 (cA q1_0 _) | exact cB hbw7 (cA (cA q1_0 _) _)
  replace q1_1 : w7.cell? ⟨w.heap.size + 1, 1, none⟩ = some (.slice A1 bs1.length c1) := by first | exact cB hbw7 q1_1 | exact cB hbw7 (cA q1_1 _) | exact cB hbw7 (cA (cA q1_1 _) _)
  have hlt7_q0_0 := cell_lt q0_0
  have hlt7_q1_0 := cell_lt q1_0
  have hlt7_x0_0 := cell_lt x0_0
  replace r7 := r7.wide (lo' := w6.heap.size + 1) (hi' := w7.heap.size) (by first | exact Nat.le_refl _ | (simp only [sz, szc]; omega)) (Nat.le_refl _)
  go_wp2_with fail
  refine (alikeOk_any _ _ _ _ _ _ _ _ _ (r6.same (by repeat (first | with_reducible exact Same.refl _ _ _ | with_reducible refine Same.alloc ?_ _ | with_reducible refine Same.drew ?_ | with_reducible refine Same.drewN ?_ _ | with_reducible refine Same.below (by assumption) ?_ | refine Same.only (by assumption) (by omega) ?_)) (Nat.le_refl _)).bat (r7.same (by repeat (first | with_reducible exact Same.refl _ _ _ | with_reducible refine Same.alloc ?_ _ | with_reducible refine Same.drew ?_ | with_reducible refine Same.drewN ?_ _ | with_reducible refine Same.below (by assumption) ?_ | refine Same.only (by assumption) (by omega) ?_)) (Nat.le_refl _)).bat (by omega) (by omega)).mono ?_; rintro e w8 ⟨rfl, hbw8⟩
  have x1_0 : w8.cell? ⟨w7.heap.size, 0, none⟩ = some (.int .i64 n1) := (hbw8.cell (p := ⟨w7.heap.size, 0, none⟩) (by simp <;> omega)).trans (by simp)
  have x1_1 : w8.cell? ⟨w7.heap.size, 1, none⟩ = some (.slice G7 bs1.length bs1.length) := (hbw8.cell (p := ⟨w7.heap.size, 1, none⟩) (by simp <;> omega)).trans (by simp)
  have hzw8 : w7.heap.size ≤ w8.heap.size := (by have := hbw8.size; (try simp only [sz] at this); (try simp only [szc] at this); first | exact this | omega)
  replace q0_0 : w8.cell? ⟨w.heap.size, 0, none⟩ = some (.int .i64 n0) := by first | exact cB hbw8 q0_0 | exact cB hbw8 (cA q0_0 _) | exact cB hbw8 (cA (cA q0_0 _) _)
  replace q0_1 : w8.cell? ⟨w.heap.size, 1, none⟩ = some (.slice A0 bs0.length c0) := by first | exact cB hbw8 q0_1 | exact cB hbw8 (cA q0_1 _) | exact cB hbw8 (cA (cA q0_1 _) _)
  replace q1_0 : w8.cell? ⟨w.heap.size + 1, 0, none⟩ = some (.int .i64 n1) := by first | exact cB hbw8 q1_0 | exact cB hbw8 (cA q1_0 _) | exact cB hbw8 (cA (cA q1_0 _) _)
  replace q1_1 : w8.cell? ⟨w.heap.size + 1, 1, none⟩ = some (.slice A1 bs1.length c1) := by first | exact cB hbw8 q1_1 | exact cB hbw8 (cA q1_1 _) | exact cB hbw8 (cA (cA q1_1 _) _)
  replace x0_0 : w8.cell? ⟨w6.heap.size, 0, none⟩ = some (.int .i64 n0) := by first | exact cB hbw8 x0_0 | exact cB hbw8 (cA x0_0 _) | exact cB hbw8 (cA (cA x0_0 _) _)
  replace x0_1 : w8.cell? ⟨w6.heap.size, 1, none⟩ = some (.slice G6 bs0.length bs0.length) := by first | exact cB hbw8 x0_1 | exact cB hbw8 (cA x0_1 _) | exact cB hbw8 (cA (cA x0_1 _) _)
  have hlt8_q0_0 := cell_lt q0_0
  have hlt8_q1_0 := cell_lt q1_0
  have hlt8_x0_0 := cell_lt x0_0
  have hlt8_x1_0 := cell_lt x1_0
  go_wp2_with fail
  go_region_held3 (fun w' => w'.cell? ⟨w.heap.size, 0, none⟩ = some (.int .i64 n0) ∧ w'.cell? ⟨w.heap.size, 1, none⟩ = some (.slice A0 bs0.length c0) ∧ w'.cell? ⟨w6.heap.size, 0, none⟩ = some (.int .i64 n0) ∧ w'.cell? ⟨w6.heap.size, 1, none⟩ = some (.slice G6 bs0.length bs0.length)) (first | go_keep | (go_split_ands; (repeat' apply And.intro) <;> (first | assumption | (refine cB (by assumption) ?_; first | assumption | (simp; assumption)) | (simp; assumption))))
    (first
      | (go_at_call 33; refine (toPlan_any _ _ _ bs0 _ (hB0.below (by repeat (first | with_reducible exact Below.refl _ _ | with_reducible refine valloc ?_ _ | with_reducible refine vdrew ?_ | with_reducible refine vdrewN ?_ _ | with_reducible refine via (by assumption) ?_ | refine viaOnly (by assumption) (by omega) ?_))) (by omega)).mono ?_; rintro e w9 ⟨G9, rfl, r9, hbw9⟩)
      | (go_at_call 36; refine (eqPlan_same _ _ _ _ _ bs0 _ (r6.same (by repeat (first | with_reducible exact Same.refl _ _ _ | with_reducible refine Same.alloc ?_ _ | with_reducible refine Same.drew ?_ | with_reducible refine Same.drewN ?_ _ | with_reducible refine Same.below (by assumption) ?_ | refine Same.only (by assumption) (by omega) ?_)) (Nat.le_refl _)).bat r9.bat (by omega)).mono ?_; rintro e w10 ⟨rfl, hbw10⟩))
  have hzw9 : w8.heap.size ≤ w9.heap.size := hbw9.size
  have hzw10 : w9.heap.size ≤ w10.heap.size := hbw10.size
  replace q0_0 : w10.cell? ⟨w.heap.size, 0, none⟩ = some (.int .i64 n0) := cB hbw10 (cB hbw9 q0_0)
  replace q0_1 : w10.cell? ⟨w.heap.size, 1, none⟩ = some (.slice A0 bs0.length c0) := cB hbw10 (cB hbw9 q0_1)
  replace q1_0 : w10.cell? ⟨w.heap.size + 1, 0, none⟩ = some (.int .i64 n1) := cB hbw10 (cB hbw9 q1_0)
  replace q1_1 : w10.cell? ⟨w.heap.size + 1, 1, none⟩ = some (.slice A1 bs1.length c1) := cB hbw10 (cB hbw9 q1_1)
  replace x0_0 : w10.cell? ⟨w6.heap.size, 0, none⟩ = some (.int .i64 n0) := cB hbw10 (cB hbw9 x0_0)
  replace x0_1 : w10.cell? ⟨w6.heap.size, 1, none⟩ = some (.slice G6 bs0.length bs0.length) := cB hbw10 (cB hbw9 x0_1)
  replace x1_0 : w10.cell? ⟨w7.heap.size, 0, none⟩ = some (.int .i64 n1) := cB hbw10 (cB hbw9 x1_0)
  replace x1_1 : w10.cell? ⟨w7.heap.size, 1, none⟩ = some (.slice G7 bs1.length bs1.length) := cB hbw10 (cB hbw9 x1_1)
  have hlt10_q0_0 := cell_lt q0_0
  have hlt10_q1_0 := cell_lt q1_0
  have hlt10_x0_0 := cell_lt x0_0
  have hlt10_x1_0 := cell_lt x1_0
  go_wp2_with fail
  go_region_held3 (fun w' => w'.cell? ⟨w.heap.size + 1, 0, none⟩ = some (.int .i64 n1) ∧ w'.cell? ⟨w.heap.size + 1, 1, none⟩ = some (.slice A1 bs1.length c1) ∧ w'.cell? ⟨w7.heap.size, 0, none⟩ = some (.int .i64 n1) ∧ w'.cell? ⟨w7.heap.size, 1, none⟩ = some (.slice G7 bs1.length bs1.length)) (first | go_keep | (go_split_ands; (repeat' apply And.intro) <;> (first | assumption | (refine cB (by assumption) ?_; first | assumption | (simp; assumption)) | (simp; assumption))))
    (first
      | (go_at_call 33; refine (toPlan_any _ _ _ bs1 _ (hB1.below (by repeat (first | with_reducible exact Below.refl _ _ | with_reducible refine valloc ?_ _ | with_reducible refine vdrew ?_ | with_reducible refine vdrewN ?_ _ | with_reducible refine via (by assumption) ?_ | refine viaOnly (by assumption) (by omega) ?_))) (by omega)).mono ?_; rintro e w11 ⟨G11, rfl, r11, hbw11⟩)
      | (go_at_call 36; refine (eqPlan_same _ _ _ _ _ bs1 _ (r7.same (by repeat (first | with_reducible exact Same.refl _ _ _ | with_reducible refine Same.alloc ?_ _ | with_reducible refine Same.drew ?_ | with_reducible refine Same.drewN ?_ _ | with_reducible refine Same.below (by assumption) ?_ | refine Same.only (by assumption) (by omega) ?_)) (Nat.le_refl _)).bat r11.bat (by omega)).mono ?_; rintro e w12 ⟨rfl, hbw12⟩))
  have hzw11 : w10.heap.size ≤ w11.heap.size := hbw11.size
  have hzw12 : w11.heap.size ≤ w12.heap.size := hbw12.size
  replace q0_0 : w12.cell? ⟨w.heap.size, 0, none⟩ = some (.int .i64 n0) := cB hbw12 (cB hbw11 q0_0)
  replace q0_1 : w12.cell? ⟨w.heap.size, 1, none⟩ = some (.slice A0 bs0.length c0) := cB hbw12 (cB hbw11 q0_1)
  replace q1_0 : w12.cell? ⟨w.heap.size + 1, 0, none⟩ = some (.int .i64 n1) := cB hbw12 (cB hbw11 q1_0)
  replace q1_1 : w12.cell? ⟨w.heap.size + 1, 1, none⟩ = some (.slice A1 bs1.length c1) := cB hbw12 (cB hbw11 q1_1)
  replace x0_0 : w12.cell? ⟨w6.heap.size, 0, none⟩ = some (.int .i64 n0) := cB hbw12 (cB hbw11 x0_0)
  replace x0_1 : w12.cell? ⟨w6.heap.size, 1, none⟩ = some (.slice G6 bs0.length bs0.length) := cB hbw12 (cB hbw11 x0_1)
  replace x1_0 : w12.cell? ⟨w7.heap.size, 0, none⟩ = some (.int .i64 n1) := cB hbw12 (cB hbw11 x1_0)
  replace x1_1 : w12.cell? ⟨w7.heap.size, 1, none⟩ = some (.slice G7 bs1.length bs1.length) := cB hbw12 (cB hbw11 x1_1)
  have hlt12_q0_0 := cell_lt q0_0
  have hlt12_q1_0 := cell_lt q1_0
  have hlt12_x0_0 := cell_lt x0_0
  have hlt12_x1_0 := cell_lt x1_0
  go_wp2
  go_ret
  refine ⟨rfl, ?_⟩
  repeat (first | with_reducible exact Below.refl _ _ | with_reducible refine valloc ?_ _ | with_reducible refine vdrew ?_ | with_reducible refine vdrewN ?_ _ | with_reducible refine via (by assumption) ?_ | refine viaOnly (by assumption) (by omega) ?_)
end Go.Proofs.Ytaifpindiphlkaa
