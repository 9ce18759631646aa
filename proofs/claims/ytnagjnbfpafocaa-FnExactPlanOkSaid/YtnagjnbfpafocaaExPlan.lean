/- The walk of the law FnExactPlanOk: it returns true and changes nothing that was there. -/
import Derived.Test.YtnagjnbfpafocaaCopy
import Derived.Deep.RegionHeld3
namespace Go.Proofs.Ytnagjnbfpafocaa
open Go.RowKit

set_option maxHeartbeats 1000000 in
theorem exactPlanOk_walk (n : Int) (A : Option Addr) (c : Nat) (bs : List Bd) (w : World) (hA : BAt w A bs) (hlen : bs.length ≤ 9223372036854775807) :
    Calls Try.prog 5 #[.agg #[.int .i64 n, .slice A bs.length c]] w fun e w' => e = .returned (.bool true) ∧ Below w.heap.size w w' := by
  by_cases hbig : ((1048576 : Int) - bs.length) < 0
  · go_enter Try.func5, Try.ntmps5
    go_wp2_with (first
      | (go_at_call 19; refine (szPlan_any _ _ _ _ _ _ (by omega) (by omega) (by omega)).mono ?_; rintro e w1 ⟨rfl, hbw1⟩; obtain ⟨hcw1, hfw1⟩ := bcell hbw1; have hzw1 := hbw1.size; (try simp only [sz] at hzw1); (try simp only [szc] at hzw1); have hzw1_0 : w.heap.size < w1.heap.size := (by omega)))
    go_ret
    refine ⟨rfl, ?_⟩
    repeat (first | exact Below.refl _ _ | refine valloc ?_ _ | refine vdrew ?_ | refine vdrewN ?_ _ | refine via (by assumption) ?_ | refine vset ?_ (by first | exact Nat.le_refl _ | (simp; done) | (simp; omega) | omega) _)
  · 
    go_enter Try.func5, Try.ntmps5
    go_wp2_with fail
    refine (szPlan_any _ _ _ _ _ _ (by omega) (by omega) (by omega)).mono ?_; rintro e w1 ⟨rfl, hbw1⟩; obtain ⟨hcw1, hfw1⟩ := bcell hbw1; have hzw1 := hbw1.size; (try simp only [sz] at hzw1); (try simp only [szc] at hzw1); have hzw1_0 : w.heap.size < w1.heap.size := (by omega)
    go_wp2_with fail
    refine (toPlan_any _ _ _ bs _ (hA.below (by repeat (first | exact Below.refl _ _ | refine valloc ?_ _ | refine vdrew ?_ | refine vdrewN ?_ _ | refine via (by assumption) ?_ | refine vset ?_ (by first | exact Nat.le_refl _ | (simp; done) | (simp; omega) | omega) _))) (by omega)).mono ?_; rintro e w2 ⟨g2, hg2, rfl, ho2, hbw2⟩; obtain ⟨hcw2, hfw2⟩ := bcell hbw2; have hzw2 := hbw2.size; (try simp only [sz] at hzw2); (try simp only [szc] at hzw2); have hzw2_0 : w.heap.size < w2.heap.size := (by omega)
    go_wp2_with fail
    refine (specPlanOk_any _ _ _ bs _ ho2.bat (by omega)).mono ?_; rintro e w3 ⟨rfl, hbw3⟩; obtain ⟨hcw3, hfw3⟩ := bcell hbw3; have hzw3 := hbw3.size; (try simp only [sz] at hzw3); (try simp only [szc] at hzw3); have hzw3_0 : w.heap.size < w3.heap.size := (by omega)
    go_wp2_with fail
    refine (toPlan_any _ _ _ bs _ (hA.below (by repeat (first | exact Below.refl _ _ | refine valloc ?_ _ | refine vdrew ?_ | refine vdrewN ?_ _ | refine via (by assumption) ?_ | refine vset ?_ (by first | exact Nat.le_refl _ | (simp; done) | (simp; omega) | omega) _))) (by omega)).mono ?_; rintro e w4 ⟨g4, hg4, rfl, ho4, hbw4⟩; obtain ⟨hcw4, hfw4⟩ := bcell hbw4; have hzw4 := hbw4.size; (try simp only [sz] at hzw4); (try simp only [szc] at hzw4); have hzw4_0 : w.heap.size < w4.heap.size := (by omega)
    go_wp2_with fail
    refine (planOk_any _ _ _ bs _ (ho4.below (by repeat (first | exact Below.refl _ _ | refine valloc ?_ _ | refine vdrew ?_ | refine vdrewN ?_ _ | refine via (by assumption) ?_ | refine vset ?_ (by first | exact Nat.le_refl _ | (simp; done) | (simp; omega) | omega) _))).bat (by omega)).mono ?_; rintro e w5 ⟨rfl, hbw5⟩; obtain ⟨hcw5, hfw5⟩ := bcell hbw5; have hzw5 := hbw5.size; (try simp only [sz] at hzw5); (try simp only [szc] at hzw5); have hzw5_0 : w.heap.size < w5.heap.size := (by omega)
    go_wp2_with fail
    have a0 : w5.cell? ⟨w.heap.size, 0, none⟩ = some (.int .i64 n) := by go_simp
    have a1 : w5.cell? ⟨w.heap.size, 1, none⟩ = some (.slice A bs.length c) := by go_simp
    have x0 : w5.cell? ⟨w4.heap.size, 0, none⟩ = some (.int .i64 n) := by go_simp
    have x1 : w5.cell? ⟨w4.heap.size, 1, none⟩ = some (.slice (some ⟨g4, 0, none⟩) bs.length bs.length) := by go_simp
    go_region_held3 (fun w' => w'.cell? ⟨w.heap.size, 0, none⟩ = some (.int .i64 n) ∧ w'.cell? ⟨w.heap.size, 1, none⟩ = some (.slice A bs.length c) ∧ w'.cell? ⟨w4.heap.size, 0, none⟩ = some (.int .i64 n) ∧ w'.cell? ⟨w4.heap.size, 1, none⟩ = some (.slice (some ⟨g4, 0, none⟩) bs.length bs.length)) (first | go_keep | (go_split_ands; (repeat' apply And.intro) <;> (first | assumption | (refine cB (by assumption) ?_; first | assumption | (simp; assumption)) | (simp; assumption))))
      (first
        | (go_at_call 20; refine (toPlan_any _ _ _ bs _ (hA.below (by repeat (first | exact Below.refl _ _ | refine valloc ?_ _ | refine vdrew ?_ | refine vdrewN ?_ _ | refine via (by assumption) ?_ | refine vset ?_ (by first | exact Nat.le_refl _ | (simp; done) | (simp; omega) | omega) _))) (by omega)).mono ?_; rintro e w6 ⟨g6, hg6, rfl, ho6, hbw6⟩)
        | (go_at_call 21; refine (eqPlan_same _ _ _ _ _ bs _ (ho4.below (by repeat (first | exact Below.refl _ _ | refine valloc ?_ _ | refine vdrew ?_ | refine vdrewN ?_ _ | refine via (by assumption) ?_ | refine vset ?_ (by first | exact Nat.le_refl _ | (simp; done) | (simp; omega) | omega) _))).bat ho6.bat (by omega)).mono ?_; rintro e w7 ⟨rfl, hbw7⟩))
    go_wp2
    go_ret
    refine ⟨rfl, ?_⟩
    repeat (first | exact Below.refl _ _ | refine valloc ?_ _ | refine vdrew ?_ | refine vdrewN ?_ _ | refine via (by assumption) ?_ | refine vset ?_ (by first | exact Nat.le_refl _ | (simp; done) | (simp; omega) | omega) _)
end Go.Proofs.Ytnagjnbfpafocaa
