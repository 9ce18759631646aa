/- Contracts of LeastOf and WideOf, of the program and of the reference; for slices of at most 2^40 bounds. -/
import Derived.Test.YtacalapbfcmlgaaMost
namespace Go.Proofs.Ytacalapbfcmlgaa
open Go.RowKit
set_option linter.unusedVariables false
set_option linter.unusedSimpArgs false

theorem leastOf_any (n : Int) (A : Option Addr) (c : Nat) (bs : List Bd) (f t : Int) (w : World) (h : BAt w A bs) (hlen : bs.length ≤ 1099511627776) :
    Calls Try.prog 34 #[.agg #[.int .i64 n, .slice A bs.length c], .int .i64 f, .int .i64 t] w (TwoRes (wrap64 (-(mostV n bs t f))) (mostB n bs t f) w) := by
  go_enter Try.func34, Try.ntmps34
  go_wp2_with fail
  refine (mostOf_any _ _ _ bs _ _ _ (h.below (by repeat (first | with_reducible exact Below.refl _ _ | with_reducible refine valloc ?_ _ | with_reducible refine vdrew ?_ | with_reducible refine vdrewN ?_ _ | with_reducible refine via (by assumption) ?_ | refine vset ?_ (by first | exact Nat.le_refl _ | (simp; done) | (simp; omega) | omega) _))) hlen).mono ?_; rintro e w1 ⟨rfl, hbw1⟩
  go_wp2
  go_ret2
  refine ⟨rfl, ?_⟩
  repeat (first | with_reducible exact Below.refl _ _ | with_reducible refine valloc ?_ _ | with_reducible refine vdrew ?_ | with_reducible refine vdrewN ?_ _ | with_reducible refine via (by assumption) ?_ | refine vset ?_ (by first | exact Nat.le_refl _ | (simp; done) | (simp; omega) | omega) _)
theorem specLeastOf_any (n : Int) (A : Option Addr) (c : Nat) (bs : List Bd) (f t : Int) (w : World) (h : BAt w A bs) (hlen : bs.length ≤ 1099511627776) :
    Calls Try.prog 33 #[.agg #[.int .i64 n, .slice A bs.length c], .int .i64 f, .int .i64 t] w (TwoRes (wrap64 (-(mostV n bs t f))) (mostB n bs t f) w) := by
  go_enter Try.func33, Try.ntmps33
  go_wp2_with fail
  refine (specMostOf_any _ _ _ bs _ _ _ (h.below (by repeat (first | with_reducible exact Below.refl _ _ | with_reducible refine valloc ?_ _ | with_reducible refine vdrew ?_ | with_reducible refine vdrewN ?_ _ | with_reducible refine via (by assumption) ?_ | refine vset ?_ (by first | exact Nat.le_refl _ | (simp; done) | (simp; omega) | omega) _))) hlen).mono ?_; rintro e w1 ⟨rfl, hbw1⟩
  go_wp2
  go_ret2
  refine ⟨rfl, ?_⟩
  repeat (first | with_reducible exact Below.refl _ _ | with_reducible refine valloc ?_ _ | with_reducible refine vdrew ?_ | with_reducible refine vdrewN ?_ _ | with_reducible refine via (by assumption) ?_ | refine vset ?_ (by first | exact Nat.le_refl _ | (simp; done) | (simp; omega) | omega) _)
/-- How many numbers a second point may be later than a first one. -/
def wideV (n : Int) (bs : List Bd) (f t : Int) : Int := if mostB n bs f t = true ∧ mostB n bs t f = true then wrap64 (wrap64 (mostV n bs f t - wrap64 (-(mostV n bs t f))) + 1) else 0
theorem wideOf_any (n : Int) (A : Option Addr) (c : Nat) (bs : List Bd) (f t : Int) (w : World) (h : BAt w A bs) (hlen : bs.length ≤ 1099511627776) :
    Calls Try.prog 45 #[.agg #[.int .i64 n, .slice A bs.length c], .int .i64 f, .int .i64 t] w fun e w' => e = .returned (.int .i64 (wideV n bs f t)) ∧ Below w.heap.size w w' := by
  cases h1 : mostB n bs f t <;> cases h2 : mostB n bs t f
  all_goals
    have HV := Lib.hid (show wideV n bs f t = _ by unfold wideV; simp only [h1, h2]; rfl)
    go_enter Try.func45, Try.ntmps45
    go_wp2_with fail
    refine (mostOf_any _ _ _ bs _ _ _ (h.below (by repeat (first | with_reducible exact Below.refl _ _ | with_reducible refine valloc ?_ _ | with_reducible refine vdrew ?_ | with_reducible refine vdrewN ?_ _ | with_reducible refine via (by assumption) ?_ | refine vset ?_ (by first | exact Nat.le_refl _ | (simp; done) | (simp; omega) | omega) _))) hlen).mono ?_; rintro e w1 ⟨rfl, hbw1⟩; obtain ⟨hcw1, hfw1⟩ := bcell hbw1; have hzw1 := hbw1.size; (try simp only [sz] at hzw1); (try simp only [szc] at hzw1); have hzw1_0 : w.heap.size < w1.heap.size := (by omega)
    go_wp2_with fail
    refine (leastOf_any _ _ _ bs _ _ _ (h.below (by repeat (first | with_reducible exact Below.refl _ _ | with_reducible refine valloc ?_ _ | with_reducible refine vdrew ?_ | with_reducible refine vdrewN ?_ _ | with_reducible refine via (by assumption) ?_ | refine vset ?_ (by first | exact Nat.le_refl _ | (simp; done) | (simp; omega) | omega) _))) hlen).mono ?_; rintro e w2 ⟨rfl, hbw2⟩
    go_wp2
    go_ret
    refine ⟨?_, ?_⟩
    · rw [HV.out]; simp
    repeat (first | with_reducible exact Below.refl _ _ | with_reducible refine valloc ?_ _ | with_reducible refine vdrew ?_ | with_reducible refine vdrewN ?_ _ | with_reducible refine via (by assumption) ?_ | refine vset ?_ (by first | exact Nat.le_refl _ | (simp; done) | (simp; omega) | omega) _)
theorem specWideOf_any (n : Int) (A : Option Addr) (c : Nat) (bs : List Bd) (f t : Int) (w : World) (h : BAt w A bs) (hlen : bs.length ≤ 1099511627776) :
    Calls Try.prog 44 #[.agg #[.int .i64 n, .slice A bs.length c], .int .i64 f, .int .i64 t] w fun e w' => e = .returned (.int .i64 (wideV n bs f t)) ∧ Below w.heap.size w w' := by
  cases h1 : mostB n bs f t <;> cases h2 : mostB n bs t f
  all_goals
    have HV := Lib.hid (show wideV n bs f t = _ by unfold wideV; simp only [h1, h2]; rfl)
    go_enter Try.func44, Try.ntmps44
    go_wp2_with fail
    refine (specMostOf_any _ _ _ bs _ _ _ (h.below (by repeat (first | with_reducible exact Below.refl _ _ | with_reducible refine valloc ?_ _ | with_reducible refine vdrew ?_ | with_reducible refine vdrewN ?_ _ | with_reducible refine via (by assumption) ?_ | refine vset ?_ (by first | exact Nat.le_refl _ | (simp; done) | (simp; omega) | omega) _))) hlen).mono ?_; rintro e w1 ⟨rfl, hbw1⟩; obtain ⟨hcw1, hfw1⟩ := bcell hbw1; have hzw1 := hbw1.size; (try simp only [sz] at hzw1); (try simp only [szc] at hzw1); have hzw1_0 : w.heap.size < w1.heap.size := (by omega)
    go_wp2_with fail
    refine (specLeastOf_any _ _ _ bs _ _ _ (h.below (by repeat (first | with_reducible exact Below.refl _ _ | with_reducible refine valloc ?_ _ | with_reducible refine vdrew ?_ | with_reducible refine vdrewN ?_ _ | with_reducible refine via (by assumption) ?_ | refine vset ?_ (by first | exact Nat.le_refl _ | (simp; done) | (simp; omega) | omega) _))) hlen).mono ?_; rintro e w2 ⟨rfl, hbw2⟩
    go_wp2
    go_ret
    refine ⟨?_, ?_⟩
    · rw [HV.out]; simp
    repeat (first | with_reducible exact Below.refl _ _ | with_reducible refine valloc ?_ _ | with_reducible refine vdrew ?_ | with_reducible refine vdrewN ?_ _ | with_reducible refine via (by assumption) ?_ | refine vset ?_ (by first | exact Nat.le_refl _ | (simp; done) | (simp; omega) | omega) _)
end Go.Proofs.Ytacalapbfcmlgaa
