/- Contracts of LeastOf and WideOf, of the program and of the reference; for slices of at most 2^40 bounds. -/
import Derived.Test.YtnhadopllbcciaaMost
namespace Go.Proofs.Ytnhadopllbcciaa
open Go.RowKit
set_option linter.unusedVariables false
set_option maxRecDepth 10000
set_option linter.unusedSimpArgs false

theorem leastOf_any (n : Int) (A : Option Addr) (c : Nat) (bs : List Bd) (f t : Int) (w : World) (h : BAt w A bs) (hlen : bs.length ≤ 1099511627776) :
    Calls Try.prog 94 #[.agg #[.int .i64 n, .slice A bs.length c], .int .i64 f, .int .i64 t] w (TwoRes (wrap64 (-(mostV n bs t f))) (mostB n bs t f) w) := by
  go_enter Try.func94, Try.ntmps94
  go_wp2_with fail
  refine (mostOf_any _ _ _ bs _ _ _ (h.below (by repeat (first | with_reducible exact Below.refl _ _ | with_reducible refine valloc ?_ _ | with_reducible refine vdrew ?_ | with_reducible refine vdrewN ?_ _ | with_reducible refine via (by assumption) ?_ | refine vset ?_ (by first | exact Nat.le_refl _ | (simp; done) | (simp; omega) | omega) _))) hlen).mono ?_; rintro e w1 ⟨rfl, hbw1⟩
  go_wp2
  go_ret2
  refine ⟨rfl, ?_⟩
  repeat (first | with_reducible exact Below.refl _ _ | with_reducible refine valloc ?_ _ | with_reducible refine vdrew ?_ | with_reducible refine vdrewN ?_ _ | with_reducible refine via (by assumption) ?_ | refine vset ?_ (by first | exact Nat.le_refl _ | (simp; done) | (simp; omega) | omega) _)
theorem specLeastOf_any (n : Int) (A : Option Addr) (c : Nat) (bs : List Bd) (f t : Int) (w : World) (h : BAt w A bs) (hlen : bs.length ≤ 1099511627776) :
    Calls Try.prog 92 #[.agg #[.int .i64 n, .slice A bs.length c], .int .i64 f, .int .i64 t] w (TwoRes (wrap64 (-(mostV n bs t f))) (mostB n bs t f) w) := by
  go_enter Try.func92, Try.ntmps92
  go_wp2_with fail
  refine (specMostOf_any _ _ _ bs _ _ _ (h.below (by repeat (first | with_reducible exact Below.refl _ _ | with_reducible refine valloc ?_ _ | with_reducible refine vdrew ?_ | with_reducible refine vdrewN ?_ _ | with_reducible refine via (by assumption) ?_ | refine vset ?_ (by first | exact Nat.le_refl _ | (simp; done) | (simp; omega) | omega) _))) hlen).mono ?_; rintro e w1 ⟨rfl, hbw1⟩
  go_wp2
  go_ret2
  refine ⟨rfl, ?_⟩
  repeat (first | with_reducible exact Below.refl _ _ | with_reducible refine valloc ?_ _ | with_reducible refine vdrew ?_ | with_reducible refine vdrewN ?_ _ | with_reducible refine via (by assumption) ?_ | refine vset ?_ (by first | exact Nat.le_refl _ | (simp; done) | (simp; omega) | omega) _)
/-- How many numbers a second point may be later than a first one. -/
def wideV (n : Int) (bs : List Bd) (f t : Int) : Int := if mostB n bs f t = true ∧ mostB n bs t f = true then wrap64 (wrap64 (mostV n bs f t - wrap64 (-(mostV n bs t f))) + 1) else 0
end Go.Proofs.Ytnhadopllbcciaa
