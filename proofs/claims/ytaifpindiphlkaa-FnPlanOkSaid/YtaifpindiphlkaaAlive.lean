/- The contract of the laws' fixed answer. No condition. -/
import Derived.Test.YtaifpindiphlkaaDraws
import Derived.Test.YtaifpindiphlkaaPlainL1
import Derived.Deep.RegionHeld3
namespace Go.Proofs.Ytaifpindiphlkaa
open Go.RowKit
set_option linter.unusedVariables false
set_option maxRecDepth 10000
set_option linter.unusedSimpArgs false

theorem nilB (W : World) : BAt W none [] := fun h0 => absurd h0 (by simp)
theorem alive_any (w : World) : Calls Try.prog 14 #[] w fun e w' => e = .returned (.bool true) ∧ Below w.heap.size w w' := by
  have h1 : planOk 1 [] = true := planOk_one
  have h0 : planOk 0 [] = false := planOk_none
  go_enter Try.func14, Try.ntmps14
  go_wp2_with fail
  refine (planOk_any 1 none 0 [] _ (nilB _) (by simp)).mono ?_; rintro e w1 ⟨rfl, hb1⟩
  go_wp2_with fail
  refine (planOk_any 0 none 0 [] _ (nilB _) (by simp)).mono ?_; rintro e w2 ⟨rfl, hb2⟩
  go_wp2
  go_ret
  refine ⟨by simp [h1, h0], ?_⟩
  repeat (first | with_reducible exact Below.refl _ _ | with_reducible refine valloc ?_ _ | with_reducible refine vdrew ?_ | with_reducible refine vdrewN ?_ _ | with_reducible refine via (by assumption) ?_ | refine vset ?_ (by first | exact Nat.le_refl _ | (simp; done) | (simp; omega) | omega) _)
end Go.Proofs.Ytaifpindiphlkaa
