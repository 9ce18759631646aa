/- Contracts of spec.TimesOk, spec.KeepsOk and of what they call; for slices of at most 2^40 elements. -/
import Derived.Test.YtnhadopllbcciaaTimes
namespace Go.Proofs.Ytnhadopllbcciaa
open Go.RowKit
set_option linter.unusedVariables false
set_option maxRecDepth 10000
set_option linter.unusedSimpArgs false

theorem timesOk_bad {n : Int} {bs : List Bd} {ts : List Int} {k : Nat} {x : Int} (hx : ts[k]? = some x) (h : inB x (-2000) 2000 = false) : timesOk n bs ts = false := by
  simp [timesOk, allB, any_of (q := fun x => !inB x (-2000) 2000) hx (by simp [h])]
theorem timesOk_end {n : Int} {bs : List Bd} {ts : List Int} {k : Nat} (hk : ts.length ≤ k) (hn : ∀ y ∈ ts.take k, (!inB y (-2000) 2000) = false) : timesOk n bs ts = (planOk n bs && ((ts.length : Int) == n)) := by
  simp [timesOk, allB, any_none hk hn]
end Go.Proofs.Ytnhadopllbcciaa
