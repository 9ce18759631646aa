/- Contracts of laws.eqIntSS: two readings of the same table are found the same. -/
import Derived.Test.YtedpaanhnbodfaaSpecTab
import Derived.Test.YtedpaanhnbodfaaInts
import Derived.Deep.RegionHeld3
namespace Go.Proofs.Ytedpaanhnbodfaa
open Go.RowKit
set_option linter.unusedVariables false
set_option maxRecDepth 10000
set_option linter.unusedSimpArgs false

theorem rowIAt {w : World} {b o N i : Nat} {T : Tab} (hb : b < w.heap.size) (h : ∀ j, j < N → w.cell? ⟨b, o + j, none⟩ = some (.int .i64 (T i j))) : IAt w (some ⟨b, o, none⟩) (rowTo T i N) := by
  intro _
  refine ⟨b, o, rfl, hb, fun j x hx => ?_⟩
  have hj : j < N := by
    have := (List.getElem?_eq_some_iff.1 hx).1
    rwa [rowTo_length] at this
  rw [rowTo_at T i N j hj] at hx
  cases hx
  exact h j hj
end Go.Proofs.Ytedpaanhnbodfaa
