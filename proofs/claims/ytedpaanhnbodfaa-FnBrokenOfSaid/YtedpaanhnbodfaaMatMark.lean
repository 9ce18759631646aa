/- Contracts of laws.markIntSS and laws.heldIntSS. -/
import Derived.Test.YtedpaanhnbodfaaMatEq
import Derived.Test.YtedpaanhnbodfaaMarks
namespace Go.Proofs.Ytedpaanhnbodfaa
open Go.RowKit
set_option linter.unusedVariables false
set_option maxRecDepth 10000
set_option linter.unusedSimpArgs false

/-- The marks of a table of rows of N numbers: k, k + 1, and so on. -/
def markT (k : Int) (N : Nat) : Tab := fun i j => k + ((i * N : Nat) : Int) + (j : Int)
theorem rowMark (k : Int) (N i : Nat) : rowTo (markT k N) i N = marks (k + ((i * N : Nat) : Int)) N := rfl
/-- One row's numbers are others; all else stands. -/
theorem Grid.newRow {w w1 : World} {lo hi g N i : Nat} {R C : Nat → Nat} {T : Tab} {ys : List Int} (h : Grid w lo hi g N R C T) (hi' : i < N) (ho : Only (R i) (R i + 1) w w1) (hr : RI w1 (R i) (R i + 1) (some ⟨R i, 0, none⟩) ys) (hl : ys.length = N) {T' : Tab}
    (h1 : ∀ j y, ys[j]? = some y → T' i j = y) (h2 : ∀ a b, a ≠ i → T' a b = T a b) : Grid w1 lo hi g N R C T' := by
  refine ⟨?_, h.glo, h.ghi, ?_, h.rlo, h.rhi, h.rne, h.inj, h.cap⟩
  · obtain ⟨cs, hB, hc⟩ := h.outer
    have hg := h.rne i hi'
    exact ⟨cs, (ho.block g hB.lt (by omega)).trans hB, hc⟩
  · intro a ha
    by_cases e : a = i
    · subst e
      rcases hr with ⟨h0, _⟩ | ⟨g', cs, e', _, _, hB, hF⟩
      · cases h0
      · cases e'
        refine ⟨cs, hB, fun j hj => ?_⟩
        have hy : ys[j]? = some ys[j] := List.getElem?_eq_getElem (by omega)
        rw [hF.2 j ys[j] (by omega) hy, h1 j _ hy]
    · obtain ⟨rs, hB, hc⟩ := h.rows a ha
      have hne : R a ≠ R i := fun e2 => e (h.inj a i ha hi' e2)
      exact ⟨rs, (ho.block (R a) hB.lt (by omega)).trans hB, fun j hj => by rw [hc j hj, h2 a j e]⟩
theorem Grid.rowRI {w : World} {lo hi g N i : Nat} {R C : Nat → Nat} {T : Tab} (h : Grid w lo hi g N R C T) (hi' : i < N) : RI w (R i) (R i + 1) (some ⟨R i, 0, none⟩) (rowTo T i N) := by
  obtain ⟨rs, hB, hc⟩ := h.rows i hi'
  refine Or.inr ⟨R i, rs, rfl, Nat.le_refl _, Nat.lt_succ_self _, hB, ?_, fun j x hj hx => ?_⟩
  · rw [rowTo_length]
    have := (Array.getElem?_eq_some_iff.1 (hc (N - 1) (by omega))).1
    omega
  · rw [rowTo_length] at hj
    rw [rowTo_at T i N j hj] at hx
    cases hx
    exact hc j hj
end Go.Proofs.Ytedpaanhnbodfaa
