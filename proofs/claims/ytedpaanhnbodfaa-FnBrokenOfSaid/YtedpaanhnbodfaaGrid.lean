/- Tables in memory: slices of rows of ints. No condition. -/
import Derived.Test.YtedpaanhnbodfaaPlainFW
import Derived.Test.YtedpaanhnbodfaaCopy
namespace Go.Proofs.Ytedpaanhnbodfaa
open Go.RowKit
set_option linter.unusedVariables false
set_option maxRecDepth 10000
set_option linter.unusedSimpArgs false

/-- Block g holds the N rows of a table, row i in block R i, all in blocks from lo up to hi; the numbers are T. -/
structure Grid (w : World) (lo hi g N : Nat) (R C : Nat → Nat) (T : Tab) : Prop where
  outer : ∃ cs, Blk w g 30 cs ∧ ∀ i, i < N → cs[i]? = some (.slice (some ⟨R i, 0, none⟩) N (C i))
  glo : lo ≤ g
  ghi : g < hi
  rows : ∀ i, i < N → ∃ rs, Blk w (R i) 3 rs ∧ ∀ j, j < N → rs[j]? = some (.int .i64 (T i j))
  rlo : ∀ i, i < N → lo ≤ R i
  rhi : ∀ i, i < N → R i < hi
  rne : ∀ i, i < N → R i ≠ g
  inj : ∀ i j, i < N → j < N → R i = R j → i = j
  cap : ∀ i, i < N → N ≤ C i
section
variable {w w1 : World} {lo hi g N : Nat} {R C : Nat → Nat} {T : Tab}
theorem Grid.row (h : Grid w lo hi g N R C T) {i : Nat} (hi' : i < N) : w.cell? ⟨g, i, none⟩ = some (.slice (some ⟨R i, 0, none⟩) N (C i)) := by
  obtain ⟨cs, hB, hc⟩ := h.outer
  exact (hB.cell i).trans (hc i hi')
theorem Grid.cell (h : Grid w lo hi g N R C T) {i j : Nat} (hi' : i < N) (hj : j < N) : w.cell? ⟨R i, j, none⟩ = some (.int .i64 (T i j)) := by
  obtain ⟨rs, hB, hc⟩ := h.rows i hi'
  exact (hB.cell j).trans (hc j hj)
theorem Grid.frozen (h : Grid w lo hi g N R C T) {i j : Nat} (hi' : i < N) : w.frozen? ⟨R i, j, none⟩ = false := by
  obtain ⟨rs, hB, hc⟩ := h.rows i hi'
  exact hB.frozen j
theorem Grid.same (h : Grid w lo hi g N R C T) (hs : Same lo hi w w1) (hh : hi ≤ w.heap.size) : Grid w1 lo hi g N R C T := by
  obtain ⟨h1, h2⟩ := hs.out hh
  refine ⟨?_, h.glo, h.ghi, ?_, h.rlo, h.rhi, h.rne, h.inj, h.cap⟩
  · obtain ⟨cs, hB, hc⟩ := h.outer
    exact ⟨cs, (h2 g h.glo h.ghi).trans hB, hc⟩
  · intro i hi'
    obtain ⟨rs, hB, hc⟩ := h.rows i hi'
    exact ⟨rs, (h2 _ (h.rlo i hi') (h.rhi i hi')).trans hB, hc⟩
theorem Grid.drewN (h : Grid w lo hi g N R C T) (n : Nat) : Grid (w.drewN n) lo hi g N R C T := ⟨h.outer, h.glo, h.ghi, h.rows, h.rlo, h.rhi, h.rne, h.inj, h.cap⟩
theorem Grid.drew (h : Grid w lo hi g N R C T) : Grid w.drew lo hi g N R C T := ⟨h.outer, h.glo, h.ghi, h.rows, h.rlo, h.rhi, h.rne, h.inj, h.cap⟩
theorem Grid.set_ (h : Grid w lo hi g N R C T) {i j : Nat} (hi' : i < N) (hj : j < N) (v : Int) : Grid (w.setCell ⟨R i, j, none⟩ (.int .i64 v)) lo hi g N R C (upd T i j v) := by
  refine ⟨?_, h.glo, h.ghi, ?_, h.rlo, h.rhi, h.rne, h.inj, h.cap⟩
  · obtain ⟨cs, hB, hc⟩ := h.outer
    exact ⟨cs, hB.far (fun e => h.rne i hi' e.symm) _, hc⟩
  · intro a ha
    obtain ⟨rs, hB, hc⟩ := h.rows a ha
    by_cases e : a = i
    · subst e
      refine ⟨_, hB.set_ j _, fun b hb => ?_⟩
      have hjs : j < rs.size := (Array.getElem?_eq_some_iff.1 (hc j hj)).1
      rw [Array.getElem?_setIfInBounds]
      by_cases e2 : j = b
      · subst e2
        rw [if_pos rfl, if_pos hjs, upd_same]
      · rw [if_neg e2, upd_other _ _ (by omega)]
        exact hc b hb
    · refine ⟨rs, hB.far (fun e2 => e (h.inj a i ha hi' e2)) _, fun b hb => ?_⟩
      rw [upd_other _ _ (by omega)]
      exact hc b hb
theorem Grid.eq_ (h : Grid w lo hi g N R C T) {T' : Tab} (he : ∀ i j, i < N → j < N → T i j = T' i j) : Grid w lo hi g N R C T' :=
  ⟨h.outer, h.glo, h.ghi, fun i hi' => by
    obtain ⟨rs, hB, hc⟩ := h.rows i hi'
    exact ⟨rs, hB, fun j hj => by rw [hc j hj, he i j hi' hj]⟩, h.rlo, h.rhi, h.rne, h.inj, h.cap⟩
theorem Grid.wide (h : Grid w lo hi g N R C T) {lo' hi' : Nat} (hl : lo' ≤ lo) (hh : hi ≤ hi') : Grid w lo' hi' g N R C T :=
  ⟨h.outer, by have := h.glo; omega, by have := h.ghi; omega, h.rows, fun i hi2 => by have := h.rlo i hi2; omega, fun i hi2 => by have := h.rhi i hi2; omega, h.rne, h.inj, h.cap⟩
theorem Grid.lt (h : Grid w lo hi g N R C T) : g < w.heap.size := by
  obtain ⟨cs, hB, hc⟩ := h.outer
  exact hB.lt
theorem Grid.rlt (h : Grid w lo hi g N R C T) {i : Nat} (hi' : i < N) : R i < w.heap.size := by
  obtain ⟨rs, hB, hc⟩ := h.rows i hi'
  exact hB.lt
end
end Go.Proofs.Ytedpaanhnbodfaa
