/- Contracts of laws.eqIntSS: two readings of the same table are found the same. Contracts of laws.markIntSS and laws.heldIntSS. Contracts of impl.TableOf and spec.TableOf; for slices of at most 2^40 bounds. Tables of the program's own, none or a Grid: how they stand, how they are marked. Contracts of impl.ClosedOf and spec.ClosedOf; for slices of at most 2^40 bounds. -/
import Derived.Test.YtaifpindiphlkacKE
import Derived.Test.YtaifpindiphlkacKB
import Derived.Deep.RegionHeld3
import Derived.Test.YtaifpindiphlkacKD
namespace Go.Proofs.Ytaifpindiphlkac
open Go.RowKit
set_option linter.unusedVariables false
set_option maxRecDepth 10000
set_option linter.unusedSimpArgs false

theorem rowIAt {w : World} {b o N i : Nat} {T : Tab} (hb : b < w.heap.size) (h : ∀ j, j < N → w.cell? ⟨b, o + j, none⟩ = some (.int .i64 (T i j))) : IAt w (some ⟨b, o, none⟩) (rowTo T i N) := by
  intro _
  refine ⟨b, o, rfl, hb, fun j x hx => ?_⟩
  have hj : j < N := by
    have := (List.getElem?_eq_some_iff.1 hx).1
    rwa [rowTo_length] at this
  rw [rowTo_at T i N j hj] at hx
  cases hx
  exact h j hj
end Go.Proofs.Ytaifpindiphlkac
namespace Go.Proofs.Ytaifpindiphlkac
open Go.RowKit
set_option linter.unusedVariables false
set_option maxRecDepth 10000
set_option linter.unusedSimpArgs false

/-- The marks of a table of rows of N numbers: k, k + 1, and so on. -/
def markT (k : Int) (N : Nat) : Tab := fun i j => k + ((i * N : Nat) : Int) + (j : Int)
theorem rowMark (k : Int) (N i : Nat) : rowTo (markT k N) i N = marks (k + ((i * N : Nat) : Int)) N := rfl
/-- One row's numbers are others; all else stands. -/
theorem Grid.newRow {w w1 : World} {lo hi g N i : Nat} {R C : Nat → Nat} {T : Tab} {ys : List Int} (h : Grid w lo hi g N R C T) (hi' : i < N) (ho : Only (R i) (R i + 1) w w1) (hr : RI w1 (R i) (R i + 1) (some ⟨R i, 0, none⟩) ys) (hl : ys.length = N) {T' : Tab}
    (h1 : ∀ j y, ys[j]? = some y → T' i j = y) (h2 : ∀ a b, a ≠ i → T' a b = T a b) : Grid w1 lo hi g N R C T' := by
  refine ⟨?_, h.glo, h.ghi, ?_, h.rlo, h.rhi, h.rne, h.inj, h.cap⟩
  · obtain ⟨cs, hB, hc⟩ := h.outer
    have hg := h.rne i hi'
    exact ⟨cs, (ho.block g hB.lt (by omega)).trans hB, hc⟩
  · intro a ha
    by_cases e : a = i
    · subst e
      rcases hr with ⟨h0, _⟩ | ⟨g', cs, e', _, _, hB, hF⟩
      · cases h0
      · cases e'
        refine ⟨cs, hB, fun j hj => ?_⟩
        have hy : ys[j]? = some ys[j] := List.getElem?_eq_getElem (by omega)
        rw [hF.2 j ys[j] (by omega) hy, h1 j _ hy]
    · obtain ⟨rs, hB, hc⟩ := h.rows a ha
      have hne : R a ≠ R i := fun e2 => e (h.inj a i ha hi' e2)
      exact ⟨rs, (ho.block (R a) hB.lt (by omega)).trans hB, fun j hj => by rw [hc j hj, h2 a j e]⟩
theorem Grid.rowRI {w : World} {lo hi g N i : Nat} {R C : Nat → Nat} {T : Tab} (h : Grid w lo hi g N R C T) (hi' : i < N) : RI w (R i) (R i + 1) (some ⟨R i, 0, none⟩) (rowTo T i N) := by
  obtain ⟨rs, hB, hc⟩ := h.rows i hi'
  refine Or.inr ⟨R i, rs, rfl, Nat.le_refl _, Nat.lt_succ_self _, hB, ?_, fun j x hj hx => ?_⟩
  · rw [rowTo_length]
    have := (Array.getElem?_eq_some_iff.1 (hc (N - 1) (by omega))).1
    omega
  · rw [rowTo_length] at hj
    rw [rowTo_at T i N j hj] at hx
    cases hx
    exact hc j hj
end Go.Proofs.Ytaifpindiphlkac
namespace Go.Proofs.Ytaifpindiphlkac
open Go.RowKit
set_option linter.unusedVariables false
set_option maxRecDepth 10000
set_option linter.unusedSimpArgs false

/-- How many rows the table of a plan has. -/
def tabN (n : Int) (bs : List Bd) : Nat := if planOk n bs = true then n.toNat else 0
/-- A table of the program's own: none, or a Grid. -/
def GridRes (N : Nat) (T : Tab) (w : World) (lo hi : Nat) (A : Option Addr) : Prop := (A = none ∧ N = 0) ∨ ∃ g R C, A = some ⟨g, 0, none⟩ ∧ Grid w lo hi g N R C T
def TabRes (N : Nat) (T : Tab) (w : World) (e : Ending) (w' : World) : Prop := ∃ A c, e = .returned (.slice A N c) ∧ GridRes N T w' w.heap.size w'.heap.size A ∧ Below w.heap.size w w'
def LocRes (N : Nat) (T : Tab) (w : World) (e : Ending) (w' : World) : Prop := ∃ A c, e = .returned (.slice A N c) ∧ MLoc w' w.heap.size w'.heap.size A N N T ∧ Below w.heap.size w w'
end Go.Proofs.Ytaifpindiphlkac
namespace Go.Proofs.Ytaifpindiphlkac
open Go.RowKit
set_option linter.unusedVariables false
set_option maxRecDepth 10000
set_option linter.unusedSimpArgs false

theorem tabN_le (n : Int) (bs : List Bd) : tabN n bs ≤ 6 := by
  unfold tabN
  split
  · rename_i h
    have := planOk_of h
    omega
  · omega
theorem GridRes.same {N : Nat} {T : Tab} {w w1 : World} {lo hi : Nat} {A : Option Addr} (h : GridRes N T w lo hi A) (hs : Same lo hi w w1) (hh : hi ≤ w.heap.size) : GridRes N T w1 lo hi A := by
  rcases h with h | ⟨g, R, C, e, hG⟩
  · exact Or.inl h
  · exact Or.inr ⟨g, R, C, e, hG.same hs hh⟩
theorem GridRes.wide {N : Nat} {T : Tab} {w : World} {lo hi lo' hi' : Nat} {A : Option Addr} (h : GridRes N T w lo hi A) (hl : lo' ≤ lo) (hh : hi ≤ hi') : GridRes N T w lo' hi' A := by
  rcases h with h | ⟨g, R, C, e, hG⟩
  · exact Or.inl h
  · exact Or.inr ⟨g, R, C, e, hG.wide hl hh⟩
theorem GridRes.mat {N : Nat} {T : Tab} {w : World} {lo hi : Nat} {A : Option Addr} (h : GridRes N T w lo hi A) (hh : hi ≤ w.heap.size) : MAt w A N N T := by
  rcases h with ⟨_, h⟩ | ⟨g, R, C, rfl, hG⟩
  · intro h0; omega
  · exact hG.mat
end Go.Proofs.Ytaifpindiphlkac
namespace Go.Proofs.Ytaifpindiphlkac
open Go.RowKit
set_option linter.unusedVariables false
set_option maxRecDepth 10000
set_option linter.unusedSimpArgs false

/-- How many rows the closed table of a plan has. -/
def fitN (n : Int) (bs : List Bd) : Nat := if fitsOk n bs = true then n.toNat else 0
theorem fitN_le (n : Int) (bs : List Bd) : fitN n bs ≤ 6 := by
  unfold fitN
  split
  · rename_i h
    simp only [fitsOk, Bool.and_eq_true] at h
    have := planOk_of h.1
    omega
  · omega
def TabBoolRes (N : Nat) (T : Tab) (b : Bool) (w : World) (e : Ending) (w' : World) : Prop := ∃ A c, e = .returned (.tuple #[.slice A N c, .bool b]) ∧ GridRes N T w' w.heap.size w'.heap.size A ∧ Below w.heap.size w w'
def LocBoolRes (N : Nat) (T : Tab) (b : Bool) (w : World) (e : Ending) (w' : World) : Prop := ∃ A c, e = .returned (.tuple #[.slice A N c, .bool b]) ∧ MLoc w' w.heap.size w'.heap.size A N N T ∧ Below w.heap.size w w'
theorem MLoc.eq_ {w : World} {lo hi : Nat} {A : Option Addr} {N M : Nat} {T T' : Tab} (h : MLoc w lo hi A N M T) (he : ∀ i j, i < M → j < N → T i j = T' i j) : MLoc w lo hi A N M T' := by
  intro h0
  obtain ⟨g, off, e, g1, hg, hr⟩ := h h0
  refine ⟨g, off, e, g1, hg, fun i hi => ?_⟩
  obtain ⟨b, o, c, h1, b1, h2, h3⟩ := hr i hi
  exact ⟨b, o, c, h1, b1, h2, fun j hj => by rw [← he i j hi hj]; exact h3 j hj⟩
end Go.Proofs.Ytaifpindiphlkac
