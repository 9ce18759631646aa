/- Plain definitions: tables of differences, the table of bounds, and the closing of a table, as the program does it and as the reference does it; and that both agree. No program in sight; no condition. -/
import Derived.Test.YtedpaanhnbodfaaPlan
namespace Go.Proofs.Ytedpaanhnbodfaa
open Go.RowKit
set_option linter.unusedVariables false
set_option maxRecDepth 10000
set_option linter.unusedSimpArgs false

/-- A table: a number for each two points. -/
def Tab := Nat → Nat → Int
/-- The lesser of two numbers. -/
def mn (a b : Int) : Int := if b < a then b else a
theorem mn_le (a b : Int) : mn a b ≤ a := by unfold mn; split <;> omega
theorem mn_le' (a b : Int) : mn a b ≤ b := by unfold mn; split <;> omega
def upd (T : Tab) (i j : Nat) (v : Int) : Tab := fun a b => if a = i ∧ b = j then v else T a b
theorem upd_same (T : Tab) (i j : Nat) (v : Int) : upd T i j v i j = v := by simp [upd]
theorem upd_other (T : Tab) {i j a b : Nat} (v : Int) (h : ¬ (a = i ∧ b = j)) : upd T i j v a b = T a b := by simp only [upd, if_neg h]
/-- The table without bounds. -/
def tab0 : Tab := fun i j => if i = j then 0 else 100000
def putB (T : Tab) (x : Bd) : Tab := upd T x.f.toNat x.t.toNat (mn (T x.f.toNat x.t.toNat) x.m)
/-- The table of some bounds. -/
def startT (bs : List Bd) : Tab := bs.foldl putB tab0
theorem startT_snoc (bs : List Bd) (k : Nat) (x : Bd) (h : bs[k]? = some x) : startT (bs.take (k + 1)) = putB (startT (bs.take k)) x := by
  obtain ⟨hl, hv⟩ := List.getElem?_eq_some_iff.1 h
  unfold startT
  rw [List.take_succ_eq_append_getElem hl, List.foldl_append, hv]; rfl
/-- One number of a table becomes the sum over a third point, if that is less. -/
def relax (k i : Nat) (T : Tab) (j : Nat) : Tab := if T i k ≠ 100000 ∧ T k j ≠ 100000 then upd T i j (mn (T i j) (wrap64 (T i k + T k j))) else T
def relaxI (N k : Nat) (T : Tab) (i : Nat) : Tab := (List.range N).foldl (relax k i) T
def relaxK (N : Nat) (T : Tab) (k : Nat) : Tab := (List.range N).foldl (relaxI N k) T
/-- The closed table. -/
def closeT (N : Nat) (T : Tab) : Tab := (List.range N).foldl (relaxK N) T
theorem range_fold {α : Type} (f : α → Nat → α) (a : α) (k : Nat) : (List.range (k + 1)).foldl f a = f ((List.range k).foldl f a) k := by
  rw [List.range_succ, List.foldl_append]; rfl
/-- No number from a point to itself is less than 0. -/
def diagOk (N : Nat) (T : Tab) : Bool := decide (∀ i, i < N → 0 ≤ T i i)
theorem diagOk_bad {N i : Nat} {T : Tab} (hi : i < N) (h : T i i < 0) : diagOk N T = false := by
  unfold diagOk; rw [decide_eq_false_iff_not]; intro hh; have := hh i hi; omega
theorem diagOk_good {N : Nat} {T : Tab} (h : ∀ i, i < N → 0 ≤ T i i) : diagOk N T = true := by
  unfold diagOk; rw [decide_eq_true_iff]; exact h
/-- The closed table of a plan. -/
def closedT (n : Int) (bs : List Bd) : Tab := closeT n.toNat (startT bs)
/-- Does the plan fit? -/
def fitsOk (n : Int) (bs : List Bd) : Bool := planOk n bs && diagOk n.toNat (closedT n bs)
end Go.Proofs.Ytedpaanhnbodfaa
