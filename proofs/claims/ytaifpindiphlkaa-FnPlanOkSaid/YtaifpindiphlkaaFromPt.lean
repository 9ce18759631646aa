/- Contracts of impl.FromPoint and spec.FromPoint; for slices of at most 2^40 bounds. -/
import Derived.Test.YtaifpindiphlkaaKG
import Derived.Test.YtaifpindiphlkaaKH
import Derived.Test.YtaifpindiphlkaaKF
namespace Go.Proofs.Ytaifpindiphlkaa
open Go.RowKit
set_option linter.unusedVariables false
set_option maxRecDepth 10000
set_option linter.unusedSimpArgs false

/-- A block of the call's own that holds the numbers v 0, v 1, up to N of them. -/
def VRow (w : World) (g N : Nat) (v : Nat → Int) : Prop := ∃ rs, Blk w g 3 rs ∧ ∀ a, a < N → rs[a]? = some (.int .i64 (v a))
section
variable {w w1 : World} {g N : Nat} {v : Nat → Int} (h : VRow w g N v)
include h
theorem VRow.lt : g < w.heap.size := by obtain ⟨rs, hB, _⟩ := h; exact hB.lt
theorem VRow.cell {a : Nat} (ha : a < N) : w.cell? ⟨g, a, none⟩ = some (.int .i64 (v a)) := by
  obtain ⟨rs, hB, hF⟩ := h
  exact (hB.cell a).trans (hF a ha)
theorem VRow.frozen (a : Nat) : w.frozen? ⟨g, a, none⟩ = false := by
  obtain ⟨rs, hB, hF⟩ := h
  exact hB.frozen a
theorem VRow.set_ {t : Nat} (ht : t < N) (u : Int) : VRow (w.setCell ⟨g, t, none⟩ (.int .i64 u)) g N (fun a => if a = t then u else v a) := by
  obtain ⟨rs, hB, hF⟩ := h
  refine ⟨_, hB.set_ t _, fun a ha => ?_⟩
  rw [Array.getElem?_setIfInBounds]
  show _ = some (Value.int IntKind.i64 (if a = t then u else v a))
  by_cases e : t = a
  · have := (Array.getElem?_eq_some_iff.1 (hF a ha)).1
    rw [if_pos e, if_pos (by omega), if_pos e.symm]
  · rw [if_neg e, if_neg (by omega)]; exact hF a ha
theorem VRow.below {B : Nat} (hb : Below B w w1) (hg : g < B) : VRow w1 g N v := by
  obtain ⟨rs, hB, hF⟩ := h
  exact ⟨rs, hB.below hb hg, hF⟩
theorem VRow.alloc (o : Obj) : VRow (w.alloc o) g N v := by
  obtain ⟨rs, hB, hF⟩ := h
  exact ⟨rs, hB.alloc o, hF⟩
theorem VRow.drewN (n : Nat) : VRow (w.drewN n) g N v := by
  obtain ⟨rs, hB, hF⟩ := h
  exact ⟨rs, hB.drewN n, hF⟩
theorem VRow.drew : VRow w.drew g N v := by
  obtain ⟨rs, hB, hF⟩ := h
  exact ⟨rs, hB.drew, hF⟩
theorem VRow.eq_ {u : Nat → Int} (e : ∀ a, a < N → v a = u a) : VRow w g N u := by
  obtain ⟨rs, hB, hF⟩ := h
  exact ⟨rs, hB, fun a ha => by rw [← e a ha]; exact hF a ha⟩
theorem VRow.ri {lo hi : Nat} (hN : 1 ≤ N) (hl : lo ≤ g) (hh : g < hi) {T : Tab} {i : Nat} (e : ∀ a, a < N → v a = T i a) : RI w lo hi (some ⟨g, 0, none⟩) (rowTo T i N) := by
  obtain ⟨rs, hB, hF⟩ := h
  refine Or.inr ⟨g, rs, rfl, hl, hh, hB, ?_, fun j x hj hx => ?_⟩
  · rw [rowTo_length]
    have := (Array.getElem?_eq_some_iff.1 (hF (N - 1) (by omega))).1
    omega
  · rw [rowTo_length] at hj
    rw [rowTo_at T i N j hj] at hx
    cases hx
    rw [← e j hj]; exact hF j hj
end
theorem OwnL.vrow {w : World} {base N : Nat} {v : Value} {xs : List Int} (h : OwnL w base v xs) (hl : xs.length = N) (hN : 1 ≤ N) : ∃ g c, v = .slice (some ⟨g, 0, none⟩) N c ∧ base ≤ g ∧ VRow w g N (fun a => xs.getD a 0) := by
  obtain ⟨h1, ⟨rfl, h0⟩ | ⟨g, cap, cur, rfl, hg, hh, hn, hc, hs, ht⟩⟩ := h
  · omega
  · refine ⟨g, cap, by rw [hl], hg, cur, hh, fun a ha => ?_⟩
    rw [Nat.mul_one] at ht
    have e : xs[a]? = some xs[a] := List.getElem?_eq_getElem (by omega)
    have : (cur.toList.take xs.length)[a]? = some (.int .i64 xs[a]) := by rw [ht, List.getElem?_map, e]; rfl
    rw [List.getElem?_take_of_lt (by omega)] at this
    have e2 : xs.getD a 0 = xs[a] := by simp [List.getD, e]
    show cur[a]? = some (.int .i64 (xs.getD a 0))
    rw [e2]
    simpa using this
def fromB (n : Int) (bs : List Bd) (f : Int) : Bool := fitsOk n bs && inB f 0 (n-1)
def fromL (n : Int) (bs : List Bd) (f : Int) : List Int := if fromB n bs f = true then rowTo (closedT n bs) f.toNat n.toNat else []
theorem fromL_len (n : Int) (bs : List Bd) (f : Int) : (fromL n bs f).length ≤ 6 := by
  unfold fromL
  split
  · rename_i h
    simp only [fromB, Bool.and_eq_true] at h
    have := planOk_of (fits_plan h.1)
    rw [rowTo_length]; omega
  · simp
theorem foldB_snoc {bs : List Bd} {k : Nat} {x : Bd} (v : Nat → Int) (h : bs[k]? = some x) : (bs.take (k + 1)).foldl stepB v = stepB ((bs.take k).foldl stepB v) x := by
  obtain ⟨hl, hv⟩ := List.getElem?_eq_some_iff.1 h
  rw [List.take_succ_eq_append_getElem hl, List.foldl_append, hv]; rfl
end Go.Proofs.Ytaifpindiphlkaa
