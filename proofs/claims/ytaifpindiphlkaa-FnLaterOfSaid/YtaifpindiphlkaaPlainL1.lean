/- Plain laws of PlanOk, TimesOk, LaterOf, MovedBy, BrokenOf. No program in sight. -/
import Derived.Test.YtaifpindiphlkaaKC
namespace Go.Proofs.Ytaifpindiphlkaa
open Go.RowKit
set_option linter.unusedVariables false
set_option maxRecDepth 10000
set_option linter.unusedSimpArgs false

theorem planOk_mk {n : Int} {bs : List Bd} (h1 : 1 ≤ n) (h6 : n ≤ 6) (hl : bs.length ≤ 16) (hb : ∀ x ∈ bs, 0 ≤ x.f ∧ x.f < n ∧ 0 ≤ x.t ∧ x.t < n ∧ -99 ≤ x.m ∧ x.m ≤ 99) : planOk n bs = true := by
  have e : (bs.any fun x => !okB n x) = false := by
    rw [List.any_eq_false]
    intro x hx
    have := hb x hx
    simp [okB, inB]; omega
  unfold planOk
  rw [e, (inB_iff _ _ _).2 ⟨h1, h6⟩]; simp [hl]
/-- A plan with fewer bounds. -/
theorem planOk_sub {n : Int} {bs cs : List Bd} (h : planOk n bs = true) (hl : cs.length ≤ bs.length) (hs : ∀ x ∈ cs, x ∈ bs) : planOk n cs = true := by
  obtain ⟨h1, h6, hl', hb⟩ := planOk_of h
  refine planOk_mk h1 h6 (by omega) (fun x hx => ?_)
  have := hb x (hs x hx)
  omega
theorem planOk_take {n : Int} {bs : List Bd} (h : planOk n bs = true) (k : Nat) : planOk n (bs.take k) = true :=
  planOk_sub h (List.length_take_le' _ _) (fun x hx => List.mem_of_mem_take hx)
theorem planOk_one : planOk 1 [] = true := by decide
theorem planOk_none : planOk 0 [] = false := by decide
theorem timesOk_mk {n : Int} {bs : List Bd} {ts : List Int} (h : planOk n bs = true) (hl : (ts.length : Int) = n) (ht : ∀ t ∈ ts, -2000 ≤ t ∧ t ≤ 2000) : timesOk n bs ts = true := by
  simp only [timesOk, Bool.and_eq_true, beq_iff_eq, allB_iff]
  exact ⟨⟨h, hl⟩, ht⟩
theorem timesOk_zero {n : Int} {bs : List Bd} {ts : List Int} (h : timesOk n bs ts = true) : timesOk n bs (List.replicate ts.length 0) = true := by
  obtain ⟨h1, h2, h3⟩ := timesOk_of h
  refine timesOk_mk h1 (by rw [List.length_replicate]; exact h2) (fun t ht => ?_)
  have := List.eq_of_mem_replicate ht
  omega
def negs (ts : List Int) : List Int := ts.map fun t => -t
theorem negs_length (ts : List Int) : (negs ts).length = ts.length := by simp [negs]
theorem negs_snoc {ts : List Int} {t : Int} {k : Nat} (h : ts[k]? = some t) : negs (ts.take (k + 1)) = negs (ts.take k) ++ [-t] := by
  obtain ⟨hl, hv⟩ := List.getElem?_eq_some_iff.1 h
  unfold negs
  rw [List.take_succ_eq_append_getElem hl, List.map_append, hv]; rfl
theorem timesOk_negs {n : Int} {bs : List Bd} {ts : List Int} (h : timesOk n bs ts = true) : timesOk n bs (negs ts) = true := by
  obtain ⟨h1, h2, h3⟩ := timesOk_of h
  refine timesOk_mk h1 (by rw [negs_length]; exact h2) (fun t ht => ?_)
  obtain ⟨u, hu, rfl⟩ := List.mem_map.1 ht
  have := h3 u hu
  omega
theorem timesOk_less {n : Int} {bs : List Bd} {ts us : List Int} (h : timesOk n bs ts = true) (hl : us.length ≠ ts.length) : timesOk n bs us = false := by
  obtain ⟨h1, h2, h3⟩ := timesOk_of h
  cases hu : timesOk n bs us with
  | false => rfl
  | true => have := (timesOk_of hu).2.1; omega
theorem timesOk_len1 {n : Int} {bs : List Bd} {ts : List Int} (h : timesOk n bs ts = true) : 1 ≤ ts.length ∧ ts.length ≤ 6 := by
  obtain ⟨h1, h2, h3⟩ := timesOk_of h
  obtain ⟨a, b, _⟩ := planOk_of h1
  omega
/- LaterOf -/
theorem maxes_length (a b : List Int) : (maxes a b).length = min a.length b.length := by simp [maxes]
theorem maxes_comm : ∀ (a b : List Int), maxes a b = maxes b a
  | [], [] => rfl
  | [], _ :: _ => rfl
  | _ :: _, [] => rfl
  | x :: a, y :: b => by
    show (if x < y then y else x) :: maxes a b = (if y < x then x else y) :: maxes b a
    rw [maxes_comm a b]
    congr 1
    split <;> split <;> omega
theorem maxes_self : ∀ (a : List Int), maxes a a = a
  | [] => rfl
  | x :: a => by
    show (if x < x then x else x) :: maxes a a = _
    rw [maxes_self a, if_neg (by omega)]
theorem maxes_at {a b : List Int} {i : Nat} (ha : i < a.length) (hb : i < b.length) : (maxes a b).getD i 0 = if a.getD i 0 < b.getD i 0 then b.getD i 0 else a.getD i 0 := by
  simp only [List.getD_eq_getElem?_getD, maxes, List.getElem?_zipWith, List.getElem?_eq_getElem ha, List.getElem?_eq_getElem hb, Option.getD_some]
theorem keepsOk_of {n : Int} {bs : List Bd} {ts : List Int} (h : keepsOk n bs ts = true) : timesOk n bs ts = true ∧ ∀ x ∈ bs, ts.getD x.t.toNat 0 - ts.getD x.f.toNat 0 ≤ x.m := by
  simp only [keepsOk, Bool.and_eq_true, Bool.not_eq_true', List.any_eq_false] at h
  refine ⟨h.1, fun x hx => ?_⟩
  have := h.2 x hx
  simpa [keeps] using this
theorem keepsOk_mk {n : Int} {bs : List Bd} {ts : List Int} (h : timesOk n bs ts = true) (hk : ∀ x ∈ bs, ts.getD x.t.toNat 0 - ts.getD x.f.toNat 0 ≤ x.m) : keepsOk n bs ts = true := by
  simp only [keepsOk, Bool.and_eq_true, Bool.not_eq_true', List.any_eq_false]
  refine ⟨h, fun x hx => ?_⟩
  simpa [keeps] using hk x hx
theorem keepsOk_maxes {n : Int} {bs : List Bd} {a b : List Int} (ha : keepsOk n bs a = true) (hb : keepsOk n bs b = true) : keepsOk n bs (maxes a b) = true := by
  obtain ⟨a1, a2⟩ := keepsOk_of ha
  obtain ⟨b1, b2⟩ := keepsOk_of hb
  obtain ⟨p1, l1, r1⟩ := timesOk_of a1
  obtain ⟨_, l2, r2⟩ := timesOk_of b1
  obtain ⟨n1, n6, _, hin⟩ := planOk_of p1
  have at_ : ∀ i, i < a.length → (maxes a b).getD i 0 = if a.getD i 0 < b.getD i 0 then b.getD i 0 else a.getD i 0 := fun i hi => maxes_at hi (by omega)
  refine keepsOk_mk (timesOk_mk p1 (by rw [maxes_length]; omega) (fun t ht => ?_)) (fun x hx => ?_)
  · obtain ⟨i, hi, rfl⟩ := List.mem_iff_getElem.1 ht
    have hl := hi
    rw [maxes_length] at hl
    have e := at_ i (by omega)
    rw [List.getD_eq_getElem?_getD, List.getElem?_eq_getElem hi] at e
    simp only [Option.getD_some] at e
    rw [e]
    have q1 := r1 a[i] (List.getElem_mem (by omega))
    have q2 := r2 b[i] (List.getElem_mem (by omega))
    rw [List.getD_eq_getElem?_getD, List.getD_eq_getElem?_getD, List.getElem?_eq_getElem (show i < a.length by omega), List.getElem?_eq_getElem (show i < b.length by omega)]
    simp only [Option.getD_some]
    split <;> omega
  · have hx' := hin x hx
    have k1 := a2 x hx
    have k2 := b2 x hx
    rw [at_ _ (by omega), at_ _ (by omega)]
    split <;> split <;> omega
/- what the law of LaterOf asks, of rows that are not nil -/
theorem later_law {n : Int} {bs : List Bd} {a b : List Int} (h : (laterOf n bs a b).length ≠ 0) : timesOk n bs a = true ∧ timesOk n bs b = true ∧ laterOf n bs a b = maxes a b ∧ laterOf n bs b a = laterOf n bs a b ∧ laterOf n bs a a = a := by
  unfold laterOf at h
  split at h
  · rename_i hc
    refine ⟨hc.1, hc.2, by simp [laterOf, hc], ?_, by simp [laterOf, hc, maxes_self]⟩
    simp [laterOf, hc, maxes_comm]
  · simp at h
theorem later_keeps {n : Int} {bs : List Bd} {a b : List Int} (ha : keepsOk n bs a = true) (hb : keepsOk n bs b = true) : keepsOk n bs (laterOf n bs a b) = true := by
  have h1 := (keepsOk_of ha).1
  have h2 := (keepsOk_of hb).1
  have : laterOf n bs a b = maxes a b := by simp [laterOf, h1, h2]
  rw [this]; exact keepsOk_maxes ha hb
/- MovedBy -/
theorem shift_back (ts : List Int) (d : Int) : shift (shift ts d) (-d) = ts := by
  unfold shift
  rw [List.map_map]
  conv => rhs; rw [← List.map_id ts]
  apply List.map_congr_left
  intro t _
  simp only [Function.comp, id]; omega
theorem moved_law {n : Int} {bs : List Bd} {ts : List Int} {d : Int} (h : movedOk n bs ts d = true) : timesOk n bs ts = true ∧ -2000 ≤ d ∧ d ≤ 2000 ∧ movedL n bs ts d = shift ts d ∧ movedOk n bs (movedL n bs ts d) (-d) = true ∧ movedL n bs (movedL n bs ts d) (-d) = ts := by
  have h' := h
  simp only [movedOk, Bool.and_eq_true] at h'
  obtain ⟨⟨h1, h2⟩, h3⟩ := h'
  have hd := (inB_iff _ _ _).1 h2
  have e : movedL n bs ts d = shift ts d := by simp [movedL, h]
  have m2 : movedOk n bs (shift ts d) (-d) = true := by
    simp only [movedOk, Bool.and_eq_true, shift_back]
    exact ⟨⟨h3, (inB_iff _ _ _).2 (by omega)⟩, h1⟩
  refine ⟨h1, hd.1, hd.2, e, by rw [e]; exact m2, ?_⟩
  rw [e]
  simp [movedL, m2, shift_back]
theorem movedL_no {n : Int} {bs : List Bd} {ts : List Int} {d : Int} (h : movedOk n bs ts d = false) : movedL n bs ts d = [] := by simp [movedL, h]
/- BrokenOf -/
def hasI (l : List Int) (n : Int) : Bool := l.any fun x => x == n
def ascB : List Int → Bool
  | x :: y :: l => decide (x < y) && ascB (y :: l)
  | _ => true
theorem hasI_iff (l : List Int) (n : Int) : hasI l n = true ↔ n ∈ l := by simp [hasI]
theorem broken_has {n : Int} {bs : List Bd} {ts : List Int} (h : timesOk n bs ts = true) {k : Nat} {x : Bd} (hx : bs[k]? = some x) : hasI (brokenOf n bs ts) (k : Int) = !keeps ts x := by
  have hl : k < bs.length := (List.getElem?_eq_some_iff.1 hx).1
  rw [Bool.eq_iff_iff, hasI_iff]
  have e : brokenOf n bs ts = brokenTo bs ts bs.length := by simp [brokenOf, h]
  rw [e]
  unfold brokenTo
  have hg : bs.getD k ⟨0, 0, 0⟩ = x := by rw [List.getD_eq_getElem?_getD, hx]; rfl
  constructor
  · intro hm
    obtain ⟨i, hi, e2⟩ := List.mem_map.1 hm
    have : i = k := by omega
    subst this
    have := (List.mem_filter.1 hi).2
    rwa [hg] at this
  · intro hm
    exact List.mem_map.2 ⟨k, List.mem_filter.2 ⟨List.mem_range.2 hl, by rw [hg]; exact hm⟩, rfl⟩
/-- A plan of one bound. -/
theorem keeps_one {n : Int} {bs : List Bd} {ts : List Int} (h : timesOk n bs ts = true) {x : Bd} (hx : x ∈ bs) : keepsOk n [x] ts = keeps ts x := by
  obtain ⟨h1, h2, h3⟩ := timesOk_of h
  have p : planOk n [x] = true := planOk_sub h1 (by have := List.length_pos_of_mem hx; simp; omega) (fun y hy => by simp at hy; rw [hy]; exact hx)
  have t : timesOk n [x] ts = true := timesOk_mk p h2 h3
  simp [keepsOk, t]
theorem broken_one {n : Int} {bs : List Bd} {ts : List Int} (h : timesOk n bs ts = true) {k : Nat} {x : Bd} (hx : bs[k]? = some x) : keepsOk n [x] ts = !hasI (brokenOf n bs ts) (k : Int) := by
  rw [keeps_one h (List.mem_of_getElem? hx), broken_has h hx, Bool.not_not]
theorem broken_asc (n : Int) (bs : List Bd) (ts : List Int) : ∀ i a b, (brokenOf n bs ts)[i]? = some a → (brokenOf n bs ts)[i + 1]? = some b → a < b := by
  have key : ((brokenTo bs ts bs.length)).Pairwise (· < ·) := by
    unfold brokenTo
    rw [List.pairwise_map]
    refine List.Pairwise.filter _ ?_
    exact List.pairwise_lt_range.imp (fun h => by omega)
  intro i a b ha hb
  unfold brokenOf at ha hb
  split at ha
  · rename_i hc
    rw [if_pos hc] at hb
    rw [List.pairwise_iff_getElem] at key
    obtain ⟨la, va⟩ := List.getElem?_eq_some_iff.1 ha
    obtain ⟨lb, vb⟩ := List.getElem?_eq_some_iff.1 hb
    have := key i (i + 1) la lb (by omega)
    omega
  · simp at ha
end Go.Proofs.Ytaifpindiphlkaa
