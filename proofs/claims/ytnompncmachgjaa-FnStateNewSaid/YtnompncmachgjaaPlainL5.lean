/- Plain law of StateNew: a new state goes on exactly if no point must be before the first one. No program in sight. -/
import Derived.Test.YtnompncmachgjaaPlainL3
import Derived.Test.YtnompncmachgjaaKJ
namespace Go.Proofs.Ytnompncmachgjaa
open Go.RowKit
set_option linter.unusedVariables false
set_option maxRecDepth 10000
set_option linter.unusedSimpArgs false

theorem newL_at {N : Nat} {k : Nat} (hk : k < N) : nthI ((List.range N).map (newV 0 N)) k = if k = 0 then 0 else -1 := by
  unfold nthI
  rw [List.getD_eq_getElem?_getD, List.getElem?_map, List.getElem?_range hk]
  simp only [Option.map_some, Option.getD_some, newV]
  by_cases e : k = 0
  · rw [if_pos e, if_pos e]
  · rw [if_neg e, if_neg e, if_pos hk]
theorem goB_new {N : Nat} : ∀ k, k ≤ N → (∀ y ∈ goB 0 ((List.range N).map (newV 0 N)) k, 0 ≤ y.f ∧ y.f < N ∧ y.t = 0 ∧ y.m = 0) ∧ ∀ j : Nat, 1 ≤ j → j < k → (⟨j, 0, 0⟩ : Bd) ∈ goB 0 ((List.range N).map (newV 0 N)) k
  | 0, _ => ⟨fun y hy => by simp [goB] at hy, fun j h1 h2 => by omega⟩
  | k + 1, hk => by
    obtain ⟨i1, i2⟩ := goB_new (N := N) k (by omega)
    have hv := newL_at (N := N) (k := k) (by omega)
    have e : goB 0 ((List.range N).map (newV 0 N)) (k + 1) = goB 0 ((List.range N).map (newV 0 N)) k ++ (if k = 0 then [⟨0, 0, 0⟩, ⟨0, 0, 0⟩] else [⟨k, 0, 0⟩]) := by
      show goB 0 _ k ++ (if nthI _ k = -1 then _ else _) = _
      rw [hv]
      by_cases c : k = 0
      · subst c; simp
      · simp [c]
    rw [e]
    refine ⟨fun y hy => ?_, fun j h1 h2 => ?_⟩
    · rcases List.mem_append.1 hy with hy | hy
      · exact i1 y hy
      · split at hy
        · simp at hy; subst hy; simp; omega
        · simp at hy; subst hy; simp; omega
    · rw [List.mem_append]
      by_cases c : j = k
      · subst c; right; rw [if_neg (by omega)]; simp
      · left; exact i2 j h1 (by omega)
theorem stOk_new {n : Int} {bs : List Bd} (h1 : fitsOk n bs = true) : stOk n bs 0 (newL n bs) = true := by
  obtain ⟨N, rfl, n1, n6⟩ := fit_nat h1
  have e : newL N bs = (List.range N).map (newV 0 N) := by simp [newL, h1]
  have e0 := newL_at (N := N) (k := 0) (by omega)
  simp only [stOk, Bool.and_eq_true, decide_eq_true_eq, h1, inB_iff, allB_iff, e, List.length_map, List.length_range, e0, true_and]
  refine ⟨⟨by omega, by simp⟩, fun x hx => ?_⟩
  obtain ⟨i, hi, rfl⟩ := List.mem_map.1 hx
  unfold newV
  split
  · omega
  · split <;> omega
/-- Rows of bounds that may go back to the first point at no cost. -/
theorem new_path {N : Nat} {bs gs : List Bd} {D : Tab} (h : Dist N bs D) (hin : ∀ x ∈ bs, x.f.toNat < N ∧ x.t.toNat < N ∧ x.m ≤ 99) (hg : ∀ y ∈ gs, y.f.toNat < N ∧ y.t.toNat = 0 ∧ y.m = 0) (hN : 1 ≤ N) (h0 : ∀ k, k < N → D 0 k = 100000 ∨ 0 ≤ D 0 k) {i j : Nat} {s : Int} (hi : i < N) (w : Wk (bs ++ gs) i j s) :
    j < N ∧ ((D i j ≠ 100000 ∧ D i j ≤ s) ∨ ∃ u, u < N ∧ D i u ≠ 100000 ∧ D 0 j ≠ 100000 ∧ D i u + D 0 j ≤ s) := by
  induction w with
  | nil => have := h.zero i hi; exact ⟨hi, Or.inl ⟨by omega, by omega⟩⟩
  | @snoc u s x _ hx hf ih =>
    obtain ⟨hu, ih⟩ := ih
    have z0 := h.zero 0 (by omega)
    rcases List.mem_append.1 hx with hx | hx
    · have hx' := hin x hx
      have he := h.edge x hx
      rw [hf] at he
      have f1 := h.fin u x.t.toNat hu hx'.2.1
      refine ⟨hx'.2.1, ?_⟩
      rcases ih with ⟨a, b⟩ | ⟨v, hv, a, b, c⟩
      · left
        have t := h.tri u i x.t.toNat hu hi hx'.2.1 a (by omega)
        have f2 := h.fin i u hi hu
        exact ⟨by omega, by omega⟩
      · right
        have t := h.tri u 0 x.t.toNat hu (by omega) hx'.2.1 b (by omega)
        have f2 := h.fin 0 u (by omega) hu
        exact ⟨v, hv, a, by omega, by omega⟩
    · obtain ⟨g1, g2, g3⟩ := hg x hx
      rw [g2, g3]
      refine ⟨by omega, Or.inr ?_⟩
      rcases ih with ⟨a, b⟩ | ⟨v, hv, a, b, c⟩
      · exact ⟨u, hu, a, by omega, by omega⟩
      · have := h0 u hu
        exact ⟨v, hv, a, by omega, by omega⟩
/-- May each point be at 0 or later, if the first one is at 0? -/
def mayNew (n : Int) (bs : List Bd) (k : Nat) : Bool := (List.range k).all fun i => !mostB n bs 0 i || decide (0 ≤ mostV n bs 0 i)
theorem mayNew_succ (n : Int) (bs : List Bd) (k : Nat) : mayNew n bs (k + 1) = (mayNew n bs k && (!mostB n bs 0 k || decide (0 ≤ mostV n bs 0 k))) := by
  unfold mayNew
  rw [List.range_succ, List.all_append]; simp
theorem new_law {n : Int} {bs : List Bd} (h1 : fitsOk n bs = true) : goV n bs 0 (newL n bs) = mayNew n bs n.toNat := by
  have hs := stOk_new h1
  obtain ⟨N, rfl, n1, n6⟩ := fit_nat h1
  have D := dist_of h1
  have hin := hin_of h1
  have hpl := planOk_of (fit_plan h1)
  have e : newL N bs = (List.range N).map (newV 0 N) := by simp [newL, h1]
  have hlen : (newL N bs).length = N := by rw [e]; simp
  have hm : ∀ k, k < N → ((!mostB N bs 0 k || decide (0 ≤ mostV N bs 0 k)) = true ↔ (closedT N bs 0 k = 100000 ∨ 0 ≤ closedT N bs 0 k)) := by
    intro k hk
    by_cases c : closedT N bs 0 k = 100000
    · have : mostB N bs 0 k = false := by
        rw [← Bool.not_eq_true]; intro hh
        exact (mostB_of hh).2.2.2.2.2.1 (by simpa using c)
      simp [this, c]
    · have hb : mostB N bs 0 k = true := mostB_mk h1 (by omega) (by omega) (by omega) (by omega) (by simpa using c)
      have hv : mostV N bs 0 k = closedT N bs 0 k := by rw [(mostB_of hb).2.2.2.2.2.2]; simp
      rw [hv]; simp [hb, c]
  unfold goV
  rw [hs, hlen, Bool.true_and, Int.toNat_natCast, Bool.eq_iff_iff]
  obtain ⟨q1, q2⟩ := goB_new (N := N) N (Nat.le_refl _)
  rw [← e] at q1 q2
  generalize goB 0 (newL N bs) N = gs at *
  have rng : ∀ x ∈ bs ++ gs, 0 ≤ x.f ∧ x.f < N ∧ 0 ≤ x.t ∧ x.t < N ∧ -99 ≤ x.m ∧ x.m ≤ 99 := fun x hx => by
    rcases List.mem_append.1 hx with hx | hx
    · exact hpl.2.2.2 x hx
    · have := q1 x hx; omega
  rw [← diag_both n6 (fun x hx => by have := rng x hx; omega)]
  unfold mayNew
  rw [List.all_eq_true]
  constructor
  · intro hd k hk
    have hk := List.mem_range.1 hk
    rw [hm k hk]
    have E := distX_of ⟨n6, rng, hd⟩
    by_cases c : closedT N bs 0 k = 100000
    · exact Or.inl c
    · right
      by_cases c0 : k = 0
      · subst c0; have := D.zero 0 (by omega); omega
      · have w := Wk.mono (cs := bs ++ gs) (fun x hx => List.mem_append.2 (Or.inl hx)) (D.walk 0 k (by omega) hk c)
        have w2 : Wk (bs ++ gs) 0 0 (closedT N bs 0 k + 0) := Wk.snoc (x := ⟨k, 0, 0⟩) w (List.mem_append.2 (Or.inr (q2 k (by omega) hk))) (by simp)
        have := (E.le (fun x hx => by have := rng x hx; omega) (by omega) w2).2.2
        have := E.zero 0 (by omega)
        omega
  · intro h
    cases hd : diagOk N (closeS N (ent (bs ++ gs))) with
    | true => rfl
    | false =>
      exfalso
      obtain ⟨i, l, l1, _, hc, hsum⟩ := unfitX_bad n6 rng hd
      have hi : i < N := by
        cases l with
        | nil => simp at l1
        | cons x l =>
          obtain ⟨hx, hf, _⟩ := hc
          have := rng x hx
          omega
      have h0 : ∀ k, k < N → closedT N bs 0 k = 100000 ∨ 0 ≤ closedT N bs 0 k := fun k hk => (hm k hk).1 (h k (List.mem_range.2 hk))
      obtain ⟨_, p⟩ := new_path D hin (fun y hy => by have := q1 y hy; omega) n1 h0 hi (Wk.go l Wk.nil hc)
      rcases p with ⟨a, b⟩ | ⟨u, hu, a, b, c⟩
      · have := D.zero i hi; omega
      · have t := D.tri i 0 u hi (by omega) hu b a
        have f1 := D.fin 0 i (by omega) hi
        have f2 := D.fin i u hi hu
        have := h0 u hu
        omega
end Go.Proofs.Ytnompncmachgjaa
