/- Plain law: the closed table of a plan that fits holds the least sums of all rows of bounds: 0 from a point to itself, no number over a third point is shorter, each number is the sum of some row of bounds. No program in sight. -/
import Derived.Test.YtedpaanhnbodfaaPlainEq
namespace Go.Proofs.Ytedpaanhnbodfaa
open Go.RowKit
set_option linter.unusedVariables false
set_option maxRecDepth 10000
set_option linter.unusedSimpArgs false

/-- A row of bounds leads from a point to another one, with this sum. -/
inductive Wk (bs : List Bd) (i : Nat) : Nat → Int → Prop
  | nil : Wk bs i i 0
  | snoc {u : Nat} {s : Int} {x : Bd} : Wk bs i u s → x ∈ bs → x.f.toNat = u → Wk bs i x.t.toNat (s + x.m)
theorem Wk.trans {bs : List Bd} {i k j : Nat} {s t : Int} (h : Wk bs i k s) (h2 : Wk bs k j t) : Wk bs i j (s + t) := by
  induction h2 with
  | nil => rw [Int.add_zero]; exact h
  | snoc _ hx hf ih => rw [← Int.add_assoc]; exact Wk.snoc ih hx hf
/-- The table behind some rounds of the reference. -/
def rdT (bs : List Bd) (k : Nat) : Tab := (List.range k).foldl roundK (ent bs)
theorem rdT_succ (bs : List Bd) (k : Nat) : rdT bs (k + 1) = roundK (rdT bs k) k := range_fold _ _ _
theorem rdT_anti (bs : List Bd) (k d i j : Nat) : rdT bs (k + d) i j ≤ rdT bs k i j := by
  induction d with
  | zero => exact Int.le_refl _
  | succ d ih => rw [← Nat.add_assoc, rdT_succ]; exact Int.le_trans (roundK_le _ _ _ _) ih
theorem ent_le0 (i j : Nat) : ∀ (bs : List Bd) (z : Int), bs.foldl (entB i j) z ≤ z
  | [], z => Int.le_refl _
  | x :: bs, z => by
    rw [List.foldl_cons]
    refine Int.le_trans (ent_le0 i j bs _) ?_
    unfold entB; split
    · exact mn_le _ _
    · exact Int.le_refl _
theorem ent_mem (i j : Nat) : ∀ (bs : List Bd) (z : Int) (x : Bd), x ∈ bs → x.f = i → x.t = j → bs.foldl (entB i j) z ≤ x.m
  | y :: bs, z, x, hx, hf, ht => by
    rw [List.foldl_cons]
    rcases List.mem_cons.1 hx with rfl | hx
    · refine Int.le_trans (ent_le0 i j bs _) ?_
      rw [entB_hit hf ht]; exact mn_le' _ _
    · exact ent_mem i j bs _ x hx hf ht
theorem ent_or (i j : Nat) : ∀ (bs : List Bd) (z : Int), bs.foldl (entB i j) z = z ∨ ∃ x ∈ bs, x.f = i ∧ x.t = j ∧ bs.foldl (entB i j) z = x.m
  | [], z => Or.inl rfl
  | y :: bs, z => by
    rw [List.foldl_cons]
    rcases ent_or i j bs (entB i j z y) with h | ⟨x, hx, hf, ht, h⟩
    · rw [h]
      unfold entB
      split
      · rename_i c
        unfold mn; split
        · exact Or.inr ⟨y, List.mem_cons_self, c.1, c.2, rfl⟩
        · exact Or.inl rfl
      · exact Or.inl rfl
    · exact Or.inr ⟨x, List.mem_cons_of_mem _ hx, hf, ht, h⟩
structure Inv (N : Nat) (bs : List Bd) (k : Nat) (B : Int) (A : Tab) : Prop where
  fin : ∀ i j, i < N → j < N → A i j = 100000 ∨ (-B ≤ A i j ∧ A i j ≤ B)
  tri : ∀ m i j, m < k → i < N → j < N → A i m ≠ 100000 → A m j ≠ 100000 → A i j ≤ A i m + A m j
  walk : ∀ i j, i < N → j < N → A i j ≠ 100000 → Wk bs i j (A i j)
/-- One number of a round. -/
theorem roundK_told {N k : Nat} {B : Int} {A : Tab} (hB2 : B ≤ 10000) (hk : k < N) (hf : ∀ i j, i < N → j < N → A i j = 100000 ∨ (-B ≤ A i j ∧ A i j ≤ B)) {i j : Nat} (hi : i < N) (hj : j < N) :
    (roundK A k i j = A i j ∨ (A i k ≠ 100000 ∧ A k j ≠ 100000 ∧ roundK A k i j = A i k + A k j)) ∧ roundK A k i j ≤ A i j ∧ (A i k ≠ 100000 → A k j ≠ 100000 → roundK A k i j ≤ A i k + A k j) := by
  have h1 := hf i k hi hk
  have h2 := hf k j hk hj
  have h3 := hf i j hi hj
  unfold roundK
  split
  · rename_i c
    rw [IntWalk.wrap64_in _ (by omega)]
    unfold mn
    split
    · refine ⟨Or.inr ⟨by omega, by omega, rfl⟩, by omega, fun _ _ => Int.le_refl _⟩
    · refine ⟨Or.inl rfl, Int.le_refl _, fun _ _ => by omega⟩
  · refine ⟨Or.inl rfl, Int.le_refl _, fun _ _ => ?_⟩
    omega
theorem ne_far {B x y z : Int} (hB2 : B ≤ 10000) (hx : x = 100000 ∨ (-B ≤ x ∧ x ≤ B)) (hy : y = 100000 ∨ (-B ≤ y ∧ y ≤ B)) (h1 : x ≠ 100000) (h2 : y ≠ 100000) (q : z ≤ x + y) : z ≠ 100000 := by omega
theorem Inv.step {N k : Nat} {bs : List Bd} {B : Int} {A : Tab} (h : Inv N bs k B A) (hk : k < N) (hB : 0 ≤ B) (hB2 : B ≤ 10000) (hz : ∀ i, i < N → A i i = 0) : Inv N bs (k + 1) (2 * B) (roundK A k) := by
  have T := @roundK_told N k B A hB2 hk h.fin
  refine ⟨fun i j hi hj => ?_, fun m i j hm hi hj h1 h2 => ?_, fun i j hi hj hne => ?_⟩
  · have t := (T hi hj).1
    have f1 := h.fin i k hi hk
    have f2 := h.fin k j hk hj
    have f3 := h.fin i j hi hj
    clear T
    rcases t with e | ⟨e1, e2, e⟩
    · rw [e]; clear f1 f2; omega
    · rw [e]; clear f3; omega
  · have hmN : m < N := by omega
    have t := T hi hj
    obtain ⟨t1, _, _⟩ := T hi hmN
    obtain ⟨t2, _, _⟩ := T hmN hj
    have z := hz k hk
    have f4 := h.fin i m hi hmN
    have f5 := h.fin m j hmN hj
    have f6 := h.fin k m hk hmN
    have f7 := h.fin m k hmN hk
    by_cases e : m = k
    · subst e
      have u1 : roundK A m i m = A i m := by
        rcases t1 with e | ⟨_, _, e⟩
        · exact e
        · rw [e, z, Int.add_zero]
      have u2 : roundK A m m j = A m j := by
        rcases t2 with e | ⟨_, _, e⟩
        · exact e
        · rw [e, z, Int.zero_add]
      rw [u1] at h1 ⊢
      rw [u2] at h2 ⊢
      exact t.2.2 h1 h2
    · have hm' : m < k := by omega
      have q1 := h.tri m i j hm' hi hj
      have q2 := h.tri m k j hm' hk hj
      have q3 := h.tri m i k hm' hi hk
      have q4 := h.tri m k k hm' hk hk
      clear T hz h
      rcases t1 with a1 | ⟨a1, b1, c1⟩ <;> rcases t2 with a2 | ⟨a2, b2, c2⟩
      · rw [a1] at h1 ⊢; rw [a2] at h2 ⊢
        exact Int.le_trans t.2.1 (q1 h1 h2)
      · rw [a1] at h1 ⊢; rw [c2]
        have n1 := ne_far hB2 f4 f7 h1 a2 (q3 h1 a2)
        have l := t.2.2 n1 b2
        have := q3 h1 a2
        clear f4 f5 f6 f7 t q1 q2 q4
        omega
      · rw [a2] at h2 ⊢; rw [c1]
        have n1 := ne_far hB2 f6 f5 b1 h2 (q2 b1 h2)
        have l := t.2.2 a1 n1
        have := q2 b1 h2
        clear f4 f5 f6 f7 t q1 q3 q4
        omega
      · rw [c1, c2]
        have l := t.2.2 a1 b2
        have := q4 b1 a2
        clear f4 f5 f6 f7 t q1 q2 q3
        omega
  · rcases (T hi hj).1 with e | ⟨e1, e2, e⟩
    · rw [e] at hne ⊢; exact h.walk i j hi hj hne
    · rw [e]; exact (h.walk i k hi hk e1).trans (h.walk k j hk hj e2)
/-- Bounds between points whose closed table has no number below 0 from a point to itself; of any number. -/
structure FitX (N : Nat) (bs : List Bd) : Prop where
  n6 : N ≤ 6
  rng : ∀ x ∈ bs, 0 ≤ x.f ∧ x.f < N ∧ 0 ≤ x.t ∧ x.t < N ∧ -99 ≤ x.m ∧ x.m ≤ 99
  diag : diagOk N (closeS N (ent bs)) = true
theorem fit_plan {N : Nat} {bs : List Bd} (hfit : fitsOk N bs = true) : planOk N bs = true := by simp only [fitsOk, Bool.and_eq_true] at hfit; exact hfit.1
theorem fitX_of {N : Nat} {bs : List Bd} (hfit : fitsOk N bs = true) : FitX N bs := by
  obtain ⟨h1, h6, _, hin⟩ := planOk_of (fit_plan hfit)
  have hs : fitsS N bs = true := by rw [fits_eq]; exact hfit
  have hd : diagOk N (closeS N (ent bs)) = true := by simp only [fitsS, Bool.and_eq_true, Int.toNat_natCast] at hs; exact hs.2
  exact ⟨by omega, hin, hd⟩
section
variable {N : Nat} {bs : List Bd} (hfit : FitX N bs)
include hfit
theorem rdT_zero {k : Nat} (hk : k ≤ N) {i : Nat} (hi : i < N) : rdT bs k i i = 0 := by
  have hd := hfit.diag
  unfold diagOk at hd; rw [decide_eq_true_iff] at hd
  have h1 := hd i hi
  have h2 : rdT bs (k + (N - k)) i i ≤ rdT bs k i i := rdT_anti bs k (N - k) i i
  rw [show k + (N - k) = N by omega] at h2
  have h3 : rdT bs (0 + k) i i ≤ rdT bs 0 i i := rdT_anti bs 0 k i i
  rw [Nat.zero_add] at h3
  have h4 : rdT bs 0 i i ≤ tab0 i i := ent_le0 i i bs _
  have h5 : tab0 i i = 0 := by simp [tab0]
  have h6 : closeS N (ent bs) i i = rdT bs N i i := rfl
  omega
theorem inv_zero : Inv N bs 0 99 (rdT bs 0) := by
  have hin := hfit.rng
  have key : ∀ i j, i < N → j < N → (i ≠ j ∧ rdT bs 0 i j = 100000) ∨ (i = j ∧ rdT bs 0 i j = 0) ∨ ∃ x ∈ bs, x.f = i ∧ x.t = j ∧ rdT bs 0 i j = x.m := by
    intro i j hi hj
    rcases ent_or i j bs (tab0 i j) with h | h
    · by_cases e : i = j
      · refine Or.inr (Or.inl ⟨e, ?_⟩); exact h.trans (by simp [tab0, e])
      · refine Or.inl ⟨e, ?_⟩; exact h.trans (by simp [tab0, e])
    · exact Or.inr (Or.inr h)
  refine ⟨fun i j hi hj => ?_, fun m _ _ hm => absurd hm (Nat.not_lt_zero _), fun i j hi hj hne => ?_⟩
  · rcases key i j hi hj with h | h | ⟨x, hx, _, _, h⟩
    · exact Or.inl h.2
    · right; rw [h.2]; omega
    · right; have := hin x hx; rw [h]; omega
  · rcases key i j hi hj with h | h | ⟨x, hx, hf, ht, h⟩
    · exact absurd h.2 hne
    · rw [h.2, ← h.1]; exact Wk.nil
    · rw [h]
      have w := Wk.snoc (Wk.nil (bs := bs) (i := i)) hx (show x.f.toNat = i by omega)
      rw [show x.t.toNat = j by omega, Int.zero_add] at w
      exact w
theorem inv_all : ∀ k, k ≤ N → k ≤ 6 → Inv N bs k (99 * 2 ^ k) (rdT bs k)
  | 0, _, _ => by simpa using inv_zero hfit
  | k + 1, h1, h2 => by
    rw [rdT_succ]
    have hp : (0 : Int) ≤ 99 * 2 ^ k ∧ (99 : Int) * 2 ^ k ≤ 10000 := by
      match k, h2 with
      | 0, _ => decide
      | 1, _ => decide
      | 2, _ => decide
      | 3, _ => decide
      | 4, _ => decide
      | 5, _ => decide
      | k + 6, h2 => omega
    have := (inv_all k (by omega) (by omega)).step (by omega) hp.1 hp.2 (fun i hi => rdT_zero hfit (by omega) hi)
    rw [show (99 : Int) * 2 ^ (k + 1) = 2 * (99 * 2 ^ k) by rw [Int.pow_succ]; omega]
    exact this
end
/-- What the closed table tells. -/
structure Dist (N : Nat) (bs : List Bd) (D : Tab) : Prop where
  zero : ∀ i, i < N → D i i = 0
  fin : ∀ i j, i < N → j < N → D i j = 100000 ∨ (-6336 ≤ D i j ∧ D i j ≤ 6336)
  tri : ∀ m i j, m < N → i < N → j < N → D i m ≠ 100000 → D m j ≠ 100000 → D i j ≤ D i m + D m j
  walk : ∀ i j, i < N → j < N → D i j ≠ 100000 → Wk bs i j (D i j)
  edge : ∀ x ∈ bs, D x.f.toNat x.t.toNat ≤ x.m
theorem distX_of {N : Nat} {bs : List Bd} (hfit : FitX N bs) : Dist N bs (closeS N (ent bs)) := by
  have h6 := hfit.n6
  have hin := hfit.rng
  have I := inv_all hfit N (Nat.le_refl _) (by omega)
  have E : ∀ i j, closeS N (ent bs) i j = rdT bs N i j := fun _ _ => rfl
  have hB : (99 : Int) * 2 ^ N ≤ 6336 := by
    have hN6 : N = 0 ∨ N = 1 ∨ N = 2 ∨ N = 3 ∨ N = 4 ∨ N = 5 ∨ N = 6 := by omega
    clear I E hin hfit
    rcases hN6 with e | e | e | e | e | e | e <;> (rw [e]; decide)
  refine ⟨fun i hi => ?_, fun i j hi hj => ?_, fun m i j hm hi hj => ?_, fun i j hi hj => ?_, fun x hx => ?_⟩
  · rw [E i i]; exact rdT_zero hfit (Nat.le_refl _) hi
  · rw [E i j]; have := I.fin i j hi hj; omega
  · rw [E i j, E i m, E m j]; exact I.tri m i j hm hi hj
  · rw [E i j]; exact I.walk i j hi hj
  · have hx' := hin x hx
    rw [E _ _]
    have h2 : rdT bs (0 + N) x.f.toNat x.t.toNat ≤ rdT bs 0 x.f.toNat x.t.toNat := rdT_anti bs 0 N _ _
    rw [Nat.zero_add] at h2
    exact Int.le_trans h2 (ent_mem _ _ bs _ x hx (by omega) (by omega))
theorem Dist.eq_ {N : Nat} {bs : List Bd} {D D' : Tab} (h : Dist N bs D) (hin : ∀ x ∈ bs, x.f.toNat < N ∧ x.t.toNat < N) (e : ∀ i j, i < N → j < N → D i j = D' i j) : Dist N bs D' := by
  refine ⟨fun i hi => ?_, fun i j hi hj => ?_, fun m i j hm hi hj => ?_, fun i j hi hj => ?_, fun x hx => ?_⟩
  · rw [← e i i hi hi]; exact h.zero i hi
  · rw [← e i j hi hj]; exact h.fin i j hi hj
  · rw [← e i j hi hj, ← e i m hi hm, ← e m j hm hj]; exact h.tri m i j hm hi hj
  · rw [← e i j hi hj]; exact h.walk i j hi hj
  · have := hin x hx
    rw [← e _ _ this.1 this.2]; exact h.edge x hx
theorem dist_of {N : Nat} {bs : List Bd} (hfit : fitsOk N bs = true) : Dist N bs (closedT N bs) := by
  obtain ⟨h1, h6, _, hin⟩ := planOk_of (fit_plan hfit)
  exact (distX_of (fitX_of hfit)).eq_ (fun x hx => by have := hin x hx; omega) (fun i j hi hj => closed_eq hfit i j hi hj)
/-- Each row of bounds is at least as long as the closed table tells. -/
theorem Dist.le {N : Nat} {bs : List Bd} {D : Tab} (h : Dist N bs D) (hin : ∀ x ∈ bs, x.f.toNat < N ∧ x.t.toNat < N ∧ x.m ≤ 99) {i j : Nat} {s : Int} (hi : i < N) (w : Wk bs i j s) : j < N ∧ D i j ≠ 100000 ∧ D i j ≤ s := by
  induction w with
  | nil => have := h.zero i hi; exact ⟨hi, by omega, by omega⟩
  | @snoc u s x _ hx hf ih =>
    obtain ⟨hu, hne, hle⟩ := ih
    have hx' := hin x hx
    have he := h.edge x hx
    rw [hf] at he
    have f1 := h.fin u x.t.toNat hu hx'.2.1
    have t := h.tri u i x.t.toNat hu hi hx'.2.1 hne (by omega)
    have f2 := h.fin i u hi hu
    refine ⟨hx'.2.1, by omega, by omega⟩
end Go.Proofs.Ytedpaanhnbodfaa
