/- Plain law: the closed table of a plan that fits holds the least sums of all rows of bounds: 0 from a point to itself, no number over a third point is shorter, each number is the sum of some row of bounds. No program in sight. Plain law: if some closed row of bounds has a sum below 0, then one of at most as many bounds as there are points has. No program in sight. Plain law: the search for a bad ring of so many bounds finds one exactly if there is a closed row of so many bounds with a sum below 0. No program in sight. Plain law: the tables of the least sums of rows of just so many bounds. No program in sight. Plain law: the program, which stops at the fewest bounds of a bad ring, and the reference, which goes on to the number of points, find the same ring. No program in sight. Plain law: found bound by bound, from one point, in as many rounds as there are points, the numbers are those of the point's row of the closed table. No program in sight. -/
import Derived.Test.YtaifpindiphlkaaKE
namespace Go.Proofs.Ytaifpindiphlkaa
open Go.RowKit
set_option linter.unusedVariables false
set_option maxRecDepth 10000
set_option linter.unusedSimpArgs false

/-- A row of bounds leads from a point to another one, with this sum. -/
inductive Wk (bs : List Bd) (i : Nat) : Nat → Int → Prop
  | nil : Wk bs i i 0
  | snoc {u : Nat} {s : Int} {x : Bd} : Wk bs i u s → x ∈ bs → x.f.toNat = u → Wk bs i x.t.toNat (s + x.m)
theorem Wk.trans {bs : List Bd} {i k j : Nat} {s t : Int} (h : Wk bs i k s) (h2 : Wk bs k j t) : Wk bs i j (s + t) := by
  induction h2 with
  | nil => rw [Int.add_zero]; exact h
  | snoc _ hx hf ih => rw [← Int.add_assoc]; exact Wk.snoc ih hx hf
/-- The table behind some rounds of the reference. -/
def rdT (bs : List Bd) (k : Nat) : Tab := (List.range k).foldl roundK (ent bs)
theorem rdT_succ (bs : List Bd) (k : Nat) : rdT bs (k + 1) = roundK (rdT bs k) k := range_fold _ _ _
theorem rdT_anti (bs : List Bd) (k d i j : Nat) : rdT bs (k + d) i j ≤ rdT bs k i j := by
  induction d with
  | zero => exact Int.le_refl _
  | succ d ih => rw [← Nat.add_assoc, rdT_succ]; exact Int.le_trans (roundK_le _ _ _ _) ih
theorem ent_le0 (i j : Nat) : ∀ (bs : List Bd) (z : Int), bs.foldl (entB i j) z ≤ z
  | [], z => Int.le_refl _
  | x :: bs, z => by
    rw [List.foldl_cons]
    refine Int.le_trans (ent_le0 i j bs _) ?_
    unfold entB; split
    · exact mn_le _ _
    · exact Int.le_refl _
theorem ent_mem (i j : Nat) : ∀ (bs : List Bd) (z : Int) (x : Bd), x ∈ bs → x.f = i → x.t = j → bs.foldl (entB i j) z ≤ x.m
  | y :: bs, z, x, hx, hf, ht => by
    rw [List.foldl_cons]
    rcases List.mem_cons.1 hx with rfl | hx
    · refine Int.le_trans (ent_le0 i j bs _) ?_
      rw [entB_hit hf ht]; exact mn_le' _ _
    · exact ent_mem i j bs _ x hx hf ht
theorem ent_or (i j : Nat) : ∀ (bs : List Bd) (z : Int), bs.foldl (entB i j) z = z ∨ ∃ x ∈ bs, x.f = i ∧ x.t = j ∧ bs.foldl (entB i j) z = x.m
  | [], z => Or.inl rfl
  | y :: bs, z => by
    rw [List.foldl_cons]
    rcases ent_or i j bs (entB i j z y) with h | ⟨x, hx, hf, ht, h⟩
    · rw [h]
      unfold entB
      split
      · rename_i c
        unfold mn; split
        · exact Or.inr ⟨y, List.mem_cons_self, c.1, c.2, rfl⟩
        · exact Or.inl rfl
      · exact Or.inl rfl
    · exact Or.inr ⟨x, List.mem_cons_of_mem _ hx, hf, ht, h⟩
structure Inv (N : Nat) (bs : List Bd) (k : Nat) (B : Int) (A : Tab) : Prop where
  fin : ∀ i j, i < N → j < N → A i j = 100000 ∨ (-B ≤ A i j ∧ A i j ≤ B)
  tri : ∀ m i j, m < k → i < N → j < N → A i m ≠ 100000 → A m j ≠ 100000 → A i j ≤ A i m + A m j
  walk : ∀ i j, i < N → j < N → A i j ≠ 100000 → Wk bs i j (A i j)
/-- One number of a round. -/
theorem roundK_told {N k : Nat} {B : Int} {A : Tab} (hB2 : B ≤ 10000) (hk : k < N) (hf : ∀ i j, i < N → j < N → A i j = 100000 ∨ (-B ≤ A i j ∧ A i j ≤ B)) {i j : Nat} (hi : i < N) (hj : j < N) :
    (roundK A k i j = A i j ∨ (A i k ≠ 100000 ∧ A k j ≠ 100000 ∧ roundK A k i j = A i k + A k j)) ∧ roundK A k i j ≤ A i j ∧ (A i k ≠ 100000 → A k j ≠ 100000 → roundK A k i j ≤ A i k + A k j) := by
  have h1 := hf i k hi hk
  have h2 := hf k j hk hj
  have h3 := hf i j hi hj
  unfold roundK
  split
  · rename_i c
    rw [IntWalk.wrap64_in _ (by omega)]
    unfold mn
    split
    · refine ⟨Or.inr ⟨by omega, by omega, rfl⟩, by omega, fun _ _ => Int.le_refl _⟩
    · refine ⟨Or.inl rfl, Int.le_refl _, fun _ _ => by omega⟩
  · refine ⟨Or.inl rfl, Int.le_refl _, fun _ _ => ?_⟩
    omega
theorem ne_far {B x y z : Int} (hB2 : B ≤ 10000) (hx : x = 100000 ∨ (-B ≤ x ∧ x ≤ B)) (hy : y = 100000 ∨ (-B ≤ y ∧ y ≤ B)) (h1 : x ≠ 100000) (h2 : y ≠ 100000) (q : z ≤ x + y) : z ≠ 100000 := by omega
theorem Inv.step {N k : Nat} {bs : List Bd} {B : Int} {A : Tab} (h : Inv N bs k B A) (hk : k < N) (hB : 0 ≤ B) (hB2 : B ≤ 10000) (hz : ∀ i, i < N → A i i = 0) : Inv N bs (k + 1) (2 * B) (roundK A k) := by
  have T := @roundK_told N k B A hB2 hk h.fin
  refine ⟨fun i j hi hj => ?_, fun m i j hm hi hj h1 h2 => ?_, fun i j hi hj hne => ?_⟩
  · have t := (T hi hj).1
    have f1 := h.fin i k hi hk
    have f2 := h.fin k j hk hj
    have f3 := h.fin i j hi hj
    clear T
    rcases t with e | ⟨e1, e2, e⟩
    · rw [e]; clear f1 f2; omega
    · rw [e]; clear f3; omega
  · have hmN : m < N := by omega
    have t := T hi hj
    obtain ⟨t1, _, _⟩ := T hi hmN
    obtain ⟨t2, _, _⟩ := T hmN hj
    have z := hz k hk
    have f4 := h.fin i m hi hmN
    have f5 := h.fin m j hmN hj
    have f6 := h.fin k m hk hmN
    have f7 := h.fin m k hmN hk
    by_cases e : m = k
    · subst e
      have u1 : roundK A m i m = A i m := by
        rcases t1 with e | ⟨_, _, e⟩
        · exact e
        · rw [e, z, Int.add_zero]
      have u2 : roundK A m m j = A m j := by
        rcases t2 with e | ⟨_, _, e⟩
        · exact e
        · rw [e, z, Int.zero_add]
      rw [u1] at h1 ⊢
      rw [u2] at h2 ⊢
      exact t.2.2 h1 h2
    · have hm' : m < k := by omega
      have q1 := h.tri m i j hm' hi hj
      have q2 := h.tri m k j hm' hk hj
      have q3 := h.tri m i k hm' hi hk
      have q4 := h.tri m k k hm' hk hk
      clear T hz h
      rcases t1 with a1 | ⟨a1, b1, c1⟩ <;> rcases t2 with a2 | ⟨a2, b2, c2⟩
      · rw [a1] at h1 ⊢; rw [a2] at h2 ⊢
        exact Int.le_trans t.2.1 (q1 h1 h2)
      · rw [a1] at h1 ⊢; rw [c2]
        have n1 := ne_far hB2 f4 f7 h1 a2 (q3 h1 a2)
        have l := t.2.2 n1 b2
        have := q3 h1 a2
        clear f4 f5 f6 f7 t q1 q2 q4
        omega
      · rw [a2] at h2 ⊢; rw [c1]
        have n1 := ne_far hB2 f6 f5 b1 h2 (q2 b1 h2)
        have l := t.2.2 a1 n1
        have := q2 b1 h2
        clear f4 f5 f6 f7 t q1 q3 q4
        omega
      · rw [c1, c2]
        have l := t.2.2 a1 b2
        have := q4 b1 a2
        clear f4 f5 f6 f7 t q1 q2 q3
        omega
  · rcases (T hi hj).1 with e | ⟨e1, e2, e⟩
    · rw [e] at hne ⊢; exact h.walk i j hi hj hne
    · rw [e]; exact (h.walk i k hi hk e1).trans (h.walk k j hk hj e2)
/-- Bounds between points whose closed table has no number below 0 from a point to itself; of any number. -/
structure FitX (N : Nat) (bs : List Bd) : Prop where
  n6 : N ≤ 6
  rng : ∀ x ∈ bs, 0 ≤ x.f ∧ x.f < N ∧ 0 ≤ x.t ∧ x.t < N ∧ -99 ≤ x.m ∧ x.m ≤ 99
  diag : diagOk N (closeS N (ent bs)) = true
theorem fit_plan {N : Nat} {bs : List Bd} (hfit : fitsOk N bs = true) : planOk N bs = true := by simp only [fitsOk, Bool.and_eq_true] at hfit; exact hfit.1
theorem fitX_of {N : Nat} {bs : List Bd} (hfit : fitsOk N bs = true) : FitX N bs := by
  obtain ⟨h1, h6, _, hin⟩ := planOk_of (fit_plan hfit)
  have hs : fitsS N bs = true := by rw [fits_eq]; exact hfit
  have hd : diagOk N (closeS N (ent bs)) = true := by simp only [fitsS, Bool.and_eq_true, Int.toNat_natCast] at hs; exact hs.2
  exact ⟨by omega, hin, hd⟩
section
variable {N : Nat} {bs : List Bd} (hfit : FitX N bs)
include hfit
theorem rdT_zero {k : Nat} (hk : k ≤ N) {i : Nat} (hi : i < N) : rdT bs k i i = 0 := by
  have hd := hfit.diag
  unfold diagOk at hd; rw [decide_eq_true_iff] at hd
  have h1 := hd i hi
  have h2 : rdT bs (k + (N - k)) i i ≤ rdT bs k i i := rdT_anti bs k (N - k) i i
  rw [show k + (N - k) = N by omega] at h2
  have h3 : rdT bs (0 + k) i i ≤ rdT bs 0 i i := rdT_anti bs 0 k i i
  rw [Nat.zero_add] at h3
  have h4 : rdT bs 0 i i ≤ tab0 i i := ent_le0 i i bs _
  have h5 : tab0 i i = 0 := by simp [tab0]
  have h6 : closeS N (ent bs) i i = rdT bs N i i := rfl
  omega
theorem inv_zero : Inv N bs 0 99 (rdT bs 0) := by
  have hin := hfit.rng
  have key : ∀ i j, i < N → j < N → (i ≠ j ∧ rdT bs 0 i j = 100000) ∨ (i = j ∧ rdT bs 0 i j = 0) ∨ ∃ x ∈ bs, x.f = i ∧ x.t = j ∧ rdT bs 0 i j = x.m := by
    intro i j hi hj
    rcases ent_or i j bs (tab0 i j) with h | h
    · by_cases e : i = j
      · refine Or.inr (Or.inl ⟨e, ?_⟩); exact h.trans (by simp [tab0, e])
      · refine Or.inl ⟨e, ?_⟩; exact h.trans (by simp [tab0, e])
    · exact Or.inr (Or.inr h)
  refine ⟨fun i j hi hj => ?_, fun m _ _ hm => absurd hm (Nat.not_lt_zero _), fun i j hi hj hne => ?_⟩
  · rcases key i j hi hj with h | h | ⟨x, hx, _, _, h⟩
    · exact Or.inl h.2
    · right; rw [h.2]; omega
    · right; have := hin x hx; rw [h]; omega
  · rcases key i j hi hj with h | h | ⟨x, hx, hf, ht, h⟩
    · exact absurd h.2 hne
    · rw [h.2, ← h.1]; exact Wk.nil
    · rw [h]
      have w := Wk.snoc (Wk.nil (bs := bs) (i := i)) hx (show x.f.toNat = i by omega)
      rw [show x.t.toNat = j by omega, Int.zero_add] at w
      exact w
theorem inv_all : ∀ k, k ≤ N → k ≤ 6 → Inv N bs k (99 * 2 ^ k) (rdT bs k)
  | 0, _, _ => by simpa using inv_zero hfit
  | k + 1, h1, h2 => by
    rw [rdT_succ]
    have hp : (0 : Int) ≤ 99 * 2 ^ k ∧ (99 : Int) * 2 ^ k ≤ 10000 := by
      match k, h2 with
      | 0, _ => decide
      | 1, _ => decide
      | 2, _ => decide
      | 3, _ => decide
      | 4, _ => decide
      | 5, _ => decide
      | k + 6, h2 => omega
    have := (inv_all k (by omega) (by omega)).step (by omega) hp.1 hp.2 (fun i hi => rdT_zero hfit (by omega) hi)
    rw [show (99 : Int) * 2 ^ (k + 1) = 2 * (99 * 2 ^ k) by rw [Int.pow_succ]; omega]
    exact this
end
/-- What the closed table tells. -/
structure Dist (N : Nat) (bs : List Bd) (D : Tab) : Prop where
  zero : ∀ i, i < N → D i i = 0
  fin : ∀ i j, i < N → j < N → D i j = 100000 ∨ (-6336 ≤ D i j ∧ D i j ≤ 6336)
  tri : ∀ m i j, m < N → i < N → j < N → D i m ≠ 100000 → D m j ≠ 100000 → D i j ≤ D i m + D m j
  walk : ∀ i j, i < N → j < N → D i j ≠ 100000 → Wk bs i j (D i j)
  edge : ∀ x ∈ bs, D x.f.toNat x.t.toNat ≤ x.m
theorem distX_of {N : Nat} {bs : List Bd} (hfit : FitX N bs) : Dist N bs (closeS N (ent bs)) := by
  have h6 := hfit.n6
  have hin := hfit.rng
  have I := inv_all hfit N (Nat.le_refl _) (by omega)
  have E : ∀ i j, closeS N (ent bs) i j = rdT bs N i j := fun _ _ => rfl
  have hB : (99 : Int) * 2 ^ N ≤ 6336 := by
    have hN6 : N = 0 ∨ N = 1 ∨ N = 2 ∨ N = 3 ∨ N = 4 ∨ N = 5 ∨ N = 6 := by omega
    clear I E hin hfit
    rcases hN6 with e | e | e | e | e | e | e <;> (rw [e]; decide)
  refine ⟨fun i hi => ?_, fun i j hi hj => ?_, fun m i j hm hi hj => ?_, fun i j hi hj => ?_, fun x hx => ?_⟩
  · rw [E i i]; exact rdT_zero hfit (Nat.le_refl _) hi
  · rw [E i j]; have := I.fin i j hi hj; omega
  · rw [E i j, E i m, E m j]; exact I.tri m i j hm hi hj
  · rw [E i j]; exact I.walk i j hi hj
  · have hx' := hin x hx
    rw [E _ _]
    have h2 : rdT bs (0 + N) x.f.toNat x.t.toNat ≤ rdT bs 0 x.f.toNat x.t.toNat := rdT_anti bs 0 N _ _
    rw [Nat.zero_add] at h2
    exact Int.le_trans h2 (ent_mem _ _ bs _ x hx (by omega) (by omega))
theorem Dist.eq_ {N : Nat} {bs : List Bd} {D D' : Tab} (h : Dist N bs D) (hin : ∀ x ∈ bs, x.f.toNat < N ∧ x.t.toNat < N) (e : ∀ i j, i < N → j < N → D i j = D' i j) : Dist N bs D' := by
  refine ⟨fun i hi => ?_, fun i j hi hj => ?_, fun m i j hm hi hj => ?_, fun i j hi hj => ?_, fun x hx => ?_⟩
  · rw [← e i i hi hi]; exact h.zero i hi
  · rw [← e i j hi hj]; exact h.fin i j hi hj
  · rw [← e i j hi hj, ← e i m hi hm, ← e m j hm hj]; exact h.tri m i j hm hi hj
  · rw [← e i j hi hj]; exact h.walk i j hi hj
  · have := hin x hx
    rw [← e _ _ this.1 this.2]; exact h.edge x hx
theorem dist_of {N : Nat} {bs : List Bd} (hfit : fitsOk N bs = true) : Dist N bs (closedT N bs) := by
  obtain ⟨h1, h6, _, hin⟩ := planOk_of (fit_plan hfit)
  exact (distX_of (fitX_of hfit)).eq_ (fun x hx => by have := hin x hx; omega) (fun i j hi hj => closed_eq hfit i j hi hj)
/-- Each row of bounds is at least as long as the closed table tells. -/
theorem Dist.le {N : Nat} {bs : List Bd} {D : Tab} (h : Dist N bs D) (hin : ∀ x ∈ bs, x.f.toNat < N ∧ x.t.toNat < N ∧ x.m ≤ 99) {i j : Nat} {s : Int} (hi : i < N) (w : Wk bs i j s) : j < N ∧ D i j ≠ 100000 ∧ D i j ≤ s := by
  induction w with
  | nil => have := h.zero i hi; exact ⟨hi, by omega, by omega⟩
  | @snoc u s x _ hx hf ih =>
    obtain ⟨hu, hne, hle⟩ := ih
    have hx' := hin x hx
    have he := h.edge x hx
    rw [hf] at he
    have f1 := h.fin u x.t.toNat hu hx'.2.1
    have t := h.tri u i x.t.toNat hu hi hx'.2.1 hne (by omega)
    have f2 := h.fin i u hi hu
    refine ⟨hx'.2.1, by omega, by omega⟩
end Go.Proofs.Ytaifpindiphlkaa
namespace Go.Proofs.Ytaifpindiphlkaa
open Go.RowKit
set_option linter.unusedVariables false
set_option maxRecDepth 10000
set_option linter.unusedSimpArgs false

/-- A row of bounds, each from where the one before leads, leads from i to j. -/
def Ch (bs : List Bd) : Nat → List Bd → Nat → Prop
  | i, [], j => i = j
  | i, x :: l, j => x ∈ bs ∧ x.f.toNat = i ∧ Ch bs x.t.toNat l j
def sumB (l : List Bd) : Int := l.foldr (fun x s => x.m + s) 0
theorem sumB_append : ∀ (a b : List Bd), sumB (a ++ b) = sumB a + sumB b
  | [], b => by simp [sumB]
  | x :: a, b => by
    have := sumB_append a b
    show x.m + sumB (a ++ b) = x.m + sumB a + sumB b
    omega
theorem Ch.split {bs : List Bd} : ∀ (a : List Bd) {i j : Nat} {b : List Bd}, Ch bs i (a ++ b) j → ∃ u, Ch bs i a u ∧ Ch bs u b j
  | [], i, j, b, h => ⟨i, rfl, h⟩
  | x :: a, i, j, b, ⟨h1, h2, h3⟩ => by
    obtain ⟨u, h4, h5⟩ := Ch.split a h3
    exact ⟨u, ⟨h1, h2, h4⟩, h5⟩
theorem Ch.join {bs : List Bd} : ∀ (a : List Bd) {i u j : Nat} {b : List Bd}, Ch bs i a u → Ch bs u b j → Ch bs i (a ++ b) j
  | [], i, u, j, b, h, h2 => by cases h; exact h2
  | x :: a, i, u, j, b, ⟨h1, h2, h3⟩, h4 => ⟨h1, h2, Ch.join a h3 h4⟩
theorem Ch.mem {bs : List Bd} : ∀ (a : List Bd) {i j : Nat}, Ch bs i a j → ∀ x ∈ a, x ∈ bs
  | [], _, _, _, x, hx => by simp at hx
  | y :: a, _, _, ⟨h1, _, h3⟩, x, hx => by
    rcases List.mem_cons.1 hx with rfl | hx
    · exact h1
    · exact Ch.mem a h3 x hx
theorem nodup_le : ∀ (N : Nat) (l : List Nat), l.Nodup → (∀ x ∈ l, x < N) → l.length ≤ N
  | 0, l, _, h => by
    cases l with
    | nil => exact Nat.le_refl _
    | cons x l => have := h x List.mem_cons_self; omega
  | N + 1, l, nd, h => by
    have ih := nodup_le N (l.erase N) (nd.erase N) (fun x hx => by
      have h1 := h x (List.mem_of_mem_erase hx)
      have h2 : x ≠ N := by
        intro e
        subst e
        exact nd.not_mem_erase hx
      omega)
    rw [List.length_erase] at ih
    split at ih <;> omega
theorem pig {N : Nat} {l : List Nat} (h : ∀ x ∈ l, x < N) (hl : N < l.length) : ∃ a b, a < b ∧ b < l.length ∧ l[a]? = l[b]? := by
  apply Classical.byContradiction
  intro hno
  have nd : l.Nodup := by
    unfold List.Nodup
    rw [List.pairwise_iff_getElem]
    intro a b ha hb hab e
    exact hno ⟨a, b, hab, hb, by rw [List.getElem?_eq_getElem ha, List.getElem?_eq_getElem hb, e]⟩
  have := nodup_le N l nd h
  omega
theorem Ch.start {bs : List Bd} {u j : Nat} {l : List Bd} {x : Bd} (h : Ch bs u l j) (hx : l[0]? = some x) : x.f.toNat = u := by
  cases l with
  | nil => simp at hx
  | cons y l => simp at hx; subst hx; exact h.2.1
/-- The shorter closed rows. -/
theorem short_bad {N : Nat} {bs : List Bd} (hin : ∀ x ∈ bs, x.f.toNat < N) : ∀ (m : Nat) (i : Nat) (l : List Bd), l.length = m → Ch bs i l i → sumB l < 0 → ∃ (i : Nat) (l : List Bd), 1 ≤ l.length ∧ l.length ≤ N ∧ Ch bs i l i ∧ sumB l < 0 := by
  intro m
  induction m using Nat.strongRecOn with
  | ind m ih =>
    intro i l hlen hc hs
    by_cases hN : l.length ≤ N
    · refine ⟨i, l, ?_, hN, hc, hs⟩
      cases l with
      | nil => simp [sumB] at hs
      | cons x l => simp
    · obtain ⟨a, b, hab, hb, e⟩ := pig (N := N) (l := l.map fun x => x.f.toNat) (fun x hx => by
        obtain ⟨y, hy, rfl⟩ := List.mem_map.1 hx
        exact hin y (Ch.mem l hc y hy)) (by rw [List.length_map]; omega)
      rw [List.length_map] at hb
      rw [List.getElem?_map, List.getElem?_map, List.getElem?_eq_getElem (show a < l.length by omega), List.getElem?_eq_getElem hb] at e
      simp only [Option.map_some, Option.some.injEq] at e
      have e1 : l = l.take a ++ l.drop a := (List.take_append_drop a l).symm
      have e2 : l.drop a = (l.drop a).take (b - a) ++ l.drop b := by
        have := (List.take_append_drop (b - a) (l.drop a)).symm
        rwa [List.drop_drop, show a + (b - a) = b by omega] at this
      have hc' := hc
      rw [e1] at hc'
      obtain ⟨u, c1, c2⟩ := Ch.split _ hc'
      have su := c2.start (x := l[a]) (by rw [List.getElem?_drop]; simp)
      have c2' := c2
      rw [e2] at c2'
      obtain ⟨v, c3, c4⟩ := Ch.split _ c2'
      have sv := c4.start (x := l[b]) (by rw [List.getElem?_drop]; simp)
      have huv : u = v := by omega
      subst huv
      have hsum : sumB l = sumB (l.take a) + (sumB ((l.drop a).take (b - a)) + sumB (l.drop b)) := by
        conv => lhs; rw [e1, sumB_append, e2, sumB_append]
      have l2 : ((l.drop a).take (b - a)).length = b - a := by rw [List.length_take, List.length_drop]; omega
      by_cases hneg : sumB ((l.drop a).take (b - a)) < 0
      · exact ih (b - a) (by omega) u _ l2 c3 hneg
      · refine ih (l.take a ++ l.drop b).length ?_ i _ rfl (Ch.join _ c1 c4) (by rw [sumB_append]; omega)
        rw [List.length_append, List.length_take, List.length_drop]; omega
theorem Wk.ch {bs : List Bd} {i j : Nat} {s : Int} (h : Wk bs i j s) : ∃ l, Ch bs i l j ∧ sumB l = s := by
  induction h with
  | nil => exact ⟨[], rfl, rfl⟩
  | @snoc u s x _ hx hf ih =>
    obtain ⟨l, hc, hs⟩ := ih
    refine ⟨l ++ [x], Ch.join l hc ⟨hx, hf, rfl⟩, ?_⟩
    rw [sumB_append, hs]; simp [sumB]
/-- Every number of the rounds is the sum of some row of bounds, whether the plan fits or not. -/
theorem real_all {N : Nat} {bs : List Bd} (h6 : N ≤ 6) (hin : ∀ x ∈ bs, 0 ≤ x.f ∧ x.f < N ∧ 0 ≤ x.t ∧ x.t < N ∧ -99 ≤ x.m ∧ x.m ≤ 99) : ∀ k, k ≤ N → k ≤ 6 → (∀ i j, i < N → j < N → rdT bs k i j = 100000 ∨ (-(99 * 2 ^ k) ≤ rdT bs k i j ∧ rdT bs k i j ≤ 99 * 2 ^ k)) ∧ ∀ i j, i < N → j < N → rdT bs k i j ≠ 100000 → Wk bs i j (rdT bs k i j)
  | 0, _, _ => by
    have key : ∀ i j, i < N → j < N → (i ≠ j ∧ rdT bs 0 i j = 100000) ∨ (i = j ∧ rdT bs 0 i j = 0) ∨ ∃ x ∈ bs, x.f = i ∧ x.t = j ∧ rdT bs 0 i j = x.m := by
      intro i j hi hj
      rcases ent_or i j bs (tab0 i j) with h | h
      · by_cases e : i = j
        · refine Or.inr (Or.inl ⟨e, ?_⟩); exact h.trans (by simp [tab0, e])
        · refine Or.inl ⟨e, ?_⟩; exact h.trans (by simp [tab0, e])
      · exact Or.inr (Or.inr h)
    refine ⟨fun i j hi hj => ?_, fun i j hi hj hne => ?_⟩
    · rcases key i j hi hj with h | h | ⟨x, hx, _, _, h⟩
      · exact Or.inl h.2
      · right; rw [h.2]; decide
      · right; have := hin x hx; rw [h]; simp; omega
    · rcases key i j hi hj with h | h | ⟨x, hx, hf, ht, h⟩
      · exact absurd h.2 hne
      · rw [h.2, ← h.1]; exact Wk.nil
      · rw [h]
        have w := Wk.snoc (Wk.nil (bs := bs) (i := i)) hx (show x.f.toNat = i by omega)
        rw [show x.t.toNat = j by omega, Int.zero_add] at w
        exact w
  | k + 1, h1, h2 => by
    obtain ⟨hf, hw⟩ := real_all h6 hin k (by omega) (by omega)
    have hB : (0 : Int) ≤ 99 * 2 ^ k ∧ (99 : Int) * 2 ^ k ≤ 10000 := by
      match k, h2 with
      | 0, _ => decide
      | 1, _ => decide
      | 2, _ => decide
      | 3, _ => decide
      | 4, _ => decide
      | 5, _ => decide
      | k + 6, h2 => omega
    have hk : k < N := by omega
    have T := @roundK_told N k (99 * 2 ^ k) (rdT bs k) hB.2 hk hf
    rw [show (99 : Int) * 2 ^ (k + 1) = 2 * (99 * 2 ^ k) by rw [Int.pow_succ]; omega]
    rw [rdT_succ]
    refine ⟨fun i j hi hj => ?_, fun i j hi hj hne => ?_⟩
    · have t := (T hi hj).1
      have f1 := hf i k hi hk
      have f2 := hf k j hk hj
      have f3 := hf i j hi hj
      clear T
      generalize (99 : Int) * 2 ^ k = Bk at *
      rcases t with e | ⟨e1, e2, e⟩
      · rw [e]; clear f1 f2; omega
      · rw [e]; clear f3; omega
    · rcases (T hi hj).1 with e | ⟨e1, e2, e⟩
      · rw [e] at hne ⊢; exact hw i j hi hj hne
      · rw [e]; exact (hw i k hi hk e1).trans (hw k j hk hj e2)
theorem unfitX_bad {N : Nat} {bs : List Bd} (h6 : N ≤ 6) (hin : ∀ x ∈ bs, 0 ≤ x.f ∧ x.f < N ∧ 0 ≤ x.t ∧ x.t < N ∧ -99 ≤ x.m ∧ x.m ≤ 99) (hd : diagOk N (closeS N (ent bs)) = false) : ∃ (i : Nat) (l : List Bd), 1 ≤ l.length ∧ l.length ≤ N ∧ Ch bs i l i ∧ sumB l < 0 := by
  unfold diagOk at hd
  rw [decide_eq_false_iff_not] at hd
  simp only [Classical.not_forall] at hd
  obtain ⟨i, hi, hn⟩ := hd
  have hneg : rdT bs N i i < 0 := by
    have : closeS N (ent bs) i i = rdT bs N i i := rfl
    omega
  obtain ⟨l, hc, hs⟩ := ((real_all h6 hin N (Nat.le_refl _) (by omega)).2 i i hi hi (by omega)).ch
  exact short_bad (fun x hx => by have := hin x hx; omega) _ i l rfl hc (by omega)
/-- A plan that does not fit has a closed row of at most as many bounds as there are points, with a sum below 0. -/
theorem unfit_bad {N : Nat} {bs : List Bd} (hp : planOk N bs = true) (hf : fitsOk N bs = false) : ∃ (i : Nat) (l : List Bd), 1 ≤ l.length ∧ l.length ≤ N ∧ Ch bs i l i ∧ sumB l < 0 := by
  obtain ⟨h1, h6, _, hin⟩ := planOk_of hp
  rw [← fits_eq] at hf
  have hd : diagOk N (closeS N (ent bs)) = false := by simpa [fitsS, hp] using hf
  exact unfitX_bad (by omega) hin hd
theorem Wk.go {bs : List Bd} {i : Nat} : ∀ (l : List Bd) {k j : Nat} {s : Int}, Wk bs i k s → Ch bs k l j → Wk bs i j (s + sumB l)
  | [], k, j, s, h, hc => by cases hc; simpa [sumB] using h
  | x :: l, k, j, s, h, ⟨hx, hf, hc⟩ => by
    have := Wk.go l (Wk.snoc h hx hf) hc
    rw [Int.add_assoc] at this
    exact this
/-- A plan that fits has none. -/
theorem fit_good {N : Nat} {bs : List Bd} (hfit : fitsOk N bs = true) {i : Nat} {l : List Bd} (hi : i < N) (h : Ch bs i l i) : 0 ≤ sumB l := by
  obtain ⟨h1, h6, _, hin⟩ := planOk_of (fit_plan hfit)
  have D := dist_of hfit
  obtain ⟨_, _, hle⟩ := D.le (fun x hx => by have := hin x hx; omega) hi (Wk.go l Wk.nil h)
  have := D.zero i hi
  omega
end Go.Proofs.Ytaifpindiphlkaa
namespace Go.Proofs.Ytaifpindiphlkaa
open Go.RowKit
set_option linter.unusedVariables false
set_option maxRecDepth 10000
set_option linter.unusedSimpArgs false

def bdAt (bs : List Bd) (k : Nat) : Bd := bs.getD k ⟨0, 0, 0⟩
theorem bdAt_of {bs : List Bd} {k : Nat} {x : Bd} (h : bs[k]? = some x) : bdAt bs k = x := by simp [bdAt, List.getD, h]
theorem bdAt_mem {bs : List Bd} {k : Nat} (h : k < bs.length) : bdAt bs k ∈ bs := by
  rw [bdAt_of (List.getElem?_eq_getElem h)]; exact List.getElem_mem h
/-- May a row of places go on with this one? -/
def goes (bs : List Bd) (row : List Nat) (k : Nat) : Bool := match row.getLast? with
  | none => true
  | some a => decide ((bdAt bs a).t = (bdAt bs k).f)
/-- Does a row of places lead back to where it begins? -/
def back (bs : List Bd) (row : List Nat) : Bool := match row.getLast?, row.head? with
  | some a, some b => decide ((bdAt bs a).t = (bdAt bs b).f)
  | _, _ => false
/-- The search, with so many bounds to go. -/
def srch (bs : List Bd) : Nat → List Nat → Int → Option (List Nat)
  | 0, row, sum => if back bs row = true ∧ sum < 0 then some row else none
  | d + 1, row, sum => (List.range bs.length).findSome? fun k => if goes bs row k = true then srch bs d (row ++ [k]) (sum + (bdAt bs k).m) else none
/-- What it finds goes on the row. -/
theorem srch_ext (bs : List Bd) : ∀ (d : Nat) (row : List Nat) (sum : Int) (out : List Nat), srch bs d row sum = some out → ∃ more, out = row ++ more ∧ more.length = d
  | 0, row, sum, out, h => by
    unfold srch at h
    split at h
    · cases h; exact ⟨[], by simp, rfl⟩
    · cases h
  | d + 1, row, sum, out, h => by
    unfold srch at h
    obtain ⟨k, hk, h2⟩ := List.exists_of_findSome?_eq_some h
    split at h2
    · obtain ⟨more, e, hl⟩ := srch_ext bs d _ _ out h2
      exact ⟨k :: more, by rw [e]; simp, by simp [hl]⟩
    · cases h2
/-- Do these places go on a row, one behind the other? -/
def runs (bs : List Bd) : List Nat → List Nat → Bool
  | row, [] => true
  | row, k :: ks => goes bs row k && runs bs (row ++ [k]) ks
def sumI (bs : List Bd) (ks : List Nat) : Int := sumB (ks.map (bdAt bs))
theorem sumI_cons (bs : List Bd) (k : Nat) (ks : List Nat) : sumI bs (k :: ks) = (bdAt bs k).m + sumI bs ks := rfl
/-- Where there is such a row, the search finds one. -/
theorem srch_find (bs : List Bd) : ∀ (ks row : List Nat) (sum : Int), (∀ k ∈ ks, k < bs.length) → runs bs row ks = true → back bs (row ++ ks) = true → sum + sumI bs ks < 0 → (srch bs ks.length row sum).isSome = true
  | [], row, sum, _, _, hb, hs => by
    rw [List.append_nil] at hb
    show (if back bs row = true ∧ sum < 0 then some row else none).isSome = true
    rw [if_pos ⟨hb, by simpa [sumI, sumB] using hs⟩]; rfl
  | k :: ks, row, sum, hk, hr, hb, hs => by
    have hr' : goes bs row k = true ∧ runs bs (row ++ [k]) ks = true := by simpa [runs] using hr
    show ((List.range bs.length).findSome? fun k => if goes bs row k = true then srch bs ks.length (row ++ [k]) (sum + (bdAt bs k).m) else none).isSome = true
    rw [List.findSome?_isSome_iff]
    refine ⟨k, List.mem_range.2 (hk k List.mem_cons_self), ?_⟩
    rw [if_pos hr'.1]
    refine srch_find bs ks (row ++ [k]) _ (fun a ha => hk a (List.mem_cons_of_mem _ ha)) hr'.2 (by simpa using hb) ?_
    rw [sumI_cons] at hs
    omega
/-- What the search finds is such a row. -/
theorem srch_is (bs : List Bd) : ∀ (d : Nat) (row : List Nat) (sum : Int) (out : List Nat), srch bs d row sum = some out → ∃ ks, out = row ++ ks ∧ ks.length = d ∧ (∀ k ∈ ks, k < bs.length) ∧ runs bs row ks = true ∧ back bs out = true ∧ sum + sumI bs ks < 0
  | 0, row, sum, out, h => by
    unfold srch at h
    split at h
    · rename_i c
      cases h
      exact ⟨[], by simp, rfl, by simp, rfl, c.1, by simpa [sumI, sumB] using c.2⟩
    · cases h
  | d + 1, row, sum, out, h => by
    unfold srch at h
    obtain ⟨k, hk, h2⟩ := List.exists_of_findSome?_eq_some h
    split at h2
    · rename_i c
      obtain ⟨ks, e, hl, hk2, hr, hb, hs⟩ := srch_is bs d _ _ out h2
      refine ⟨k :: ks, by rw [e]; simp, by simp [hl], ?_, by simp [runs, c, hr], hb, ?_⟩
      · intro a ha
        rcases List.mem_cons.1 ha with rfl | ha
        · exact List.mem_range.1 hk
        · exact hk2 a ha
      · rw [sumI_cons]; omega
    · cases h2
section
variable {bs : List Bd} (h0 : ∀ x ∈ bs, 0 ≤ x.f ∧ 0 ≤ x.t)
theorem ch_places : ∀ (l : List Bd) {i j : Nat}, Ch bs i l j → ∃ ks : List Nat, (∀ k ∈ ks, k < bs.length) ∧ ks.map (bdAt bs) = l
  | [], _, _, _ => ⟨[], by simp, rfl⟩
  | x :: l, i, j, ⟨hx, _, hc⟩ => by
    obtain ⟨ks, hk, e⟩ := ch_places l hc
    obtain ⟨k, hk2⟩ := List.getElem?_of_mem hx
    refine ⟨k :: ks, ?_, by rw [List.map_cons, bdAt_of hk2, e]⟩
    intro a ha
    rcases List.mem_cons.1 ha with rfl | ha
    · exact (List.getElem?_eq_some_iff.1 hk2).1
    · exact hk a ha
/-- Where a row of places that is a chain ends. -/
theorem ch_end : ∀ (ks : List Nat) {u j : Nat}, Ch bs u (ks.map (bdAt bs)) j → (ks = [] ∧ j = u) ∨ ∃ a, ks.getLast? = some a ∧ j = (bdAt bs a).t.toNat
  | [], u, j, h => Or.inl ⟨rfl, (show u = j from h).symm⟩
  | k :: ks, u, j, ⟨_, _, hc⟩ => by
    right
    rcases ch_end ks hc with ⟨rfl, rfl⟩ | ⟨a, e, rfl⟩
    · exact ⟨k, rfl, rfl⟩
    · refine ⟨a, ?_, rfl⟩
      cases ks with
      | nil => simp at e
      | cons b ks => rw [List.getLast?_cons_cons]; exact e
include h0
theorem runs_of : ∀ (ks row : List Nat) (u j : Nat), (∀ k ∈ ks, k < bs.length) → Ch bs u (ks.map (bdAt bs)) j → (∀ a, row.getLast? = some a → a < bs.length ∧ (bdAt bs a).t.toNat = u) → runs bs row ks = true
  | [], _, _, _, _, _, _ => rfl
  | k :: ks, row, u, j, hk, ⟨hx, hf, hc⟩, hr => by
    have hg : goes bs row k = true := by
      unfold goes
      cases hl : row.getLast? with
      | none => rfl
      | some a =>
        obtain ⟨ha, hu⟩ := hr a hl
        have n1 := h0 _ (bdAt_mem ha)
        have n2 := h0 _ hx
        simp only [decide_eq_true_eq]
        omega
    have := runs_of ks (row ++ [k]) _ j (fun a ha => hk a (List.mem_cons_of_mem _ ha)) hc (fun a ha => by
      rw [List.getLast?_concat] at ha
      cases ha
      exact ⟨hk k List.mem_cons_self, rfl⟩)
    simp [runs, hg, this]
omit h0 in
theorem runs_ch : ∀ (ks row : List Nat) (u : Nat), (∀ k ∈ ks, k < bs.length) → runs bs row ks = true → (∀ a, row.getLast? = some a → a < bs.length ∧ (bdAt bs a).t.toNat = u) → (row = [] → ∀ k, ks.head? = some k → (bdAt bs k).f.toNat = u) → ∃ j, Ch bs u (ks.map (bdAt bs)) j
  | [], _, u, _, _, _, _ => ⟨u, rfl⟩
  | k :: ks, row, u, hk, hr, hl, he => by
    have hr' : goes bs row k = true ∧ runs bs (row ++ [k]) ks = true := by simpa [runs] using hr
    have hkk := hk k List.mem_cons_self
    obtain ⟨j, hj⟩ := runs_ch ks (row ++ [k]) (bdAt bs k).t.toNat (fun a ha => hk a (List.mem_cons_of_mem _ ha)) hr'.2 (fun a ha => by
      rw [List.getLast?_concat] at ha
      cases ha
      exact ⟨hkk, rfl⟩) (fun e => by simp at e)
    refine ⟨j, bdAt_mem hkk, ?_, hj⟩
    cases hlast : row.getLast? with
    | none =>
      have : row = [] := List.getLast?_eq_none_iff.1 hlast
      exact he this k rfl
    | some a =>
      have hg := hr'.1
      unfold goes at hg
      rw [hlast] at hg
      simp only [decide_eq_true_eq] at hg
      have := (hl a hlast).2
      rw [← hg]; exact this
/-- There is a bad ring of so many bounds exactly if the search finds one. -/
theorem srch_iff {m : Nat} (hm : 1 ≤ m) : (srch bs m [] 0).isSome = true ↔ ∃ (i : Nat) (l : List Bd), l.length = m ∧ Ch bs i l i ∧ sumB l < 0 := by
  constructor
  · intro h
    obtain ⟨out, ho⟩ := Option.isSome_iff_exists.1 h
    obtain ⟨ks, e, hl, hk, hr, hb, hs⟩ := srch_is bs m [] 0 out ho
    rw [List.nil_append] at e
    subst e
    cases out with
    | nil => simp at hl; omega
    | cons k ks =>
      obtain ⟨j, hc⟩ := runs_ch (k :: ks) [] (bdAt bs k).f.toNat hk hr (fun a ha => by simp at ha) (fun _ a ha => by cases ha; rfl)
      rcases ch_end _ hc with ⟨e, _⟩ | ⟨a, e, hj⟩
      · cases e
      · have hb2 : (bdAt bs a).t = (bdAt bs k).f := by
          unfold back at hb
          rw [e] at hb
          simpa using hb
        rw [hb2] at hj
        subst hj
        refine ⟨_, (k :: ks).map (bdAt bs), by rw [List.length_map]; exact hl, hc, ?_⟩
        have : sumI bs (k :: ks) = sumB ((k :: ks).map (bdAt bs)) := rfl
        omega
  · rintro ⟨i, l, hl, hc, hs⟩
    obtain ⟨ks, hk, e⟩ := ch_places l hc
    rw [← e] at hc hs hl
    rw [List.length_map] at hl
    rw [← hl]
    refine srch_find bs ks [] 0 hk (runs_of h0 ks [] i i hk hc (fun a ha => by simp at ha)) ?_ (by unfold sumI; omega)
    rw [List.nil_append]
    cases ks with
    | nil => simp at hl; omega
    | cons k ks =>
      rcases ch_end _ hc with ⟨e, _⟩ | ⟨a, e2, hj⟩
      · cases e
      · obtain ⟨hx, hf, _⟩ := hc
        have ha : a < bs.length := hk a (List.mem_of_getLast? e2)
        have n1 := h0 _ (bdAt_mem ha)
        have n2 := h0 _ hx
        unfold back
        rw [e2]
        simp only [List.head?_cons, decide_eq_true_eq]
        omega
end
end Go.Proofs.Ytaifpindiphlkaa
namespace Go.Proofs.Ytaifpindiphlkaa
open Go.RowKit
set_option linter.unusedVariables false
set_option maxRecDepth 10000
set_option linter.unusedSimpArgs false

/-- The least bound from a point to another one. -/
def oneT (bs : List Bd) : Tab := fun i j => bs.foldl (entB i j) 100000
/-- One number over a third point. -/
def overK (A B : Tab) (i j : Nat) (z : Int) (k : Nat) : Int := if A i k ≠ 100000 ∧ B k j ≠ 100000 then mn z (wrap64 (A i k + B k j)) else z
def nextT (N : Nat) (A B : Tab) : Tab := fun i j => (List.range N).foldl (overK A B i j) 100000
/-- The table of rows of m + 1 bounds. -/
def pw (N : Nat) (bs : List Bd) : Nat → Tab
  | 0 => oneT bs
  | m + 1 => nextT N (pw N bs m) (oneT bs)
theorem overK_fold {A B : Tab} {i j : Nat} {M : Int} (hM : 0 ≤ M) (hM2 : M ≤ 10000) : ∀ (ks : List Nat) (z : Int), (∀ k ∈ ks, (A i k = 100000 ∨ (-M ≤ A i k ∧ A i k ≤ M)) ∧ (B k j = 100000 ∨ (-99 ≤ B k j ∧ B k j ≤ 99))) →
    (ks.foldl (overK A B i j) z = z ∨ ∃ k ∈ ks, A i k ≠ 100000 ∧ B k j ≠ 100000 ∧ ks.foldl (overK A B i j) z = A i k + B k j) ∧ ks.foldl (overK A B i j) z ≤ z ∧ ∀ k ∈ ks, A i k ≠ 100000 → B k j ≠ 100000 → ks.foldl (overK A B i j) z ≤ A i k + B k j
  | [], z, _ => ⟨Or.inl rfl, Int.le_refl _, fun k hk => by simp at hk⟩
  | k :: ks, z, h => by
    rw [List.foldl_cons]
    obtain ⟨h1, h2⟩ := h k List.mem_cons_self
    have o : (overK A B i j z k = z ∨ (A i k ≠ 100000 ∧ B k j ≠ 100000 ∧ overK A B i j z k = A i k + B k j)) ∧ overK A B i j z k ≤ z ∧ (A i k ≠ 100000 → B k j ≠ 100000 → overK A B i j z k ≤ A i k + B k j) := by
      unfold overK
      split
      · rename_i c
        rw [IntWalk.wrap64_in _ (by omega)]
        unfold mn
        split
        · exact ⟨Or.inr ⟨c.1, c.2, rfl⟩, by omega, fun _ _ => Int.le_refl _⟩
        · exact ⟨Or.inl rfl, Int.le_refl _, fun _ _ => by omega⟩
      · rename_i c
        exact ⟨Or.inl rfl, Int.le_refl _, fun a b => absurd ⟨a, b⟩ c⟩
    obtain ⟨r1, r2, r3⟩ := overK_fold hM hM2 ks (overK A B i j z k) (fun a ha => h a (List.mem_cons_of_mem _ ha))
    refine ⟨?_, Int.le_trans r2 o.2.1, fun a ha => ?_⟩
    · rcases r1 with e | ⟨a, ha, e1, e2, e3⟩
      · rcases o.1 with e4 | ⟨e5, e6, e7⟩
        · left; rw [e, e4]
        · right; exact ⟨k, List.mem_cons_self, e5, e6, by rw [e, e7]⟩
      · right; exact ⟨a, List.mem_cons_of_mem _ ha, e1, e2, e3⟩
    · rcases List.mem_cons.1 ha with rfl | ha
      · exact fun e1 e2 => Int.le_trans r2 (o.2.2 e1 e2)
      · exact r3 a ha
theorem oneT_le (bs : List Bd) (x : Bd) (hx : x ∈ bs) (h0 : 0 ≤ x.f ∧ 0 ≤ x.t) : oneT bs x.f.toNat x.t.toNat ≤ x.m := ent_mem _ _ bs _ x hx (by omega) (by omega)
section
variable {N : Nat} {bs : List Bd} (hin : ∀ x ∈ bs, 0 ≤ x.f ∧ x.f < N ∧ 0 ≤ x.t ∧ x.t < N ∧ -99 ≤ x.m ∧ x.m ≤ 99)
include hin
omit hin in
theorem oneT_is (i j : Nat) : oneT bs i j = 100000 ∨ ∃ x ∈ bs, x.f.toNat = i ∧ x.t.toNat = j ∧ oneT bs i j = x.m := by
  rcases ent_or i j bs 100000 with h | ⟨x, hx, hf, ht, h⟩
  · exact Or.inl h
  · exact Or.inr ⟨x, hx, by omega, by omega, h⟩
theorem pw_law : ∀ m, m ≤ 5 → (∀ i j, pw N bs m i j = 100000 ∨ (-(99 * (m + 1)) ≤ pw N bs m i j ∧ pw N bs m i j ≤ 99 * (m + 1))) ∧ (∀ i j, pw N bs m i j ≠ 100000 → ∃ l, l.length = m + 1 ∧ Ch bs i l j ∧ sumB l = pw N bs m i j) ∧ (∀ (l : List Bd) i j, l.length = m + 1 → Ch bs i l j → pw N bs m i j ≠ 100000 ∧ pw N bs m i j ≤ sumB l)
  | 0, _ => by
    refine ⟨fun i j => ?_, fun i j hne => ?_, fun l i j hl hc => ?_⟩
    · rcases oneT_is i j with h | ⟨x, hx, _, _, h⟩
      · exact Or.inl h
      · right; have := hin x hx; show _ ≤ oneT bs i j ∧ oneT bs i j ≤ _; rw [h]; simp; omega
    · rcases oneT_is i j with h | ⟨x, hx, hf, ht, h⟩
      · exact absurd h hne
      · exact ⟨[x], rfl, ⟨hx, hf, ht⟩, by show x.m + 0 = oneT bs i j; rw [h]; omega⟩
    · match l, hl, hc with
      | [x], _, ⟨hx, hf, ht⟩ =>
        have hx' := hin x hx
        have hle := oneT_le bs x hx ⟨hx'.1, hx'.2.2.1⟩
        have ht' : x.t.toNat = j := ht
        rw [hf, ht'] at hle
        have e : sumB [x] = x.m := by show x.m + 0 = x.m; omega
        exact ⟨by show oneT bs i j ≠ 100000; omega, by rw [e]; exact hle⟩
  | m + 1, hm => by
    obtain ⟨p1, p2, p3⟩ := pw_law m (by omega)
    have b1 : ∀ k j, oneT bs k j = 100000 ∨ (-99 ≤ oneT bs k j ∧ oneT bs k j ≤ 99) := fun k j => by
      rcases oneT_is k j with h | ⟨x, hx, _, _, h⟩
      · exact Or.inl h
      · right; have := hin x hx; rw [h]; omega
    have F := fun i j => overK_fold (A := pw N bs m) (B := oneT bs) (i := i) (j := j) (M := 99 * (m + 1)) (by omega) (by omega) (List.range N) 100000 (fun k _ => ⟨p1 i k, b1 k j⟩)
    refine ⟨fun i j => ?_, fun i j hne => ?_, fun l i j hl hc => ?_⟩
    · rcases (F i j).1 with e | ⟨k, _, e1, e2, e⟩
      · exact Or.inl e
      · right
        have a := p1 i k
        have b := b1 k j
        show _ ≤ nextT N (pw N bs m) (oneT bs) i j ∧ nextT N (pw N bs m) (oneT bs) i j ≤ _
        unfold nextT
        rw [e]
        generalize pw N bs m i k = u at *
        generalize oneT bs k j = v at *
        simp
        omega
    · rcases (F i j).1 with e | ⟨k, _, e1, e2, e⟩
      · exact absurd e hne
      · obtain ⟨l, hl, hc, hs⟩ := p2 i k e1
        rcases oneT_is k j with h | ⟨x, hx, hf, ht, h⟩
        · exact absurd h e2
        · refine ⟨l ++ [x], by simp [hl], Ch.join l hc ⟨hx, hf, ht⟩, ?_⟩
          rw [sumB_append, hs]
          show pw N bs m i k + (x.m + 0) = nextT N (pw N bs m) (oneT bs) i j
          unfold nextT
          rw [e, h]; omega
    · have e0 : l = l.take (m + 1) ++ l.drop (m + 1) := (List.take_append_drop _ _).symm
      rw [e0] at hc
      obtain ⟨u, c1, c2⟩ := Ch.split _ hc
      have hl1 : (l.take (m + 1)).length = m + 1 := by rw [List.length_take]; omega
      obtain ⟨q1, q2⟩ := p3 _ i u hl1 c1
      have hl2 : (l.drop (m + 1)).length = 1 := by rw [List.length_drop]; omega
      match hd : l.drop (m + 1), hl2, c2 with
      | [x], _, ⟨hx, hf, ht⟩ =>
        have hx' := hin x hx
        have hle := oneT_le bs x hx ⟨hx'.1, hx'.2.2.1⟩
        have ht' : x.t.toNat = j := ht
        rw [hf, ht'] at hle
        have e2 : oneT bs u j ≠ 100000 := by omega
        have hu : u < N := by omega
        have le := (F i j).2.2 u (List.mem_range.2 hu) q1 e2
        have a := p1 i u
        have b := b1 u j
        have es : sumB l = sumB (l.take (m + 1)) + x.m := by
          conv => lhs; rw [e0, sumB_append, hd]
          show _ + (x.m + 0) = _; omega
        have en : pw N bs (m + 1) i j = (List.range N).foldl (overK (pw N bs m) (oneT bs) i j) 100000 := rfl
        rw [en, es]
        generalize pw N bs m i u = v at *
        generalize oneT bs u j = z at *
        constructor <;> omega
end
end Go.Proofs.Ytaifpindiphlkaa
namespace Go.Proofs.Ytaifpindiphlkaa
open Go.RowKit
set_option linter.unusedVariables false
set_option maxRecDepth 10000
set_option linter.unusedSimpArgs false

/-- The first number of some, from m on, for which f tells something. -/
def firstF (f : Nat → Option (List Nat)) : Nat → Nat → Option (List Nat)
  | 0, _ => none
  | c + 1, m => match f m with
    | some r => some r
    | none => firstF f c (m + 1)
theorem firstF_at {f : Nat → Option (List Nat)} {m0 : Nat} (h : (f m0).isSome = true) : ∀ (c m : Nat), m ≤ m0 → m0 < m + c → (∀ a, m ≤ a → a < m0 → f a = none) → firstF f c m = f m0
  | 0, m, h1, h2, _ => by omega
  | c + 1, m, h1, h2, hn => by
    unfold firstF
    by_cases e : m = m0
    · subst e
      cases hf : f m with
      | none => rw [hf] at h; cases h
      | some r => rfl
    · rw [hn m (Nat.le_refl _) (by omega)]
      exact firstF_at h c (m + 1) (by omega) (by omega) (fun a ha ha' => hn a (by omega) ha')
/-- The first number of some, from m on, that passes a test; 6 if none does. -/
def fewF (t : Nat → Bool) : Nat → Nat → Nat
  | 0, _ => 6
  | c + 1, m => if t m = true then m else fewF t c (m + 1)
theorem fewF_at {t : Nat → Bool} {m0 : Nat} (h : t m0 = true) : ∀ (c m : Nat), m ≤ m0 → m0 < m + c → (∀ a, m ≤ a → a < m0 → t a = false) → fewF t c m = m0
  | 0, m, h1, h2, _ => by omega
  | c + 1, m, h1, h2, hn => by
    unfold fewF
    by_cases e : m = m0
    · subst e; rw [if_pos h]
    · rw [if_neg (by rw [hn m (Nat.le_refl _) (by omega)]; simp)]
      exact fewF_at h c (m + 1) (by omega) (by omega) (fun a ha ha' => hn a (by omega) ha')
/-- Is there a number less than 0 from a point to itself? -/
def negD (N : Nat) (T : Tab) : Bool := (List.range N).any fun i => decide (T i i < 0)
theorem negD_iff (N : Nat) (T : Tab) : negD N T = true ↔ ∃ i, i < N ∧ T i i < 0 := by simp [negD]
/-- How many bounds a bad ring has at least. -/
def fewV (N : Nat) (bs : List Bd) : Nat := fewF (fun m => negD N (pw N bs (m - 1))) 6 1
theorem negD_srch {N : Nat} {bs : List Bd} (hin : ∀ x ∈ bs, 0 ≤ x.f ∧ x.f < N ∧ 0 ≤ x.t ∧ x.t < N ∧ -99 ≤ x.m ∧ x.m ≤ 99) {m : Nat} (h1 : 1 ≤ m) (h6 : m ≤ 6) : negD N (pw N bs (m - 1)) = (srch bs m [] 0).isSome := by
  rw [Bool.eq_iff_iff, negD_iff, srch_iff (fun x hx => by have := hin x hx; omega) h1]
  obtain ⟨p1, p2, p3⟩ := pw_law hin (m - 1) (by omega)
  constructor
  · rintro ⟨i, hi, hneg⟩
    obtain ⟨l, hl, hc, hs⟩ := p2 i i (by omega)
    exact ⟨i, l, by omega, hc, by omega⟩
  · rintro ⟨i, l, hl, hc, hs⟩
    have hi : i < N := by
      cases l with
      | nil => simp at hl; omega
      | cons x l =>
        obtain ⟨hx, hf, _⟩ := hc
        have := hin x hx
        omega
    obtain ⟨_, q⟩ := p3 l i i (by omega) hc
    exact ⟨i, hi, by omega⟩
theorem ring_same {N : Nat} {bs : List Bd} (hp : planOk N bs = true) (hf : fitsOk N bs = false) : ∃ m0 r, 1 ≤ m0 ∧ m0 ≤ N ∧ fewV N bs = m0 ∧ srch bs m0 [] 0 = some r ∧ firstF (fun m => srch bs m [] 0) N 1 = some r ∧ ∀ a, 1 ≤ a → a < m0 → srch bs a [] 0 = none := by
  obtain ⟨h1, h6, _, hin⟩ := planOk_of hp
  have hin' : ∀ x ∈ bs, 0 ≤ x.f ∧ x.f < N ∧ 0 ≤ x.t ∧ x.t < N ∧ -99 ≤ x.m ∧ x.m ≤ 99 := fun x hx => by have := hin x hx; omega
  obtain ⟨i, l, l1, lN, hc, hs⟩ := unfit_bad hp hf
  have ex : ∃ m, 1 ≤ m ∧ m ≤ N ∧ (srch bs m [] 0).isSome = true := ⟨l.length, l1, lN, (srch_iff (fun x hx => by have := hin x hx; omega) l1).2 ⟨i, l, rfl, hc, hs⟩⟩
  obtain ⟨m0, hm, hmin⟩ : ∃ m0, (1 ≤ m0 ∧ m0 ≤ N ∧ (srch bs m0 [] 0).isSome = true) ∧ ∀ a, a < m0 → ¬ (1 ≤ a ∧ a ≤ N ∧ (srch bs a [] 0).isSome = true) := by
    obtain ⟨m, hm⟩ := ex
    induction m using Nat.strongRecOn with
    | ind m ih =>
      by_cases h : ∃ a, a < m ∧ (1 ≤ a ∧ a ≤ N ∧ (srch bs a [] 0).isSome = true)
      · obtain ⟨a, ha, h2⟩ := h
        exact ih a ha h2
      · exact ⟨m, hm, fun a ha h2 => h ⟨a, ha, h2⟩⟩
  obtain ⟨r, hr⟩ := Option.isSome_iff_exists.1 hm.2.2
  have none_ : ∀ a, 1 ≤ a → a < m0 → srch bs a [] 0 = none := fun a h1 h2 => by
    cases h : srch bs a [] 0 with
    | none => rfl
    | some q => exact absurd ⟨h1, by omega, by rw [h]; rfl⟩ (hmin a h2)
  refine ⟨m0, r, hm.1, hm.2.1, ?_, hr, ?_, none_⟩
  · refine fewF_at (t := fun m => negD N (pw N bs (m - 1))) ?_ 6 1 hm.1 (by omega) (fun a h1 h2 => ?_)
    · show negD N (pw N bs (m0 - 1)) = true
      rw [negD_srch hin' hm.1 (by omega)]; exact hm.2.2
    · show negD N (pw N bs (a - 1)) = false
      rw [negD_srch hin' h1 (by omega), none_ a h1 h2]; rfl
  · rw [firstF_at (f := fun m => srch bs m [] 0) hm.2.2 N 1 hm.1 (by omega) none_]
    exact hr
end Go.Proofs.Ytaifpindiphlkaa
namespace Go.Proofs.Ytaifpindiphlkaa
open Go.RowKit
set_option linter.unusedVariables false
set_option maxRecDepth 10000
set_option linter.unusedSimpArgs false

/-- One bound is taken into account. -/
def stepB (v : Nat → Int) (x : Bd) : Nat → Int := if v x.f.toNat < 100000 then fun a => if a = x.t.toNat then mn (v x.t.toNat) (wrap64 (v x.f.toNat + x.m)) else v a else v
def roundB (bs : List Bd) (v : Nat → Int) : Nat → Int := bs.foldl stepB v
def initB (i : Nat) : Nat → Int := fun a => if a = i then 0 else 100000
def bfV (bs : List Bd) (i r : Nat) : Nat → Int := (List.range r).foldl (fun v _ => roundB bs v) (initB i)
theorem bfV_succ (bs : List Bd) (i r : Nat) : bfV bs i (r + 1) = roundB bs (bfV bs i r) := by unfold bfV; rw [List.range_succ, List.foldl_append]; rfl
theorem stepB_le (v : Nat → Int) (x : Bd) (a : Nat) : stepB v x a ≤ v a := by
  unfold stepB; split
  · show (if a = x.t.toNat then mn (v x.t.toNat) (wrap64 (v x.f.toNat + x.m)) else v a) ≤ v a
    split
    · rename_i e; rw [e]; exact mn_le _ _
    · exact Int.le_refl _
  · exact Int.le_refl _
theorem foldB_le : ∀ (l : List Bd) (v : Nat → Int) (a : Nat), l.foldl stepB v a ≤ v a
  | [], v, a => Int.le_refl _
  | x :: l, v, a => by rw [List.foldl_cons]; exact Int.le_trans (foldB_le l _ a) (stepB_le v x a)
def SoundB (bs : List Bd) (i : Nat) (v : Nat → Int) : Prop := (∀ a, v a = 100000 ∨ Wk bs i a (v a)) ∧ v i ≤ 0
theorem countP_lt {p q : Nat → Bool} : ∀ (l : List Nat), (∀ a ∈ l, p a = true → q a = true) → (∃ a ∈ l, q a = true ∧ p a = false) → l.countP p < l.countP q
  | [], _, ⟨a, ha, _⟩ => by simp at ha
  | b :: l, h, ⟨a, ha, hq, hp⟩ => by
    have hm : l.countP p ≤ l.countP q := List.countP_mono_left (fun x hx => h x (List.mem_cons_of_mem _ hx))
    rw [List.countP_cons, List.countP_cons]
    rcases List.mem_cons.1 ha with rfl | ha
    · rw [hq, hp]; simp; omega
    · have ih := countP_lt l (fun x hx => h x (List.mem_cons_of_mem _ hx)) ⟨a, ha, hq, hp⟩
      have hb := h b List.mem_cons_self
      cases hpb : p b
      · simp; omega
      · rw [hb hpb]; simp; omega
section
variable {N : Nat} {bs : List Bd} {D : Tab} {i : Nat} (h : Dist N bs D) (hin : ∀ x ∈ bs, x.f.toNat < N ∧ x.t.toNat < N ∧ -99 ≤ x.m ∧ x.m ≤ 99) (hi : i < N)
include h hin hi
theorem soundB_ge {v : Nat → Int} (hs : SoundB bs i v) {a : Nat} (ha : a < N) : D i a ≤ v a := by
  have f := h.fin i a hi ha
  rcases hs.1 a with e | w
  · omega
  · exact (h.le (fun x hx => by have := hin x hx; omega) hi w).2.2
theorem soundB_step {v : Nat → Int} (hs : SoundB bs i v) {x : Bd} (hx : x ∈ bs) : SoundB bs i (stepB v x) := by
  refine ⟨fun a => ?_, Int.le_trans (stepB_le v x i) hs.2⟩
  unfold stepB
  split
  · rename_i c
    show (if a = x.t.toNat then mn (v x.t.toNat) (wrap64 (v x.f.toNat + x.m)) else v a) = 100000 ∨ Wk bs i a (if a = x.t.toNat then mn (v x.t.toNat) (wrap64 (v x.f.toNat + x.m)) else v a)
    split
    · rename_i e
      have hx' := hin x hx
      have g := soundB_ge h hin hi hs hx'.1
      have f := h.fin i x.f.toNat hi hx'.1
      rw [IntWalk.wrap64_in _ (by omega)]
      unfold mn
      split
      · right
        rcases hs.1 x.f.toNat with e2 | w
        · omega
        · rw [e]; exact Wk.snoc w hx rfl
      · rw [e]; exact hs.1 _
    · exact hs.1 a
  · exact hs.1 a
theorem soundB_fold : ∀ (l : List Bd) (v : Nat → Int), (∀ x ∈ l, x ∈ bs) → SoundB bs i v → SoundB bs i (l.foldl stepB v)
  | [], v, _, hs => hs
  | x :: l, v, hl, hs => by
    rw [List.foldl_cons]
    exact soundB_fold l _ (fun y hy => hl y (List.mem_cons_of_mem _ hy)) (soundB_step h hin hi hs (hl x List.mem_cons_self))
theorem soundB_round {v : Nat → Int} (hs : SoundB bs i v) : SoundB bs i (roundB bs v) := soundB_fold h hin hi bs v (fun _ hx => hx) hs
/-- Behind a round, a bound from a point whose number stands has been taken into account. -/
theorem edgeB {x : Bd} (hne : D i x.f.toNat ≠ 100000) : ∀ (l : List Bd) (v : Nat → Int), (∀ y ∈ l, y ∈ bs) → x ∈ l → SoundB bs i v → v x.f.toNat = D i x.f.toNat → l.foldl stepB v x.t.toNat ≤ D i x.f.toNat + x.m
  | y :: l, v, hl, hx, hs, hv => by
    rw [List.foldl_cons]
    have hxb : x ∈ bs := hl x hx
    have hx' := hin x hxb
    have f := h.fin i x.f.toNat hi hx'.1
    rcases List.mem_cons.1 hx with rfl | hx2
    · refine Int.le_trans (foldB_le l _ _) ?_
      unfold stepB
      rw [if_pos (by omega)]
      show (if x.t.toNat = x.t.toNat then mn (v x.t.toNat) (wrap64 (v x.f.toNat + x.m)) else v x.t.toNat) ≤ _
      rw [if_pos rfl, IntWalk.wrap64_in _ (by omega), ← hv]
      exact mn_le' _ _
    · have s2 := soundB_step h hin hi hs (hl y List.mem_cons_self)
      refine edgeB hne l _ (fun z hz => hl z (List.mem_cons_of_mem _ hz)) hx2 s2 ?_
      have h1 := stepB_le v y x.f.toNat
      have h2 := soundB_ge h hin hi s2 hx'.1
      omega
theorem progressB {v : Nat → Int} (hs : SoundB bs i v) {j : Nat} {s : Int} (w : Wk bs i j s) : s = D i j → v j = D i j ∨ ∃ a, a < N ∧ v a ≠ D i a ∧ roundB bs v a = D i a := by
  have hl : ∀ x ∈ bs, x.f.toNat < N ∧ x.t.toNat < N ∧ x.m ≤ 99 := fun x hx => ⟨(hin x hx).1, (hin x hx).2.1, (hin x hx).2.2.2⟩
  induction w with
  | nil =>
    intro _
    left
    have z := h.zero i hi
    have g := soundB_ge h hin hi hs hi
    have := hs.2
    omega
  | @snoc u s x w0 hx hf ih =>
    intro e
    obtain ⟨hu, hne, hle⟩ := h.le hl hi w0
    have hx' := hin x hx
    have he := h.edge x hx
    rw [hf] at he
    have f1 := h.fin u x.t.toNat hu hx'.2.1
    have t := h.tri u i x.t.toNat hu hi hx'.2.1 hne (by omega)
    have es : s = D i u := by omega
    rcases ih es with q | q
    · by_cases c : v x.t.toNat = D i x.t.toNat
      · exact Or.inl c
      · right
        refine ⟨x.t.toNat, hx'.2.1, c, ?_⟩
        have g := soundB_ge h hin hi (soundB_round h hin hi hs) hx'.2.1
        have l := edgeB h hin hi (x := x) (by rw [hf]; exact hne) bs v (fun _ hy => hy) hx hs (by rw [hf]; exact q)
        rw [hf] at l
        unfold roundB at *
        omega
    · exact Or.inr q
theorem bfV_count : ∀ r, SoundB bs i (bfV bs i r) ∧ ((∀ a, a < N → bfV bs i r a = D i a) ∨ r + 1 ≤ (List.range N).countP fun a => decide (bfV bs i r a = D i a))
  | 0 => by
    have z := h.zero i hi
    have s0 : SoundB bs i (bfV bs i 0) := by
      refine ⟨fun a => ?_, by simp [bfV, initB]⟩
      by_cases e : a = i
      · right; subst e; simpa [bfV, initB] using Wk.nil
      · left; simp [bfV, initB, e]
    refine ⟨s0, Or.inr ?_⟩
    rw [Nat.zero_add]
    refine List.countP_pos_iff.2 ⟨i, List.mem_range.2 hi, ?_⟩
    simp [bfV, initB, z]
  | r + 1 => by
    obtain ⟨hs, hc⟩ := bfV_count r
    rw [bfV_succ]
    have hs2 := soundB_round h hin hi hs
    have mono : ∀ a, a < N → bfV bs i r a = D i a → roundB bs (bfV bs i r) a = D i a := fun a ha e => by
      have h1 := foldB_le bs (bfV bs i r) a
      have h2 := soundB_ge h hin hi hs2 ha
      unfold roundB at *
      omega
    refine ⟨hs2, ?_⟩
    rcases hc with hc | hc
    · exact Or.inl fun a ha => mono a ha (hc a ha)
    · by_cases all : ∀ a, a < N → bfV bs i r a = D i a
      · exact Or.inl fun a ha => mono a ha (all a ha)
      · right
        simp only [Classical.not_forall] at all
        obtain ⟨j, hj, hne⟩ := all
        have hD : D i j ≠ 100000 := by
          intro e
          rcases hs.1 j with q | w
          · exact hne (q.trans e.symm)
          · exact (h.le (fun x hx => by have := hin x hx; omega) hi w).2.1 e
        rcases progressB h hin hi hs (h.walk i j hi hj hD) rfl with q | ⟨a, ha, q1, q2⟩
        · exact absurd q hne
        · refine Nat.lt_of_le_of_lt hc (countP_lt _ (fun b hb hp => ?_) ⟨a, List.mem_range.2 ha, by simpa using q2, by simpa using q1⟩)
          have := mono b (List.mem_range.1 hb) (by simpa using hp)
          simpa using this
end
theorem bf_eq {N : Nat} {bs : List Bd} (hfit : fitsOk N bs = true) {i : Nat} (hi : i < N) (a : Nat) (ha : a < N) : bfV bs i N a = closedT N bs i a := by
  obtain ⟨h1, h6, _, hin⟩ := planOk_of (fit_plan hfit)
  obtain ⟨_, hc | hc⟩ := bfV_count (dist_of hfit) (fun x hx => by have := hin x hx; omega) hi N
  · exact hc a ha
  · have := List.countP_le_length (l := List.range N) (p := fun a => decide (bfV bs i N a = closedT N bs i a))
    rw [List.length_range] at this
    omega
end Go.Proofs.Ytaifpindiphlkaa
