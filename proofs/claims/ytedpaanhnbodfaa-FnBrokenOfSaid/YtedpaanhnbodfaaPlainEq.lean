/- Plain law: the program's closing in place and the reference's closing round by round agree on whether a plan fits, and on the closed table if it fits. No program in sight. -/
import Derived.Test.YtedpaanhnbodfaaSpecFits
namespace Go.Proofs.Ytedpaanhnbodfaa
open Go.RowKit
set_option linter.unusedVariables false
set_option maxRecDepth 10000
set_option linter.unusedSimpArgs false

theorem fold_put (i j : Nat) : ∀ (bs : List Bd) (T : Tab), (∀ x ∈ bs, 0 ≤ x.f ∧ 0 ≤ x.t) → (bs.foldl putB T) i j = bs.foldl (entB i j) (T i j)
  | [], T, _ => rfl
  | x :: bs, T, h => by
    rw [List.foldl_cons, List.foldl_cons, fold_put i j bs _ (fun y hy => h y (List.mem_cons_of_mem _ hy))]
    have hx := h x List.mem_cons_self
    congr 1
    by_cases e : i = x.f.toNat ∧ j = x.t.toNat
    · rw [entB_hit (by omega) (by omega), putB, e.1, e.2, upd_same]
    · rw [putB, upd_other _ _ e]
      unfold entB
      rw [if_neg (by omega)]
theorem startT_eq {bs : List Bd} (h : ∀ x ∈ bs, 0 ≤ x.f ∧ 0 ≤ x.t) : startT bs = ent bs := by
  funext i j
  exact fold_put i j bs tab0 h
/-- What the round leaves where the pivot is 0. -/
theorem roundK_row {T : Tab} {k j : Nat} (h0 : T k k = 0) (hb : -4611686018427387904 ≤ T k j ∧ T k j ≤ 100000) : roundK T k k j = T k j := by
  unfold roundK
  split
  · rw [h0, Int.zero_add, IntWalk.wrap64_in _ (by omega)]
    unfold mn; split <;> omega
  · rfl
theorem roundK_col {T : Tab} {k i : Nat} (h0 : T k k = 0) (hb : -4611686018427387904 ≤ T i k ∧ T i k ≤ 100000) : roundK T k i k = T i k := by
  unfold roundK
  split
  · rw [h0, Int.add_zero, IntWalk.wrap64_in _ (by omega)]
    unfold mn; split <;> omega
  · rfl
section
variable {N k : Nat} {A : Tab} (hk : k < N) (h0 : A k k = 0) (hb : ∀ i j, i < N → j < N → -4611686018427387904 ≤ A i j ∧ A i j ≤ 100000)
include hk h0 hb
theorem relax_row (i : Nat) (hi : i < N) (U : Tab) (hU : ∀ a b, a < N → b < N → U a b = if a < i then roundK A k a b else A a b) :
    ∀ j, j ≤ N → ∀ a b, a < N → b < N → ((List.range j).foldl (relax k i) U) a b = if a < i ∨ (a = i ∧ b < j) then roundK A k a b else A a b
  | 0, _, a, b, ha, hb' => by
    rw [show (List.range 0).foldl (relax k i) U = U from rfl, hU a b ha hb']
    by_cases e : a < i
    · rw [if_pos e, if_pos (Or.inl e)]
    · rw [if_neg e, if_neg (by omega)]
  | j + 1, hj, a, b, ha, hb' => by
    rw [range_fold]
    have ih := relax_row i hi U hU j (by omega)
    generalize (List.range j).foldl (relax k i) U = V at *
    have e1 : V i k = A i k := by
      rw [ih i k hi hk]; split
      · exact roundK_col h0 (hb i k hi hk)
      · rfl
    have e2 : V k j = A k j := by
      rw [ih k j hk (by omega)]; split
      · exact roundK_row h0 (hb k j hk (by omega))
      · rfl
    have e3 : V i j = A i j := by rw [ih i j hi (by omega), if_neg (by omega)]
    by_cases e : a = i ∧ b = j
    · obtain ⟨rfl, rfl⟩ := e
      rw [if_pos (by omega)]
      unfold relax roundK
      have l1 := (hb a k hi hk).2
      have l2 := (hb k b hk (by omega)).2
      rw [e1, e2, e3]
      by_cases c : A a k < 100000 ∧ A k b < 100000
      · rw [if_pos c, if_pos (by omega), upd_same]
      · rw [if_neg c, if_neg (by omega), e3]
    · have e4 : (relax k i V j) a b = V a b := by
        unfold relax; split
        · exact upd_other _ _ e
        · rfl
      rw [e4, ih a b ha hb']
      by_cases c : a < i ∨ (a = i ∧ b < j)
      · rw [if_pos c, if_pos (by omega)]
      · rw [if_neg c, if_neg (by omega)]
theorem relax_rows : ∀ i, i ≤ N → ∀ a b, a < N → b < N → ((List.range i).foldl (relaxI N k) A) a b = if a < i then roundK A k a b else A a b
  | 0, _, a, b, _, _ => by rw [if_neg (by omega)]; rfl
  | i + 1, hi, a, b, ha, hb' => by
    rw [range_fold]
    have ih := relax_rows i (by omega)
    generalize (List.range i).foldl (relaxI N k) A = U at *
    rw [relaxI, relax_row hk h0 hb i (by omega) U ih N (Nat.le_refl _) a b ha hb']
    by_cases c : a < i + 1
    · rw [if_pos c, if_pos (by omega)]
    · rw [if_neg c, if_neg (by omega)]
theorem relaxK_eq (a b : Nat) (ha : a < N) (hb' : b < N) : relaxK N A k a b = roundK A k a b := by
  rw [relaxK, relax_rows hk h0 hb N (Nat.le_refl _) a b ha hb', if_pos ha]
end
theorem roundK_le (T : Tab) (k i j : Nat) : roundK T k i j ≤ T i j := by
  unfold roundK; split
  · exact mn_le _ _
  · exact Int.le_refl _
theorem relax_le (k i : Nat) (T : Tab) (j a b : Nat) : relax k i T j a b ≤ T a b := by
  unfold relax; split
  · by_cases e : a = i ∧ b = j
    · rw [e.1, e.2, upd_same]; exact mn_le _ _
    · rw [upd_other _ _ e]; exact Int.le_refl _
  · exact Int.le_refl _
theorem fold_le (f : Tab → Nat → Tab) (hf : ∀ T j a b, f T j a b ≤ T a b) (l : List Nat) (T : Tab) (a b : Nat) : l.foldl f T a b ≤ T a b := by
  induction l generalizing T with
  | nil => exact Int.le_refl _
  | cons x l ih => exact Int.le_trans (ih _) (hf T x a b)
theorem relaxK_le (N : Nat) (T : Tab) (k a b : Nat) : relaxK N T k a b ≤ T a b :=
  fold_le _ (fun T j a b => fold_le _ (fun T j a b => relax_le _ _ T j a b) _ T a b) _ T a b
/-- The state of both closings after some rounds. -/
def Both (N : Nat) (M : Int) (A B : Tab) : Prop :=
  ((∀ i j, i < N → j < N → A i j = B i j) ∧ (∀ i, i < N → A i i = 0) ∧ ∀ i j, i < N → j < N → -M ≤ A i j ∧ A i j ≤ 100000) ∨ ((∃ i, i < N ∧ A i i < 0) ∧ ∃ i, i < N ∧ B i i < 0)
theorem both_step {N k : Nat} {M : Int} {A B : Tab} (hk : k < N) (hM : 0 ≤ M) (hM2 : M ≤ 2305843009213693952) (h : Both N M A B) : Both N (2 * M) (relaxK N A k) (roundK B k) := by
  rcases h with ⟨h1, h2, h3⟩ | ⟨⟨i, hi, hA⟩, i', hi', hB⟩
  · have hE : ∀ a b, a < N → b < N → relaxK N A k a b = roundK A k a b := relaxK_eq hk (h2 k hk) (fun i j hi hj => by have := h3 i j hi hj; omega)
    have hS : ∀ a b, a < N → b < N → roundK A k a b = roundK B k a b := fun a b ha hb => by
      unfold roundK
      rw [h1 a b ha hb, h1 a k ha hk, h1 k b hk hb]
    by_cases hd : ∀ i, i < N → 0 ≤ roundK A k i i
    · left
      refine ⟨fun a b ha hb => (hE a b ha hb).trans (hS a b ha hb), fun i hi => ?_, fun i j hi hj => ?_⟩
      · rw [hE i i hi hi]
        have := hd i hi
        have := roundK_le A k i i
        have := h2 i hi
        omega
      · rw [hE i j hi hj]
        have l1 := roundK_le A k i j
        have l2 := h3 i j hi hj
        have l3 := h3 i k hi hk
        have l4 := h3 k j hk hj
        refine ⟨?_, by omega⟩
        unfold roundK
        split
        · rw [IntWalk.wrap64_in _ (by omega)]
          unfold mn; split <;> omega
        · omega
    · right
      simp only [Classical.not_forall] at hd
      obtain ⟨i, hi, hn⟩ := hd
      exact ⟨⟨i, hi, by rw [hE i i hi hi]; omega⟩, i, hi, by rw [← hS i i hi hi]; omega⟩
  · right
    exact ⟨⟨i, hi, Int.lt_of_le_of_lt (relaxK_le N A k i i) hA⟩, i', hi', Int.lt_of_le_of_lt (roundK_le B k i' i') hB⟩
theorem both_all {N : Nat} {T : Tab} (h : Both N 100000 T T) : ∀ k, k ≤ N → k ≤ 6 → Both N (100000 * 2 ^ k) ((List.range k).foldl (relaxK N) T) ((List.range k).foldl roundK T)
  | 0, _, _ => by simpa using h
  | k + 1, h1, h2 => by
    rw [range_fold, range_fold]
    have hp : (0 : Int) ≤ 100000 * 2 ^ k ∧ (100000 : Int) * 2 ^ k ≤ 2305843009213693952 := by
      match k, h2 with
      | 0, _ => decide
      | 1, _ => decide
      | 2, _ => decide
      | 3, _ => decide
      | 4, _ => decide
      | 5, _ => decide
      | k + 6, h2 => omega
    have := both_step (k := k) (by omega) hp.1 hp.2 (both_all h k (by omega) (by omega))
    rw [show (100000 : Int) * 2 ^ (k + 1) = 2 * (100000 * 2 ^ k) by rw [Int.pow_succ]; omega]
    exact this
theorem ent_step {i j : Nat} {bs : List Bd} {z : Int} (h : ∀ x ∈ bs, -100000 ≤ x.m) (hz : -100000 ≤ z) : -100000 ≤ bs.foldl (entB i j) z ∧ bs.foldl (entB i j) z ≤ z := by
  induction bs generalizing z with
  | nil => exact ⟨hz, Int.le_refl _⟩
  | cons x bs ih =>
    rw [List.foldl_cons]
    have hx := h x List.mem_cons_self
    have h2 : -100000 ≤ entB i j z x ∧ entB i j z x ≤ z := by
      unfold entB; split
      · unfold mn; split <;> omega
      · omega
    have := ih (z := entB i j z x) (fun y hy => h y (List.mem_cons_of_mem _ hy)) h2.1
    exact ⟨this.1, by omega⟩
theorem both_start {N : Nat} {bs : List Bd} (h : ∀ x ∈ bs, -100000 ≤ x.m) : Both N 100000 (ent bs) (ent bs) := by
  have hl : ∀ i j, -100000 ≤ ent bs i j ∧ ent bs i j ≤ tab0 i j := fun i j => ent_step h (by unfold tab0; split <;> omega)
  by_cases hd : ∀ i, i < N → 0 ≤ ent bs i i
  · left
    refine ⟨fun _ _ _ _ => rfl, fun i hi => ?_, fun i j hi hj => ?_⟩
    · have := hl i i; have := hd i hi; simp [tab0] at *; omega
    · have := hl i j; unfold tab0 at this; split at this <;> omega
  · right
    simp only [Classical.not_forall] at hd
    obtain ⟨i, hi, hn⟩ := hd
    exact ⟨⟨i, hi, by omega⟩, i, hi, by omega⟩
theorem both_plan {N : Nat} {bs : List Bd} (hp : planOk N bs = true) : startT bs = ent bs ∧ Both N (100000 * 2 ^ N) (closeT N (startT bs)) (closeS N (ent bs)) := by
  obtain ⟨h1, h6, _, hin⟩ := planOk_of hp
  have e := startT_eq (bs := bs) (fun x hx => by have := hin x hx; omega)
  refine ⟨e, ?_⟩
  rw [e]
  exact both_all (both_start (fun x hx => by have := hin x hx; omega)) N (Nat.le_refl _) (by omega)
theorem fits_eq (n : Int) (bs : List Bd) : fitsS n bs = fitsOk n bs := by
  unfold fitsS fitsOk closedT
  cases hp : planOk n bs
  · rfl
  · obtain ⟨h1, h6, _, _⟩ := planOk_of hp
    obtain ⟨N, rfl⟩ := Int.eq_ofNat_of_zero_le (show 0 ≤ n by omega)
    rw [Bool.true_and, Bool.true_and, Int.toNat_natCast]
    obtain ⟨e, ⟨h1, h2, h3⟩ | ⟨⟨i, hi, hA⟩, i', hi', hB⟩⟩ := both_plan hp
    · rw [diagOk_good (T := closeS N (ent bs)) (fun i hi => by rw [← h1 i i hi hi, h2 i hi]; exact Int.le_refl _), diagOk_good (T := closeT N (startT bs)) (fun i hi => by rw [h2 i hi]; exact Int.le_refl _)]
    · rw [diagOk_bad (T := closeT N (startT bs)) hi hA, diagOk_bad (T := closeS N (ent bs)) hi' hB]
/-- If the plan fits, both closed tables are the same. -/
theorem closed_eq {N : Nat} {bs : List Bd} (hf : fitsOk N bs = true) (i j : Nat) (hi : i < N) (hj : j < N) : closeS N (ent bs) i j = closedT N bs i j := by
  have hp : planOk N bs = true := by simp only [fitsOk, Bool.and_eq_true] at hf; exact hf.1
  have hd : diagOk N (closedT N bs) = true := by simp only [fitsOk, Bool.and_eq_true] at hf; exact hf.2
  unfold closedT at *
  rw [Int.toNat_natCast] at *
  obtain ⟨e, ⟨h1, h2, h3⟩ | ⟨⟨i', hi', hA⟩, _⟩⟩ := both_plan hp
  · exact (h1 i j hi hj).symm
  · rw [diagOk_bad hi' hA] at hd; cases hd
theorem closed_bound {N : Nat} {bs : List Bd} (hf : fitsOk N bs = true) (i j : Nat) (hi : i < N) (hj : j < N) : -6400000 ≤ closedT N bs i j ∧ closedT N bs i j ≤ 100000 := by
  have hp : planOk N bs = true := by simp only [fitsOk, Bool.and_eq_true] at hf; exact hf.1
  have hd : diagOk N (closedT N bs) = true := by simp only [fitsOk, Bool.and_eq_true] at hf; exact hf.2
  obtain ⟨_, h6, _, _⟩ := planOk_of hp
  unfold closedT at *
  rw [Int.toNat_natCast] at *
  obtain ⟨e, ⟨h1, h2, h3⟩ | ⟨⟨i', hi', hA⟩, _⟩⟩ := both_plan hp
  · have := h3 i j hi hj
    have hN : (100000 : Int) * 2 ^ N ≤ 6400000 := by
      have hN6 : N = 0 ∨ N = 1 ∨ N = 2 ∨ N = 3 ∨ N = 4 ∨ N = 5 ∨ N = 6 := by omega
      clear this h1 h2 h3 e hd hf hp
      rcases hN6 with e | e | e | e | e | e | e <;> (rw [e]; decide)
    exact ⟨Int.le_trans (Int.neg_le_neg hN) this.1, this.2⟩
  · rw [diagOk_bad hi' hA] at hd; cases hd
/-- spec.FitsOk tells what impl.FitsOk tells. -/
theorem specFitsOk_any (n : Int) (A : Option Addr) (c : Nat) (bs : List Bd) (w : World) (h : BAt w A bs) (hlen : bs.length ≤ 1099511627776) :
    Calls Try.prog 66 #[.agg #[.int .i64 n, .slice A bs.length c]] w fun e w' => e = .returned (.bool (fitsOk n bs)) ∧ Below w.heap.size w w' := by
  rw [← fits_eq]; exact specFits_any n A c bs w h hlen
end Go.Proofs.Ytedpaanhnbodfaa
