/- Contracts of impl.table.next and spec.l4Window: what points that have times let another point have. Contracts of StartOk, of the program and of the reference; for slices of at most 2^40 elements. Contracts of EndedFrom and TimesFor, of the program and of the reference; for slices of at most 2^40 elements. -/
import Derived.Test.YtaifpindiphlkaaKE
import Derived.Deep.QuietTactic
import Derived.BigQuiet
import Derived.Test.YtaifpindiphlkaaKF
import Derived.Test.YtaifpindiphlkaaKB
import Derived.Laws.AppendOwnNone
namespace Go.Proofs.Ytaifpindiphlkaa
open Go.RowKit
set_option linter.unusedVariables false
set_option maxRecDepth 10000
set_option linter.unusedSimpArgs false

/-- The greater of two numbers. -/
def mx (a b : Int) : Int := if a < b then b else a
/-- The number at a place of a list. -/
def nthI (ts : List Int) (i : Nat) : Int := ts.getD i 0
theorem nthI_of {ts : List Int} {i : Nat} {x : Int} (h : ts[i]? = some x) : nthI ts i = x := by simp [nthI, List.getD, h]
/-- Does a point tell nothing (it is not done, or there is no bound)? -/
def still (sk : Bool) (x d : Int) : Bool := (sk && decide (x = -1)) || decide (d = 100000)
def lowG (sk : Bool) (T : Tab) (p : Nat) (ts : List Int) (a : Int) : Nat → Int
  | 0 => a
  | k + 1 => if still sk (nthI ts k) (T p k) = true then lowG sk T p ts a k else mx (lowG sk T p ts a k) (wrap64 (nthI ts k - T p k))
def highG (sk : Bool) (T : Tab) (p : Nat) (ts : List Int) : Nat → Int
  | 0 => 100000
  | k + 1 => if still sk (nthI ts k) (T k p) = true then highG sk T p ts k else mn (highG sk T p ts k) (wrap64 (nthI ts k + T k p))
theorem lowG_same {sk : Bool} {T T' : Tab} {p : Nat} {ts : List Int} {a : Int} : ∀ k, (∀ i, i < k → T p i = T' p i) → lowG sk T p ts a k = lowG sk T' p ts a k
  | 0, _ => rfl
  | k + 1, h => by
    have e := h k (Nat.lt_succ_self k)
    have ih := lowG_same (sk := sk) (ts := ts) (a := a) k (fun i hi => h i (by omega))
    show (if _ then _ else _) = (if _ then _ else _)
    rw [e, ih]
theorem highG_same {sk : Bool} {T T' : Tab} {p : Nat} {ts : List Int} : ∀ k, (∀ i, i < k → T i p = T' i p) → highG sk T p ts k = highG sk T' p ts k
  | 0, _ => rfl
  | k + 1, h => by
    have e := h k (Nat.lt_succ_self k)
    have ih := highG_same (sk := sk) (ts := ts) k (fun i hi => h i (by omega))
    show (if _ then _ else _) = (if _ then _ else _)
    rw [e, ih]
theorem lowG_still {sk : Bool} {T : Tab} {p : Nat} {ts : List Int} {a : Int} {k : Nat} {x : Int} (hx : nthI ts k = x) (h : still sk x (T p k) = true) : lowG sk T p ts a (k + 1) = lowG sk T p ts a k := by
  show (if _ then _ else _) = _; rw [hx, if_pos h]
theorem lowG_step {sk : Bool} {T : Tab} {p : Nat} {ts : List Int} {a : Int} {k : Nat} {x : Int} (hx : nthI ts k = x) (h : still sk x (T p k) = false) : lowG sk T p ts a (k + 1) = mx (lowG sk T p ts a k) (wrap64 (x - T p k)) := by
  show (if _ then _ else _) = _; rw [hx, if_neg (by rw [h]; simp)]
theorem highG_still {sk : Bool} {T : Tab} {p : Nat} {ts : List Int} {k : Nat} {x : Int} (hx : nthI ts k = x) (h : still sk x (T k p) = true) : highG sk T p ts (k + 1) = highG sk T p ts k := by
  show (if _ then _ else _) = _; rw [hx, if_pos h]
theorem highG_step {sk : Bool} {T : Tab} {p : Nat} {ts : List Int} {k : Nat} {x : Int} (hx : nthI ts k = x) (h : still sk x (T k p) = false) : highG sk T p ts (k + 1) = mn (highG sk T p ts k) (wrap64 (x + T k p)) := by
  show (if _ then _ else _) = _; rw [hx, if_neg (by rw [h]; simp)]
theorem lowG_ge {sk : Bool} {T : Tab} {p : Nat} {ts : List Int} {a : Int} : ∀ k, a ≤ lowG sk T p ts a k
  | 0 => Int.le_refl _
  | k + 1 => by
    have ih := lowG_ge (sk := sk) (T := T) (p := p) (ts := ts) (a := a) k
    show a ≤ (if _ then _ else _)
    split
    · exact ih
    · unfold mx; split <;> omega
theorem highG_le {sk : Bool} {T : Tab} {p : Nat} {ts : List Int} : ∀ k, highG sk T p ts k ≤ 100000
  | 0 => Int.le_refl _
  | k + 1 => by
    have ih := highG_le (sk := sk) (T := T) (p := p) (ts := ts) k
    show (if _ then _ else _) ≤ _
    split
    · exact ih
    · exact Int.le_trans (mn_le _ _) ih
/-- The time of the next point. -/
def nextV (T : Tab) (ts : List Int) : Int :=
  if lowG false T ts.length ts (-100000) ts.length ≠ -100000 then lowG false T ts.length ts (-100000) ts.length
  else if highG false T ts.length ts ts.length ≠ 100000 then highG false T ts.length ts ts.length else 0
end Go.Proofs.Ytaifpindiphlkaa
namespace Go.Proofs.Ytaifpindiphlkaa
open Go.RowKit
set_option linter.unusedVariables false
set_option maxRecDepth 10000
set_option linter.unusedSimpArgs false

/-- The number at a place of a list. -/
def nth (ts : List Int) (i : Nat) : Int := ts.getD i 0
theorem nth_of {ts : List Int} {i : Nat} {x : Int} (h : ts[i]? = some x) : nth ts i = x := by simp [nth, List.getD, h]
theorem nth_in {ts : List Int} {i : Nat} {x : Int} {lo hi : Int} (h : ∀ x ∈ ts, lo ≤ x ∧ x ≤ hi) (hx : ts[i]? = some x) : lo ≤ x ∧ x ≤ hi := h x (List.mem_of_getElem? hx)
theorem nth_mem {ts : List Int} {lo hi : Int} (h : ∀ x ∈ ts, lo ≤ x ∧ x ≤ hi) {i : Nat} (hi' : i < ts.length) : lo ≤ nth ts i ∧ nth ts i ≤ hi := by
  have e : ts[i]? = some ts[i] := List.getElem?_eq_getElem hi'
  rw [nth_of e]; exact nth_in h e
/-- Do some times keep what a table says of them? -/
def prs (ts : List Int) (T : Tab) : Bool := (List.range ts.length).all fun i => (List.range ts.length).all fun j => decide (nth ts j - nth ts i ≤ T i j)
theorem prs_iff (ts : List Int) (T : Tab) : prs ts T = true ↔ ∀ i, i < ts.length → ∀ j, j < ts.length → nth ts j - nth ts i ≤ T i j := by simp [prs]
def startB (n : Int) (bs : List Bd) (ts : List Int) : Bool := fitsOk n bs && decide ((ts.length : Int) ≤ n) && allB ts (-99) 99 && prs ts (closedT n bs)
theorem startB_no {n : Int} {bs : List Bd} {ts : List Int} (h : fitsOk n bs = false ∨ n < ts.length ∨ allB ts (-99) 99 = false) : startB n bs ts = false := by
  rcases h with h | h | h
  · simp [startB, h]
  · have : decide ((ts.length : Int) ≤ n) = false := by simpa using h
    simp [startB, this]
  · simp [startB, h]
section
variable {N : Nat} {bs : List Bd} {ts : List Int} (hfit : fitsOk N bs = true) (hl : ts.length ≤ N)
include hfit hl
theorem startB_eq (hall : allB ts (-99) 99 = true) : startB N bs ts = prs ts (closedT N bs) := by
  simp [startB, hfit, hall, hl]
omit hl in
theorem diag0 (i : Nat) (hi : i < N) : 0 ≤ closedT N bs i i := by
  have hd : diagOk N (closedT N bs) = true := by simp only [fitsOk, Bool.and_eq_true] at hfit; exact hfit.2
  unfold diagOk at hd; rw [decide_eq_true_iff] at hd; exact hd i hi
/-- mayBe of two times, told in full. -/
theorem betw_iff (hall : allB ts (-99) 99 = true) {i k : Nat} (hi : i < ts.length) (hk : k < ts.length) : betw (closedT N bs) k i (nth ts i - nth ts k) = true ↔ nth ts i - nth ts k ≤ closedT N bs k i ∧ nth ts k - nth ts i ≤ closedT N bs i k := by
  have h1 := nth_mem ((allB_iff _ _ _).1 hall) hi
  have h2 := nth_mem ((allB_iff _ _ _).1 hall) hk
  have b1 := closed_bound hfit k i (by omega) (by omega)
  have b2 := closed_bound hfit i k (by omega) (by omega)
  unfold betw
  rw [IntWalk.wrap64_in _ (by omega)]
  simp only [Bool.and_eq_true, Bool.or_eq_true, decide_eq_true_eq]
  omega
theorem startB_bad (hall : allB ts (-99) 99 = true) {i k : Nat} (hi : i < ts.length) (hk : k < ts.length) (h : betw (closedT N bs) k i (nth ts i - nth ts k) = false) : startB N bs ts = false := by
  rw [startB_eq hfit hl hall, ← Bool.not_eq_true, prs_iff]
  intro hh
  have : betw (closedT N bs) k i (nth ts i - nth ts k) = true := (betw_iff hfit hl hall hi hk).2 ⟨hh k hk i hi, hh i hi k hk⟩
  rw [h] at this; cases this
theorem startB_good (hall : allB ts (-99) 99 = true) (h : ∀ i, i < ts.length → ∀ k, k < i → betw (closedT N bs) k i (nth ts i - nth ts k) = true) : startB N bs ts = true := by
  rw [startB_eq hfit hl hall, prs_iff]
  intro i hi j hj
  rcases Nat.lt_trichotomy i j with c | c | c
  · exact ((betw_iff hfit hl hall hj hi).1 (h j hj i c)).1
  · subst c
    have := diag0 hfit i (by omega)
    omega
  · exact ((betw_iff hfit hl hall hi hj).1 (h i hi j c)).2
theorem startB_badS {i j : Nat} (hi : i < ts.length) (hj : j < ts.length) (h : closedT N bs i j < wrap64 (nth ts j - nth ts i)) : startB N bs ts = false := by
  cases hall : allB ts (-99) 99
  · exact startB_no (Or.inr (Or.inr hall))
  · have h1 := nth_mem ((allB_iff _ _ _).1 hall) hi
    have h2 := nth_mem ((allB_iff _ _ _).1 hall) hj
    rw [IntWalk.wrap64_in _ (by omega)] at h
    rw [startB_eq hfit hl hall, ← Bool.not_eq_true, prs_iff]
    intro hh
    have := hh i hi j hj
    omega
theorem startB_goodS (hin : ∀ i, i < ts.length → inB (nth ts i) (-99) 99 = true) (h : ∀ i, i < ts.length → ∀ j, j < ts.length → wrap64 (nth ts j - nth ts i) ≤ closedT N bs i j) : startB N bs ts = true := by
  have hall : allB ts (-99) 99 = true := by
    rw [allB_iff]
    intro x hx
    obtain ⟨i, hi, e⟩ := List.getElem_of_mem hx
    have := (inB_iff _ _ _).1 (hin i hi)
    rw [nth_of (List.getElem?_eq_getElem hi), e] at this
    exact this
  rw [startB_eq hfit hl hall, prs_iff]
  intro i hi j hj
  have h1 := nth_mem ((allB_iff _ _ _).1 hall) hi
  have h2 := nth_mem ((allB_iff _ _ _).1 hall) hj
  have := h i hi j hj
  rw [IntWalk.wrap64_in _ (by omega)] at this
  exact this
end
theorem startB_out {n : Int} {bs : List Bd} {ts : List Int} {i : Nat} {x : Int} (hx : ts[i]? = some x) (h : inB x (-99) 99 = false) : startB n bs ts = false := by
  refine startB_no (Or.inr (Or.inr ?_))
  rw [← Bool.not_eq_true, allB_iff]
  intro hh
  have := hh x (List.mem_of_getElem? hx)
  rw [(inB_iff _ _ _).2 this] at h; cases h
end Go.Proofs.Ytaifpindiphlkaa
namespace Go.Proofs.Ytaifpindiphlkaa
open Go.RowKit
set_option linter.unusedVariables false
set_option maxRecDepth 10000
set_option linter.unusedSimpArgs false

theorem MAt.eq_ {w : World} {A : Option Addr} {N M : Nat} {T T' : Tab} (h : MAt w A N M T) (he : ∀ i j, i < M → j < N → T i j = T' i j) : MAt w A N M T' := by
  intro h0
  obtain ⟨g, off, e, hg, hr⟩ := h h0
  refine ⟨g, off, e, hg, fun i hi => ?_⟩
  obtain ⟨b, o, c, h1, h2, h3⟩ := hr i hi
  exact ⟨b, o, c, h1, h2, fun j hj => by rw [← he i j hi hj]; exact h3 j hj⟩
def lenOf : Value → Nat
  | .slice _ n _ => n
  | _ => 0
/-- append of a whole slice. -/
theorem wpList_pushS {ops : Array Oper} {rest : List Oper} {o : Oper} {a : Act} {Q : Exit → Act → World → Prop} {w : World} (hgd : o.guard = none) (s x : Operand)
    (ho : o.op = .call { callee := .builtin .append, args := #[s, x], argTypes := #[30, 30] }) (base : Nat) (v : Value) (xs : List Int) (hs : a.eval s = v) (hown : OwnL w base v xs)
    (A : Option Addr) (ys : List Int) (hx : a.eval x = .slice A ys.length ys.length) (hc : IAt w A ys) (hlen : xs.length + ys.length ≤ 1099511627776) (hbase : base ≤ w.heap.size)
    (h : ∀ v' w', OwnL w' base v' (xs ++ ys) → Below base w w' → wpList Try.prog ops Q rest (a.put o.dst v') w') : wpList Try.prog ops Q (o :: rest) a w := by
  obtain ⟨i0, hi, hz0, hz1, hz2⟩ := info_parts Try.infoInt
  cases A with
  | none =>
    have hy : ys = [] := by
      cases ys with
      | nil => rfl
      | cons y ys =>
        obtain ⟨b, off, e, _⟩ := hc (by simp)
        cases e
    subst hy
    refine wpList_append_own_none hgd s x 30 ho base 3 i0 1 Try.underlying30 hi v xs.length _ hs hown hx ?_
    refine h v w ?_ (Below.refl _ _)
    rw [List.append_nil]; exact hown
  | some ad =>
    refine wpList_append_own _ hgd s x 30 ho base 3 i0 (.int .i64 0) 1 8 Try.underlying30 hi hz0 hz1 hz2 rfl (by decide) v xs.length _ hs hown ad ys.length ys.length (ys.map fun y => .int .i64 y) hx (by simp) ?_ ?_ ?_ ?_ hbase ?_
    · intro j u hj
      rw [List.getElem?_map] at hj
      cases hy : ys[j]? with
      | none => rw [hy] at hj; cases hj
      | some y =>
        rw [hy] at hj
        cases hj
        obtain ⟨b, off, e, _, hcc⟩ := hc (by have := (List.getElem?_eq_some_iff.1 hy).1; omega)
        cases e
        have q := hcc j y hy
        by_cases e0 : j = 0
        · subst e0; simpa [Addr.add] using q
        · simpa [Addr.add, e0] using q
    · intro u hu
      obtain ⟨y, _, rfl⟩ := List.mem_map.1 hu
      rfl
    · unfold maxLen; omega
    · omega
    · intro v' w' hown' hg _
      refine h v' w' ?_ ?_
      · unfold OwnL
        rw [List.length_append, List.map_append]
        exact hown'
      · refine (Below.refl base w).grown hg hbase (fun k hk => ?_)
        rcases hown.2 with ⟨rfl, _⟩ | ⟨g', cap, cur, rfl, hb', _⟩
        · cases hk
        · simp only [Value.ownBlock, Option.some.injEq] at hk; omega
/-- append of a whole slice, whatever its capacity. -/
theorem wpList_pushC {ops : Array Oper} {rest : List Oper} {o : Oper} {a : Act} {Q : Exit → Act → World → Prop} {w : World} (hgd : o.guard = none) (s x : Operand)
    (ho : o.op = .call { callee := .builtin .append, args := #[s, x], argTypes := #[30, 30] }) (base : Nat) (v : Value) (xs : List Int) (hs : a.eval s = v) (hown : OwnL w base v xs)
    (A : Option Addr) (c m : Nat) (ys : List Int) (hm : m = ys.length) (hx : a.eval x = .slice A m c) (hc : IAt w A ys) (h0 : A = none → c = 0) (hlen : xs.length + ys.length ≤ 1099511627776) (hbase : base ≤ w.heap.size)
    (h : ∀ v' w', OwnL w' base v' (xs ++ ys) → Below base w w' → wpList Try.prog ops Q rest (a.put o.dst v') w') : wpList Try.prog ops Q (o :: rest) a w := by
  subst hm
  obtain ⟨i0, hi, hz0, hz1, hz2⟩ := info_parts Try.infoInt
  cases A with
  | none =>
    have hy : ys = [] := by
      cases ys with
      | nil => rfl
      | cons y ys =>
        obtain ⟨b, off, e, _⟩ := hc (by simp)
        cases e
    subst hy
    obtain rfl := h0 rfl
    refine wpList_append_own_none hgd s x 30 ho base 3 i0 1 Try.underlying30 hi v xs.length _ hs hown hx ?_
    refine h v w ?_ (Below.refl _ _)
    rw [List.append_nil]; exact hown
  | some ad =>
    refine wpList_append_own _ hgd s x 30 ho base 3 i0 (.int .i64 0) 1 8 Try.underlying30 hi hz0 hz1 hz2 rfl (by decide) v xs.length _ hs hown ad ys.length c (ys.map fun y => .int .i64 y) hx (by simp) ?_ ?_ ?_ ?_ hbase ?_
    · intro j u hj
      rw [List.getElem?_map] at hj
      cases hy : ys[j]? with
      | none => rw [hy] at hj; cases hj
      | some y =>
        rw [hy] at hj
        cases hj
        obtain ⟨b, off, e, _, hcc⟩ := hc (by have := (List.getElem?_eq_some_iff.1 hy).1; omega)
        cases e
        have q := hcc j y hy
        by_cases e0 : j = 0
        · subst e0; simpa [Addr.add] using q
        · simpa [Addr.add, e0] using q
    · intro u hu
      obtain ⟨y, _, rfl⟩ := List.mem_map.1 hu
      rfl
    · unfold maxLen; omega
    · omega
    · intro v' w' hown' hg _
      refine h v' w' ?_ ?_
      · unfold OwnL
        rw [List.length_append, List.map_append]
        exact hown'
      · refine (Below.refl base w).grown hg hbase (fun k hk => ?_)
        rcases hown.2 with ⟨rfl, _⟩ | ⟨g', cap, cur, rfl, hb', _⟩
        · cases hk
        · simp only [Value.ownBlock, Option.some.injEq] at hk; omega
/-- Some times, and those of so many further points. -/
def extT (T : Tab) (ts : List Int) : Nat → List Int
  | 0 => ts
  | d + 1 => extT T ts d ++ [nextV T (extT T ts d)]
theorem extT_len (T : Tab) (ts : List Int) : ∀ d, (extT T ts d).length = ts.length + d
  | 0 => rfl
  | d + 1 => by
    show (extT T ts d ++ [nextV T (extT T ts d)]).length = _
    rw [List.length_append, extT_len T ts d, List.length_singleton]; omega
def endedL (n : Int) (bs : List Bd) (ts : List Int) : List Int := if startB n bs ts = true then extT (closedT n bs) ts (n.toNat - ts.length) else []
theorem startB_fit {n : Int} {bs : List Bd} {ts : List Int} (h : startB n bs ts = true) : fitsOk n bs = true ∧ (ts.length : Int) ≤ n := by
  simp only [startB, Bool.and_eq_true, decide_eq_true_eq] at h
  exact ⟨h.1.1.1, h.1.1.2⟩
theorem endedL_len (n : Int) (bs : List Bd) (ts : List Int) : (endedL n bs ts).length ≤ 6 := by
  unfold endedL
  split
  · rename_i h
    obtain ⟨h1, h2⟩ := startB_fit h
    have := planOk_of (fits_plan h1)
    rw [extT_len]; omega
  · simp
theorem nextV_low {T : Tab} {ts : List Int} (h : -100000 < lowG false T ts.length ts (-100000) ts.length) : nextV T ts = lowG false T ts.length ts (-100000) ts.length := if_pos (by omega)
theorem nextV_high {T : Tab} {ts : List Int} (h : ¬ -100000 < lowG false T ts.length ts (-100000) ts.length) (h2 : highG false T ts.length ts ts.length < 100000) : nextV T ts = highG false T ts.length ts ts.length := by
  have := lowG_ge (sk := false) (T := T) (p := ts.length) (ts := ts) (a := -100000) ts.length
  unfold nextV
  rw [if_neg (by omega), if_pos (by omega)]
theorem nextV_none {T : Tab} {ts : List Int} (h : ¬ -100000 < lowG false T ts.length ts (-100000) ts.length) (h2 : ¬ highG false T ts.length ts ts.length < 100000) : nextV T ts = 0 := by
  have := lowG_ge (sk := false) (T := T) (p := ts.length) (ts := ts) (a := -100000) ts.length
  have := highG_le (sk := false) (T := T) (p := ts.length) (ts := ts) ts.length
  unfold nextV
  rw [if_neg (by omega), if_neg (by omega)]
theorem nil_cap (w : World) (ts : List Int) (A' : Option Addr) (h' : IAt w A' ts) : A' = none → ts.length = 0 := fun e => by
  rcases Nat.eq_zero_or_pos ts.length with h | h
  · exact h
  · obtain ⟨b, off, e2, _⟩ := h' h; rw [e] at e2; cases e2
end Go.Proofs.Ytaifpindiphlkaa
