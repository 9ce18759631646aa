/- Contracts of impl.table.next and spec.l4Window: what points that have times let another point have. Contracts of StartOk, of the program and of the reference; for slices of at most 2^40 elements. Contracts of EndedFrom and TimesFor, of the program and of the reference; for slices of at most 2^40 elements. -/
import Derived.Test.YtaifpindiphlkacKE
import Derived.Deep.QuietTactic
import Derived.BigQuiet
import Derived.Test.YtaifpindiphlkacKF
import Derived.Test.YtaifpindiphlkacKB
import Derived.Laws.AppendOwnNone
namespace Go.Proofs.Ytaifpindiphlkac
open Go.RowKit
set_option linter.unusedVariables false
set_option maxRecDepth 10000
set_option linter.unusedSimpArgs false

/-- The greater of two numbers. -/
def mx (a b : Int) : Int := if a < b then b else a
/-- The number at a place of a list. -/
def nthI (ts : List Int) (i : Nat) : Int := ts.getD i 0
theorem nthI_of {ts : List Int} {i : Nat} {x : Int} (h : ts[i]? = some x) : nthI ts i = x := by simp [nthI, List.getD, h]
/-- Does a point tell nothing (it is not done, or there is no bound)? -/
def still (sk : Bool) (x d : Int) : Bool := (sk && decide (x = -1)) || decide (d = 100000)
def lowG (sk : Bool) (T : Tab) (p : Nat) (ts : List Int) (a : Int) : Nat → Int
  | 0 => a
  | k + 1 => if still sk (nthI ts k) (T p k) = true then lowG sk T p ts a k else mx (lowG sk T p ts a k) (wrap64 (nthI ts k - T p k))
def highG (sk : Bool) (T : Tab) (p : Nat) (ts : List Int) : Nat → Int
  | 0 => 100000
  | k + 1 => if still sk (nthI ts k) (T k p) = true then highG sk T p ts k else mn (highG sk T p ts k) (wrap64 (nthI ts k + T k p))
theorem lowG_same {sk : Bool} {T T' : Tab} {p : Nat} {ts : List Int} {a : Int} : ∀ k, (∀ i, i < k → T p i = T' p i) → lowG sk T p ts a k = lowG sk T' p ts a k
  | 0, _ => rfl
  | k + 1, h => by
    have e := h k (Nat.lt_succ_self k)
    have ih := lowG_same (sk := sk) (ts := ts) (a := a) k (fun i hi => h i (by omega))
    show (if _ then _ else _) = (if _ then _ else _)
    rw [e, ih]
theorem highG_same {sk : Bool} {T T' : Tab} {p : Nat} {ts : List Int} : ∀ k, (∀ i, i < k → T i p = T' i p) → highG sk T p ts k = highG sk T' p ts k
  | 0, _ => rfl
  | k + 1, h => by
    have e := h k (Nat.lt_succ_self k)
    have ih := highG_same (sk := sk) (ts := ts) k (fun i hi => h i (by omega))
    show (if _ then _ else _) = (if _ then _ else _)
    rw [e, ih]
theorem lowG_still {sk : Bool} {T : Tab} {p : Nat} {ts : List Int} {a : Int} {k : Nat} {x : Int} (hx : nthI ts k = x) (h : still sk x (T p k) = true) : lowG sk T p ts a (k + 1) = lowG sk T p ts a k := by
  show (if _ then _ else _) = _; rw [hx, if_pos h]
theorem lowG_step {sk : Bool} {T : Tab} {p : Nat} {ts : List Int} {a : Int} {k : Nat} {x : Int} (hx : nthI ts k = x) (h : still sk x (T p k) = false) : lowG sk T p ts a (k + 1) = mx (lowG sk T p ts a k) (wrap64 (x - T p k)) := by
  show (if _ then _ else _) = _; rw [hx, if_neg (by rw [h]; simp)]
theorem highG_still {sk : Bool} {T : Tab} {p : Nat} {ts : List Int} {k : Nat} {x : Int} (hx : nthI ts k = x) (h : still sk x (T k p) = true) : highG sk T p ts (k + 1) = highG sk T p ts k := by
  show (if _ then _ else _) = _; rw [hx, if_pos h]
theorem highG_step {sk : Bool} {T : Tab} {p : Nat} {ts : List Int} {k : Nat} {x : Int} (hx : nthI ts k = x) (h : still sk x (T k p) = false) : highG sk T p ts (k + 1) = mn (highG sk T p ts k) (wrap64 (x + T k p)) := by
  show (if _ then _ else _) = _; rw [hx, if_neg (by rw [h]; simp)]
theorem lowG_ge {sk : Bool} {T : Tab} {p : Nat} {ts : List Int} {a : Int} : ∀ k, a ≤ lowG sk T p ts a k
  | 0 => Int.le_refl _
  | k + 1 => by
    have ih := lowG_ge (sk := sk) (T := T) (p := p) (ts := ts) (a := a) k
    show a ≤ (if _ then _ else _)
    split
    · exact ih
    · unfold mx; split <;> omega
theorem highG_le {sk : Bool} {T : Tab} {p : Nat} {ts : List Int} : ∀ k, highG sk T p ts k ≤ 100000
  | 0 => Int.le_refl _
  | k + 1 => by
    have ih := highG_le (sk := sk) (T := T) (p := p) (ts := ts) k
    show (if _ then _ else _) ≤ _
    split
    · exact ih
    · exact Int.le_trans (mn_le _ _) ih
/-- The time of the next point. -/
def nextV (T : Tab) (ts : List Int) : Int :=
  if lowG false T ts.length ts (-100000) ts.length ≠ -100000 then lowG false T ts.length ts (-100000) ts.length
  else if highG false T ts.length ts ts.length ≠ 100000 then highG false T ts.length ts ts.length else 0
set_option maxHeartbeats 4000000 in
theorem l4Window_any (A A' : Option Addr) (c c' N p : Nat) (T : Tab) (ts : List Int) (w : World) (h : MAt w A N N T) (h' : IAt w A' ts) (hp : p < N) (hl : ts.length ≤ N) (hN : N ≤ 1000) (hT : ∀ i j, i < N → j < N → T i j ≤ 100000) :
    Calls Try.prog 44 #[.slice A N c, .slice A' ts.length c', .int .i64 p] w fun e w' => e = .returned (.tuple #[.int .i64 (lowG false T p ts (-100000) ts.length), .int .i64 (highG false T p ts ts.length)]) ∧ Below w.heap.size w w' := by
  have H0 := Lib.hid h
  have H1 := Lib.hid h'
  have HT := Lib.hid hT
  clear h h' hT
  go_enter Try.func44, Try.ntmps44
  go_wp2
  go_loopw [8, 9, 10] (fun lo hi k W => ∃ kk : Nat, kk ≤ ts.length ∧ k = .int .i64 kk ∧ lo = .int .i64 (lowG false T p ts (-100000) kk) ∧ hi = .int .i64 (highG false T p ts kk) ∧ Below w.heap.size w W) (fun _ _ k _ => ts.length - (intOf k).toNat)
  case atStart => exact ⟨0, Nat.zero_le _, rfl, rfl, rfl, Below.refl _ _⟩
  case round =>
    obtain ⟨k, hk, rfl, rfl, rfl, hb⟩ := hrel
    by_cases hlt : k < ts.length
    · obtain ⟨bx, ox, x, rfl, hbx, hx, hxm, cx⟩ := (H1.out.below hb).at_ hlt
      obtain ⟨g, off, b1, o1, cc1, rfl, hg, r1, hbl1, q1⟩ := (H0.out.below hb).at_ hp
      obtain ⟨g2, off2, b2, o2, cc2, e', hg2, r2, hbl2, q2⟩ := (H0.out.below hb).at_ (show k < N by omega)
      cases e'
      have X1 := Lib.hid (nthI_of hx)
      have p1 := q1 k (by omega)
      have p2 := q2 p hp
      clear hx hxm q1 q2
      have L1 := Lib.hid (fun hh => lowG_still (sk := false) (T := T) (p := p) (a := -100000) X1.out hh)
      have L2 := Lib.hid (fun hh => lowG_step (sk := false) (T := T) (p := p) (a := -100000) X1.out hh)
      have U1 := Lib.hid (fun hh => highG_still (sk := false) (T := T) (p := p) X1.out hh)
      have U2 := Lib.hid (fun hh => highG_step (sk := false) (T := T) (p := p) X1.out hh)
      have B1 := Lib.hid (HT.out p k hp (by omega))
      have B2 := Lib.hid (HT.out k p (by omega) hp)
      generalize lowG false T p ts (-100000) k = lo at *
      generalize highG false T p ts k = hi at *
      generalize hd1 : T p k = d1 at *
      generalize hd2 : T k p = d2 at *
      clear hd1 hd2
      have EW1 : IntKind.i64.wrap (x - d1) = wrap64 (x - d1) := IntWalk.i64_left _
      have EW2 : IntKind.i64.wrap (x + d2) = wrap64 (x + d2) := IntWalk.i64_left _
      by_cases s1 : d1 = 100000
      · have E1 := Lib.hid (L1.out (by simp [still, s1]))
        by_cases s2 : d2 = 100000
        · have E2 := Lib.hid (U1.out (by simp [still, s2]))
          go_wp2
          go_roundw
          case rel => exact ⟨k + 1, by omega, by go_num, by rw [E1.out], by rw [E2.out], hb⟩
          case measure => simp [intOf]; omega
        · have E2 := Lib.hid (U2.out (by simp [still, s2]))
          have s2' : d2 < 100000 := by have := B2.out; omega
          go_wp2
          go_quiet (fail)
          go_wp2
          go_roundw
          case rel => exact ⟨k + 1, by omega, by go_num, by rw [E1.out], by rw [E2.out]; rfl, vdrewN hb _⟩
          case measure => simp [intOf]; omega
      · have E1 := Lib.hid (L2.out (by simp [still, s1]))
        have s1' : d1 < 100000 := by have := B1.out; omega
        by_cases s2 : d2 = 100000
        · have E2 := Lib.hid (U1.out (by simp [still, s2]))
          go_wp2
          go_quiet (fail)
          go_wp2
          go_roundw
          case rel => exact ⟨k + 1, by omega, by go_num, by rw [E1.out]; rfl, by rw [E2.out], vdrewN hb _⟩
          case measure => simp [intOf]; omega
        · have E2 := Lib.hid (U2.out (by simp [still, s2]))
          have s2' : d2 < 100000 := by have := B2.out; omega
          by_cases s3 : lo < wrap64 (x - d1)
          · have M1 := Lib.hid (show mx lo (wrap64 (x - d1)) = wrap64 (x - d1) from if_pos s3)
            go_wp2
            go_quiet (fail)
            go_wp2
            go_quiet (fail)
            go_wp2
            go_roundw
            case rel => exact ⟨k + 1, by omega, by go_num, by rw [E1.out, M1.out], by rw [E2.out]; rfl, vdrewN hb _⟩
            case measure => simp [intOf]; omega
          · have M1 := Lib.hid (show mx lo (wrap64 (x - d1)) = lo from if_neg s3)
            go_wp2
            go_quiet (fail)
            go_wp2
            go_quiet (fail)
            go_wp2
            go_roundw
            case rel => exact ⟨k + 1, by omega, by go_num, by rw [E1.out, M1.out], by rw [E2.out]; rfl, vdrewN hb _⟩
            case measure => simp [intOf]; omega
    · obtain rfl : ts.length = k := by omega
      go_wp2
      go_ret2
      exact ⟨rfl, hb⟩
set_option maxHeartbeats 4000000 in
theorem next_any (A A' : Option Addr) (c c' N : Nat) (T : Tab) (ts : List Int) (w : World) (h : MAt w A N N T) (h' : IAt w A' ts) (hl : ts.length < N) (hN : N ≤ 1000) :
    Calls Try.prog 46 #[.slice A N c, .slice A' ts.length c'] w fun e w' => e = .returned (.int .i64 (nextV T ts)) ∧ Below w.heap.size w w' := by
  have H0 := Lib.hid h
  have H1 := Lib.hid h'
  clear h h'
  go_enter Try.func46, Try.ntmps46
  go_wp2
  go_loopw [6, 7, 14] (fun lo hi k W => ∃ kk : Nat, kk ≤ ts.length ∧ k = .int .i64 kk ∧ lo = .int .i64 (lowG false T ts.length ts (-100000) kk) ∧ hi = .int .i64 (highG false T ts.length ts kk) ∧ Below w.heap.size w W) (fun _ _ k _ => ts.length - (intOf k).toNat)
  case atStart => exact ⟨0, Nat.zero_le _, rfl, rfl, rfl, Below.refl _ _⟩
  case round =>
    obtain ⟨k, hk, rfl, rfl, rfl, hb⟩ := hrel
    by_cases hlt : k < ts.length
    · obtain ⟨bx, ox, x, rfl, hbx, hx, hxm, cx⟩ := (H1.out.below hb).at_ hlt
      obtain ⟨g, off, b1, o1, cc1, rfl, hg, r1, hbl1, q1⟩ := (H0.out.below hb).at_ hl
      obtain ⟨g2, off2, b2, o2, cc2, e', hg2, r2, hbl2, q2⟩ := (H0.out.below hb).at_ (show k < N by omega)
      cases e'
      have X1 := Lib.hid (nthI_of hx)
      have p1 := q1 k (by omega)
      have p2 := q2 ts.length hl
      clear hx hxm q1 q2
      have L1 := Lib.hid (fun hh => lowG_still (sk := false) (T := T) (p := ts.length) (a := -100000) X1.out hh)
      have L2 := Lib.hid (fun hh => lowG_step (sk := false) (T := T) (p := ts.length) (a := -100000) X1.out hh)
      have U1 := Lib.hid (fun hh => highG_still (sk := false) (T := T) (p := ts.length) X1.out hh)
      have U2 := Lib.hid (fun hh => highG_step (sk := false) (T := T) (p := ts.length) X1.out hh)
      generalize lowG false T ts.length ts (-100000) k = lo at *
      generalize highG false T ts.length ts k = hi at *
      generalize hd1 : T ts.length k = d1 at *
      generalize hd2 : T k ts.length = d2 at *
      clear hd1 hd2
      have EW1 : IntKind.i64.wrap (x - d1) = wrap64 (x - d1) := IntWalk.i64_left _
      have EW2 : IntKind.i64.wrap (x + d2) = wrap64 (x + d2) := IntWalk.i64_left _
      by_cases s1 : d1 = 100000
      · have E1 := Lib.hid (L1.out (by simp [still, s1]))
        have s1' : (d1 != 100000) = false := by simp [s1]
        by_cases s2 : d2 = 100000
        · have E2 := Lib.hid (U1.out (by simp [still, s2]))
          have s2' : (d2 != 100000) = false := by simp [s2]
          clear s1 s2
          go_wp2
          go_roundw
          case rel => exact ⟨k + 1, by omega, by go_num, by rw [E1.out], by rw [E2.out], hb⟩
          case measure => simp [intOf]; omega
        · have E2 := Lib.hid (U2.out (by simp [still, s2]))
          have s2' : (d2 != 100000) = true := by simpa using s2
          clear s1 s2
          go_wp2
          go_roundw
          case rel => exact ⟨k + 1, by omega, by go_num, by rw [E1.out], by rw [E2.out]; rfl, hb⟩
          case measure => simp [intOf]; omega
      · have E1 := Lib.hid (L2.out (by simp [still, s1]))
        have s1' : (d1 != 100000) = true := by simpa using s1
        by_cases s2 : d2 = 100000
        · have E2 := Lib.hid (U1.out (by simp [still, s2]))
          have s2' : (d2 != 100000) = false := by simp [s2]
          clear s1 s2
          go_wp2
          go_roundw
          case rel => exact ⟨k + 1, by omega, by go_num, by rw [E1.out]; rfl, by rw [E2.out], hb⟩
          case measure => simp [intOf]; omega
        · have E2 := Lib.hid (U2.out (by simp [still, s2]))
          have s2' : (d2 != 100000) = true := by simpa using s2
          clear s1 s2
          by_cases s3 : lo < wrap64 (x - d1)
          · have M1 := Lib.hid (show mx lo (wrap64 (x - d1)) = wrap64 (x - d1) from if_pos s3)
            go_wp2
            go_roundw
            case rel => exact ⟨k + 1, by omega, by go_num, by rw [E1.out, M1.out], by rw [E2.out]; rfl, hb⟩
            case measure => simp [intOf]; omega
          · have M1 := Lib.hid (show mx lo (wrap64 (x - d1)) = lo from if_neg s3)
            go_wp2
            go_roundw
            case rel => exact ⟨k + 1, by omega, by go_num, by rw [E1.out, M1.out], by rw [E2.out]; rfl, hb⟩
            case measure => simp [intOf]; omega
    · obtain rfl : ts.length = k := by omega
      have HV := Lib.hid (show nextV T ts = (if lowG false T ts.length ts (-100000) ts.length ≠ -100000 then lowG false T ts.length ts (-100000) ts.length else if highG false T ts.length ts ts.length ≠ 100000 then highG false T ts.length ts ts.length else 0) from rfl)
      generalize lowG false T ts.length ts (-100000) ts.length = lo at *
      generalize highG false T ts.length ts ts.length = hi at *
      by_cases s1 : lo = -100000
      · have s1' : (lo != -100000) = false := by simp [s1]
        by_cases s2 : hi = 100000
        · have HR := Lib.hid (show nextV T ts = 0 by rw [HV.out]; simp [s1, s2])
          have s2' : (hi != 100000) = false := by simp [s2]
          clear s1 s2
          go_wp2
          go_ret
          exact ⟨ret_int HR.out.symm, hb⟩
        · have HR := Lib.hid (show nextV T ts = hi by rw [HV.out]; simp [s1, s2])
          have s2' : (hi != 100000) = true := by simpa using s2
          clear s1 s2
          go_wp2
          go_ret
          exact ⟨ret_int HR.out.symm, hb⟩
      · have HR := Lib.hid (show nextV T ts = lo by rw [HV.out]; simp [s1])
        have s1' : (lo != -100000) = true := by simpa using s1
        clear s1
        go_wp2
        go_ret
        exact ⟨ret_int HR.out.symm, hb⟩
end Go.Proofs.Ytaifpindiphlkac
namespace Go.Proofs.Ytaifpindiphlkac
open Go.RowKit
set_option linter.unusedVariables false
set_option maxRecDepth 10000
set_option linter.unusedSimpArgs false

/-- The number at a place of a list. -/
def nth (ts : List Int) (i : Nat) : Int := ts.getD i 0
theorem nth_of {ts : List Int} {i : Nat} {x : Int} (h : ts[i]? = some x) : nth ts i = x := by simp [nth, List.getD, h]
theorem nth_in {ts : List Int} {i : Nat} {x : Int} {lo hi : Int} (h : ∀ x ∈ ts, lo ≤ x ∧ x ≤ hi) (hx : ts[i]? = some x) : lo ≤ x ∧ x ≤ hi := h x (List.mem_of_getElem? hx)
theorem nth_mem {ts : List Int} {lo hi : Int} (h : ∀ x ∈ ts, lo ≤ x ∧ x ≤ hi) {i : Nat} (hi' : i < ts.length) : lo ≤ nth ts i ∧ nth ts i ≤ hi := by
  have e : ts[i]? = some ts[i] := List.getElem?_eq_getElem hi'
  rw [nth_of e]; exact nth_in h e
/-- Do some times keep what a table says of them? -/
def prs (ts : List Int) (T : Tab) : Bool := (List.range ts.length).all fun i => (List.range ts.length).all fun j => decide (nth ts j - nth ts i ≤ T i j)
theorem prs_iff (ts : List Int) (T : Tab) : prs ts T = true ↔ ∀ i, i < ts.length → ∀ j, j < ts.length → nth ts j - nth ts i ≤ T i j := by simp [prs]
def startB (n : Int) (bs : List Bd) (ts : List Int) : Bool := fitsOk n bs && decide ((ts.length : Int) ≤ n) && allB ts (-99) 99 && prs ts (closedT n bs)
theorem startB_no {n : Int} {bs : List Bd} {ts : List Int} (h : fitsOk n bs = false ∨ n < ts.length ∨ allB ts (-99) 99 = false) : startB n bs ts = false := by
  rcases h with h | h | h
  · simp [startB, h]
  · have : decide ((ts.length : Int) ≤ n) = false := by simpa using h
    simp [startB, this]
  · simp [startB, h]
section
variable {N : Nat} {bs : List Bd} {ts : List Int} (hfit : fitsOk N bs = true) (hl : ts.length ≤ N)
include hfit hl
theorem startB_eq (hall : allB ts (-99) 99 = true) : startB N bs ts = prs ts (closedT N bs) := by
  simp [startB, hfit, hall, hl]
omit hl in
theorem diag0 (i : Nat) (hi : i < N) : 0 ≤ closedT N bs i i := by
  have hd : diagOk N (closedT N bs) = true := by simp only [fitsOk, Bool.and_eq_true] at hfit; exact hfit.2
  unfold diagOk at hd; rw [decide_eq_true_iff] at hd; exact hd i hi
/-- mayBe of two times, told in full. -/
theorem betw_iff (hall : allB ts (-99) 99 = true) {i k : Nat} (hi : i < ts.length) (hk : k < ts.length) : betw (closedT N bs) k i (nth ts i - nth ts k) = true ↔ nth ts i - nth ts k ≤ closedT N bs k i ∧ nth ts k - nth ts i ≤ closedT N bs i k := by
  have h1 := nth_mem ((allB_iff _ _ _).1 hall) hi
  have h2 := nth_mem ((allB_iff _ _ _).1 hall) hk
  have b1 := closed_bound hfit k i (by omega) (by omega)
  have b2 := closed_bound hfit i k (by omega) (by omega)
  unfold betw
  rw [IntWalk.wrap64_in _ (by omega)]
  simp only [Bool.and_eq_true, Bool.or_eq_true, decide_eq_true_eq]
  omega
theorem startB_bad (hall : allB ts (-99) 99 = true) {i k : Nat} (hi : i < ts.length) (hk : k < ts.length) (h : betw (closedT N bs) k i (nth ts i - nth ts k) = false) : startB N bs ts = false := by
  rw [startB_eq hfit hl hall, ← Bool.not_eq_true, prs_iff]
  intro hh
  have : betw (closedT N bs) k i (nth ts i - nth ts k) = true := (betw_iff hfit hl hall hi hk).2 ⟨hh k hk i hi, hh i hi k hk⟩
  rw [h] at this; cases this
theorem startB_good (hall : allB ts (-99) 99 = true) (h : ∀ i, i < ts.length → ∀ k, k < i → betw (closedT N bs) k i (nth ts i - nth ts k) = true) : startB N bs ts = true := by
  rw [startB_eq hfit hl hall, prs_iff]
  intro i hi j hj
  rcases Nat.lt_trichotomy i j with c | c | c
  · exact ((betw_iff hfit hl hall hj hi).1 (h j hj i c)).1
  · subst c
    have := diag0 hfit i (by omega)
    omega
  · exact ((betw_iff hfit hl hall hi hj).1 (h i hi j c)).2
theorem startB_badS {i j : Nat} (hi : i < ts.length) (hj : j < ts.length) (h : closedT N bs i j < wrap64 (nth ts j - nth ts i)) : startB N bs ts = false := by
  cases hall : allB ts (-99) 99
  · exact startB_no (Or.inr (Or.inr hall))
  · have h1 := nth_mem ((allB_iff _ _ _).1 hall) hi
    have h2 := nth_mem ((allB_iff _ _ _).1 hall) hj
    rw [IntWalk.wrap64_in _ (by omega)] at h
    rw [startB_eq hfit hl hall, ← Bool.not_eq_true, prs_iff]
    intro hh
    have := hh i hi j hj
    omega
theorem startB_goodS (hin : ∀ i, i < ts.length → inB (nth ts i) (-99) 99 = true) (h : ∀ i, i < ts.length → ∀ j, j < ts.length → wrap64 (nth ts j - nth ts i) ≤ closedT N bs i j) : startB N bs ts = true := by
  have hall : allB ts (-99) 99 = true := by
    rw [allB_iff]
    intro x hx
    obtain ⟨i, hi, e⟩ := List.getElem_of_mem hx
    have := (inB_iff _ _ _).1 (hin i hi)
    rw [nth_of (List.getElem?_eq_getElem hi), e] at this
    exact this
  rw [startB_eq hfit hl hall, prs_iff]
  intro i hi j hj
  have h1 := nth_mem ((allB_iff _ _ _).1 hall) hi
  have h2 := nth_mem ((allB_iff _ _ _).1 hall) hj
  have := h i hi j hj
  rw [IntWalk.wrap64_in _ (by omega)] at this
  exact this
end
theorem startB_out {n : Int} {bs : List Bd} {ts : List Int} {i : Nat} {x : Int} (hx : ts[i]? = some x) (h : inB x (-99) 99 = false) : startB n bs ts = false := by
  refine startB_no (Or.inr (Or.inr ?_))
  rw [← Bool.not_eq_true, allB_iff]
  intro hh
  have := hh x (List.mem_of_getElem? hx)
  rw [(inB_iff _ _ _).2 this] at h; cases h
set_option maxHeartbeats 4000000 in
theorem startOk_cap (n : Int) (A A' : Option Addr) (c c' : Nat) (bs : List Bd) (ts : List Int) (w : World) (h : BAt w A bs) (h' : IAt w A' ts) (hcap : ts.length ≤ c') (hlen : bs.length ≤ 1099511627776) (hlen' : ts.length ≤ 1099511627776) :
    Calls Try.prog 45 #[.agg #[.int .i64 n, .slice A bs.length c], .slice A' ts.length c'] w fun e w' => e = .returned (.bool (startB n bs ts)) ∧ Below w.heap.size w w' := by
  cases hfit : fitsOk n bs
  · have HR := Lib.hid (startB_no (n := n) (bs := bs) (ts := ts) (Or.inl hfit))
    go_enter Try.func45, Try.ntmps45
    go_wp2_with fail
    refine (closed_no _ _ _ bs _ (h.below (by repeat (first | with_reducible exact Below.refl _ _ | with_reducible refine valloc ?_ _ | with_reducible refine vdrew ?_ | with_reducible refine vdrewN ?_ _ | with_reducible refine via (by assumption) ?_ | refine vset ?_ (by first | exact Nat.le_refl _ | (simp; done) | (simp; omega) | omega) _))) hlen hfit).mono ?_; rintro e w1 ⟨rfl, hbw1⟩
    go_wp2
    go_ret
    refine ⟨ret_bool HR.out.symm, ?_⟩
    repeat (first | with_reducible exact Below.refl _ _ | with_reducible refine valloc ?_ _ | with_reducible refine vdrew ?_ | with_reducible refine vdrewN ?_ _ | with_reducible refine via (by assumption) ?_ | refine vset ?_ (by first | exact Nat.le_refl _ | (simp; done) | (simp; omega) | omega) _)
  · obtain ⟨N, rfl⟩ := Int.eq_ofNat_of_zero_le (show 0 ≤ n by have := planOk_of (fits_plan hfit); omega)
    obtain ⟨h1, h6, _, _⟩ := planOk_of (fits_plan hfit)
    by_cases hl : (N : Int) < ts.length
    · have HR := Lib.hid (startB_no (n := N) (bs := bs) (ts := ts) (Or.inr (Or.inl hl)))
      go_enter Try.func45, Try.ntmps45
      go_wp2_with fail
      refine (closed_yes _ _ _ bs _ (h.below (by repeat (first | with_reducible exact Below.refl _ _ | with_reducible refine valloc ?_ _ | with_reducible refine vdrew ?_ | with_reducible refine vdrewN ?_ _ | with_reducible refine via (by assumption) ?_ | refine vset ?_ (by first | exact Nat.le_refl _ | (simp; done) | (simp; omega) | omega) _))) hlen hfit).mono ?_; rintro e w1 ⟨g, N', R, hN', hN1, hN6, rfl, hG, hbw1⟩; obtain ⟨hcw1, hfw1⟩ := bcell hbw1; have hzw1 := hbw1.size; (try simp only [sz] at hzw1); (try simp only [szc] at hzw1); have hzw1_0 : w.heap.size < w1.heap.size := (by omega)
      obtain rfl : N = N' := by omega
      go_wp2
      go_ret
      refine ⟨ret_bool HR.out.symm, ?_⟩
      repeat (first | with_reducible exact Below.refl _ _ | with_reducible refine valloc ?_ _ | with_reducible refine vdrew ?_ | with_reducible refine vdrewN ?_ _ | with_reducible refine via (by assumption) ?_ | refine vset ?_ (by first | exact Nat.le_refl _ | (simp; done) | (simp; omega) | omega) _)
    · have hl' : ts.length ≤ N := by omega
      cases hall : allB ts (-99) 99
      · have HR := Lib.hid (startB_no (n := N) (bs := bs) (ts := ts) (Or.inr (Or.inr hall)))
        go_enter Try.func45, Try.ntmps45
        go_wp2_with fail
        refine (closed_yes _ _ _ bs _ (h.below (by repeat (first | with_reducible exact Below.refl _ _ | with_reducible refine valloc ?_ _ | with_reducible refine vdrew ?_ | with_reducible refine vdrewN ?_ _ | with_reducible refine via (by assumption) ?_ | refine vset ?_ (by first | exact Nat.le_refl _ | (simp; done) | (simp; omega) | omega) _))) hlen hfit).mono ?_; rintro e w1 ⟨g, N', R, hN', hN1, hN6, rfl, hG, hbw1⟩; obtain ⟨hcw1, hfw1⟩ := bcell hbw1; have hzw1 := hbw1.size; (try simp only [sz] at hzw1); (try simp only [szc] at hzw1); have hzw1_0 : w.heap.size < w1.heap.size := (by omega)
        obtain rfl : N = N' := by omega
        go_wp2_with fail
        refine (allIn_any _ _ ts _ _ _ (h'.below (by repeat (first | with_reducible exact Below.refl _ _ | with_reducible refine valloc ?_ _ | with_reducible refine vdrew ?_ | with_reducible refine vdrewN ?_ _ | with_reducible refine via (by assumption) ?_ | refine vset ?_ (by first | exact Nat.le_refl _ | (simp; done) | (simp; omega) | omega) _))) hlen').mono ?_; rintro e w2 ⟨rfl, hbw2⟩
        go_wp2
        go_ret
        refine ⟨ret_bool HR.out.symm, ?_⟩
        repeat (first | with_reducible exact Below.refl _ _ | with_reducible refine valloc ?_ _ | with_reducible refine vdrew ?_ | with_reducible refine vdrewN ?_ _ | with_reducible refine via (by assumption) ?_ | refine vset ?_ (by first | exact Nat.le_refl _ | (simp; done) | (simp; omega) | omega) _)
      · have BAD := Lib.hid (fun (i k : Nat) => startB_bad (i := i) (k := k) hfit hl' hall)
        have GOOD := Lib.hid (startB_good hfit hl' hall)
        have HIN := Lib.hid ((allB_iff _ _ _).1 hall)
        have hNT : decide (N < ts.length) = false := by simp; omega
        have hNT2 : decide ((N : Int) < ts.length) = false := by simp; omega
        go_enter Try.func45, Try.ntmps45
        go_wp2_with fail
        refine (closed_yes _ _ _ bs _ (h.below (by repeat (first | with_reducible exact Below.refl _ _ | with_reducible refine valloc ?_ _ | with_reducible refine vdrew ?_ | with_reducible refine vdrewN ?_ _ | with_reducible refine via (by assumption) ?_ | refine vset ?_ (by first | exact Nat.le_refl _ | (simp; done) | (simp; omega) | omega) _))) hlen hfit).mono ?_; rintro e w1 ⟨g, N', R, hN', hN1, hN6, rfl, hG, hbw1⟩; obtain ⟨hcw1, hfw1⟩ := bcell hbw1; have hzw1 := hbw1.size; (try simp only [sz] at hzw1); (try simp only [szc] at hzw1); have hzw1_0 : w.heap.size < w1.heap.size := (by omega)
        obtain rfl : N = N' := by omega
        have HM := Lib.hid hG.mat
        clear hG
        go_wp2_with fail
        refine (allIn_any _ _ ts _ _ _ (h'.below (by repeat (first | with_reducible exact Below.refl _ _ | with_reducible refine valloc ?_ _ | with_reducible refine vdrew ?_ | with_reducible refine vdrewN ?_ _ | with_reducible refine via (by assumption) ?_ | refine vset ?_ (by first | exact Nat.le_refl _ | (simp; done) | (simp; omega) | omega) _))) hlen').mono ?_; rintro e w2 ⟨rfl, hbw2⟩
        have HM2 := Lib.hid (HM.out.below hbw2)
        have BB : Below w.heap.size w w2 := (by repeat (first | with_reducible exact Below.refl _ _ | with_reducible refine valloc ?_ _ | with_reducible refine vdrew ?_ | with_reducible refine vdrewN ?_ _ | with_reducible refine via (by assumption) ?_ | refine vset ?_ (by first | exact Nat.le_refl _ | (simp; done) | (simp; omega) | omega) _))
        have HI := Lib.hid (h'.below BB)
        clear HM
        generalize closedT N bs = T at *
        go_wp2
        go_loopw [32] (fun i W => ∃ ii : Nat, ii ≤ ts.length ∧ i = .int .i64 ii ∧ (∀ a, a < ii → ∀ b, b < a → betw T b a (nth ts a - nth ts b) = true) ∧ Below w2.heap.size w2 W) (fun i _ => ts.length - (intOf i).toNat)
        case atStart => exact ⟨0, Nat.zero_le _, rfl, fun a ha => absurd ha (Nat.not_lt_zero _), Below.refl _ _⟩
        case round =>
          obtain ⟨i, hi, rfl, hok, hb⟩ := hrel
          have HOK := Lib.hid hok
          clear hok
          by_cases hlt : i < ts.length
          · obtain ⟨w3, hw3⟩ : ∃ w3 : World, w3 = wr := ⟨_, rfl⟩
            subst hw3
            obtain ⟨b, off, x, rfl, hbl, hx, hxm, c0⟩ := (HI.out.below hb).at_ hlt
            have X1 := Lib.hid (nth_of hx)
            have hxi := HIN.out x hxm
            have HI3 := Lib.hid (HI.out.below hb)
            have HM3 := Lib.hid (HM2.out.below hb)
            clear hx hxm
            go_wp2
            go_loopw [41] (fun k W => ∃ kk : Nat, kk ≤ i ∧ k = .int .i64 kk ∧ (∀ b, b < kk → betw T b i (nth ts i - nth ts b) = true) ∧ Below w3.heap.size w3 W) (fun k _ => i - (intOf k).toNat)
            case atStart => exact ⟨0, Nat.zero_le _, rfl, fun a ha => absurd ha (Nat.not_lt_zero _), Below.refl _ _⟩
            case round =>
              obtain ⟨k, hk, rfl, hok2, hb2⟩ := hrel
              have HOK2 := Lib.hid hok2
              clear hok2
              by_cases hlt2 : k < i
              · obtain ⟨b', off', y, e', hbl', hy, hym, c1⟩ := (HI3.out.below hb2).at_ (k := k) (by omega)
                cases e'
                have Y1 := Lib.hid (nth_of hy)
                have hyi := HIN.out y hym
                clear hy hym
                have EB := Lib.hid (show betw T k i (nth ts i - nth ts k) = betw T k i (x - y) by rw [X1.out, Y1.out])
                cases hbt : betw T k i (x - y)
                · have HR := Lib.hid (show startB N bs ts = false from BAD.out i k hlt (by omega) (by rw [EB.out]; exact hbt))
                  go_wp2_with (go_at_call 58; refine (mayBe_any _ N k i _ T _ _ (HM3.out.below hb2) (by omega) (by omega)).mono ?_; rintro e w5 ⟨rfl, hbw5⟩)
                  go_ret
                  exact ⟨ret_bool HR.out.symm, via hbw5 ((BB.trans (hb.mono BB.size)).trans (hb2.mono (BB.trans (hb.mono BB.size)).size))⟩
                · go_wp2_with (go_at_call 58; refine (mayBe_any _ N k i _ T _ _ (HM3.out.below hb2) (by omega) (by omega)).mono ?_; rintro e w5 ⟨rfl, hbw5⟩)
                  go_roundw
                  case rel => exact ⟨k + 1, by omega, by go_num, fun b hb' => by
                    by_cases e : b = k
                    · rw [e, EB.out]; exact hbt
                    · exact HOK2.out b (by omega), via hbw5 hb2⟩
                  case measure => simp [intOf]; omega
              · obtain rfl : k = i := by omega
                go_wp2
                go_roundw
                case rel => exact ⟨k + 1, by omega, by go_num, fun a ha => by
                  by_cases e : a = k
                  · rw [e]; exact HOK2.out
                  · exact HOK.out a (by omega), hb.trans (hb2.mono hb.size)⟩
                case measure => simp [intOf]; omega
          · obtain rfl : ts.length = i := by omega
            have HR := Lib.hid (show startB N bs ts = true from GOOD.out HOK.out)
            go_wp2
            go_ret
            exact ⟨ret_bool HR.out.symm, BB.trans (hb.mono BB.size)⟩
theorem startOk_any (n : Int) (A A' : Option Addr) (c : Nat) (bs : List Bd) (ts : List Int) (w : World) (h : BAt w A bs) (h' : IAt w A' ts) (hlen : bs.length ≤ 1099511627776) (hlen' : ts.length ≤ 1099511627776) :
    Calls Try.prog 45 #[.agg #[.int .i64 n, .slice A bs.length c], .slice A' ts.length ts.length] w fun e w' => e = .returned (.bool (startB n bs ts)) ∧ Below w.heap.size w w' := startOk_cap n A A' c ts.length bs ts w h h' (Nat.le_refl _) hlen hlen'
set_option maxHeartbeats 4000000 in
theorem specStartOk_any (n : Int) (A A' : Option Addr) (c c' : Nat) (bs : List Bd) (ts : List Int) (w : World) (h : BAt w A bs) (h' : IAt w A' ts) (hlen : bs.length ≤ 1099511627776) (hlen' : ts.length ≤ 1099511627776) :
    Calls Try.prog 43 #[.agg #[.int .i64 n, .slice A bs.length c], .slice A' ts.length c'] w fun e w' => e = .returned (.bool (startB n bs ts)) ∧ Below w.heap.size w w' := by
  cases hfit : fitsOk n bs
  · have HR := Lib.hid (startB_no (n := n) (bs := bs) (ts := ts) (Or.inl hfit))
    go_enter Try.func43, Try.ntmps43
    go_wp2_with fail
    refine (specFitsOk_any _ _ _ bs _ (h.below (by repeat (first | with_reducible exact Below.refl _ _ | with_reducible refine valloc ?_ _ | with_reducible refine vdrew ?_ | with_reducible refine vdrewN ?_ _ | with_reducible refine via (by assumption) ?_ | refine vset ?_ (by first | exact Nat.le_refl _ | (simp; done) | (simp; omega) | omega) _))) hlen).mono ?_; rintro e w1 ⟨rfl, hbw1⟩
    go_wp2
    go_ret
    refine ⟨ret_bool HR.out.symm, ?_⟩
    repeat (first | with_reducible exact Below.refl _ _ | with_reducible refine valloc ?_ _ | with_reducible refine vdrew ?_ | with_reducible refine vdrewN ?_ _ | with_reducible refine via (by assumption) ?_ | refine vset ?_ (by first | exact Nat.le_refl _ | (simp; done) | (simp; omega) | omega) _)
  · obtain ⟨N, rfl⟩ := Int.eq_ofNat_of_zero_le (show 0 ≤ n by have := planOk_of (fits_plan hfit); omega)
    obtain ⟨h1, h6, _, _⟩ := planOk_of (fits_plan hfit)
    by_cases hl : (N : Int) < ts.length
    · have HR := Lib.hid (startB_no (n := N) (bs := bs) (ts := ts) (Or.inr (Or.inl hl)))
      go_enter Try.func43, Try.ntmps43
      go_wp2_with fail
      refine (specFitsOk_any _ _ _ bs _ (h.below (by repeat (first | with_reducible exact Below.refl _ _ | with_reducible refine valloc ?_ _ | with_reducible refine vdrew ?_ | with_reducible refine vdrewN ?_ _ | with_reducible refine via (by assumption) ?_ | refine vset ?_ (by first | exact Nat.le_refl _ | (simp; done) | (simp; omega) | omega) _))) hlen).mono ?_; rintro e w1 ⟨rfl, hbw1⟩; obtain ⟨hcw1, hfw1⟩ := bcell hbw1; have hzw1 := hbw1.size; (try simp only [sz] at hzw1); (try simp only [szc] at hzw1); have hzw1_0 : w.heap.size < w1.heap.size := (by omega)
      go_wp2
      go_ret
      refine ⟨ret_bool HR.out.symm, ?_⟩
      repeat (first | with_reducible exact Below.refl _ _ | with_reducible refine valloc ?_ _ | with_reducible refine vdrew ?_ | with_reducible refine vdrewN ?_ _ | with_reducible refine via (by assumption) ?_ | refine vset ?_ (by first | exact Nat.le_refl _ | (simp; done) | (simp; omega) | omega) _)
    · have hl' : ts.length ≤ N := by omega
      have BAD := Lib.hid (fun (i j : Nat) => startB_badS (i := i) (j := j) hfit hl')
      have GOOD := Lib.hid (startB_goodS hfit hl')
      have OUT := Lib.hid (fun (i : Nat) (x : Int) => startB_out (n := N) (bs := bs) (ts := ts) (i := i) (x := x))
      have HC := Lib.hid (closed_eq hfit)
      go_enter Try.func43, Try.ntmps43
      go_wp2_with fail
      refine (specFitsOk_any _ _ _ bs _ (h.below (by repeat (first | with_reducible exact Below.refl _ _ | with_reducible refine valloc ?_ _ | with_reducible refine vdrew ?_ | with_reducible refine vdrewN ?_ _ | with_reducible refine via (by assumption) ?_ | refine vset ?_ (by first | exact Nat.le_refl _ | (simp; done) | (simp; omega) | omega) _))) hlen).mono ?_; rintro e w1 ⟨rfl, hbw1⟩; obtain ⟨hcw1, hfw1⟩ := bcell hbw1; have hzw1 := hbw1.size; (try simp only [sz] at hzw1); (try simp only [szc] at hzw1); have hzw1_0 : w.heap.size < w1.heap.size := (by omega)
      go_wp2_with fail
      refine (l2Closed_any N _ _ bs _ (h.below (by repeat (first | with_reducible exact Below.refl _ _ | with_reducible refine valloc ?_ _ | with_reducible refine vdrew ?_ | with_reducible refine vdrewN ?_ _ | with_reducible refine via (by assumption) ?_ | refine vset ?_ (by first | exact Nat.le_refl _ | (simp; done) | (simp; omega) | omega) _))) (by omega) (by omega) hlen).mono ?_; rintro e w2 ⟨A2, c2, rfl, hm2, hbw2⟩
      have HM2 := Lib.hid (hm2.mat (Nat.le_refl _))
      clear hm2
      have BB : Below w.heap.size w w2 := (by repeat (first | with_reducible exact Below.refl _ _ | with_reducible refine valloc ?_ _ | with_reducible refine vdrew ?_ | with_reducible refine vdrewN ?_ _ | with_reducible refine via (by assumption) ?_ | refine vset ?_ (by first | exact Nat.le_refl _ | (simp; done) | (simp; omega) | omega) _))
      have HI := Lib.hid (h'.below BB)
      generalize closedT N bs = T at *
      go_wp2
      go_loopw [6] (fun i W => ∃ ii : Nat, ii ≤ ts.length ∧ i = .int .i64 ii ∧ (∀ a, a < ii → inB (nth ts a) (-99) 99 = true) ∧ (∀ a, a < ii → ∀ b, b < ts.length → wrap64 (nth ts b - nth ts a) ≤ T a b) ∧ Below w2.heap.size w2 W) (fun i _ => ts.length - (intOf i).toNat)
      case atStart => exact ⟨0, Nat.zero_le _, rfl, fun a ha => absurd ha (Nat.not_lt_zero _), fun a ha => absurd ha (Nat.not_lt_zero _), Below.refl _ _⟩
      case round =>
        obtain ⟨i, hi, rfl, hin, hok, hb⟩ := hrel
        have HIN := Lib.hid hin
        have HOK := Lib.hid hok
        clear hin hok
        by_cases hlt : i < ts.length
        · obtain ⟨w3, hw3⟩ : ∃ w3 : World, w3 = wr := ⟨_, rfl⟩
          subst hw3
          obtain ⟨b, off, x, rfl, hbl, hx, hxm, c0⟩ := (HI.out.below hb).at_ hlt
          have X0 := Lib.hid hx
          have X1 := Lib.hid (nth_of hx)
          have HI3 := Lib.hid (HI.out.below hb)
          obtain ⟨g', off1, b1, o1, cc1, rfl, hg1, r1, hbl1, q1⟩ := (HM2.out.below hb).at_ (show i < N by omega)
          have Q1 := Lib.hid q1
          clear hx hxm q1
          cases hf : inB x (-99) 99
          · have HR := Lib.hid (OUT.out i x X0.out hf)
            go_wp2_with (go_at_call 32; refine (l1In_any _ _ _ _).mono ?_; rintro e w' ⟨rfl, rfl⟩)
            go_ret
            exact ⟨ret_bool HR.out.symm, BB.trans (hb.mono BB.size)⟩
          · have HF := Lib.hid hf
            go_wp2_with (go_at_call 32; refine (l1In_any _ _ _ _).mono ?_; rintro e w' ⟨rfl, rfl⟩)
            go_loopw [7] (fun j W => ∃ jj : Nat, jj ≤ ts.length ∧ j = .int .i64 jj ∧ (∀ b, b < jj → wrap64 (nth ts b - nth ts i) ≤ T i b) ∧ Below w3.heap.size w3 W) (fun j _ => ts.length - (intOf j).toNat)
            case atStart => exact ⟨0, Nat.zero_le _, rfl, fun a ha => absurd ha (Nat.not_lt_zero _), Below.refl _ _⟩
            case round =>
              obtain ⟨j, hj, rfl, hok2, hb2⟩ := hrel
              have HOK2 := Lib.hid hok2
              clear hok2
              by_cases hlt2 : j < ts.length
              · obtain ⟨b', off', y, e', hbl', hy, hym, c1⟩ := (HI3.out.below hb2).at_ hlt2
                cases e'
                have Y1 := Lib.hid (nth_of hy)
                clear hy hym
                have s0 := cBel hb2 hbl c0
                have s1 := cBel hb2 hg1 r1
                have p1 := cBel hb2 hbl1 (Q1.out j (by omega))
                rw [HC.out i j (by omega) (by omega)] at p1
                have EW : IntKind.i64.wrap (y - x) = wrap64 (y - x) := IntWalk.i64_left _
                have ED := Lib.hid (show nth ts j - nth ts i = y - x by rw [X1.out, Y1.out])
                clear c0 r1
                generalize hv : T i j = v at *
                by_cases hbad : v < wrap64 (y - x)
                · have HR := Lib.hid (show startB N bs ts = false from BAD.out i j hlt hlt2 (by rw [ED.out, hv]; exact hbad))
                  go_wp2
                  go_quiet (fail)
                  go_wp2
                  go_ret
                  exact ⟨ret_bool HR.out.symm, vdrewN ((BB.trans (hb.mono BB.size)).trans (hb2.mono (BB.trans (hb.mono BB.size)).size)) _⟩
                · have HG := Lib.hid (show wrap64 (nth ts j - nth ts i) ≤ T i j by rw [ED.out, hv]; omega)
                  go_wp2
                  go_quiet (fail)
                  go_wp2
                  go_roundw
                  case rel => exact ⟨j + 1, by omega, by go_num, fun b hb' => by
                    by_cases e : b = j
                    · rw [e]; exact HG.out
                    · exact HOK2.out b (by omega), vdrewN hb2 _⟩
                  case measure => simp [intOf]; omega
              · obtain rfl : ts.length = j := by omega
                go_wp2
                go_roundw
                case rel => exact ⟨i + 1, by omega, by go_num, fun a ha => by
                  by_cases e : a = i
                  · rw [e, X1.out]; exact HF.out
                  · exact HIN.out a (by omega), fun a ha => by
                  by_cases e : a = i
                  · rw [e]; exact HOK2.out
                  · exact HOK.out a (by omega), hb.trans (hb2.mono hb.size)⟩
                case measure => simp [intOf]; omega
        · obtain rfl : ts.length = i := by omega
          have HR := Lib.hid (show startB N bs ts = true from GOOD.out HIN.out HOK.out)
          go_wp2
          go_ret
          exact ⟨ret_bool HR.out.symm, BB.trans (hb.mono BB.size)⟩
end Go.Proofs.Ytaifpindiphlkac
namespace Go.Proofs.Ytaifpindiphlkac
open Go.RowKit
set_option linter.unusedVariables false
set_option maxRecDepth 10000
set_option linter.unusedSimpArgs false

theorem MAt.eq_ {w : World} {A : Option Addr} {N M : Nat} {T T' : Tab} (h : MAt w A N M T) (he : ∀ i j, i < M → j < N → T i j = T' i j) : MAt w A N M T' := by
  intro h0
  obtain ⟨g, off, e, hg, hr⟩ := h h0
  refine ⟨g, off, e, hg, fun i hi => ?_⟩
  obtain ⟨b, o, c, h1, h2, h3⟩ := hr i hi
  exact ⟨b, o, c, h1, h2, fun j hj => by rw [← he i j hi hj]; exact h3 j hj⟩
def lenOf : Value → Nat
  | .slice _ n _ => n
  | _ => 0
/-- append of a whole slice. -/
theorem wpList_pushS {ops : Array Oper} {rest : List Oper} {o : Oper} {a : Act} {Q : Exit → Act → World → Prop} {w : World} (hgd : o.guard = none) (s x : Operand)
    (ho : o.op = .call { callee := .builtin .append, args := #[s, x], argTypes := #[25, 25] }) (base : Nat) (v : Value) (xs : List Int) (hs : a.eval s = v) (hown : OwnL w base v xs)
    (A : Option Addr) (ys : List Int) (hx : a.eval x = .slice A ys.length ys.length) (hc : IAt w A ys) (hlen : xs.length + ys.length ≤ 1099511627776) (hbase : base ≤ w.heap.size)
    (h : ∀ v' w', OwnL w' base v' (xs ++ ys) → Below base w w' → wpList Try.prog ops Q rest (a.put o.dst v') w') : wpList Try.prog ops Q (o :: rest) a w := by
  obtain ⟨i0, hi, hz0, hz1, hz2⟩ := info_parts Try.infoInt
  cases A with
  | none =>
    have hy : ys = [] := by
      cases ys with
      | nil => rfl
      | cons y ys =>
        obtain ⟨b, off, e, _⟩ := hc (by simp)
        cases e
    subst hy
    refine wpList_append_own_none hgd s x 25 ho base 3 i0 1 Try.underlying25 hi v xs.length _ hs hown hx ?_
    refine h v w ?_ (Below.refl _ _)
    rw [List.append_nil]; exact hown
  | some ad =>
    refine wpList_append_own _ hgd s x 25 ho base 3 i0 (.int .i64 0) 1 8 Try.underlying25 hi hz0 hz1 hz2 rfl (by decide) v xs.length _ hs hown ad ys.length ys.length (ys.map fun y => .int .i64 y) hx (by simp) ?_ ?_ ?_ ?_ hbase ?_
    · intro j u hj
      rw [List.getElem?_map] at hj
      cases hy : ys[j]? with
      | none => rw [hy] at hj; cases hj
      | some y =>
        rw [hy] at hj
        cases hj
        obtain ⟨b, off, e, _, hcc⟩ := hc (by have := (List.getElem?_eq_some_iff.1 hy).1; omega)
        cases e
        have q := hcc j y hy
        by_cases e0 : j = 0
        · subst e0; simpa [Addr.add] using q
        · simpa [Addr.add, e0] using q
    · intro u hu
      obtain ⟨y, _, rfl⟩ := List.mem_map.1 hu
      rfl
    · unfold maxLen; omega
    · omega
    · intro v' w' hown' hg _
      refine h v' w' ?_ ?_
      · unfold OwnL
        rw [List.length_append, List.map_append]
        exact hown'
      · refine (Below.refl base w).grown hg hbase (fun k hk => ?_)
        rcases hown.2 with ⟨rfl, _⟩ | ⟨g', cap, cur, rfl, hb', _⟩
        · cases hk
        · simp only [Value.ownBlock, Option.some.injEq] at hk; omega
/-- append of a whole slice, whatever its capacity. -/
theorem wpList_pushC {ops : Array Oper} {rest : List Oper} {o : Oper} {a : Act} {Q : Exit → Act → World → Prop} {w : World} (hgd : o.guard = none) (s x : Operand)
    (ho : o.op = .call { callee := .builtin .append, args := #[s, x], argTypes := #[25, 25] }) (base : Nat) (v : Value) (xs : List Int) (hs : a.eval s = v) (hown : OwnL w base v xs)
    (A : Option Addr) (c m : Nat) (ys : List Int) (hm : m = ys.length) (hx : a.eval x = .slice A m c) (hc : IAt w A ys) (h0 : A = none → c = 0) (hlen : xs.length + ys.length ≤ 1099511627776) (hbase : base ≤ w.heap.size)
    (h : ∀ v' w', OwnL w' base v' (xs ++ ys) → Below base w w' → wpList Try.prog ops Q rest (a.put o.dst v') w') : wpList Try.prog ops Q (o :: rest) a w := by
  subst hm
  obtain ⟨i0, hi, hz0, hz1, hz2⟩ := info_parts Try.infoInt
  cases A with
  | none =>
    have hy : ys = [] := by
      cases ys with
      | nil => rfl
      | cons y ys =>
        obtain ⟨b, off, e, _⟩ := hc (by simp)
        cases e
    subst hy
    obtain rfl := h0 rfl
    refine wpList_append_own_none hgd s x 25 ho base 3 i0 1 Try.underlying25 hi v xs.length _ hs hown hx ?_
    refine h v w ?_ (Below.refl _ _)
    rw [List.append_nil]; exact hown
  | some ad =>
    refine wpList_append_own _ hgd s x 25 ho base 3 i0 (.int .i64 0) 1 8 Try.underlying25 hi hz0 hz1 hz2 rfl (by decide) v xs.length _ hs hown ad ys.length c (ys.map fun y => .int .i64 y) hx (by simp) ?_ ?_ ?_ ?_ hbase ?_
    · intro j u hj
      rw [List.getElem?_map] at hj
      cases hy : ys[j]? with
      | none => rw [hy] at hj; cases hj
      | some y =>
        rw [hy] at hj
        cases hj
        obtain ⟨b, off, e, _, hcc⟩ := hc (by have := (List.getElem?_eq_some_iff.1 hy).1; omega)
        cases e
        have q := hcc j y hy
        by_cases e0 : j = 0
        · subst e0; simpa [Addr.add] using q
        · simpa [Addr.add, e0] using q
    · intro u hu
      obtain ⟨y, _, rfl⟩ := List.mem_map.1 hu
      rfl
    · unfold maxLen; omega
    · omega
    · intro v' w' hown' hg _
      refine h v' w' ?_ ?_
      · unfold OwnL
        rw [List.length_append, List.map_append]
        exact hown'
      · refine (Below.refl base w).grown hg hbase (fun k hk => ?_)
        rcases hown.2 with ⟨rfl, _⟩ | ⟨g', cap, cur, rfl, hb', _⟩
        · cases hk
        · simp only [Value.ownBlock, Option.some.injEq] at hk; omega
/-- Some times, and those of so many further points. -/
def extT (T : Tab) (ts : List Int) : Nat → List Int
  | 0 => ts
  | d + 1 => extT T ts d ++ [nextV T (extT T ts d)]
theorem extT_len (T : Tab) (ts : List Int) : ∀ d, (extT T ts d).length = ts.length + d
  | 0 => rfl
  | d + 1 => by
    show (extT T ts d ++ [nextV T (extT T ts d)]).length = _
    rw [List.length_append, extT_len T ts d, List.length_singleton]; omega
def endedL (n : Int) (bs : List Bd) (ts : List Int) : List Int := if startB n bs ts = true then extT (closedT n bs) ts (n.toNat - ts.length) else []
theorem startB_fit {n : Int} {bs : List Bd} {ts : List Int} (h : startB n bs ts = true) : fitsOk n bs = true ∧ (ts.length : Int) ≤ n := by
  simp only [startB, Bool.and_eq_true, decide_eq_true_eq] at h
  exact ⟨h.1.1.1, h.1.1.2⟩
theorem endedL_len (n : Int) (bs : List Bd) (ts : List Int) : (endedL n bs ts).length ≤ 6 := by
  unfold endedL
  split
  · rename_i h
    obtain ⟨h1, h2⟩ := startB_fit h
    have := planOk_of (fits_plan h1)
    rw [extT_len]; omega
  · simp
theorem nextV_low {T : Tab} {ts : List Int} (h : -100000 < lowG false T ts.length ts (-100000) ts.length) : nextV T ts = lowG false T ts.length ts (-100000) ts.length := if_pos (by omega)
theorem nextV_high {T : Tab} {ts : List Int} (h : ¬ -100000 < lowG false T ts.length ts (-100000) ts.length) (h2 : highG false T ts.length ts ts.length < 100000) : nextV T ts = highG false T ts.length ts ts.length := by
  have := lowG_ge (sk := false) (T := T) (p := ts.length) (ts := ts) (a := -100000) ts.length
  unfold nextV
  rw [if_neg (by omega), if_pos (by omega)]
theorem nextV_none {T : Tab} {ts : List Int} (h : ¬ -100000 < lowG false T ts.length ts (-100000) ts.length) (h2 : ¬ highG false T ts.length ts ts.length < 100000) : nextV T ts = 0 := by
  have := lowG_ge (sk := false) (T := T) (p := ts.length) (ts := ts) (a := -100000) ts.length
  have := highG_le (sk := false) (T := T) (p := ts.length) (ts := ts) ts.length
  unfold nextV
  rw [if_neg (by omega), if_neg (by omega)]
set_option maxHeartbeats 1000000 in
theorem endedFrom_cap (n : Int) (A A' : Option Addr) (c c' : Nat) (bs : List Bd) (ts : List Int) (w : World) (h : BAt w A bs) (h' : IAt w A' ts) (hcap : ts.length ≤ c') (h0 : A' = none → c' = 0) (hlen : bs.length ≤ 1099511627776) (hlen' : ts.length ≤ 1099511627776) :
    Calls Try.prog 28 #[.agg #[.int .i64 n, .slice A bs.length c], .slice A' ts.length c'] w (ListBoolRes (endedL n bs ts) (startB n bs ts) w) := by
  have HA0 := Lib.hid h0
  clear h0
  cases hs : startB n bs ts
  · have HR := Lib.hid (show endedL n bs ts = [] by simp [endedL, hs])
    go_enter Try.func28, Try.ntmps28
    go_wp2_with fail
    refine (startOk_cap _ _ _ _ _ bs ts _ (h.below (by repeat (first | with_reducible exact Below.refl _ _ | with_reducible refine valloc ?_ _ | with_reducible refine vdrew ?_ | with_reducible refine vdrewN ?_ _ | with_reducible refine via (by assumption) ?_ | refine vset ?_ (by first | exact Nat.le_refl _ | (simp; done) | (simp; omega) | omega) _))) (h'.below (by repeat (first | with_reducible exact Below.refl _ _ | with_reducible refine valloc ?_ _ | with_reducible refine vdrew ?_ | with_reducible refine vdrewN ?_ _ | with_reducible refine via (by assumption) ?_ | refine vset ?_ (by first | exact Nat.le_refl _ | (simp; done) | (simp; omega) | omega) _))) hcap hlen hlen').mono ?_; rintro e w1 ⟨rfl, hbw1⟩
    go_wp2
    go_ret2
    rw [HR.out]
    refine ⟨none, 0, rfl, Or.inl ⟨rfl, rfl⟩, ?_⟩
    repeat (first | with_reducible exact Below.refl _ _ | with_reducible refine valloc ?_ _ | with_reducible refine vdrew ?_ | with_reducible refine vdrewN ?_ _ | with_reducible refine via (by assumption) ?_ | refine vset ?_ (by first | exact Nat.le_refl _ | (simp; done) | (simp; omega) | omega) _)
  · obtain ⟨hfit, hl0⟩ := startB_fit hs
    obtain ⟨N, rfl⟩ := Int.eq_ofNat_of_zero_le (show 0 ≤ n by have := planOk_of (fits_plan hfit); omega)
    obtain ⟨h1, h6, _, _⟩ := planOk_of (fits_plan hfit)
    have hl : ts.length ≤ N := by omega
    have HR := Lib.hid (show endedL N bs ts = extT (closedT N bs) ts (N - ts.length) by simp [endedL, hs])
    have HL := Lib.hid (extT_len (closedT N bs) ts)
    go_enter Try.func28, Try.ntmps28
    go_wp2_with fail
    refine (startOk_cap _ _ _ _ _ bs ts _ (h.below (by repeat (first | with_reducible exact Below.refl _ _ | with_reducible refine valloc ?_ _ | with_reducible refine vdrew ?_ | with_reducible refine vdrewN ?_ _ | with_reducible refine via (by assumption) ?_ | refine vset ?_ (by first | exact Nat.le_refl _ | (simp; done) | (simp; omega) | omega) _))) (h'.below (by repeat (first | with_reducible exact Below.refl _ _ | with_reducible refine valloc ?_ _ | with_reducible refine vdrew ?_ | with_reducible refine vdrewN ?_ _ | with_reducible refine via (by assumption) ?_ | refine vset ?_ (by first | exact Nat.le_refl _ | (simp; done) | (simp; omega) | omega) _))) hcap hlen hlen').mono ?_; rintro e w1 ⟨rfl, hbw1⟩
    have i0 : w1.cell? ⟨w.heap.size, 0, none⟩ = some (.int .i64 N) := cB hbw1 (by simp)
    obtain ⟨hcw1, hfw1⟩ := bcell hbw1; have hzw1 := hbw1.size; (try simp only [sz] at hzw1); (try simp only [szc] at hzw1); have hzw1_0 : w.heap.size < w1.heap.size := (by omega)
    go_wp2_with fail
    refine (closed_yes _ _ _ bs _ (h.below (by repeat (first | with_reducible exact Below.refl _ _ | with_reducible refine valloc ?_ _ | with_reducible refine vdrew ?_ | with_reducible refine vdrewN ?_ _ | with_reducible refine via (by assumption) ?_ | refine vset ?_ (by first | exact Nat.le_refl _ | (simp; done) | (simp; omega) | omega) _))) hlen hfit).mono ?_; rintro e w2 ⟨g, N', R, hN', hN1, hN6, rfl, hG, hbw2⟩; obtain ⟨hcw2, hfw2⟩ := bcell hbw2; have hzw2 := hbw2.size; (try simp only [sz] at hzw2); (try simp only [szc] at hzw2); have hzw2_0 : w.heap.size < w2.heap.size := (by omega)
    obtain rfl : N = N' := by omega
    have j0 : w2.cell? ⟨w.heap.size, 0, none⟩ = some (.int .i64 N) := by rw [hcw2 _ _ hzw1_0]; exact i0
    have HM := Lib.hid hG.mat
    clear hG
    have BB : Below w.heap.size w w2 := (by repeat (first | with_reducible exact Below.refl _ _ | with_reducible refine valloc ?_ _ | with_reducible refine vdrew ?_ | with_reducible refine vdrewN ?_ _ | with_reducible refine via (by assumption) ?_ | refine vset ?_ (by first | exact Nat.le_refl _ | (simp; done) | (simp; omega) | omega) _))
    have HI := Lib.hid (h'.below BB)
    generalize closedT N bs = T at *
    go_wp2_with (at_builtin; refine wpList_pushC rfl _ _ rfl w2.heap.size _ [] rfl (OwnL.nil _ _) A' _ _ ts rfl rfl HI.out HA0.out (by simpa using hlen') (Nat.le_refl _) ?_; intro v1 w3 hown3 hb3)
    rw [List.nil_append] at hown3
    have HO3 := Lib.hid hown3
    clear hown3
    go_loopw [8] (fun out W => ∃ (d : Nat) (xs : List Int), xs = extT T ts d ∧ xs.length ≤ N ∧ OwnL W w2.heap.size out xs ∧ Below w2.heap.size w2 W) (fun out _ => N - lenOf out)
    case atStart => exact ⟨0, ts, rfl, hl, HO3.out, hb3⟩
    case round =>
      obtain ⟨d, xs, hxs, hd, hown, hb⟩ := hrel
      obtain ⟨G, cg, rfl, hr⟩ := hown.ri
      have HO := Lib.hid hown
      have HRI := Lib.hid hr
      have f0 := cBel hb hzw2_0 j0
      have hzr := hb.size
      have HX := Lib.hid (show extT T ts (d + 1) = xs ++ [nextV T xs] by rw [hxs]; rfl)
      have HD := Lib.hid (show xs.length = ts.length + d by rw [hxs]; exact HL.out d)
      have HXS := Lib.hid hxs
      clear hown hr hxs
      by_cases hlt : xs.length < N
      · go_wp2_with fail
        refine (next_any _ _ _ _ N T xs _ (HM.out.below hb) HRI.out.iat hlt (by omega)).mono ?_; rintro e w4 ⟨rfl, hbw4⟩
        have O4 := Lib.hid (HO.out.below hbw4)
        have hz4 := hbw4.size
        go_wp2_with (at_builtin; refine wpList_push rfl _ _ rfl w2.heap.size _ _ rfl (O4.out.alloc _) w4.heap.size (nextV T xs) rfl (by simp) (by omega) (by simp; omega) ?_; intro v1 w5 hown5 hb5)
        go_roundw
        case rel => exact ⟨d + 1, xs ++ [nextV T xs], HX.out.symm, by simp; omega, hown5, ((hb.trans (hbw4.mono hb.size)).alloc (by omega) _).trans hb5⟩
        case measure =>
          obtain ⟨G5, c5, rfl, _⟩ := hown5.ri
          simp only [lenOf, List.length_append, List.length_singleton]; omega
      · have hge : xs.length = N := by omega
        have HR2 := Lib.hid (show endedL N bs ts = xs by rw [HR.out, HXS.out]; congr 1; have := HD.out; omega)
        go_wp2
        go_ret2
        rw [HR2.out]
        exact ⟨G, cg, rfl, HRI.out.wide BB.size (Nat.le_refl _), BB.trans (hb.mono BB.size)⟩
theorem nil_cap (w : World) (ts : List Int) (A' : Option Addr) (h' : IAt w A' ts) : A' = none → ts.length = 0 := fun e => by
  rcases Nat.eq_zero_or_pos ts.length with h | h
  · exact h
  · obtain ⟨b, off, e2, _⟩ := h' h; rw [e] at e2; cases e2
theorem endedFrom_any (n : Int) (A A' : Option Addr) (c : Nat) (bs : List Bd) (ts : List Int) (w : World) (h : BAt w A bs) (h' : IAt w A' ts) (hlen : bs.length ≤ 1099511627776) (hlen' : ts.length ≤ 1099511627776) :
    Calls Try.prog 28 #[.agg #[.int .i64 n, .slice A bs.length c], .slice A' ts.length ts.length] w (ListBoolRes (endedL n bs ts) (startB n bs ts) w) := endedFrom_cap n A A' c ts.length bs ts w h h' (Nat.le_refl _) (nil_cap w ts A' h') hlen hlen'
set_option maxHeartbeats 1000000 in
theorem specEndedFrom_cap (n : Int) (A A' : Option Addr) (c c' : Nat) (bs : List Bd) (ts : List Int) (w : World) (h : BAt w A bs) (h' : IAt w A' ts) (h0 : A' = none → c' = 0) (hlen : bs.length ≤ 1099511627776) (hlen' : ts.length ≤ 1099511627776) :
    Calls Try.prog 26 #[.agg #[.int .i64 n, .slice A bs.length c], .slice A' ts.length c'] w (ListBoolRes (endedL n bs ts) (startB n bs ts) w) := by
  have HA0 := Lib.hid h0
  clear h0
  cases hs : startB n bs ts
  · have HR := Lib.hid (show endedL n bs ts = [] by simp [endedL, hs])
    go_enter Try.func26, Try.ntmps26
    go_wp2_with fail
    refine (specStartOk_any _ _ _ _ _ bs ts _ (h.below (by repeat (first | with_reducible exact Below.refl _ _ | with_reducible refine valloc ?_ _ | with_reducible refine vdrew ?_ | with_reducible refine vdrewN ?_ _ | with_reducible refine via (by assumption) ?_ | refine vset ?_ (by first | exact Nat.le_refl _ | (simp; done) | (simp; omega) | omega) _))) (h'.below (by repeat (first | with_reducible exact Below.refl _ _ | with_reducible refine valloc ?_ _ | with_reducible refine vdrew ?_ | with_reducible refine vdrewN ?_ _ | with_reducible refine via (by assumption) ?_ | refine vset ?_ (by first | exact Nat.le_refl _ | (simp; done) | (simp; omega) | omega) _))) hlen hlen').mono ?_; rintro e w1 ⟨rfl, hbw1⟩
    have HO := Lib.hid (OwnL.empty w1 w1.heap.size _ rfl (Nat.le_refl _))
    have hz := hbw1.size
    go_wp2
    go_ret2
    rw [HR.out]
    refine HO.out.resB (by simp at hz; omega) ?_ false
    repeat (first | with_reducible exact Below.refl _ _ | with_reducible refine valloc ?_ _ | with_reducible refine vdrew ?_ | with_reducible refine vdrewN ?_ _ | with_reducible refine via (by assumption) ?_ | refine vset ?_ (by first | exact Nat.le_refl _ | (simp; done) | (simp; omega) | omega) _)
  · obtain ⟨hfit, hl0⟩ := startB_fit hs
    obtain ⟨N, rfl⟩ := Int.eq_ofNat_of_zero_le (show 0 ≤ n by have := planOk_of (fits_plan hfit); omega)
    obtain ⟨h1, h6, _, _⟩ := planOk_of (fits_plan hfit)
    have hl : ts.length ≤ N := by omega
    have HR := Lib.hid (show endedL N bs ts = extT (closedT N bs) ts (N - ts.length) by simp [endedL, hs])
    have HL := Lib.hid (extT_len (closedT N bs) ts)
    have HC := Lib.hid (closed_eq hfit)
    have HT := Lib.hid (fun i j hi hj => (closed_bound hfit i j hi hj).2)
    go_enter Try.func26, Try.ntmps26
    go_wp2_with fail
    refine (specStartOk_any _ _ _ _ _ bs ts _ (h.below (by repeat (first | with_reducible exact Below.refl _ _ | with_reducible refine valloc ?_ _ | with_reducible refine vdrew ?_ | with_reducible refine vdrewN ?_ _ | with_reducible refine via (by assumption) ?_ | refine vset ?_ (by first | exact Nat.le_refl _ | (simp; done) | (simp; omega) | omega) _))) (h'.below (by repeat (first | with_reducible exact Below.refl _ _ | with_reducible refine valloc ?_ _ | with_reducible refine vdrew ?_ | with_reducible refine vdrewN ?_ _ | with_reducible refine via (by assumption) ?_ | refine vset ?_ (by first | exact Nat.le_refl _ | (simp; done) | (simp; omega) | omega) _))) hlen hlen').mono ?_; rintro e w1 ⟨rfl, hbw1⟩
    have i0 : w1.cell? ⟨w.heap.size, 0, none⟩ = some (.int .i64 N) := cB hbw1 (by simp)
    obtain ⟨hcw1, hfw1⟩ := bcell hbw1; have hzw1 := hbw1.size; (try simp only [sz] at hzw1); (try simp only [szc] at hzw1); have hzw1_0 : w.heap.size < w1.heap.size := (by omega)
    go_wp2_with fail
    refine (l2Closed_any N _ _ bs _ (h.below (by repeat (first | with_reducible exact Below.refl _ _ | with_reducible refine valloc ?_ _ | with_reducible refine vdrew ?_ | with_reducible refine vdrewN ?_ _ | with_reducible refine via (by assumption) ?_ | refine vset ?_ (by first | exact Nat.le_refl _ | (simp; done) | (simp; omega) | omega) _))) (by omega) (by omega) hlen).mono ?_; rintro e w2 ⟨A2, c2, rfl, hm2, hbw2⟩; obtain ⟨hcw2, hfw2⟩ := bcell hbw2; have hzw2 := hbw2.size; (try simp only [sz] at hzw2); (try simp only [szc] at hzw2); have hzw2_0 : w.heap.size < w2.heap.size := (by omega)
    have j0 : w2.cell? ⟨w.heap.size, 0, none⟩ = some (.int .i64 N) := by rw [hcw2 _ _ hzw1_0]; exact i0
    have HM := Lib.hid ((hm2.mat (Nat.le_refl _)).eq_ HC.out)
    clear hm2
    have BB : Below w.heap.size w w2 := (by repeat (first | with_reducible exact Below.refl _ _ | with_reducible refine valloc ?_ _ | with_reducible refine vdrew ?_ | with_reducible refine vdrewN ?_ _ | with_reducible refine via (by assumption) ?_ | refine vset ?_ (by first | exact Nat.le_refl _ | (simp; done) | (simp; omega) | omega) _))
    have HI := Lib.hid (h'.below BB)
    generalize closedT N bs = T at *
    have HI2 := Lib.hid (HI.out.below ((Below.refl _ _).alloc (Nat.le_refl _) (.cells #[] 3)))
    go_wp2_with (at_builtin; refine wpList_pushC rfl _ _ rfl w2.heap.size _ [] rfl (OwnL.empty w2 _ _ rfl (Nat.le_refl _)) A' _ _ ts rfl rfl HI2.out HA0.out (by simpa using hlen') (by simp) ?_; intro v1 w3 hown3 hb3)
    rw [List.nil_append] at hown3
    have HO3 := Lib.hid hown3
    clear hown3
    have B3 := Lib.hid (((Below.refl w2.heap.size w2).alloc (Nat.le_refl _) (.cells #[] 3)).trans hb3)
    go_loopw [7, 8] (fun out k W => ∃ (d : Nat) (xs : List Int), xs = extT T ts d ∧ xs.length ≤ N ∧ k = .int .i64 xs.length ∧ OwnL W w2.heap.size out xs ∧ Below w2.heap.size w2 W) (fun _ k _ => N - (intOf k).toNat)
    case atStart => exact ⟨0, ts, rfl, hl, rfl, HO3.out, B3.out⟩
    case round =>
      obtain ⟨d, xs, hxs, hd, rfl, hown, hb⟩ := hrel
      obtain ⟨G, cg, rfl, hr⟩ := hown.ri
      have HO := Lib.hid hown
      have HRI := Lib.hid hr
      have f0 := cBel hb hzw2_0 j0
      have hzr := hb.size
      have HX := Lib.hid (show extT T ts (d + 1) = xs ++ [nextV T xs] by rw [hxs]; rfl)
      have HD := Lib.hid (show xs.length = ts.length + d by rw [hxs]; exact HL.out d)
      have HXS := Lib.hid hxs
      have HK := Lib.hid (show ((xs.length : Nat) : Int) + 1 = ((xs ++ [nextV T xs]).length : Nat) by simp)
      clear hown hr hxs
      by_cases hlt : xs.length < N
      · have NL := Lib.hid (@nextV_low T xs)
        have NH := Lib.hid (@nextV_high T xs)
        have NN := Lib.hid (@nextV_none T xs)
        go_wp2_with fail
        refine (l4Window_any _ _ _ _ N xs.length T xs _ (HM.out.below hb) HRI.out.iat hlt (by omega) (by omega) HT.out).mono ?_; rintro e w4 ⟨rfl, hbw4⟩
        have O4 := Lib.hid (HO.out.below hbw4)
        have hz4 := hbw4.size
        generalize lowG false T xs.length xs (-100000) xs.length = lo at *
        generalize highG false T xs.length xs xs.length = hi at *
        by_cases s1 : -100000 < lo
        · have HV := Lib.hid (NL.out s1)
          go_wp2_with (at_builtin; refine wpList_push rfl _ _ rfl w2.heap.size _ _ rfl (O4.out.alloc _) w4.heap.size lo rfl (by simp) (by omega) (by simp; omega) ?_; intro v1 w5 hown5 hb5)
          go_roundw
          case rel => exact ⟨d + 1, xs ++ [nextV T xs], HX.out.symm, by simp; omega, by rw [← HK.out], by rw [HV.out]; exact hown5, ((hb.trans (hbw4.mono hb.size)).alloc (by omega) _).trans hb5⟩
          case measure => simp [intOf]; omega
        · by_cases s2 : hi < 100000
          · have HV := Lib.hid (NH.out (by omega) s2)
            go_wp2_with (at_builtin; refine wpList_push rfl _ _ rfl w2.heap.size _ _ rfl (O4.out.alloc _) w4.heap.size hi rfl (by simp) (by omega) (by simp; omega) ?_; intro v1 w5 hown5 hb5)
            go_roundw
            case rel => exact ⟨d + 1, xs ++ [nextV T xs], HX.out.symm, by simp; omega, by rw [← HK.out], by rw [HV.out]; exact hown5, ((hb.trans (hbw4.mono hb.size)).alloc (by omega) _).trans hb5⟩
            case measure => simp [intOf]; omega
          · have HV := Lib.hid (NN.out (by omega) (by omega))
            go_wp2_with (at_builtin; refine wpList_push rfl _ _ rfl w2.heap.size _ _ rfl (O4.out.alloc _) w4.heap.size 0 rfl (by simp) (by omega) (by simp; omega) ?_; intro v1 w5 hown5 hb5)
            go_roundw
            case rel => exact ⟨d + 1, xs ++ [nextV T xs], HX.out.symm, by simp; omega, by rw [← HK.out], by rw [HV.out]; exact hown5, ((hb.trans (hbw4.mono hb.size)).alloc (by omega) _).trans hb5⟩
            case measure => simp [intOf]; omega
      · have hge : xs.length = N := by omega
        have HR2 := Lib.hid (show endedL N bs ts = xs by rw [HR.out, HXS.out]; congr 1; have := HD.out; omega)
        go_wp2
        go_ret2
        rw [HR2.out]
        exact ⟨G, cg, rfl, HRI.out.wide BB.size (Nat.le_refl _), BB.trans (hb.mono BB.size)⟩
theorem specEndedFrom_any (n : Int) (A A' : Option Addr) (c : Nat) (bs : List Bd) (ts : List Int) (w : World) (h : BAt w A bs) (h' : IAt w A' ts) (hlen : bs.length ≤ 1099511627776) (hlen' : ts.length ≤ 1099511627776) :
    Calls Try.prog 26 #[.agg #[.int .i64 n, .slice A bs.length c], .slice A' ts.length ts.length] w (ListBoolRes (endedL n bs ts) (startB n bs ts) w) := specEndedFrom_cap n A A' c ts.length bs ts w h h' (nil_cap w ts A' h') hlen hlen'
set_option maxHeartbeats 1000000 in
theorem timesFor_any (n : Int) (A : Option Addr) (c : Nat) (bs : List Bd) (w : World) (h : BAt w A bs) (hlen : bs.length ≤ 1099511627776) :
    Calls Try.prog 21 #[.agg #[.int .i64 n, .slice A bs.length c]] w (ListBoolRes (endedL n bs []) (startB n bs []) w) := by
  have E0 : ∀ W, IAt W none [] := fun W h0 => absurd h0 (by simp)
  go_enter Try.func21, Try.ntmps21
  go_wp2_with fail
  refine (endedFrom_any _ _ none _ bs [] _ (h.below (by repeat (first | with_reducible exact Below.refl _ _ | with_reducible refine valloc ?_ _ | with_reducible refine vdrew ?_ | with_reducible refine vdrewN ?_ _ | with_reducible refine via (by assumption) ?_ | refine vset ?_ (by first | exact Nat.le_refl _ | (simp; done) | (simp; omega) | omega) _))) (E0 _) hlen (by simp)).mono ?_
  rintro e w1 ⟨G, cg, rfl, hr, hbw1⟩
  have HR := Lib.hid hr
  clear hr
  go_wp2
  go_ret2
  refine ⟨G, cg, rfl, HR.out.wide (by simp) (Nat.le_refl _), ?_⟩
  repeat (first | with_reducible exact Below.refl _ _ | with_reducible refine valloc ?_ _ | with_reducible refine vdrew ?_ | with_reducible refine vdrewN ?_ _ | with_reducible refine via (by assumption) ?_ | refine vset ?_ (by first | exact Nat.le_refl _ | (simp; done) | (simp; omega) | omega) _)
set_option maxHeartbeats 1000000 in
theorem specTimesFor_any (n : Int) (A : Option Addr) (c : Nat) (bs : List Bd) (w : World) (h : BAt w A bs) (hlen : bs.length ≤ 1099511627776) :
    Calls Try.prog 20 #[.agg #[.int .i64 n, .slice A bs.length c]] w (ListBoolRes (endedL n bs []) (startB n bs []) w) := by
  have E0 : ∀ W A, IAt W A [] := fun W A h0 => absurd h0 (by simp)
  go_enter Try.func20, Try.ntmps20
  go_wp2_with fail
  refine (specEndedFrom_any _ _ _ _ bs [] _ (h.below (by repeat (first | with_reducible exact Below.refl _ _ | with_reducible refine valloc ?_ _ | with_reducible refine vdrew ?_ | with_reducible refine vdrewN ?_ _ | with_reducible refine via (by assumption) ?_ | refine vset ?_ (by first | exact Nat.le_refl _ | (simp; done) | (simp; omega) | omega) _))) (E0 _ _) hlen (by simp)).mono ?_
  rintro e w1 ⟨G, cg, rfl, hr, hbw1⟩
  have HR := Lib.hid hr
  clear hr
  go_wp2
  go_ret2
  refine ⟨G, cg, rfl, HR.out.wide (by simp; omega) (Nat.le_refl _), ?_⟩
  repeat (first | with_reducible exact Below.refl _ _ | with_reducible refine valloc ?_ _ | with_reducible refine vdrew ?_ | with_reducible refine vdrewN ?_ _ | with_reducible refine via (by assumption) ?_ | refine vset ?_ (by first | exact Nat.le_refl _ | (simp; done) | (simp; omega) | omega) _)
end Go.Proofs.Ytaifpindiphlkac
