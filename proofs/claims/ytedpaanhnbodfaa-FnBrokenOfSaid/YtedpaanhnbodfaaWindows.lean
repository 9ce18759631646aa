/- Contracts of impl.table.next and spec.l4Window: what points that have times let another point have. -/
import Derived.Test.YtedpaanhnbodfaaPlainEq
import Derived.Deep.QuietTactic
import Derived.BigQuiet
namespace Go.Proofs.Ytedpaanhnbodfaa
open Go.RowKit
set_option linter.unusedVariables false
set_option maxRecDepth 10000
set_option linter.unusedSimpArgs false

/-- The greater of two numbers. -/
def mx (a b : Int) : Int := if a < b then b else a
/-- The number at a place of a list. -/
def nthI (ts : List Int) (i : Nat) : Int := ts.getD i 0
theorem nthI_of {ts : List Int} {i : Nat} {x : Int} (h : ts[i]? = some x) : nthI ts i = x := by simp [nthI, List.getD, h]
/-- Does a point tell nothing (it is not done, or there is no bound)? -/
def still (sk : Bool) (x d : Int) : Bool := (sk && decide (x = -1)) || decide (d = 100000)
def lowG (sk : Bool) (T : Tab) (p : Nat) (ts : List Int) (a : Int) : Nat → Int
  | 0 => a
  | k + 1 => if still sk (nthI ts k) (T p k) = true then lowG sk T p ts a k else mx (lowG sk T p ts a k) (wrap64 (nthI ts k - T p k))
def highG (sk : Bool) (T : Tab) (p : Nat) (ts : List Int) : Nat → Int
  | 0 => 100000
  | k + 1 => if still sk (nthI ts k) (T k p) = true then highG sk T p ts k else mn (highG sk T p ts k) (wrap64 (nthI ts k + T k p))
theorem lowG_same {sk : Bool} {T T' : Tab} {p : Nat} {ts : List Int} {a : Int} : ∀ k, (∀ i, i < k → T p i = T' p i) → lowG sk T p ts a k = lowG sk T' p ts a k
  | 0, _ => rfl
  | k + 1, h => by
    have e := h k (Nat.lt_succ_self k)
    have ih := lowG_same (sk := sk) (ts := ts) (a := a) k (fun i hi => h i (by omega))
    show (if _ then _ else _) = (if _ then _ else _)
    rw [e, ih]
theorem highG_same {sk : Bool} {T T' : Tab} {p : Nat} {ts : List Int} : ∀ k, (∀ i, i < k → T i p = T' i p) → highG sk T p ts k = highG sk T' p ts k
  | 0, _ => rfl
  | k + 1, h => by
    have e := h k (Nat.lt_succ_self k)
    have ih := highG_same (sk := sk) (ts := ts) k (fun i hi => h i (by omega))
    show (if _ then _ else _) = (if _ then _ else _)
    rw [e, ih]
theorem lowG_still {sk : Bool} {T : Tab} {p : Nat} {ts : List Int} {a : Int} {k : Nat} {x : Int} (hx : nthI ts k = x) (h : still sk x (T p k) = true) : lowG sk T p ts a (k + 1) = lowG sk T p ts a k := by
  show (if _ then _ else _) = _; rw [hx, if_pos h]
theorem lowG_step {sk : Bool} {T : Tab} {p : Nat} {ts : List Int} {a : Int} {k : Nat} {x : Int} (hx : nthI ts k = x) (h : still sk x (T p k) = false) : lowG sk T p ts a (k + 1) = mx (lowG sk T p ts a k) (wrap64 (x - T p k)) := by
  show (if _ then _ else _) = _; rw [hx, if_neg (by rw [h]; simp)]
theorem highG_still {sk : Bool} {T : Tab} {p : Nat} {ts : List Int} {k : Nat} {x : Int} (hx : nthI ts k = x) (h : still sk x (T k p) = true) : highG sk T p ts (k + 1) = highG sk T p ts k := by
  show (if _ then _ else _) = _; rw [hx, if_pos h]
theorem highG_step {sk : Bool} {T : Tab} {p : Nat} {ts : List Int} {k : Nat} {x : Int} (hx : nthI ts k = x) (h : still sk x (T k p) = false) : highG sk T p ts (k + 1) = mn (highG sk T p ts k) (wrap64 (x + T k p)) := by
  show (if _ then _ else _) = _; rw [hx, if_neg (by rw [h]; simp)]
theorem lowG_ge {sk : Bool} {T : Tab} {p : Nat} {ts : List Int} {a : Int} : ∀ k, a ≤ lowG sk T p ts a k
  | 0 => Int.le_refl _
  | k + 1 => by
    have ih := lowG_ge (sk := sk) (T := T) (p := p) (ts := ts) (a := a) k
    show a ≤ (if _ then _ else _)
    split
    · exact ih
    · unfold mx; split <;> omega
theorem highG_le {sk : Bool} {T : Tab} {p : Nat} {ts : List Int} : ∀ k, highG sk T p ts k ≤ 100000
  | 0 => Int.le_refl _
  | k + 1 => by
    have ih := highG_le (sk := sk) (T := T) (p := p) (ts := ts) k
    show (if _ then _ else _) ≤ _
    split
    · exact ih
    · exact Int.le_trans (mn_le _ _) ih
/-- The time of the next point. -/
def nextV (T : Tab) (ts : List Int) : Int :=
  if lowG false T ts.length ts (-100000) ts.length ≠ -100000 then lowG false T ts.length ts (-100000) ts.length
  else if highG false T ts.length ts ts.length ≠ 100000 then highG false T ts.length ts ts.length else 0
set_option maxHeartbeats 4000000 in
theorem l4Window_any (A A' : Option Addr) (c c' N p : Nat) (T : Tab) (ts : List Int) (w : World) (h : MAt w A N N T) (h' : IAt w A' ts) (hp : p < N) (hl : ts.length ≤ N) (hN : N ≤ 1000) (hT : ∀ i j, i < N → j < N → T i j ≤ 100000) :
    Calls Try.prog 114 #[.slice A N c, .slice A' ts.length c', .int .i64 p] w fun e w' => e = .returned (.tuple #[.int .i64 (lowG false T p ts (-100000) ts.length), .int .i64 (highG false T p ts ts.length)]) ∧ Below w.heap.size w w' := by
  have H0 := Lib.hid h
  have H1 := Lib.hid h'
  have HT := Lib.hid hT
  clear h h' hT
  go_enter Try.func114, Try.ntmps114
  go_wp2
  go_loopw [8, 9, 10] (fun lo hi k W => ∃ kk : Nat, kk ≤ ts.length ∧ k = .int .i64 kk ∧ lo = .int .i64 (lowG false T p ts (-100000) kk) ∧ hi = .int .i64 (highG false T p ts kk) ∧ Below w.heap.size w W) (fun _ _ k _ => ts.length - (intOf k).toNat)
  case atStart => exact ⟨0, Nat.zero_le _, rfl, rfl, rfl, Below.refl _ _⟩
  case round =>
    obtain ⟨k, hk, rfl, rfl, rfl, hb⟩ := hrel
    by_cases hlt : k < ts.length
    · obtain ⟨bx, ox, x, rfl, hbx, hx, hxm, cx⟩ := (H1.out.below hb).at_ hlt
      obtain ⟨g, off, b1, o1, cc1, rfl, hg, r1, hbl1, q1⟩ := (H0.out.below hb).at_ hp
      obtain ⟨g2, off2, b2, o2, cc2, e', hg2, r2, hbl2, q2⟩ := (H0.out.below hb).at_ (show k < N by omega)
      cases e'
      have X1 := Lib.hid (nthI_of hx)
      have p1 := q1 k (by omega)
      have p2 := q2 p hp
      clear hx hxm q1 q2
      have L1 := Lib.hid (fun hh => lowG_still (sk := false) (T := T) (p := p) (a := -100000) X1.out hh)
      have L2 := Lib.hid (fun hh => lowG_step (sk := false) (T := T) (p := p) (a := -100000) X1.out hh)
      have U1 := Lib.hid (fun hh => highG_still (sk := false) (T := T) (p := p) X1.out hh)
      have U2 := Lib.hid (fun hh => highG_step (sk := false) (T := T) (p := p) X1.out hh)
      have B1 := Lib.hid (HT.out p k hp (by omega))
      have B2 := Lib.hid (HT.out k p (by omega) hp)
      generalize lowG false T p ts (-100000) k = lo at *
      generalize highG false T p ts k = hi at *
      generalize hd1 : T p k = d1 at *
      generalize hd2 : T k p = d2 at *
      clear hd1 hd2
      have EW1 : IntKind.i64.wrap (x - d1) = wrap64 (x - d1) := IntWalk.i64_left _
      have EW2 : IntKind.i64.wrap (x + d2) = wrap64 (x + d2) := IntWalk.i64_left _
      by_cases s1 : d1 = 100000
      · have E1 := Lib.hid (L1.out (by simp [still, s1]))
        by_cases s2 : d2 = 100000
        · have E2 := Lib.hid (U1.out (by simp [still, s2]))
          go_wp2
          go_roundw
          case rel => exact ⟨k + 1, by omega, by go_num, by rw [E1.out], by rw [E2.out], hb⟩
          case measure => simp [intOf]; omega
        · have E2 := Lib.hid (U2.out (by simp [still, s2]))
          have s2' : d2 < 100000 := by have := B2.out; omega
          go_wp2
          go_quiet (fail)
          go_wp2
          go_roundw
          case rel => exact ⟨k + 1, by omega, by go_num, by rw [E1.out], by rw [E2.out]; rfl, vdrewN hb _⟩
          case measure => simp [intOf]; omega
      · have E1 := Lib.hid (L2.out (by simp [still, s1]))
        have s1' : d1 < 100000 := by have := B1.out; omega
        by_cases s2 : d2 = 100000
        · have E2 := Lib.hid (U1.out (by simp [still, s2]))
          go_wp2
          go_quiet (fail)
          go_wp2
          go_roundw
          case rel => exact ⟨k + 1, by omega, by go_num, by rw [E1.out]; rfl, by rw [E2.out], vdrewN hb _⟩
          case measure => simp [intOf]; omega
        · have E2 := Lib.hid (U2.out (by simp [still, s2]))
          have s2' : d2 < 100000 := by have := B2.out; omega
          by_cases s3 : lo < wrap64 (x - d1)
          · have M1 := Lib.hid (show mx lo (wrap64 (x - d1)) = wrap64 (x - d1) from if_pos s3)
            go_wp2
            go_quiet (fail)
            go_wp2
            go_quiet (fail)
            go_wp2
            go_roundw
            case rel => exact ⟨k + 1, by omega, by go_num, by rw [E1.out, M1.out], by rw [E2.out]; rfl, vdrewN hb _⟩
            case measure => simp [intOf]; omega
          · have M1 := Lib.hid (show mx lo (wrap64 (x - d1)) = lo from if_neg s3)
            go_wp2
            go_quiet (fail)
            go_wp2
            go_quiet (fail)
            go_wp2
            go_roundw
            case rel => exact ⟨k + 1, by omega, by go_num, by rw [E1.out, M1.out], by rw [E2.out]; rfl, vdrewN hb _⟩
            case measure => simp [intOf]; omega
    · obtain rfl : ts.length = k := by omega
      go_wp2
      go_ret2
      exact ⟨rfl, hb⟩
set_option maxHeartbeats 4000000 in
theorem next_any (A A' : Option Addr) (c c' N : Nat) (T : Tab) (ts : List Int) (w : World) (h : MAt w A N N T) (h' : IAt w A' ts) (hl : ts.length < N) (hN : N ≤ 1000) :
    Calls Try.prog 112 #[.slice A N c, .slice A' ts.length c'] w fun e w' => e = .returned (.int .i64 (nextV T ts)) ∧ Below w.heap.size w w' := by
  have H0 := Lib.hid h
  have H1 := Lib.hid h'
  clear h h'
  go_enter Try.func112, Try.ntmps112
  go_wp2
  go_loopw [6, 7, 14] (fun lo hi k W => ∃ kk : Nat, kk ≤ ts.length ∧ k = .int .i64 kk ∧ lo = .int .i64 (lowG false T ts.length ts (-100000) kk) ∧ hi = .int .i64 (highG false T ts.length ts kk) ∧ Below w.heap.size w W) (fun _ _ k _ => ts.length - (intOf k).toNat)
  case atStart => exact ⟨0, Nat.zero_le _, rfl, rfl, rfl, Below.refl _ _⟩
  case round =>
    obtain ⟨k, hk, rfl, rfl, rfl, hb⟩ := hrel
    by_cases hlt : k < ts.length
    · obtain ⟨bx, ox, x, rfl, hbx, hx, hxm, cx⟩ := (H1.out.below hb).at_ hlt
      obtain ⟨g, off, b1, o1, cc1, rfl, hg, r1, hbl1, q1⟩ := (H0.out.below hb).at_ hl
      obtain ⟨g2, off2, b2, o2, cc2, e', hg2, r2, hbl2, q2⟩ := (H0.out.below hb).at_ (show k < N by omega)
      cases e'
      have X1 := Lib.hid (nthI_of hx)
      have p1 := q1 k (by omega)
      have p2 := q2 ts.length hl
      clear hx hxm q1 q2
      have L1 := Lib.hid (fun hh => lowG_still (sk := false) (T := T) (p := ts.length) (a := -100000) X1.out hh)
      have L2 := Lib.hid (fun hh => lowG_step (sk := false) (T := T) (p := ts.length) (a := -100000) X1.out hh)
      have U1 := Lib.hid (fun hh => highG_still (sk := false) (T := T) (p := ts.length) X1.out hh)
      have U2 := Lib.hid (fun hh => highG_step (sk := false) (T := T) (p := ts.length) X1.out hh)
      generalize lowG false T ts.length ts (-100000) k = lo at *
      generalize highG false T ts.length ts k = hi at *
      generalize hd1 : T ts.length k = d1 at *
      generalize hd2 : T k ts.length = d2 at *
      clear hd1 hd2
      have EW1 : IntKind.i64.wrap (x - d1) = wrap64 (x - d1) := IntWalk.i64_left _
      have EW2 : IntKind.i64.wrap (x + d2) = wrap64 (x + d2) := IntWalk.i64_left _
      by_cases s1 : d1 = 100000
      · have E1 := Lib.hid (L1.out (by simp [still, s1]))
        have s1' : (d1 != 100000) = false := by simp [s1]
        by_cases s2 : d2 = 100000
        · have E2 := Lib.hid (U1.out (by simp [still, s2]))
          have s2' : (d2 != 100000) = false := by simp [s2]
          clear s1 s2
          go_wp2
          go_roundw
          case rel => exact ⟨k + 1, by omega, by go_num, by rw [E1.out], by rw [E2.out], hb⟩
          case measure => simp [intOf]; omega
        · have E2 := Lib.hid (U2.out (by simp [still, s2]))
          have s2' : (d2 != 100000) = true := by simpa using s2
          clear s1 s2
          go_wp2
          go_roundw
          case rel => exact ⟨k + 1, by omega, by go_num, by rw [E1.out], by rw [E2.out]; rfl, hb⟩
          case measure => simp [intOf]; omega
      · have E1 := Lib.hid (L2.out (by simp [still, s1]))
        have s1' : (d1 != 100000) = true := by simpa using s1
        by_cases s2 : d2 = 100000
        · have E2 := Lib.hid (U1.out (by simp [still, s2]))
          have s2' : (d2 != 100000) = false := by simp [s2]
          clear s1 s2
          go_wp2
          go_roundw
          case rel => exact ⟨k + 1, by omega, by go_num, by rw [E1.out]; rfl, by rw [E2.out], hb⟩
          case measure => simp [intOf]; omega
        · have E2 := Lib.hid (U2.out (by simp [still, s2]))
          have s2' : (d2 != 100000) = true := by simpa using s2
          clear s1 s2
          by_cases s3 : lo < wrap64 (x - d1)
          · have M1 := Lib.hid (show mx lo (wrap64 (x - d1)) = wrap64 (x - d1) from if_pos s3)
            go_wp2
            go_roundw
            case rel => exact ⟨k + 1, by omega, by go_num, by rw [E1.out, M1.out], by rw [E2.out]; rfl, hb⟩
            case measure => simp [intOf]; omega
          · have M1 := Lib.hid (show mx lo (wrap64 (x - d1)) = lo from if_neg s3)
            go_wp2
            go_roundw
            case rel => exact ⟨k + 1, by omega, by go_num, by rw [E1.out, M1.out], by rw [E2.out]; rfl, hb⟩
            case measure => simp [intOf]; omega
    · obtain rfl : ts.length = k := by omega
      have HV := Lib.hid (show nextV T ts = (if lowG false T ts.length ts (-100000) ts.length ≠ -100000 then lowG false T ts.length ts (-100000) ts.length else if highG false T ts.length ts ts.length ≠ 100000 then highG false T ts.length ts ts.length else 0) from rfl)
      generalize lowG false T ts.length ts (-100000) ts.length = lo at *
      generalize highG false T ts.length ts ts.length = hi at *
      by_cases s1 : lo = -100000
      · have s1' : (lo != -100000) = false := by simp [s1]
        by_cases s2 : hi = 100000
        · have HR := Lib.hid (show nextV T ts = 0 by rw [HV.out]; simp [s1, s2])
          have s2' : (hi != 100000) = false := by simp [s2]
          clear s1 s2
          go_wp2
          go_ret
          exact ⟨ret_int HR.out.symm, hb⟩
        · have HR := Lib.hid (show nextV T ts = hi by rw [HV.out]; simp [s1, s2])
          have s2' : (hi != 100000) = true := by simpa using s2
          clear s1 s2
          go_wp2
          go_ret
          exact ⟨ret_int HR.out.symm, hb⟩
      · have HR := Lib.hid (show nextV T ts = lo by rw [HV.out]; simp [s1])
        have s1' : (lo != -100000) = true := by simpa using s1
        clear s1
        go_wp2
        go_ret
        exact ⟨ret_int HR.out.symm, hb⟩
end Go.Proofs.Ytedpaanhnbodfaa
