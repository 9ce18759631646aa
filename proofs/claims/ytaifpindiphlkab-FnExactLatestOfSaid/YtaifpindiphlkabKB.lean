/- Contracts of impl.TimesOk, impl.KeepsOk, spec.TimesOk, spec.KeepsOk and of what they call; for slices of at most 2^40 elements. Contracts of spec.TimesOk, spec.KeepsOk and of what they call; for slices of at most 2^40 elements. Contracts of the laws' helpers over rows of ints: copy, compare, mark, held; for rows of at most 2^20 or 2^40 numbers. Contracts of the laws' helpers that write marks into a result or an argument's copy and ask whether they are still there; for numbers and lengths of at most 2^40. -/
import Derived.Test.YtaifpindiphlkabKA
import Derived.Deep.QuietTactic
import Derived.BigQuiet
namespace Go.Proofs.Ytaifpindiphlkab
open Go.RowKit
set_option linter.unusedVariables false
set_option maxRecDepth 10000
set_option linter.unusedSimpArgs false

theorem allIn1_any (x lo hi : Int) (p q : Nat) (w : World) (p0 : w.cell? ⟨p, 0, none⟩ = some (.int .i64 lo)) (q0 : w.cell? ⟨q, 0, none⟩ = some (.int .i64 hi)) :
    Calls Try.prog 73 #[.int .i64 x, .pointer (some ⟨p, 0, none⟩), .pointer (some ⟨q, 0, none⟩)] w fun e w' => e = .returned (.bool (!inB x lo hi)) ∧ Below w.heap.size w w' := by
  go_enter Try.func73, Try.ntmps73
  go_wp2_with (go_at_call 74; refine (in_any _ _ _ _).mono ?_; rintro e w1 ⟨rfl, rfl⟩)
  go_ret
  exact ⟨rfl, Below.refl _ _⟩
def allB (xs : List Int) (lo hi : Int) : Bool := !xs.any fun x => !inB x lo hi
theorem allB_iff (xs : List Int) (lo hi : Int) : allB xs lo hi = true ↔ ∀ x ∈ xs, lo ≤ x ∧ x ≤ hi := by
  simp [allB, inB, List.any_eq_false]
theorem allIn_any (A : Option Addr) (c : Nat) (xs : List Int) (lo hi : Int) (w : World) (h : IAt w A xs) (hlen : xs.length ≤ 1099511627776) :
    Calls Try.prog 49 #[.slice A xs.length c, .int .i64 lo, .int .i64 hi] w fun e w' => e = .returned (.bool (allB xs lo hi)) ∧ Below w.heap.size w w' := by
  have HC := Lib.hid (containsI_any 73 #[.pointer (some ⟨w.heap.size, 0, none⟩), .pointer (some ⟨w.heap.size + 1, 0, none⟩)] (fun x => !inB x lo hi) A c xs ((w.alloc (.cells #[.int .i64 lo] 3)).alloc (.cells #[.int .i64 hi] 3))
        (h.below (valloc (valloc (Below.refl _ _) _) _)) hlen (fun _ _ => by go_simp) (fun W x hb _ => by
          have := allIn1_any x lo hi w.heap.size (w.heap.size + 1) W ((hb.cell (by simp; omega)).trans (by go_simp)) ((hb.cell (by simp)).trans (by go_simp))
          exact this))
  clear h
  go_enter Try.func49, Try.ntmps49
  go_wp2_with (go_at_call 72; refine HC.out.mono ?_; rintro e w1 ⟨rfl, hb1⟩)
  go_ret
  refine ⟨rfl, ?_⟩
  repeat (first | with_reducible exact Below.refl _ _ | with_reducible refine valloc ?_ _ | with_reducible refine vdrew ?_ | with_reducible refine vdrewN ?_ _ | with_reducible refine via (by assumption) ?_ | refine vset ?_ (by first | exact Nat.le_refl _ | (simp; done) | (simp; omega) | omega) _)
/-- Is there a time for each point? -/
def timesOk (n : Int) (bs : List Bd) (ts : List Int) : Bool := planOk n bs && ((ts.length : Int) == n) && allB ts (-2000) 2000
theorem timesOk_of {n : Int} {bs : List Bd} {ts : List Int} (h : timesOk n bs ts = true) : planOk n bs = true ∧ (ts.length : Int) = n ∧ ∀ t ∈ ts, -2000 ≤ t ∧ t ≤ 2000 := by
  simp only [timesOk, Bool.and_eq_true, beq_iff_eq, allB_iff] at h
  exact ⟨h.1.1, h.1.2, h.2⟩
/-- Do the times keep the bound? -/
def keeps (ts : List Int) (x : Bd) : Bool := decide (ts.getD x.t.toNat 0 - ts.getD x.f.toNat 0 ≤ x.m)
/-- Do the times keep the plan? -/
def keepsOk (n : Int) (bs : List Bd) (ts : List Int) : Bool := timesOk n bs ts && !bs.any fun x => !keeps ts x
end Go.Proofs.Ytaifpindiphlkab
namespace Go.Proofs.Ytaifpindiphlkab
open Go.RowKit
set_option linter.unusedVariables false
set_option maxRecDepth 10000
set_option linter.unusedSimpArgs false

theorem timesOk_bad {n : Int} {bs : List Bd} {ts : List Int} {k : Nat} {x : Int} (hx : ts[k]? = some x) (h : inB x (-2000) 2000 = false) : timesOk n bs ts = false := by
  simp [timesOk, allB, any_of (q := fun x => !inB x (-2000) 2000) hx (by simp [h])]
theorem timesOk_end {n : Int} {bs : List Bd} {ts : List Int} {k : Nat} (hk : ts.length ≤ k) (hn : ∀ y ∈ ts.take k, (!inB y (-2000) 2000) = false) : timesOk n bs ts = (planOk n bs && ((ts.length : Int) == n)) := by
  simp [timesOk, allB, any_none hk hn]
end Go.Proofs.Ytaifpindiphlkab
namespace Go.Proofs.Ytaifpindiphlkab
open Go.RowKit
set_option linter.unusedVariables false
set_option maxRecDepth 10000
set_option linter.unusedSimpArgs false

theorem toIntS_at (A : Option Addr) (c : Nat) (xs : List Int) (w : World) (h : IAt w A xs) (hlen : xs.length ≤ 1048576) :
    Calls Try.prog 14 #[.slice A xs.length c] w fun e w' => e = .returned (.slice (some ⟨w.heap.size, 0, none⟩) xs.length xs.length) ∧ RI w' w.heap.size w'.heap.size (some ⟨w.heap.size, 0, none⟩) xs ∧ Below w.heap.size w w' := by
  obtain ⟨i0, hi0, hz0, hz1, hz2⟩ := info_parts Try.infoInt
  have hmk := fun W => run_make_rowN (P := Try.prog) 25 3 i0 _ Try.underlying25 hi0 hz0 .i64 .i64 xs.length xs.length (Nat.le_refl _) (by rw [hz2]; omega) (by omega) W
  rw [hz1] at hmk
  go_enter Try.func14, Try.ntmps14
  go_wp2
  go_loopw [4] (fun i W => ∃ k : Nat, k ≤ xs.length ∧ i = .int .i64 k ∧ Below w.heap.size w W ∧ ∃ cs, Blk W w.heap.size 3 cs ∧ FillI xs k cs) (fun i _ => xs.length - (intOf i).toNat)
  case atStart => exact ⟨0, Nat.zero_le _, rfl, valloc (Below.refl _ _) _, _, Blk.new _ _ _, FillI.zero xs (by simp [madeCells])⟩
  case round =>
    obtain ⟨k, hk, rfl, hb, cs, hB, hF⟩ := hrel
    by_cases hlt : k < xs.length
    · obtain ⟨b, off, x, rfl, hbl, hx, hxm, c0⟩ := (h.below hb).at_ hlt
      obtain ⟨u0, v0⟩ := hF.room hlt
      have d0 := (hB.cell k).trans v0
      have f0 := hB.frozen k
      have HX := Lib.hid hx
      have HB := Lib.hid hB
      clear hx hB v0 hmk
      go_wp2
      go_roundw
      case rel => exact ⟨k + 1, by omega, by go_num, vset hb (Nat.le_refl _) _, _, HB.out.set_ _ _, hF.step HX.out⟩
      case measure => simp [intOf]; omega
    · obtain rfl : k = xs.length := by omega
      have HB := Lib.hid hB
      clear hB hmk
      go_wp2
      go_ret
      exact ⟨rfl, .inr ⟨_, cs, rfl, Nat.le_refl _, HB.out.lt, HB.out, hF⟩, hb⟩
/-- What is handed back is a row of the call's own that holds the numbers xs. -/
def IntsCopy (xs : List Int) (w : World) (e : Ending) (w' : World) : Prop :=
  ∃ A, e = .returned (.slice A xs.length xs.length) ∧ RI w' w.heap.size w'.heap.size A xs ∧ Below w.heap.size w w'
theorem toIntS_any (A : Option Addr) (c : Nat) (xs : List Int) (w : World) (h : IAt w A xs) (hlen : xs.length ≤ 1048576) :
    Calls Try.prog 14 #[.slice A xs.length c] w (IntsCopy xs w) :=
  (toIntS_at A c xs w h hlen).mono fun _ _ ⟨he, hr, hb⟩ => ⟨_, he, hr, hb⟩
theorem eqIntS_same (A A' : Option Addr) (c c' : Nat) (xs : List Int) (w : World) (h : IAt w A xs) (h' : IAt w A' xs) (hlen : xs.length ≤ 1099511627776) :
    Calls Try.prog 17 #[.slice A xs.length c, .slice A' xs.length c'] w fun e w' => e = .returned (.bool true) ∧ Below w.heap.size w w' := by
  go_enter Try.func17, Try.ntmps17
  go_wp2
  go_loopw [5] (fun i W => ∃ k : Nat, k ≤ xs.length ∧ i = .int .i64 k ∧ Below w.heap.size w W) (fun i _ => xs.length - (intOf i).toNat)
  case atStart => exact ⟨0, Nat.zero_le _, rfl, Below.refl _ _⟩
  case round =>
    obtain ⟨k, hk, rfl, hb⟩ := hrel
    by_cases hlt : k < xs.length
    · obtain ⟨b, off, x, rfl, hbl, hx, hxm, c0⟩ := (h.below hb).at_ hlt
      obtain ⟨b', off', x', rfl, hbl', hx', hxm', d0⟩ := (h'.below hb).at_ hlt
      obtain rfl : x = x' := by rw [hx] at hx'; injection hx'
      have hk0 : (0 : Int) ≤ (k : Int) := by omega
      have hk1 : (k : Int) < (xs.length : Int) := by omega
      clear hx hx' h h'
      go_wp2
      go_quiet (fail)
      go_wp2
      go_roundw
      case rel => exact ⟨k + 1, by omega, by go_num, vdrewN hb _⟩
      case measure => simp [intOf]; omega
    · clear h h'
      go_wp2
      go_ret
      exact ⟨rfl, hb⟩
end Go.Proofs.Ytaifpindiphlkab
namespace Go.Proofs.Ytaifpindiphlkab
open Go.RowKit
set_option linter.unusedVariables false
set_option maxRecDepth 10000
set_option linter.unusedSimpArgs false

def marks (k : Int) (n : Nat) : List Int := (List.range n).map fun (i : Nat) => k + (i : Int)
theorem marks_length (k : Int) (n : Nat) : (marks k n).length = n := by simp [marks]
theorem marks_at {k : Int} {n i : Nat} (h : i < n) : (marks k n)[i]? = some (k + i) := by simp [marks, h]
theorem FillI.marks {xs : List Int} {cs : Array Value} (k : Int) (h : FillI xs xs.length cs) : FillI (marks k xs.length) 0 cs := FillI.zero _ (by rw [marks_length]; exact h.1)
set_option maxHeartbeats 400000 in
theorem markIntS_any (A : Option Addr) (c : Nat) (xs : List Int) (k0 : Int) (lo hi : Nat) (w : World) (h : RI w lo hi A xs) (hk1 : 0 ≤ k0) (hk2 : k0 ≤ 1099511627776) (hlen : xs.length ≤ 1099511627776) :
    Calls Try.prog 21 #[.slice A xs.length c, .int .i64 k0] w fun e w' => e = .returned (.int .i64 (k0 + xs.length)) ∧ RI w' lo hi A (marks k0 xs.length) ∧ Only lo hi w w' := by
  rcases h with ⟨rfl, rfl⟩ | ⟨g, cs0, rfl, h1, h2, hB0, hF0⟩
  · go_enter Try.func21, Try.ntmps21
    go_wp2
    go_loopw [1, 5] (fun k i W => k = .int .i64 k0 ∧ i = .int .i64 0 ∧ Only lo hi w W) (fun _ i _ => 0)
    case atStart => exact ⟨rfl, rfl, Only.refl _ _ _⟩
    case round =>
      obtain ⟨rfl, rfl, hb⟩ := hrel
      go_wp2
      go_ret
      exact ⟨ret_int (by simp), .inl ⟨rfl, rfl⟩, hb⟩
  · have HF := Lib.hid (hF0.marks k0)
    have HB := Lib.hid hB0
    clear hF0 hB0
    go_enter Try.func21, Try.ntmps21
    go_wp2
    go_loopw [1, 5] (fun k i W => ∃ j : Nat, j ≤ xs.length ∧ i = .int .i64 j ∧ k = .int .i64 (k0 + j) ∧ Only lo hi w W ∧ ∃ cs, Blk W g 3 cs ∧ FillI (marks k0 xs.length) j cs) (fun _ i _ => xs.length - (intOf i).toNat)
    case atStart => exact ⟨0, Nat.zero_le _, rfl, by simp, Only.refl _ _ _, _, HB.out, HF.out⟩
    case round =>
      obtain ⟨j, hj, rfl, rfl, hb, cs, hB, hF⟩ := hrel
      by_cases hlt : j < xs.length
      · obtain ⟨u0, v0⟩ := hF.room (j := j) (by rw [marks_length]; exact hlt)
        have d0 := (hB.cell j).trans v0
        have f0 := hB.frozen j
        have HB1 := Lib.hid hB
        clear hB v0
        go_wp2
        go_roundw
        case rel => exact ⟨j + 1, by omega, by go_num, by go_num, hb.set_ h1 h2 _, _, HB1.out.set_ _ _, hF.step (marks_at hlt)⟩
        case measure => simp [intOf]; omega
      · obtain rfl : j = xs.length := by omega
        have HB1 := Lib.hid hB
        clear hB
        go_wp2
        go_ret
        exact ⟨rfl, .inr ⟨g, cs, rfl, h1, h2, HB1.out, by rw [marks_length]; exact hF⟩, hb⟩
theorem heldIntS_any (A : Option Addr) (c n : Nat) (k0 : Int) (w : World) (h : IAt w A (marks k0 n)) (hk1 : 0 ≤ k0) (hk2 : k0 ≤ 1099511627776) (hlen : n ≤ 1099511627776) :
    Calls Try.prog 22 #[.slice A n c, .int .i64 k0] w fun e w' => e = .returned (.int .i64 (k0 + n)) ∧ Below w.heap.size w w' := by
  go_enter Try.func22, Try.ntmps22
  go_wp2
  go_loopw [1, 5] (fun k i W => ∃ j : Nat, j ≤ n ∧ i = .int .i64 j ∧ k = .int .i64 (k0 + j) ∧ Below w.heap.size w W) (fun _ i _ => n - (intOf i).toNat)
  case atStart => exact ⟨0, Nat.zero_le _, rfl, by simp, Below.refl _ _⟩
  case round =>
    obtain ⟨j, hj, rfl, rfl, hb⟩ := hrel
    by_cases hlt : j < n
    · obtain ⟨b, off, x, rfl, hbl, hx, hxm, c0⟩ := (h.below hb).at_ (k := j) (by rw [marks_length]; exact hlt)
      rw [marks_at hlt] at hx
      injection hx with hx
      subst hx
      have hj0 : (0 : Int) ≤ (j : Int) := by omega
      have hj1 : (j : Int) < (n : Int) := by omega
      clear h
      go_wp2
      go_roundw
      case rel => exact ⟨j + 1, by omega, by go_num, by go_num, hb⟩
      case measure => simp [intOf]; omega
    · clear h
      obtain rfl : j = n := by omega
      go_wp2
      go_ret
      exact ⟨rfl, hb⟩
set_option maxHeartbeats 1000000 in
theorem markBoundS_any (A : Option Addr) (c : Nat) (bs : List Bd) (k0 : Int) (lo hi : Nat) (w : World) (h : RB w lo hi A bs) (hk1 : 0 ≤ k0) (hk2 : k0 ≤ 1099511627776) (hlen : bs.length ≤ 1099511627776) :
    Calls Try.prog 53 #[.slice A bs.length c, .int .i64 k0] w fun e w' => e = .returned (.int .i64 (k0 + 3 * bs.length)) ∧ Only lo hi w w' := by
  rcases h with ⟨rfl, rfl⟩ | ⟨g, cs0, rfl, h1, h2, hB0, hF0⟩
  · go_enter Try.func53, Try.ntmps53
    go_wp2
    go_loopw [1, 5] (fun k i W => k = .int .i64 k0 ∧ i = .int .i64 0 ∧ Only lo hi w W) (fun _ i _ => 0)
    case atStart => exact ⟨rfl, rfl, Only.refl _ _ _⟩
    case round =>
      obtain ⟨rfl, rfl, hb⟩ := hrel
      go_wp2
      go_ret
      exact ⟨ret_int (by simp), hb⟩
  · have HS := Lib.hid (show bs.length * 3 ≤ cs0.size from hF0.1)
    have HB := Lib.hid hB0
    clear hF0 hB0
    go_enter Try.func53, Try.ntmps53
    go_wp2
    go_loopw [1, 5] (fun k i W => ∃ j : Nat, j ≤ bs.length ∧ i = .int .i64 j ∧ k = .int .i64 (k0 + 3 * j) ∧ Only lo hi w W ∧ ∃ cs, Blk W g 69 cs ∧ bs.length * 3 ≤ cs.size) (fun _ i _ => bs.length - (intOf i).toNat)
    case atStart => exact ⟨0, Nat.zero_le _, rfl, by simp, Only.refl _ _ _, _, HB.out, HS.out⟩
    case round =>
      obtain ⟨j, hj, rfl, rfl, hb, cs, hB, hF⟩ := hrel
      by_cases hlt : j < bs.length
      · have v0 : cs[j * 3]? = some cs[j * 3] := Array.getElem?_eq_getElem (by omega)
        have v1 : cs[j * 3 + 1]? = some cs[j * 3 + 1] := Array.getElem?_eq_getElem (by omega)
        have v2 : cs[j * 3 + 2]? = some cs[j * 3 + 2] := Array.getElem?_eq_getElem (by omega)
        generalize cs[j * 3] = u0 at v0
        generalize cs[j * 3 + 1] = u1 at v1
        generalize cs[j * 3 + 2] = u2 at v2
        have d0 := (hB.cell (j * 3)).trans v0
        have d1 := (hB.cell (j * 3 + 1)).trans v1
        have d2 := (hB.cell (j * 3 + 2)).trans v2
        have f0 := hB.frozen (j * 3)
        have f1 := hB.frozen (j * 3 + 1)
        have f2 := hB.frozen (j * 3 + 2)
        have HB1 := Lib.hid hB
        clear hB v0 v1 v2
        go_wp2
        go_roundw
        case rel => exact ⟨j + 1, by omega, by go_num, by go_num, ((hb.set_ h1 h2 _).set_ h1 h2 _).set_ h1 h2 _, _, ((HB1.out.set_ _ _).set_ _ _).set_ _ _, by simpa using hF⟩
        case measure => simp [intOf]; omega
      · obtain rfl : j = bs.length := by omega
        have HB1 := Lib.hid hB
        clear hB
        go_wp2
        go_ret
        exact ⟨rfl, hb⟩
theorem markPlan_any (n : Int) (A : Option Addr) (c : Nat) (bs : List Bd) (k0 : Int) (lo hi : Nat) (w : World) (h : RB w lo hi A bs) (hk1 : 0 ≤ k0) (hk2 : k0 ≤ 1099511627776) (hlen : bs.length ≤ 1099511627776) (hh : hi ≤ w.heap.size) :
    Calls Try.prog 20 #[.agg #[.int .i64 n, .slice A bs.length c], .int .i64 k0] w fun e w' => e = .returned (.int .i64 (k0 + 3 * bs.length)) ∧ Only lo hi w w' := by
  go_enter Try.func20, Try.ntmps20
  go_wp2_with (go_at_call 53; refine (markBoundS_any A c bs k0 lo hi _ (h.same ((Same.refl _ _ _).alloc _) hh) hk1 hk2 hlen).mono ?_; rintro e w1 ⟨rfl, ho⟩)
  go_ret
  exact ⟨rfl, Only.only ho (Nat.le_refl _) (Nat.le_refl _) ((Only.refl _ _ _).alloc _)⟩
end Go.Proofs.Ytaifpindiphlkab
