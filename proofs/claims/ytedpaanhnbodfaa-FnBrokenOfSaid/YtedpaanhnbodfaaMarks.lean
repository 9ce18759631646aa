/- Contracts of the laws' helpers that write marks into a result or an argument's copy and ask whether they are still there; for numbers and lengths of at most 2^40. -/
import Derived.Test.YtedpaanhnbodfaaInts
namespace Go.Proofs.Ytedpaanhnbodfaa
open Go.RowKit
set_option linter.unusedVariables false
set_option maxRecDepth 10000
set_option linter.unusedSimpArgs false

def marks (k : Int) (n : Nat) : List Int := (List.range n).map fun (i : Nat) => k + (i : Int)
theorem marks_length (k : Int) (n : Nat) : (marks k n).length = n := by simp [marks]
theorem marks_at {k : Int} {n i : Nat} (h : i < n) : (marks k n)[i]? = some (k + i) := by simp [marks, h]
theorem FillI.marks {xs : List Int} {cs : Array Value} (k : Int) (h : FillI xs xs.length cs) : FillI (marks k xs.length) 0 cs := FillI.zero _ (by rw [marks_length]; exact h.1)
set_option maxHeartbeats 400000 in
theorem markIntS_any (A : Option Addr) (c : Nat) (xs : List Int) (k0 : Int) (lo hi : Nat) (w : World) (h : RI w lo hi A xs) (hk1 : 0 ≤ k0) (hk2 : k0 ≤ 1099511627776) (hlen : xs.length ≤ 1099511627776) :
    Calls Try.prog 95 #[.slice A xs.length c, .int .i64 k0] w fun e w' => e = .returned (.int .i64 (k0 + xs.length)) ∧ RI w' lo hi A (marks k0 xs.length) ∧ Only lo hi w w' := by
  rcases h with ⟨rfl, rfl⟩ | ⟨g, cs0, rfl, h1, h2, hB0, hF0⟩
  · go_enter Try.func95, Try.ntmps95
    go_wp2
    go_loopw [1, 5] (fun k i W => k = .int .i64 k0 ∧ i = .int .i64 0 ∧ Only lo hi w W) (fun _ i _ => 0)
    case atStart => exact ⟨rfl, rfl, Only.refl _ _ _⟩
    case round =>
      obtain ⟨rfl, rfl, hb⟩ := hrel
      go_wp2
      go_ret
      exact ⟨ret_int (by simp), .inl ⟨rfl, rfl⟩, hb⟩
  · have HF := Lib.hid (hF0.marks k0)
    have HB := Lib.hid hB0
    clear hF0 hB0
    go_enter Try.func95, Try.ntmps95
    go_wp2
    go_loopw [1, 5] (fun k i W => ∃ j : Nat, j ≤ xs.length ∧ i = .int .i64 j ∧ k = .int .i64 (k0 + j) ∧ Only lo hi w W ∧ ∃ cs, Blk W g 3 cs ∧ FillI (marks k0 xs.length) j cs) (fun _ i _ => xs.length - (intOf i).toNat)
    case atStart => exact ⟨0, Nat.zero_le _, rfl, by simp, Only.refl _ _ _, _, HB.out, HF.out⟩
    case round =>
      obtain ⟨j, hj, rfl, rfl, hb, cs, hB, hF⟩ := hrel
      by_cases hlt : j < xs.length
      · obtain ⟨u0, v0⟩ := hF.room (j := j) (by rw [marks_length]; exact hlt)
        have d0 := (hB.cell j).trans v0
        have f0 := hB.frozen j
        have HB1 := Lib.hid hB
        clear hB v0
        go_wp2
        go_roundw
        case rel => exact ⟨j + 1, by omega, by go_num, by go_num, hb.set_ h1 h2 _, _, HB1.out.set_ _ _, hF.step (marks_at hlt)⟩
        case measure => simp [intOf]; omega
      · obtain rfl : j = xs.length := by omega
        have HB1 := Lib.hid hB
        clear hB
        go_wp2
        go_ret
        exact ⟨rfl, .inr ⟨g, cs, rfl, h1, h2, HB1.out, by rw [marks_length]; exact hF⟩, hb⟩
theorem heldIntS_any (A : Option Addr) (c n : Nat) (k0 : Int) (w : World) (h : IAt w A (marks k0 n)) (hk1 : 0 ≤ k0) (hk2 : k0 ≤ 1099511627776) (hlen : n ≤ 1099511627776) :
    Calls Try.prog 96 #[.slice A n c, .int .i64 k0] w fun e w' => e = .returned (.int .i64 (k0 + n)) ∧ Below w.heap.size w w' := by
  go_enter Try.func96, Try.ntmps96
  go_wp2
  go_loopw [1, 5] (fun k i W => ∃ j : Nat, j ≤ n ∧ i = .int .i64 j ∧ k = .int .i64 (k0 + j) ∧ Below w.heap.size w W) (fun _ i _ => n - (intOf i).toNat)
  case atStart => exact ⟨0, Nat.zero_le _, rfl, by simp, Below.refl _ _⟩
  case round =>
    obtain ⟨j, hj, rfl, rfl, hb⟩ := hrel
    by_cases hlt : j < n
    · obtain ⟨b, off, x, rfl, hbl, hx, hxm, c0⟩ := (h.below hb).at_ (k := j) (by rw [marks_length]; exact hlt)
      rw [marks_at hlt] at hx
      injection hx with hx
      subst hx
      have hj0 : (0 : Int) ≤ (j : Int) := by omega
      have hj1 : (j : Int) < (n : Int) := by omega
      clear h
      go_wp2
      go_roundw
      case rel => exact ⟨j + 1, by omega, by go_num, by go_num, hb⟩
      case measure => simp [intOf]; omega
    · clear h
      obtain rfl : j = n := by omega
      go_wp2
      go_ret
      exact ⟨rfl, hb⟩
set_option maxHeartbeats 1000000 in
theorem markBoundS_any (A : Option Addr) (c : Nat) (bs : List Bd) (k0 : Int) (lo hi : Nat) (w : World) (h : RB w lo hi A bs) (hk1 : 0 ≤ k0) (hk2 : k0 ≤ 1099511627776) (hlen : bs.length ≤ 1099511627776) :
    Calls Try.prog 143 #[.slice A bs.length c, .int .i64 k0] w fun e w' => e = .returned (.int .i64 (k0 + 3 * bs.length)) ∧ Only lo hi w w' := by
  rcases h with ⟨rfl, rfl⟩ | ⟨g, cs0, rfl, h1, h2, hB0, hF0⟩
  · go_enter Try.func143, Try.ntmps143
    go_wp2
    go_loopw [1, 5] (fun k i W => k = .int .i64 k0 ∧ i = .int .i64 0 ∧ Only lo hi w W) (fun _ i _ => 0)
    case atStart => exact ⟨rfl, rfl, Only.refl _ _ _⟩
    case round =>
      obtain ⟨rfl, rfl, hb⟩ := hrel
      go_wp2
      go_ret
      exact ⟨ret_int (by simp), hb⟩
  · have HS := Lib.hid (show bs.length * 3 ≤ cs0.size from hF0.1)
    have HB := Lib.hid hB0
    clear hF0 hB0
    go_enter Try.func143, Try.ntmps143
    go_wp2
    go_loopw [1, 5] (fun k i W => ∃ j : Nat, j ≤ bs.length ∧ i = .int .i64 j ∧ k = .int .i64 (k0 + 3 * j) ∧ Only lo hi w W ∧ ∃ cs, Blk W g 55 cs ∧ bs.length * 3 ≤ cs.size) (fun _ i _ => bs.length - (intOf i).toNat)
    case atStart => exact ⟨0, Nat.zero_le _, rfl, by simp, Only.refl _ _ _, _, HB.out, HS.out⟩
    case round =>
      obtain ⟨j, hj, rfl, rfl, hb, cs, hB, hF⟩ := hrel
      by_cases hlt : j < bs.length
      · have v0 : cs[j * 3]? = some cs[j * 3] := Array.getElem?_eq_getElem (by omega)
        have v1 : cs[j * 3 + 1]? = some cs[j * 3 + 1] := Array.getElem?_eq_getElem (by omega)
        have v2 : cs[j * 3 + 2]? = some cs[j * 3 + 2] := Array.getElem?_eq_getElem (by omega)
        generalize cs[j * 3] = u0 at v0
        generalize cs[j * 3 + 1] = u1 at v1
        generalize cs[j * 3 + 2] = u2 at v2
        have d0 := (hB.cell (j * 3)).trans v0
        have d1 := (hB.cell (j * 3 + 1)).trans v1
        have d2 := (hB.cell (j * 3 + 2)).trans v2
        have f0 := hB.frozen (j * 3)
        have f1 := hB.frozen (j * 3 + 1)
        have f2 := hB.frozen (j * 3 + 2)
        have HB1 := Lib.hid hB
        clear hB v0 v1 v2
        go_wp2
        go_roundw
        case rel => exact ⟨j + 1, by omega, by go_num, by go_num, ((hb.set_ h1 h2 _).set_ h1 h2 _).set_ h1 h2 _, _, ((HB1.out.set_ _ _).set_ _ _).set_ _ _, by simpa using hF⟩
        case measure => simp [intOf]; omega
      · obtain rfl : j = bs.length := by omega
        have HB1 := Lib.hid hB
        clear hB
        go_wp2
        go_ret
        exact ⟨rfl, hb⟩
theorem markPlan_any (n : Int) (A : Option Addr) (c : Nat) (bs : List Bd) (k0 : Int) (lo hi : Nat) (w : World) (h : RB w lo hi A bs) (hk1 : 0 ≤ k0) (hk2 : k0 ≤ 1099511627776) (hlen : bs.length ≤ 1099511627776) (hh : hi ≤ w.heap.size) :
    Calls Try.prog 94 #[.agg #[.int .i64 n, .slice A bs.length c], .int .i64 k0] w fun e w' => e = .returned (.int .i64 (k0 + 3 * bs.length)) ∧ Only lo hi w w' := by
  go_enter Try.func94, Try.ntmps94
  go_wp2_with (go_at_call 143; refine (markBoundS_any A c bs k0 lo hi _ (h.same ((Same.refl _ _ _).alloc _) hh) hk1 hk2 hlen).mono ?_; rintro e w1 ⟨rfl, ho⟩)
  go_ret
  exact ⟨rfl, Only.only ho (Nat.le_refl _) (Nat.le_refl _) ((Only.refl _ _ _).alloc _)⟩
end Go.Proofs.Ytedpaanhnbodfaa
