/- Contracts of the laws' helpers over rows of ints: copy, compare, mark, held; for rows of at most 2^20 or 2^40 numbers. -/
import Derived.Test.YtnhadopllbcciaaCopy
import Derived.Deep.QuietTactic
import Derived.BigQuiet
namespace Go.Proofs.Ytnhadopllbcciaa
open Go.RowKit
set_option linter.unusedVariables false
set_option maxRecDepth 10000
set_option linter.unusedSimpArgs false

theorem toIntS_at (A : Option Addr) (c : Nat) (xs : List Int) (w : World) (h : IAt w A xs) (hlen : xs.length ≤ 1048576) :
    Calls Try.prog 34 #[.slice A xs.length c] w fun e w' => e = .returned (.slice (some ⟨w.heap.size, 0, none⟩) xs.length xs.length) ∧ RI w' w.heap.size w'.heap.size (some ⟨w.heap.size, 0, none⟩) xs ∧ Below w.heap.size w w' := by
  obtain ⟨i0, hi0, hz0, hz1, hz2⟩ := info_parts Try.infoInt
  have hmk := fun W => run_make_rowN (P := Try.prog) 38 3 i0 _ Try.underlying38 hi0 hz0 .i64 .i64 xs.length xs.length (Nat.le_refl _) (by rw [hz2]; omega) (by omega) W
  rw [hz1] at hmk
  go_enter Try.func34, Try.ntmps34
  go_wp2
  go_loopw [4] (fun i W => ∃ k : Nat, k ≤ xs.length ∧ i = .int .i64 k ∧ Below w.heap.size w W ∧ ∃ cs, Blk W w.heap.size 3 cs ∧ FillI xs k cs) (fun i _ => xs.length - (intOf i).toNat)
  case atStart => exact ⟨0, Nat.zero_le _, rfl, valloc (Below.refl _ _) _, _, Blk.new _ _ _, FillI.zero xs (by simp [madeCells])⟩
  case round =>
    obtain ⟨k, hk, rfl, hb, cs, hB, hF⟩ := hrel
    by_cases hlt : k < xs.length
    · obtain ⟨b, off, x, rfl, hbl, hx, hxm, c0⟩ := (h.below hb).at_ hlt
      obtain ⟨u0, v0⟩ := hF.room hlt
      have d0 := (hB.cell k).trans v0
      have f0 := hB.frozen k
      have HX := Lib.hid hx
      have HB := Lib.hid hB
      clear hx hB v0 hmk
      go_wp2
      go_roundw
      case rel => exact ⟨k + 1, by omega, by go_num, vset hb (Nat.le_refl _) _, _, HB.out.set_ _ _, hF.step HX.out⟩
      case measure => simp [intOf]; omega
    · obtain rfl : k = xs.length := by omega
      have HB := Lib.hid hB
      clear hB hmk
      go_wp2
      go_ret
      exact ⟨rfl, .inr ⟨_, cs, rfl, Nat.le_refl _, HB.out.lt, HB.out, hF⟩, hb⟩
/-- What is handed back is a row of the call's own that holds the numbers xs. -/
def IntsCopy (xs : List Int) (w : World) (e : Ending) (w' : World) : Prop :=
  ∃ A, e = .returned (.slice A xs.length xs.length) ∧ RI w' w.heap.size w'.heap.size A xs ∧ Below w.heap.size w w'
theorem toIntS_any (A : Option Addr) (c : Nat) (xs : List Int) (w : World) (h : IAt w A xs) (hlen : xs.length ≤ 1048576) :
    Calls Try.prog 34 #[.slice A xs.length c] w (IntsCopy xs w) :=
  (toIntS_at A c xs w h hlen).mono fun _ _ ⟨he, hr, hb⟩ => ⟨_, he, hr, hb⟩
theorem eqIntS_same (A A' : Option Addr) (c c' : Nat) (xs : List Int) (w : World) (h : IAt w A xs) (h' : IAt w A' xs) (hlen : xs.length ≤ 1099511627776) :
    Calls Try.prog 36 #[.slice A xs.length c, .slice A' xs.length c'] w fun e w' => e = .returned (.bool true) ∧ Below w.heap.size w w' := by
  go_enter Try.func36, Try.ntmps36
  go_wp2
  go_loopw [5] (fun i W => ∃ k : Nat, k ≤ xs.length ∧ i = .int .i64 k ∧ Below w.heap.size w W) (fun i _ => xs.length - (intOf i).toNat)
  case atStart => exact ⟨0, Nat.zero_le _, rfl, Below.refl _ _⟩
  case round =>
    obtain ⟨k, hk, rfl, hb⟩ := hrel
    by_cases hlt : k < xs.length
    · obtain ⟨b, off, x, rfl, hbl, hx, hxm, c0⟩ := (h.below hb).at_ hlt
      obtain ⟨b', off', x', rfl, hbl', hx', hxm', d0⟩ := (h'.below hb).at_ hlt
      obtain rfl : x = x' := by rw [hx] at hx'; injection hx'
      have hk0 : (0 : Int) ≤ (k : Int) := by omega
      have hk1 : (k : Int) < (xs.length : Int) := by omega
      clear hx hx' h h'
      go_wp2
      go_quiet (fail)
      go_wp2
      go_roundw
      case rel => exact ⟨k + 1, by omega, by go_num, vdrewN hb _⟩
      case measure => simp [intOf]; omega
    · clear h h'
      go_wp2
      go_ret
      exact ⟨rfl, hb⟩
end Go.Proofs.Ytnhadopllbcciaa
