/- Contracts of the laws' helpers over rows of ints: copy, compare, mark, held; for rows of at most 2^20 or 2^40 numbers. -/
import Derived.Test.YtedpaanhnbodfaaCopy
import Derived.Deep.QuietTactic
import Derived.BigQuiet
namespace Go.Proofs.Ytedpaanhnbodfaa
open Go.RowKit
set_option linter.unusedVariables false
set_option maxRecDepth 10000
set_option linter.unusedSimpArgs false

/-- What is handed back is a row of the call's own that holds the numbers xs. -/
def IntsCopy (xs : List Int) (w : World) (e : Ending) (w' : World) : Prop :=
  ∃ A, e = .returned (.slice A xs.length xs.length) ∧ RI w' w.heap.size w'.heap.size A xs ∧ Below w.heap.size w w'
theorem eqIntS_same (A A' : Option Addr) (c c' : Nat) (xs : List Int) (w : World) (h : IAt w A xs) (h' : IAt w A' xs) (hlen : xs.length ≤ 1099511627776) :
    Calls Try.prog 92 #[.slice A xs.length c, .slice A' xs.length c'] w fun e w' => e = .returned (.bool true) ∧ Below w.heap.size w w' := by
  go_enter Try.func92, Try.ntmps92
  go_wp2
  go_loopw [5] (fun i W => ∃ k : Nat, k ≤ xs.length ∧ i = .int .i64 k ∧ Below w.heap.size w W) (fun i _ => xs.length - (intOf i).toNat)
  case atStart => exact ⟨0, Nat.zero_le _, rfl, Below.refl _ _⟩
  case round =>
    obtain ⟨k, hk, rfl, hb⟩ := hrel
    by_cases hlt : k < xs.length
    · obtain ⟨b, off, x, rfl, hbl, hx, hxm, c0⟩ := (h.below hb).at_ hlt
      obtain ⟨b', off', x', rfl, hbl', hx', hxm', d0⟩ := (h'.below hb).at_ hlt
      obtain rfl : x = x' := by rw [hx] at hx'; injection hx'
      have hk0 : (0 : Int) ≤ (k : Int) := by omega
      have hk1 : (k : Int) < (xs.length : Int) := by omega
      clear hx hx' h h'
      go_wp2
      go_quiet (fail)
      go_wp2
      go_roundw
      case rel => exact ⟨k + 1, by omega, by go_num, vdrewN hb _⟩
      case measure => simp [intOf]; omega
    · clear h h'
      go_wp2
      go_ret
      exact ⟨rfl, hb⟩
theorem sameInts_same (A A' : Option Addr) (c c' : Nat) (xs : List Int) (w : World) (h : IAt w A xs) (h' : IAt w A' xs) (hlen : xs.length ≤ 1099511627776) :
    Calls Try.prog 31 #[.slice A xs.length c, .slice A' xs.length c'] w fun e w' => e = .returned (.bool true) ∧ Below w.heap.size w w' := by
  go_enter Try.func31, Try.ntmps31
  go_wp2
  go_loopw [5] (fun i W => ∃ k : Nat, k ≤ xs.length ∧ i = .int .i64 k ∧ Below w.heap.size w W) (fun i _ => xs.length - (intOf i).toNat)
  case atStart => exact ⟨0, Nat.zero_le _, rfl, Below.refl _ _⟩
  case round =>
    obtain ⟨k, hk, rfl, hb⟩ := hrel
    by_cases hlt : k < xs.length
    · obtain ⟨b, off, x, rfl, hbl, hx, hxm, c0⟩ := (h.below hb).at_ hlt
      obtain ⟨b', off', x', rfl, hbl', hx', hxm', d0⟩ := (h'.below hb).at_ hlt
      obtain rfl : x = x' := by rw [hx] at hx'; injection hx'
      have hk0 : (0 : Int) ≤ (k : Int) := by omega
      have hk1 : (k : Int) < (xs.length : Int) := by omega
      clear hx hx' h h'
      go_wp2
      go_quiet (fail)
      go_wp2
      go_roundw
      case rel => exact ⟨k + 1, by omega, by go_num, vdrewN hb _⟩
      case measure => simp [intOf]; omega
    · clear h h'
      go_wp2
      go_ret
      exact ⟨rfl, hb⟩
end Go.Proofs.Ytedpaanhnbodfaa
