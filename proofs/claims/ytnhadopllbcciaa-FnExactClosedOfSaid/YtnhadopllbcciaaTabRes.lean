/- Tables of the program's own, none or a Grid: how they stand, how they are marked. -/
import Derived.Test.YtnhadopllbcciaaTabOf
import Derived.Test.YtnhadopllbcciaaMatMark
namespace Go.Proofs.Ytnhadopllbcciaa
open Go.RowKit
set_option linter.unusedVariables false
set_option maxRecDepth 10000
set_option linter.unusedSimpArgs false

theorem tabN_le (n : Int) (bs : List Bd) : tabN n bs ≤ 6 := by
  unfold tabN
  split
  · rename_i h
    have := planOk_of h
    omega
  · omega
theorem GridRes.same {N : Nat} {T : Tab} {w w1 : World} {lo hi : Nat} {A : Option Addr} (h : GridRes N T w lo hi A) (hs : Same lo hi w w1) (hh : hi ≤ w.heap.size) : GridRes N T w1 lo hi A := by
  rcases h with h | ⟨g, R, C, e, hG⟩
  · exact Or.inl h
  · exact Or.inr ⟨g, R, C, e, hG.same hs hh⟩
theorem GridRes.wide {N : Nat} {T : Tab} {w : World} {lo hi lo' hi' : Nat} {A : Option Addr} (h : GridRes N T w lo hi A) (hl : lo' ≤ lo) (hh : hi ≤ hi') : GridRes N T w lo' hi' A := by
  rcases h with h | ⟨g, R, C, e, hG⟩
  · exact Or.inl h
  · exact Or.inr ⟨g, R, C, e, hG.wide hl hh⟩
theorem GridRes.mat {N : Nat} {T : Tab} {w : World} {lo hi : Nat} {A : Option Addr} (h : GridRes N T w lo hi A) (hh : hi ≤ w.heap.size) : MAt w A N N T := by
  rcases h with ⟨_, h⟩ | ⟨g, R, C, rfl, hG⟩
  · intro h0; omega
  · exact hG.mat
theorem markIntSS_res (lo hi N c : Nat) (A : Option Addr) (T : Tab) (k0 : Int) (w : World) (h : GridRes N T w lo hi A) (hk1 : 0 ≤ k0) (hk2 : k0 ≤ 1000000) (hN : N ≤ 1000) :
    Calls Try.prog 27 #[.slice A N c, .int .i64 k0] w fun e w' => e = .returned (.int .i64 (k0 + ((N * N : Nat) : Int))) ∧ GridRes N (markT k0 N) w' lo hi A ∧ Only lo hi w w' := by
  rcases h with ⟨rfl, rfl⟩ | ⟨g, R, C, rfl, hG⟩
  · go_enter Try.func27, Try.ntmps27
    go_wp2
    go_loopw [1, 5] (fun k i W => k = .int .i64 k0 ∧ i = .int .i64 0 ∧ W = w) (fun _ _ _ => 0)
    case atStart => exact ⟨rfl, rfl, rfl⟩
    case round =>
      obtain ⟨rfl, rfl, rfl⟩ := hrel
      go_wp2
      go_ret
      exact ⟨by simp, Or.inl ⟨rfl, rfl⟩, Only.refl _ _ _⟩
  · exact (markIntSS_any lo hi g N c R C T k0 w hG hk1 hk2 hN).mono fun e w' ⟨h1, h2, h3⟩ => ⟨h1, Or.inr ⟨g, R, C, rfl, h2⟩, h3⟩
end Go.Proofs.Ytnhadopllbcciaa
