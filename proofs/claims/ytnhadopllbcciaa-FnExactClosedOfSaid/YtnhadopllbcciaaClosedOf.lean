/- Contracts of impl.ClosedOf and spec.ClosedOf; for slices of at most 2^40 bounds. -/
import Derived.Test.YtnhadopllbcciaaTabRes
import Derived.Test.YtnhadopllbcciaaClosed
namespace Go.Proofs.Ytnhadopllbcciaa
open Go.RowKit
set_option linter.unusedVariables false
set_option maxRecDepth 10000
set_option linter.unusedSimpArgs false

/-- How many rows the closed table of a plan has. -/
def fitN (n : Int) (bs : List Bd) : Nat := if fitsOk n bs = true then n.toNat else 0
theorem fitN_le (n : Int) (bs : List Bd) : fitN n bs ≤ 6 := by
  unfold fitN
  split
  · rename_i h
    simp only [fitsOk, Bool.and_eq_true] at h
    have := planOk_of h.1
    omega
  · omega
def TabBoolRes (N : Nat) (T : Tab) (b : Bool) (w : World) (e : Ending) (w' : World) : Prop := ∃ A c, e = .returned (.tuple #[.slice A N c, .bool b]) ∧ GridRes N T w' w.heap.size w'.heap.size A ∧ Below w.heap.size w w'
def LocBoolRes (N : Nat) (T : Tab) (b : Bool) (w : World) (e : Ending) (w' : World) : Prop := ∃ A c, e = .returned (.tuple #[.slice A N c, .bool b]) ∧ MLoc w' w.heap.size w'.heap.size A N N T ∧ Below w.heap.size w w'
theorem MLoc.eq_ {w : World} {lo hi : Nat} {A : Option Addr} {N M : Nat} {T T' : Tab} (h : MLoc w lo hi A N M T) (he : ∀ i j, i < M → j < N → T i j = T' i j) : MLoc w lo hi A N M T' := by
  intro h0
  obtain ⟨g, off, e, g1, hg, hr⟩ := h h0
  refine ⟨g, off, e, g1, hg, fun i hi => ?_⟩
  obtain ⟨b, o, c, h1, b1, h2, h3⟩ := hr i hi
  exact ⟨b, o, c, h1, b1, h2, fun j hj => by rw [← he i j hi hj]; exact h3 j hj⟩
theorem closedOf_any (n : Int) (A : Option Addr) (c : Nat) (bs : List Bd) (w : World) (h : BAt w A bs) (hlen : bs.length ≤ 1099511627776) :
    Calls Try.prog 42 #[.agg #[.int .i64 n, .slice A bs.length c]] w (TabBoolRes (fitN n bs) (closedT n bs) (fitsOk n bs) w) := by
  cases hfit : fitsOk n bs
  · have HN := Lib.hid (show fitN n bs = 0 by simp [fitN, hfit])
    go_enter Try.func42, Try.ntmps42
    go_wp2_with fail
    refine (closed_no _ _ _ bs _ (h.below (by repeat (first | with_reducible exact Below.refl _ _ | with_reducible refine valloc ?_ _ | with_reducible refine vdrew ?_ | with_reducible refine vdrewN ?_ _ | with_reducible refine via (by assumption) ?_ | refine vset ?_ (by first | exact Nat.le_refl _ | (simp; done) | (simp; omega) | omega) _))) hlen hfit).mono ?_; rintro e w1 ⟨rfl, hbw1⟩
    go_wp2
    go_ret2
    rw [HN.out]
    refine ⟨none, 0, rfl, Or.inl ⟨rfl, rfl⟩, ?_⟩
    repeat (first | with_reducible exact Below.refl _ _ | with_reducible refine valloc ?_ _ | with_reducible refine vdrew ?_ | with_reducible refine vdrewN ?_ _ | with_reducible refine via (by assumption) ?_ | refine vset ?_ (by first | exact Nat.le_refl _ | (simp; done) | (simp; omega) | omega) _)
  · obtain ⟨N, rfl⟩ := Int.eq_ofNat_of_zero_le (show 0 ≤ n by simp only [fitsOk, Bool.and_eq_true] at hfit; have := planOk_of hfit.1; omega)
    have HN := Lib.hid (show fitN N bs = N by simp [fitN, hfit])
    go_enter Try.func42, Try.ntmps42
    go_wp2_with fail
    refine (closed_yes _ _ _ bs _ (h.below (by repeat (first | with_reducible exact Below.refl _ _ | with_reducible refine valloc ?_ _ | with_reducible refine vdrew ?_ | with_reducible refine vdrewN ?_ _ | with_reducible refine via (by assumption) ?_ | refine vset ?_ (by first | exact Nat.le_refl _ | (simp; done) | (simp; omega) | omega) _))) hlen hfit).mono ?_; rintro e w1 ⟨g, N', R, hN', hN1, hN6, rfl, hG, hbw1⟩
    obtain rfl : N = N' := by omega
    have HG := Lib.hid hG
    clear hG
    go_wp2
    go_ret2
    rw [HN.out]
    refine ⟨some ⟨g, 0, none⟩, N, rfl, Or.inr ⟨g, R, fun _ => N, rfl, ?_⟩, ?_⟩
    · exact HG.out.wide (by simp) (Nat.le_refl _)
    repeat (first | with_reducible exact Below.refl _ _ | with_reducible refine valloc ?_ _ | with_reducible refine vdrew ?_ | with_reducible refine vdrewN ?_ _ | with_reducible refine via (by assumption) ?_ | refine vset ?_ (by first | exact Nat.le_refl _ | (simp; done) | (simp; omega) | omega) _)
theorem specClosedOf_any (n : Int) (A : Option Addr) (c : Nat) (bs : List Bd) (w : World) (h : BAt w A bs) (hlen : bs.length ≤ 1099511627776) :
    Calls Try.prog 41 #[.agg #[.int .i64 n, .slice A bs.length c]] w (LocBoolRes (fitN n bs) (closedT n bs) (fitsOk n bs) w) := by
  cases hfit : fitsOk n bs
  · have HN := Lib.hid (show fitN n bs = 0 by simp [fitN, hfit])
    go_enter Try.func41, Try.ntmps41
    go_wp2_with fail
    refine (specFitsOk_any _ _ _ bs _ (h.below (by repeat (first | with_reducible exact Below.refl _ _ | with_reducible refine valloc ?_ _ | with_reducible refine vdrew ?_ | with_reducible refine vdrewN ?_ _ | with_reducible refine via (by assumption) ?_ | refine vset ?_ (by first | exact Nat.le_refl _ | (simp; done) | (simp; omega) | omega) _))) hlen).mono ?_; rintro e w1 ⟨rfl, hbw1⟩
    go_wp2
    go_ret2
    rw [HN.out]
    refine ⟨_, _, rfl, fun h0 => absurd h0 (by omega), ?_⟩
    repeat (first | with_reducible exact Below.refl _ _ | with_reducible refine valloc ?_ _ | with_reducible refine vdrew ?_ | with_reducible refine vdrewN ?_ _ | with_reducible refine via (by assumption) ?_ | refine vset ?_ (by first | exact Nat.le_refl _ | (simp; done) | (simp; omega) | omega) _)
  · obtain ⟨N, rfl⟩ := Int.eq_ofNat_of_zero_le (show 0 ≤ n by simp only [fitsOk, Bool.and_eq_true] at hfit; have := planOk_of hfit.1; omega)
    have h16 : 1 ≤ (N : Int) ∧ (N : Int) ≤ 6 := by simp only [fitsOk, Bool.and_eq_true] at hfit; have := planOk_of hfit.1; omega
    have HN := Lib.hid (show fitN N bs = N by simp [fitN, hfit])
    have HC := Lib.hid (closed_eq hfit)
    go_enter Try.func41, Try.ntmps41
    go_wp2_with fail
    refine (specFitsOk_any _ _ _ bs _ (h.below (by repeat (first | with_reducible exact Below.refl _ _ | with_reducible refine valloc ?_ _ | with_reducible refine vdrew ?_ | with_reducible refine vdrewN ?_ _ | with_reducible refine via (by assumption) ?_ | refine vset ?_ (by first | exact Nat.le_refl _ | (simp; done) | (simp; omega) | omega) _))) hlen).mono ?_; rintro e w1 ⟨rfl, hbw1⟩; obtain ⟨hcw1, hfw1⟩ := bcell hbw1; have hzw1 := hbw1.size; (try simp only [sz] at hzw1); (try simp only [szc] at hzw1); have hzw1_0 : w.heap.size < w1.heap.size := (by omega)
    go_wp2_with fail
    refine (l2Closed_any N _ _ bs _ (h.below (by repeat (first | with_reducible exact Below.refl _ _ | with_reducible refine valloc ?_ _ | with_reducible refine vdrew ?_ | with_reducible refine vdrewN ?_ _ | with_reducible refine via (by assumption) ?_ | refine vset ?_ (by first | exact Nat.le_refl _ | (simp; done) | (simp; omega) | omega) _))) (by omega) (by omega) hlen).mono ?_; rintro e w2 ⟨A2, c2, rfl, hm, hbw2⟩
    have HM := Lib.hid hm
    clear hm
    go_wp2
    go_ret2
    rw [HN.out]
    refine ⟨A2, c2, rfl, (HM.out.wide (by omega) (Nat.le_refl _)).eq_ HC.out, ?_⟩
    repeat (first | with_reducible exact Below.refl _ _ | with_reducible refine valloc ?_ _ | with_reducible refine vdrew ?_ | with_reducible refine vdrewN ?_ _ | with_reducible refine via (by assumption) ?_ | refine vset ?_ (by first | exact Nat.le_refl _ | (simp; done) | (simp; omega) | omega) _)
end Go.Proofs.Ytnhadopllbcciaa
