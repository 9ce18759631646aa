/- Contracts of StateOk, of the program and of the reference; for slices of at most 2^40 elements. -/
import Derived.Test.YtedpaanhnbodfaaPlainEq
import Derived.Test.YtedpaanhnbodfaaClosed
import Derived.Test.YtedpaanhnbodfaaWindows
import Derived.Test.YtedpaanhnbodfaaSpecTimes
namespace Go.Proofs.Ytedpaanhnbodfaa
open Go.RowKit
set_option linter.unusedVariables false
set_option maxRecDepth 10000
set_option linter.unusedSimpArgs false

/-- Is it a state of the plan? -/
def stOk (n : Int) (bs : List Bd) (now : Int) (xs : List Int) : Bool := fitsOk n bs && decide ((xs.length : Int) = n) && inB now 0 2000 && decide (nthI xs 0 = 0) && allB xs (-1) now
theorem isClock_any (t : Int) (w : World) : Calls Try.prog 126 #[.int .i64 t] w fun e w' => e = .returned (.bool (inB t 0 2000)) ∧ Below w.heap.size w w' := by
  go_enter Try.func126, Try.ntmps126
  go_wp2_with (go_at_call 99; refine (in_any _ _ _ _).mono ?_; rintro e w1 ⟨rfl, rfl⟩)
  go_ret
  exact ⟨rfl, Below.refl _ _⟩
theorem stOk_fit {n now : Int} {bs : List Bd} {xs : List Int} (h : stOk n bs now xs = true) : fitsOk n bs = true ∧ (xs.length : Int) = n ∧ (0 ≤ now ∧ now ≤ 2000) ∧ nthI xs 0 = 0 ∧ ∀ x ∈ xs, -1 ≤ x ∧ x ≤ now := by
  simp only [stOk, Bool.and_eq_true, decide_eq_true_eq] at h
  obtain ⟨⟨⟨⟨h1, h2⟩, h3⟩, h4⟩, h5⟩ := h
  exact ⟨h1, h2, (inB_iff _ _ _).1 h3, h4, (allB_iff _ _ _).1 h5⟩
set_option maxHeartbeats 1000000 in
theorem stateOk_any (n : Int) (A : Option Addr) (c : Nat) (bs : List Bd) (now : Int) (A' : Option Addr) (c' : Nat) (xs : List Int) (w : World) (h : BAt w A bs) (h' : IAt w A' xs) (hlen : bs.length ≤ 1099511627776) (hlen' : xs.length ≤ 1099511627776) :
    Calls Try.prog 74 #[.agg #[.int .i64 n, .slice A bs.length c], .agg #[.int .i64 now, .slice A' xs.length c']] w fun e w' => e = .returned (.bool (stOk n bs now xs)) ∧ Below w.heap.size w w' := by
  cases hfit : fitsOk n bs
  · have HR := Lib.hid (show stOk n bs now xs = false by simp [stOk, hfit])
    go_enter Try.func74, Try.ntmps74
    go_wp2_with fail
    refine (fitsOk_any _ _ _ bs _ (h.below (by repeat (first | with_reducible exact Below.refl _ _ | with_reducible refine valloc ?_ _ | with_reducible refine vdrew ?_ | with_reducible refine vdrewN ?_ _ | with_reducible refine via (by assumption) ?_ | refine vset ?_ (by first | exact Nat.le_refl _ | (simp; done) | (simp; omega) | omega) _))) hlen).mono ?_; rintro e w1 ⟨rfl, hbw1⟩
    go_wp2
    go_ret
    refine ⟨ret_bool HR.out.symm, ?_⟩
    repeat (first | with_reducible exact Below.refl _ _ | with_reducible refine valloc ?_ _ | with_reducible refine vdrew ?_ | with_reducible refine vdrewN ?_ _ | with_reducible refine via (by assumption) ?_ | refine vset ?_ (by first | exact Nat.le_refl _ | (simp; done) | (simp; omega) | omega) _)
  by_cases hl : (xs.length : Int) = n
  · have hn1 : 1 ≤ n := by simp only [fitsOk, Bool.and_eq_true] at hfit; have := planOk_of hfit.1; omega
    have hl0 : 0 < xs.length := by omega
    cases hcl : inB now 0 2000
    · have HR := Lib.hid (show stOk n bs now xs = false by simp [stOk, hcl])
      have hne : ((xs.length : Int) != n) = false := by simp [hl]
      clear hl
      go_enter Try.func74, Try.ntmps74
      go_wp2_with fail
      refine (fitsOk_any _ _ _ bs _ (h.below (by repeat (first | with_reducible exact Below.refl _ _ | with_reducible refine valloc ?_ _ | with_reducible refine vdrew ?_ | with_reducible refine vdrewN ?_ _ | with_reducible refine via (by assumption) ?_ | refine vset ?_ (by first | exact Nat.le_refl _ | (simp; done) | (simp; omega) | omega) _))) hlen).mono ?_; rintro e w1 ⟨rfl, hbw1⟩; obtain ⟨hcw1, hfw1⟩ := bcell hbw1; have hzw1 := hbw1.size; (try simp only [sz] at hzw1); (try simp only [szc] at hzw1); have hzw1_0 : w.heap.size < w1.heap.size := (by omega); have hzw1_1 : w.heap.size + 1 < w1.heap.size := (by omega)
      go_wp2_with fail
      refine (isClock_any _ _).mono ?_; rintro e w2 ⟨rfl, hbw2⟩
      go_wp2
      go_ret
      refine ⟨ret_bool HR.out.symm, ?_⟩
      repeat (first | with_reducible exact Below.refl _ _ | with_reducible refine valloc ?_ _ | with_reducible refine vdrew ?_ | with_reducible refine vdrewN ?_ _ | with_reducible refine via (by assumption) ?_ | refine vset ?_ (by first | exact Nat.le_refl _ | (simp; done) | (simp; omega) | omega) _)
    · obtain ⟨b, off, x, rfl, hbl, hx, hxm, c0⟩ := h'.at_ hl0
      have X0 := nthI_of hx
      rw [Nat.add_zero] at c0
      by_cases hx0 : x = 0
      · have HR := Lib.hid (show stOk n bs now xs = allB xs (-1) now by simp [stOk, hfit, hl, hcl, X0, hx0])
        have hne : ((xs.length : Int) != n) = false := by simp [hl]
        have hx0' : (x != 0) = false := by simp [hx0]
        clear hl hx hxm X0
        go_enter Try.func74, Try.ntmps74
        go_wp2_with fail
        refine (fitsOk_any _ _ _ bs _ (h.below (by repeat (first | with_reducible exact Below.refl _ _ | with_reducible refine valloc ?_ _ | with_reducible refine vdrew ?_ | with_reducible refine vdrewN ?_ _ | with_reducible refine via (by assumption) ?_ | refine vset ?_ (by first | exact Nat.le_refl _ | (simp; done) | (simp; omega) | omega) _))) hlen).mono ?_; rintro e w1 ⟨rfl, hbw1⟩; obtain ⟨hcw1, hfw1⟩ := bcell hbw1; have hzw1 := hbw1.size; (try simp only [sz] at hzw1); (try simp only [szc] at hzw1); have hzw1_0 : w.heap.size < w1.heap.size := (by omega); have hzw1_1 : w.heap.size + 1 < w1.heap.size := (by omega)
        go_wp2_with fail
        refine (isClock_any _ _).mono ?_; rintro e w2 ⟨rfl, hbw2⟩; obtain ⟨hcw2, hfw2⟩ := bcell hbw2; have hzw2 := hbw2.size; (try simp only [sz] at hzw2); (try simp only [szc] at hzw2); have hzw2_0 : w.heap.size < w2.heap.size := (by omega); have hzw2_1 : w.heap.size + 1 < w2.heap.size := (by omega)
        have d0 : w2.cell? ⟨b, off, none⟩ = some (.int .i64 x) := cB hbw2 (cB hbw1 (cA (cA c0 _) _))
        clear hx0 c0
        go_wp2_with fail
        refine (allIn_any _ _ xs _ _ _ (h'.below (by repeat (first | with_reducible exact Below.refl _ _ | with_reducible refine valloc ?_ _ | with_reducible refine vdrew ?_ | with_reducible refine vdrewN ?_ _ | with_reducible refine via (by assumption) ?_ | refine vset ?_ (by first | exact Nat.le_refl _ | (simp; done) | (simp; omega) | omega) _))) hlen').mono ?_; rintro e w3 ⟨rfl, hbw3⟩
        go_wp2
        go_ret
        refine ⟨ret_bool HR.out.symm, ?_⟩
        repeat (first | with_reducible exact Below.refl _ _ | with_reducible refine valloc ?_ _ | with_reducible refine vdrew ?_ | with_reducible refine vdrewN ?_ _ | with_reducible refine via (by assumption) ?_ | refine vset ?_ (by first | exact Nat.le_refl _ | (simp; done) | (simp; omega) | omega) _)
      · have HR := Lib.hid (show stOk n bs now xs = false by simp [stOk, X0, hx0])
        have hne : ((xs.length : Int) != n) = false := by simp [hl]
        have hx0' : (x != 0) = true := by simpa using hx0
        clear hl hx hxm X0 hx0
        go_enter Try.func74, Try.ntmps74
        go_wp2_with fail
        refine (fitsOk_any _ _ _ bs _ (h.below (by repeat (first | with_reducible exact Below.refl _ _ | with_reducible refine valloc ?_ _ | with_reducible refine vdrew ?_ | with_reducible refine vdrewN ?_ _ | with_reducible refine via (by assumption) ?_ | refine vset ?_ (by first | exact Nat.le_refl _ | (simp; done) | (simp; omega) | omega) _))) hlen).mono ?_; rintro e w1 ⟨rfl, hbw1⟩; obtain ⟨hcw1, hfw1⟩ := bcell hbw1; have hzw1 := hbw1.size; (try simp only [sz] at hzw1); (try simp only [szc] at hzw1); have hzw1_0 : w.heap.size < w1.heap.size := (by omega); have hzw1_1 : w.heap.size + 1 < w1.heap.size := (by omega)
        go_wp2_with fail
        refine (isClock_any _ _).mono ?_; rintro e w2 ⟨rfl, hbw2⟩; obtain ⟨hcw2, hfw2⟩ := bcell hbw2; have hzw2 := hbw2.size; (try simp only [sz] at hzw2); (try simp only [szc] at hzw2); have hzw2_0 : w.heap.size < w2.heap.size := (by omega); have hzw2_1 : w.heap.size + 1 < w2.heap.size := (by omega)
        have d0 : w2.cell? ⟨b, off, none⟩ = some (.int .i64 x) := cB hbw2 (cB hbw1 (cA (cA c0 _) _))
        clear c0
        go_wp2
        go_ret
        refine ⟨ret_bool HR.out.symm, ?_⟩
        repeat (first | with_reducible exact Below.refl _ _ | with_reducible refine valloc ?_ _ | with_reducible refine vdrew ?_ | with_reducible refine vdrewN ?_ _ | with_reducible refine via (by assumption) ?_ | refine vset ?_ (by first | exact Nat.le_refl _ | (simp; done) | (simp; omega) | omega) _)
  · have HR := Lib.hid (show stOk n bs now xs = false by simp [stOk, hl])
    have hne : ((xs.length : Int) != n) = true := by simpa using hl
    clear hl
    go_enter Try.func74, Try.ntmps74
    go_wp2_with fail
    refine (fitsOk_any _ _ _ bs _ (h.below (by repeat (first | with_reducible exact Below.refl _ _ | with_reducible refine valloc ?_ _ | with_reducible refine vdrew ?_ | with_reducible refine vdrewN ?_ _ | with_reducible refine via (by assumption) ?_ | refine vset ?_ (by first | exact Nat.le_refl _ | (simp; done) | (simp; omega) | omega) _))) hlen).mono ?_; rintro e w1 ⟨rfl, hbw1⟩; obtain ⟨hcw1, hfw1⟩ := bcell hbw1; have hzw1 := hbw1.size; (try simp only [sz] at hzw1); (try simp only [szc] at hzw1); have hzw1_0 : w.heap.size < w1.heap.size := (by omega); have hzw1_1 : w.heap.size + 1 < w1.heap.size := (by omega)
    go_wp2
    go_ret
    refine ⟨ret_bool HR.out.symm, ?_⟩
    repeat (first | with_reducible exact Below.refl _ _ | with_reducible refine valloc ?_ _ | with_reducible refine vdrew ?_ | with_reducible refine vdrewN ?_ _ | with_reducible refine via (by assumption) ?_ | refine vset ?_ (by first | exact Nat.le_refl _ | (simp; done) | (simp; omega) | omega) _)
end Go.Proofs.Ytedpaanhnbodfaa
