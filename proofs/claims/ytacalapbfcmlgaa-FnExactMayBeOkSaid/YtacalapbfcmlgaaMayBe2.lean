/- The contract of spec.MayBeOk; for slices of at most 2^40 bounds. -/
import Derived.Test.YtacalapbfcmlgaaMayBe
namespace Go.Proofs.Ytacalapbfcmlgaa
open Go.RowKit
set_option linter.unusedVariables false
set_option linter.unusedSimpArgs false

theorem most_in {N : Nat} {bs : List Bd} {i j : Nat} (hfit : fitsOk N bs = true) (hi : inB i 0 ((N : Int)-1) = true) (hj : inB j 0 ((N : Int)-1) = true) :
    mostB N bs i j = decide (closedT N bs i j ≠ 100000) ∧ (mostB N bs i j = true → mostV N bs i j = closedT N bs i j) := by
  refine ⟨by simp [mostB, hfit, hi, hj], fun h => by simp [mostV, h]⟩
theorem betw_most {N : Nat} {bs : List Bd} {i j : Nat} {b : Int} (hfit : fitsOk N bs = true) (hi : inB i 0 ((N : Int)-1) = true) (hj : inB j 0 ((N : Int)-1) = true) :
    betw (closedT N bs) i j b = ((!mostB N bs i j || decide (b ≤ mostV N bs i j)) && (!mostB N bs j i || decide (wrap64 (-(mostV N bs j i)) ≤ b))) := by
  obtain ⟨a1, a2⟩ := most_in hfit hi hj
  obtain ⟨b1, b2⟩ := most_in hfit hj hi
  unfold betw
  by_cases h1 : closedT N bs i j = 100000 <;> by_cases h2 : closedT N bs j i = 100000
  all_goals
    simp only [h1, h2, ne_eq, not_true_eq_false, not_false_eq_true, decide_true, decide_false] at a1 b1
    simp only [a1, b1, h1, h2, decide_true, decide_false, Bool.true_or, Bool.false_or, Bool.not_true, Bool.not_false, Bool.true_and, Bool.and_true]
    try rw [a2 a1]
    try rw [b2 b1]
set_option maxHeartbeats 4000000 in
theorem specMayBeOk_any (n : Int) (A : Option Addr) (c : Nat) (bs : List Bd) (f t b : Int) (w : World) (h : BAt w A bs) (hlen : bs.length ≤ 1099511627776) :
    Calls Try.prog 40 #[.agg #[.int .i64 n, .slice A bs.length c], .int .i64 f, .int .i64 t, .int .i64 b] w fun e w' => e = .returned (.bool (mayB n bs f t b)) ∧ Below w.heap.size w w' := by
  cases hfit : fitsOk n bs
  · have HR := Lib.hid (show mayB n bs f t b = false by simp [mayB, hfit])
    go_enter Try.func40, Try.ntmps40
    go_wp2_with fail
    refine (specFitsOk_any _ _ _ bs _ (h.below (by repeat (first | with_reducible exact Below.refl _ _ | with_reducible refine valloc ?_ _ | with_reducible refine vdrew ?_ | with_reducible refine vdrewN ?_ _ | with_reducible refine via (by assumption) ?_ | refine vset ?_ (by first | exact Nat.le_refl _ | (simp; done) | (simp; omega) | omega) _))) hlen).mono ?_; rintro e w1 ⟨rfl, hbw1⟩
    go_wp2
    go_ret
    refine ⟨ret_bool HR.out.symm, ?_⟩
    repeat (first | with_reducible exact Below.refl _ _ | with_reducible refine valloc ?_ _ | with_reducible refine vdrew ?_ | with_reducible refine vdrewN ?_ _ | with_reducible refine via (by assumption) ?_ | refine vset ?_ (by first | exact Nat.le_refl _ | (simp; done) | (simp; omega) | omega) _)
  · obtain ⟨N, rfl⟩ := Int.eq_ofNat_of_zero_le (show 0 ≤ n by have := planOk_of (fits_plan hfit); omega)
    obtain ⟨h1, h6, _, _⟩ := planOk_of (fits_plan hfit)
    cases hif : inB f 0 (N-1)
    · have HR := Lib.hid (show mayB N bs f t b = false by simp [mayB, hif])
      go_enter Try.func40, Try.ntmps40
      go_wp2_with fail
      refine (specFitsOk_any _ _ _ bs _ (h.below (by repeat (first | with_reducible exact Below.refl _ _ | with_reducible refine valloc ?_ _ | with_reducible refine vdrew ?_ | with_reducible refine vdrewN ?_ _ | with_reducible refine via (by assumption) ?_ | refine vset ?_ (by first | exact Nat.le_refl _ | (simp; done) | (simp; omega) | omega) _))) hlen).mono ?_; rintro e w1 ⟨rfl, hbw1⟩; obtain ⟨hcw1, hfw1⟩ := bcell hbw1; have hzw1 := hbw1.size; (try simp only [sz] at hzw1); (try simp only [szc] at hzw1); have hzw1_0 : w.heap.size < w1.heap.size := (by omega)
      go_wp2_with (go_at_call 57; refine (l1In_any _ _ _ _).mono ?_; rintro e w' ⟨rfl, rfl⟩)
      go_ret
      refine ⟨ret_bool HR.out.symm, ?_⟩
      repeat (first | with_reducible exact Below.refl _ _ | with_reducible refine valloc ?_ _ | with_reducible refine vdrew ?_ | with_reducible refine vdrewN ?_ _ | with_reducible refine via (by assumption) ?_ | refine vset ?_ (by first | exact Nat.le_refl _ | (simp; done) | (simp; omega) | omega) _)
    · cases hit : inB t 0 (N-1)
      · have HR := Lib.hid (show mayB N bs f t b = false by simp [mayB, hit])
        go_enter Try.func40, Try.ntmps40
        go_wp2_with fail
        refine (specFitsOk_any _ _ _ bs _ (h.below (by repeat (first | with_reducible exact Below.refl _ _ | with_reducible refine valloc ?_ _ | with_reducible refine vdrew ?_ | with_reducible refine vdrewN ?_ _ | with_reducible refine via (by assumption) ?_ | refine vset ?_ (by first | exact Nat.le_refl _ | (simp; done) | (simp; omega) | omega) _))) hlen).mono ?_; rintro e w1 ⟨rfl, hbw1⟩; obtain ⟨hcw1, hfw1⟩ := bcell hbw1; have hzw1 := hbw1.size; (try simp only [sz] at hzw1); (try simp only [szc] at hzw1); have hzw1_0 : w.heap.size < w1.heap.size := (by omega)
        go_wp2_with (go_at_call 57; refine (l1In_any _ _ _ _).mono ?_; rintro e w' ⟨rfl, rfl⟩)
        go_ret
        refine ⟨ret_bool HR.out.symm, ?_⟩
        repeat (first | with_reducible exact Below.refl _ _ | with_reducible refine valloc ?_ _ | with_reducible refine vdrew ?_ | with_reducible refine vdrewN ?_ _ | with_reducible refine via (by assumption) ?_ | refine vset ?_ (by first | exact Nat.le_refl _ | (simp; done) | (simp; omega) | omega) _)
      · cases hib : inB b (-2000) 2000
        · have HR := Lib.hid (show mayB N bs f t b = false by simp [mayB, hib])
          go_enter Try.func40, Try.ntmps40
          go_wp2_with fail
          refine (specFitsOk_any _ _ _ bs _ (h.below (by repeat (first | with_reducible exact Below.refl _ _ | with_reducible refine valloc ?_ _ | with_reducible refine vdrew ?_ | with_reducible refine vdrewN ?_ _ | with_reducible refine via (by assumption) ?_ | refine vset ?_ (by first | exact Nat.le_refl _ | (simp; done) | (simp; omega) | omega) _))) hlen).mono ?_; rintro e w1 ⟨rfl, hbw1⟩; obtain ⟨hcw1, hfw1⟩ := bcell hbw1; have hzw1 := hbw1.size; (try simp only [sz] at hzw1); (try simp only [szc] at hzw1); have hzw1_0 : w.heap.size < w1.heap.size := (by omega)
          go_wp2_with (go_at_call 57; refine (l1In_any _ _ _ _).mono ?_; rintro e w' ⟨rfl, rfl⟩)
          go_ret
          refine ⟨ret_bool HR.out.symm, ?_⟩
          repeat (first | with_reducible exact Below.refl _ _ | with_reducible refine valloc ?_ _ | with_reducible refine vdrew ?_ | with_reducible refine vdrewN ?_ _ | with_reducible refine via (by assumption) ?_ | refine vset ?_ (by first | exact Nat.le_refl _ | (simp; done) | (simp; omega) | omega) _)
        · obtain ⟨i, rfl⟩ := Int.eq_ofNat_of_zero_le (show 0 ≤ f from ((inB_iff _ _ _).1 hif).1)
          obtain ⟨j, rfl⟩ := Int.eq_ofNat_of_zero_le (show 0 ≤ t from ((inB_iff _ _ _).1 hit).1)
          have HB := Lib.hid (show mayB N bs i j b = ((!mostB N bs i j || decide (b ≤ mostV N bs i j)) && (!mostB N bs j i || decide (wrap64 (-(mostV N bs j i)) ≤ b))) by
            rw [← betw_most hfit hif hit]; simp [mayB, hfit, hif, hit, hib])
          cases q1 : mostB N bs i j <;> cases q2 : mostB N bs j i
          all_goals
            go_enter Try.func40, Try.ntmps40
            go_wp2_with fail
            refine (specFitsOk_any _ _ _ bs _ (h.below (by repeat (first | with_reducible exact Below.refl _ _ | with_reducible refine valloc ?_ _ | with_reducible refine vdrew ?_ | with_reducible refine vdrewN ?_ _ | with_reducible refine via (by assumption) ?_ | refine vset ?_ (by first | exact Nat.le_refl _ | (simp; done) | (simp; omega) | omega) _))) hlen).mono ?_; rintro e w1 ⟨rfl, hbw1⟩; obtain ⟨hcw1, hfw1⟩ := bcell hbw1; have hzw1 := hbw1.size; (try simp only [sz] at hzw1); (try simp only [szc] at hzw1); have hzw1_0 : w.heap.size < w1.heap.size := (by omega)
            go_wp2_with (first
              | (go_at_call 57; refine (l1In_any _ _ _ _).mono ?_; rintro e w' ⟨rfl, rfl⟩)
              | (go_at_call 29; refine (specMostOf_any _ _ _ bs _ _ _ (h.below (by repeat (first | with_reducible exact Below.refl _ _ | with_reducible refine valloc ?_ _ | with_reducible refine vdrew ?_ | with_reducible refine vdrewN ?_ _ | with_reducible refine via (by assumption) ?_ | refine vset ?_ (by first | exact Nat.le_refl _ | (simp; done) | (simp; omega) | omega) _))) hlen).mono ?_; rintro e w2 ⟨rfl, hbw2⟩; obtain ⟨hcw2, hfw2⟩ := bcell hbw2; have hzw2 := hbw2.size; (try simp only [sz] at hzw2); (try simp only [szc] at hzw2); have hzw2_0 : w.heap.size < w2.heap.size := (by omega))
              | (go_at_call 33; refine (specLeastOf_any _ _ _ bs _ _ _ (h.below (by repeat (first | with_reducible exact Below.refl _ _ | with_reducible refine valloc ?_ _ | with_reducible refine vdrew ?_ | with_reducible refine vdrewN ?_ _ | with_reducible refine via (by assumption) ?_ | refine vset ?_ (by first | exact Nat.le_refl _ | (simp; done) | (simp; omega) | omega) _))) hlen).mono ?_; rintro e w3 ⟨rfl, hbw3⟩; obtain ⟨hcw3, hfw3⟩ := bcell hbw3; have hzw3 := hbw3.size; (try simp only [sz] at hzw3); (try simp only [szc] at hzw3); have hzw3_0 : w.heap.size < w3.heap.size := (by omega)))
            all_goals
              go_ret
              refine ⟨ret_bool ?_, ?_⟩
              · rw [HB.out]
                first
                  | (simp [q1, q2]; done)
                  | (simp [q1, q2]; omega)
                  | (rw [Bool.eq_iff_iff]; simp [q1, q2]; omega)
              repeat (first | with_reducible exact Below.refl _ _ | with_reducible refine valloc ?_ _ | with_reducible refine vdrew ?_ | with_reducible refine vdrewN ?_ _ | with_reducible refine via (by assumption) ?_ | refine vset ?_ (by first | exact Nat.le_refl _ | (simp; done) | (simp; omega) | omega) _)
end Go.Proofs.Ytacalapbfcmlgaa
