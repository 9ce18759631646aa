/- Contracts of impl.MostOf, impl.LeastOf, spec.MostOf and spec.LeastOf; for slices of at most 2^40 bounds. -/
import Derived.Test.YtedpaanhnbodfaaPlainEq
import Derived.Test.YtedpaanhnbodfaaClosed
namespace Go.Proofs.Ytedpaanhnbodfaa
open Go.RowKit
set_option linter.unusedVariables false
set_option maxRecDepth 10000
set_option linter.unusedSimpArgs false

def mostB (n : Int) (bs : List Bd) (f t : Int) : Bool := fitsOk n bs && inB f 0 (n-1) && inB t 0 (n-1) && decide (closedT n bs f.toNat t.toNat ≠ 100000)
def mostV (n : Int) (bs : List Bd) (f t : Int) : Int := if mostB n bs f t = true then closedT n bs f.toNat t.toNat else 0
theorem most_none {n : Int} {bs : List Bd} {f t : Int} (h : mostB n bs f t = false) : mostV n bs f t = 0 ∧ mostB n bs f t = false := ⟨by simp [mostV, h], h⟩
def TwoRes (v : Int) (b : Bool) (w : World) (e : Ending) (w' : World) : Prop := e = .returned (.tuple #[.int .i64 v, .bool b]) ∧ Below w.heap.size w w'
theorem twoRes {v v' : Int} {b b' : Bool} {w w' : World} {e : Ending} (h : v = v' ∧ b = b') (hb : Below w.heap.size w w') (he : e = .returned (.tuple #[.int .i64 v', .bool b'])) : TwoRes v b w e w' := by
  obtain ⟨rfl, rfl⟩ := h; exact ⟨he, hb⟩
theorem fits_plan {n : Int} {bs : List Bd} (h : fitsOk n bs = true) : planOk n bs = true := by simp only [fitsOk, Bool.and_eq_true] at h; exact h.1
set_option maxHeartbeats 4000000 in
theorem mostOf_any (n : Int) (A : Option Addr) (c : Nat) (bs : List Bd) (f t : Int) (w : World) (h : BAt w A bs) (hlen : bs.length ≤ 1099511627776) :
    Calls Try.prog 54 #[.agg #[.int .i64 n, .slice A bs.length c], .int .i64 f, .int .i64 t] w (TwoRes (mostV n bs f t) (mostB n bs f t) w) := by
  cases hfit : fitsOk n bs
  · have HR := Lib.hid (most_none (n := n) (bs := bs) (f := f) (t := t) (by simp [mostB, hfit]))
    go_enter Try.func54, Try.ntmps54
    go_wp2_with fail
    refine (closed_no _ _ _ bs _ (h.below (by repeat (first | with_reducible exact Below.refl _ _ | with_reducible refine valloc ?_ _ | with_reducible refine vdrew ?_ | with_reducible refine vdrewN ?_ _ | with_reducible refine via (by assumption) ?_ | refine vset ?_ (by first | exact Nat.le_refl _ | (simp; done) | (simp; omega) | omega) _))) hlen hfit).mono ?_; rintro e w1 ⟨rfl, hbw1⟩
    go_wp2
    go_ret2
    refine twoRes HR.out ?_ rfl
    repeat (first | with_reducible exact Below.refl _ _ | with_reducible refine valloc ?_ _ | with_reducible refine vdrew ?_ | with_reducible refine vdrewN ?_ _ | with_reducible refine via (by assumption) ?_ | refine vset ?_ (by first | exact Nat.le_refl _ | (simp; done) | (simp; omega) | omega) _)
  · obtain ⟨N, rfl⟩ := Int.eq_ofNat_of_zero_le (show 0 ≤ n by have := planOk_of (fits_plan hfit); omega)
    obtain ⟨h1, h6, _, _⟩ := planOk_of (fits_plan hfit)
    cases hif : inB f 0 (N-1)
    · have HR := Lib.hid (most_none (n := N) (bs := bs) (f := f) (t := t) (by simp [mostB, hif]))
      go_enter Try.func54, Try.ntmps54
      go_wp2_with fail
      refine (closed_yes _ _ _ bs _ (h.below (by repeat (first | with_reducible exact Below.refl _ _ | with_reducible refine valloc ?_ _ | with_reducible refine vdrew ?_ | with_reducible refine vdrewN ?_ _ | with_reducible refine via (by assumption) ?_ | refine vset ?_ (by first | exact Nat.le_refl _ | (simp; done) | (simp; omega) | omega) _))) hlen hfit).mono ?_; rintro e w1 ⟨g, N', R, hN', hN1, hN6, rfl, hG, hbw1⟩; obtain ⟨hcw1, hfw1⟩ := bcell hbw1; have hzw1 := hbw1.size; (try simp only [sz] at hzw1); (try simp only [szc] at hzw1); have hzw1_0 : w.heap.size < w1.heap.size := (by omega)
      obtain rfl : N = N' := by omega
      go_wp2_with fail
      refine (has_any _ _ _ _ h1 h6).mono ?_; rintro e w2 ⟨rfl, hbw2⟩
      go_wp2
      go_ret2
      refine twoRes HR.out ?_ rfl
      repeat (first | with_reducible exact Below.refl _ _ | with_reducible refine valloc ?_ _ | with_reducible refine vdrew ?_ | with_reducible refine vdrewN ?_ _ | with_reducible refine via (by assumption) ?_ | refine vset ?_ (by first | exact Nat.le_refl _ | (simp; done) | (simp; omega) | omega) _)
    · cases hit : inB t 0 (N-1)
      · have HR := Lib.hid (most_none (n := N) (bs := bs) (f := f) (t := t) (by simp [mostB, hit]))
        go_enter Try.func54, Try.ntmps54
        go_wp2_with fail
        refine (closed_yes _ _ _ bs _ (h.below (by repeat (first | with_reducible exact Below.refl _ _ | with_reducible refine valloc ?_ _ | with_reducible refine vdrew ?_ | with_reducible refine vdrewN ?_ _ | with_reducible refine via (by assumption) ?_ | refine vset ?_ (by first | exact Nat.le_refl _ | (simp; done) | (simp; omega) | omega) _))) hlen hfit).mono ?_; rintro e w1 ⟨g, N', R, hN', hN1, hN6, rfl, hG, hbw1⟩; obtain ⟨hcw1, hfw1⟩ := bcell hbw1; have hzw1 := hbw1.size; (try simp only [sz] at hzw1); (try simp only [szc] at hzw1); have hzw1_0 : w.heap.size < w1.heap.size := (by omega)
        obtain rfl : N = N' := by omega
        go_wp2_with fail
        refine (has_any _ _ _ _ h1 h6).mono ?_; rintro e w2 ⟨rfl, hbw2⟩; obtain ⟨hcw2, hfw2⟩ := bcell hbw2; have hzw2 := hbw2.size; (try simp only [sz] at hzw2); (try simp only [szc] at hzw2); have hzw2_0 : w.heap.size < w2.heap.size := (by omega)
        go_wp2_with fail
        refine (has_any _ _ _ _ h1 h6).mono ?_; rintro e w3 ⟨rfl, hbw3⟩
        go_wp2
        go_ret2
        refine twoRes HR.out ?_ rfl
        repeat (first | with_reducible exact Below.refl _ _ | with_reducible refine valloc ?_ _ | with_reducible refine vdrew ?_ | with_reducible refine vdrewN ?_ _ | with_reducible refine via (by assumption) ?_ | refine vset ?_ (by first | exact Nat.le_refl _ | (simp; done) | (simp; omega) | omega) _)
      · obtain ⟨i, rfl⟩ := Int.eq_ofNat_of_zero_le (show 0 ≤ f from ((inB_iff _ _ _).1 hif).1)
        obtain ⟨j, rfl⟩ := Int.eq_ofNat_of_zero_le (show 0 ≤ t from ((inB_iff _ _ _).1 hit).1)
        have hi : i < N := by have := (inB_iff _ _ _).1 hif; omega
        have hj : j < N := by have := (inB_iff _ _ _).1 hit; omega
        have HV := Lib.hid (show mostV N bs i j = (if closedT N bs i j ≠ 100000 then closedT N bs i j else 0) ∧ mostB N bs i j = decide (closedT N bs i j ≠ 100000) by
          simp [mostV, mostB, hfit, hif, hit])
        go_enter Try.func54, Try.ntmps54
        go_wp2_with fail
        refine (closed_yes _ _ _ bs _ (h.below (by repeat (first | with_reducible exact Below.refl _ _ | with_reducible refine valloc ?_ _ | with_reducible refine vdrew ?_ | with_reducible refine vdrewN ?_ _ | with_reducible refine via (by assumption) ?_ | refine vset ?_ (by first | exact Nat.le_refl _ | (simp; done) | (simp; omega) | omega) _))) hlen hfit).mono ?_; rintro e w1 ⟨g, N', R, hN', hN1, hN6, rfl, hG, hbw1⟩; obtain ⟨hcw1, hfw1⟩ := bcell hbw1; have hzw1 := hbw1.size; (try simp only [sz] at hzw1); (try simp only [szc] at hzw1); have hzw1_0 : w.heap.size < w1.heap.size := (by omega)
        obtain rfl : N = N' := by omega
        go_wp2_with fail
        refine (has_any _ _ _ _ h1 h6).mono ?_; rintro e w2 ⟨rfl, hbw2⟩; obtain ⟨hcw2, hfw2⟩ := bcell hbw2; have hzw2 := hbw2.size; (try simp only [sz] at hzw2); (try simp only [szc] at hzw2); have hzw2_0 : w.heap.size < w2.heap.size := (by omega)
        go_wp2_with fail
        refine (has_any _ _ _ _ h1 h6).mono ?_; rintro e w3 ⟨rfl, hbw3⟩; obtain ⟨hcw3, hfw3⟩ := bcell hbw3; have hzw3 := hbw3.size; (try simp only [sz] at hzw3); (try simp only [szc] at hzw3); have hzw3_0 : w.heap.size < w3.heap.size := (by omega)
        obtain ⟨g', off, b, o, cc, e', hg, r1, hbl, q1⟩ := (hG.mat.below (by repeat (first | with_reducible exact Below.refl _ _ | with_reducible refine valloc ?_ _ | with_reducible refine vdrew ?_ | with_reducible refine vdrewN ?_ _ | with_reducible refine via (by assumption) ?_ | refine vset ?_ (by first | exact Nat.le_refl _ | (simp; done) | (simp; omega) | omega) _)) : MAt w3 _ N N _).at_ hi
        cases e'
        rw [Nat.zero_add] at r1
        have p1 := q1 j hj
        clear q1
        generalize closedT N bs i j = v at *
        by_cases hv : v = 100000
        · have HR := Lib.hid (show mostV N bs i j = 0 ∧ mostB N bs i j = false by rw [HV.out.1, HV.out.2]; simp [hv])
          have hv' : (v == 100000) = true := by simp [hv]
          go_wp2
          go_ret2
          refine twoRes HR.out ?_ rfl
          repeat (first | with_reducible exact Below.refl _ _ | with_reducible refine valloc ?_ _ | with_reducible refine vdrew ?_ | with_reducible refine vdrewN ?_ _ | with_reducible refine via (by assumption) ?_ | refine vset ?_ (by first | exact Nat.le_refl _ | (simp; done) | (simp; omega) | omega) _)
        · have HR := Lib.hid (show mostV N bs i j = v ∧ mostB N bs i j = true by rw [HV.out.1, HV.out.2]; simp [hv])
          have hv' : (v == 100000) = false := by simp [hv]
          go_wp2
          go_ret2
          refine twoRes HR.out ?_ rfl
          repeat (first | with_reducible exact Below.refl _ _ | with_reducible refine valloc ?_ _ | with_reducible refine vdrew ?_ | with_reducible refine vdrewN ?_ _ | with_reducible refine via (by assumption) ?_ | refine vset ?_ (by first | exact Nat.le_refl _ | (simp; done) | (simp; omega) | omega) _)
set_option maxHeartbeats 4000000 in
theorem specMostOf_any (n : Int) (A : Option Addr) (c : Nat) (bs : List Bd) (f t : Int) (w : World) (h : BAt w A bs) (hlen : bs.length ≤ 1099511627776) :
    Calls Try.prog 119 #[.agg #[.int .i64 n, .slice A bs.length c], .int .i64 f, .int .i64 t] w (TwoRes (mostV n bs f t) (mostB n bs f t) w) := by
  cases hfit : fitsOk n bs
  · have HR := Lib.hid (most_none (n := n) (bs := bs) (f := f) (t := t) (by simp [mostB, hfit]))
    go_enter Try.func119, Try.ntmps119
    go_wp2_with fail
    refine (specFitsOk_any _ _ _ bs _ (h.below (by repeat (first | with_reducible exact Below.refl _ _ | with_reducible refine valloc ?_ _ | with_reducible refine vdrew ?_ | with_reducible refine vdrewN ?_ _ | with_reducible refine via (by assumption) ?_ | refine vset ?_ (by first | exact Nat.le_refl _ | (simp; done) | (simp; omega) | omega) _))) hlen).mono ?_; rintro e w1 ⟨rfl, hbw1⟩
    go_wp2
    go_ret2
    refine twoRes HR.out ?_ rfl
    repeat (first | with_reducible exact Below.refl _ _ | with_reducible refine valloc ?_ _ | with_reducible refine vdrew ?_ | with_reducible refine vdrewN ?_ _ | with_reducible refine via (by assumption) ?_ | refine vset ?_ (by first | exact Nat.le_refl _ | (simp; done) | (simp; omega) | omega) _)
  · obtain ⟨N, rfl⟩ := Int.eq_ofNat_of_zero_le (show 0 ≤ n by have := planOk_of (fits_plan hfit); omega)
    obtain ⟨h1, h6, _, _⟩ := planOk_of (fits_plan hfit)
    cases hif : inB f 0 (N-1)
    · have HR := Lib.hid (most_none (n := N) (bs := bs) (f := f) (t := t) (by simp [mostB, hif]))
      go_enter Try.func119, Try.ntmps119
      go_wp2_with fail
      refine (specFitsOk_any _ _ _ bs _ (h.below (by repeat (first | with_reducible exact Below.refl _ _ | with_reducible refine valloc ?_ _ | with_reducible refine vdrew ?_ | with_reducible refine vdrewN ?_ _ | with_reducible refine via (by assumption) ?_ | refine vset ?_ (by first | exact Nat.le_refl _ | (simp; done) | (simp; omega) | omega) _))) hlen).mono ?_; rintro e w1 ⟨rfl, hbw1⟩; obtain ⟨hcw1, hfw1⟩ := bcell hbw1; have hzw1 := hbw1.size; (try simp only [sz] at hzw1); (try simp only [szc] at hzw1); have hzw1_0 : w.heap.size < w1.heap.size := (by omega)
      go_wp2_with (go_at_call 103; refine (l1In_any _ _ _ _).mono ?_; rintro e w' ⟨rfl, rfl⟩)
      go_ret2
      refine twoRes HR.out ?_ rfl
      repeat (first | with_reducible exact Below.refl _ _ | with_reducible refine valloc ?_ _ | with_reducible refine vdrew ?_ | with_reducible refine vdrewN ?_ _ | with_reducible refine via (by assumption) ?_ | refine vset ?_ (by first | exact Nat.le_refl _ | (simp; done) | (simp; omega) | omega) _)
    · cases hit : inB t 0 (N-1)
      · have HR := Lib.hid (most_none (n := N) (bs := bs) (f := f) (t := t) (by simp [mostB, hit]))
        go_enter Try.func119, Try.ntmps119
        go_wp2_with fail
        refine (specFitsOk_any _ _ _ bs _ (h.below (by repeat (first | with_reducible exact Below.refl _ _ | with_reducible refine valloc ?_ _ | with_reducible refine vdrew ?_ | with_reducible refine vdrewN ?_ _ | with_reducible refine via (by assumption) ?_ | refine vset ?_ (by first | exact Nat.le_refl _ | (simp; done) | (simp; omega) | omega) _))) hlen).mono ?_; rintro e w1 ⟨rfl, hbw1⟩; obtain ⟨hcw1, hfw1⟩ := bcell hbw1; have hzw1 := hbw1.size; (try simp only [sz] at hzw1); (try simp only [szc] at hzw1); have hzw1_0 : w.heap.size < w1.heap.size := (by omega)
        go_wp2_with (go_at_call 103; refine (l1In_any _ _ _ _).mono ?_; rintro e w' ⟨rfl, rfl⟩)
        go_ret2
        refine twoRes HR.out ?_ rfl
        repeat (first | with_reducible exact Below.refl _ _ | with_reducible refine valloc ?_ _ | with_reducible refine vdrew ?_ | with_reducible refine vdrewN ?_ _ | with_reducible refine via (by assumption) ?_ | refine vset ?_ (by first | exact Nat.le_refl _ | (simp; done) | (simp; omega) | omega) _)
      · obtain ⟨i, rfl⟩ := Int.eq_ofNat_of_zero_le (show 0 ≤ f from ((inB_iff _ _ _).1 hif).1)
        obtain ⟨j, rfl⟩ := Int.eq_ofNat_of_zero_le (show 0 ≤ t from ((inB_iff _ _ _).1 hit).1)
        have hi : i < N := by have := (inB_iff _ _ _).1 hif; omega
        have hj : j < N := by have := (inB_iff _ _ _).1 hit; omega
        have HV := Lib.hid (show mostV N bs i j = (if closedT N bs i j ≠ 100000 then closedT N bs i j else 0) ∧ mostB N bs i j = decide (closedT N bs i j ≠ 100000) by
          simp [mostV, mostB, hfit, hif, hit])
        have HC := Lib.hid (closed_eq hfit i j hi hj)
        have HB := Lib.hid (closed_bound hfit i j hi hj).2
        go_enter Try.func119, Try.ntmps119
        go_wp2_with fail
        refine (specFitsOk_any _ _ _ bs _ (h.below (by repeat (first | with_reducible exact Below.refl _ _ | with_reducible refine valloc ?_ _ | with_reducible refine vdrew ?_ | with_reducible refine vdrewN ?_ _ | with_reducible refine via (by assumption) ?_ | refine vset ?_ (by first | exact Nat.le_refl _ | (simp; done) | (simp; omega) | omega) _))) hlen).mono ?_; rintro e w1 ⟨rfl, hbw1⟩; obtain ⟨hcw1, hfw1⟩ := bcell hbw1; have hzw1 := hbw1.size; (try simp only [sz] at hzw1); (try simp only [szc] at hzw1); have hzw1_0 : w.heap.size < w1.heap.size := (by omega)
        go_wp2_with (first
          | (go_at_call 103; refine (l1In_any _ _ _ _).mono ?_; rintro e w' ⟨rfl, rfl⟩)
          | fail)
        refine (l2Closed_any N _ _ bs _ (h.below (by repeat (first | with_reducible exact Below.refl _ _ | with_reducible refine valloc ?_ _ | with_reducible refine vdrew ?_ | with_reducible refine vdrewN ?_ _ | with_reducible refine via (by assumption) ?_ | refine vset ?_ (by first | exact Nat.le_refl _ | (simp; done) | (simp; omega) | omega) _))) (by omega) (by omega) hlen).mono ?_; rintro e w2 ⟨A2, c2, rfl, hm2, hbw2⟩; obtain ⟨hcw2, hfw2⟩ := bcell hbw2; have hzw2 := hbw2.size; (try simp only [sz] at hzw2); (try simp only [szc] at hzw2); have hzw2_0 : w.heap.size < w2.heap.size := (by omega)
        obtain ⟨g', off, b, o, cc, rfl, hg, r1, hbl, q1⟩ := (hm2.mat (Nat.le_refl _)).at_ hi
        have p1 := q1 j hj
        rw [HC.out] at p1
        clear q1 hm2
        generalize closedT N bs i j = v at *
        have hle := HB.out
        by_cases hv : v = 100000
        · have HR := Lib.hid (show mostV N bs i j = 0 ∧ mostB N bs i j = false by rw [HV.out.1, HV.out.2]; simp [hv])
          go_wp2
          go_ret2
          refine twoRes HR.out ?_ rfl
          repeat (first | with_reducible exact Below.refl _ _ | with_reducible refine valloc ?_ _ | with_reducible refine vdrew ?_ | with_reducible refine vdrewN ?_ _ | with_reducible refine via (by assumption) ?_ | refine vset ?_ (by first | exact Nat.le_refl _ | (simp; done) | (simp; omega) | omega) _)
        · have HR := Lib.hid (show mostV N bs i j = v ∧ mostB N bs i j = true by rw [HV.out.1, HV.out.2]; simp [hv])
          have hlt : v < 100000 := by omega
          go_wp2_with fail
          refine (l2Closed_any N _ _ bs _ (h.below (by repeat (first | with_reducible exact Below.refl _ _ | with_reducible refine valloc ?_ _ | with_reducible refine vdrew ?_ | with_reducible refine vdrewN ?_ _ | with_reducible refine via (by assumption) ?_ | refine vset ?_ (by first | exact Nat.le_refl _ | (simp; done) | (simp; omega) | omega) _))) (by omega) (by omega) hlen).mono ?_; rintro e w3 ⟨A3, c3, rfl, hm3, hbw3⟩; obtain ⟨hcw3, hfw3⟩ := bcell hbw3; have hzw3 := hbw3.size; (try simp only [sz] at hzw3); (try simp only [szc] at hzw3); have hzw3_0 : w.heap.size < w3.heap.size := (by omega)
          obtain ⟨g2', off2, b2, o2, cc2, rfl, hg2, r2, hbl2, q2⟩ := (hm3.mat (Nat.le_refl _)).at_ hi
          have p2 := q2 j hj
          rw [HC.out] at p2
          clear q2 hm3
          go_wp2
          go_ret2
          refine twoRes HR.out ?_ rfl
          repeat (first | with_reducible exact Below.refl _ _ | with_reducible refine valloc ?_ _ | with_reducible refine vdrew ?_ | with_reducible refine vdrewN ?_ _ | with_reducible refine via (by assumption) ?_ | refine vset ?_ (by first | exact Nat.le_refl _ | (simp; done) | (simp; omega) | omega) _)
end Go.Proofs.Ytedpaanhnbodfaa
