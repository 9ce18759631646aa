/- Contracts of impl.MostOf, impl.LeastOf, spec.MostOf and spec.LeastOf; for slices of at most 2^40 bounds. Contracts of LeastOf and WideOf, of the program and of the reference; for slices of at most 2^40 bounds. Contracts of impl.table.mayBe and of MayBeOk, of the program and of the reference; for slices of at most 2^40 bounds. The contract of spec.MayBeOk; for slices of at most 2^40 bounds. Contracts of TightOk, of the program and of the reference; for slices of at most 2^40 bounds. -/
import Derived.Test.YtaifpindiphlkabKE
import Derived.Test.YtaifpindiphlkabKD
namespace Go.Proofs.Ytaifpindiphlkab
open Go.RowKit
set_option linter.unusedVariables false
set_option maxRecDepth 10000
set_option linter.unusedSimpArgs false

def mostB (n : Int) (bs : List Bd) (f t : Int) : Bool := fitsOk n bs && inB f 0 (n-1) && inB t 0 (n-1) && decide (closedT n bs f.toNat t.toNat ≠ 100000)
def mostV (n : Int) (bs : List Bd) (f t : Int) : Int := if mostB n bs f t = true then closedT n bs f.toNat t.toNat else 0
theorem most_none {n : Int} {bs : List Bd} {f t : Int} (h : mostB n bs f t = false) : mostV n bs f t = 0 ∧ mostB n bs f t = false := ⟨by simp [mostV, h], h⟩
def TwoRes (v : Int) (b : Bool) (w : World) (e : Ending) (w' : World) : Prop := e = .returned (.tuple #[.int .i64 v, .bool b]) ∧ Below w.heap.size w w'
theorem twoRes {v v' : Int} {b b' : Bool} {w w' : World} {e : Ending} (h : v = v' ∧ b = b') (hb : Below w.heap.size w w') (he : e = .returned (.tuple #[.int .i64 v', .bool b'])) : TwoRes v b w e w' := by
  obtain ⟨rfl, rfl⟩ := h; exact ⟨he, hb⟩
theorem fits_plan {n : Int} {bs : List Bd} (h : fitsOk n bs = true) : planOk n bs = true := by simp only [fitsOk, Bool.and_eq_true] at h; exact h.1
set_option maxHeartbeats 4000000 in
theorem mostOf_any (n : Int) (A : Option Addr) (c : Nat) (bs : List Bd) (f t : Int) (w : World) (h : BAt w A bs) (hlen : bs.length ≤ 1099511627776) :
    Calls Try.prog 60 #[.agg #[.int .i64 n, .slice A bs.length c], .int .i64 f, .int .i64 t] w (TwoRes (mostV n bs f t) (mostB n bs f t) w) := by
  cases hfit : fitsOk n bs
  · have HR := Lib.hid (most_none (n := n) (bs := bs) (f := f) (t := t) (by simp [mostB, hfit]))
    go_enter Try.func60, Try.ntmps60
    go_wp2_with fail
    refine (closed_no _ _ _ bs _ (h.below (by repeat (first | with_reducible exact Below.refl _ _ | with_reducible refine valloc ?_ _ | with_reducible refine vdrew ?_ | with_reducible refine vdrewN ?_ _ | with_reducible refine via (by assumption) ?_ | refine vset ?_ (by first | exact Nat.le_refl _ | (simp; done) | (simp; omega) | omega) _))) hlen hfit).mono ?_; rintro e w1 ⟨rfl, hbw1⟩
    go_wp2
    go_ret2
    refine twoRes HR.out ?_ rfl
    repeat (first | with_reducible exact Below.refl _ _ | with_reducible refine valloc ?_ _ | with_reducible refine vdrew ?_ | with_reducible refine vdrewN ?_ _ | with_reducible refine via (by assumption) ?_ | refine vset ?_ (by first | exact Nat.le_refl _ | (simp; done) | (simp; omega) | omega) _)
  · obtain ⟨N, rfl⟩ := Int.eq_ofNat_of_zero_le (show 0 ≤ n by have := planOk_of (fits_plan hfit); omega)
    obtain ⟨h1, h6, _, _⟩ := planOk_of (fits_plan hfit)
    cases hif : inB f 0 (N-1)
    · have HR := Lib.hid (most_none (n := N) (bs := bs) (f := f) (t := t) (by simp [mostB, hif]))
      go_enter Try.func60, Try.ntmps60
      go_wp2_with fail
      refine (closed_yes _ _ _ bs _ (h.below (by repeat (first | with_reducible exact Below.refl _ _ | with_reducible refine valloc ?_ _ | with_reducible refine vdrew ?_ | with_reducible refine vdrewN ?_ _ | with_reducible refine via (by assumption) ?_ | refine vset ?_ (by first | exact Nat.le_refl _ | (simp; done) | (simp; omega) | omega) _))) hlen hfit).mono ?_; rintro e w1 ⟨g, N', R, hN', hN1, hN6, rfl, hG, hbw1⟩; obtain ⟨hcw1, hfw1⟩ := bcell hbw1; have hzw1 := hbw1.size; (try simp only [sz] at hzw1); (try simp only [szc] at hzw1); have hzw1_0 : w.heap.size < w1.heap.size := (by omega)
      obtain rfl : N = N' := by omega
      go_wp2_with fail
      refine (has_any _ _ _ _ h1 h6).mono ?_; rintro e w2 ⟨rfl, hbw2⟩
      go_wp2
      go_ret2
      refine twoRes HR.out ?_ rfl
      repeat (first | with_reducible exact Below.refl _ _ | with_reducible refine valloc ?_ _ | with_reducible refine vdrew ?_ | with_reducible refine vdrewN ?_ _ | with_reducible refine via (by assumption) ?_ | refine vset ?_ (by first | exact Nat.le_refl _ | (simp; done) | (simp; omega) | omega) _)
    · cases hit : inB t 0 (N-1)
      · have HR := Lib.hid (most_none (n := N) (bs := bs) (f := f) (t := t) (by simp [mostB, hit]))
        go_enter Try.func60, Try.ntmps60
        go_wp2_with fail
        refine (closed_yes _ _ _ bs _ (h.below (by repeat (first | with_reducible exact Below.refl _ _ | with_reducible refine valloc ?_ _ | with_reducible refine vdrew ?_ | with_reducible refine vdrewN ?_ _ | with_reducible refine via (by assumption) ?_ | refine vset ?_ (by first | exact Nat.le_refl _ | (simp; done) | (simp; omega) | omega) _))) hlen hfit).mono ?_; rintro e w1 ⟨g, N', R, hN', hN1, hN6, rfl, hG, hbw1⟩; obtain ⟨hcw1, hfw1⟩ := bcell hbw1; have hzw1 := hbw1.size; (try simp only [sz] at hzw1); (try simp only [szc] at hzw1); have hzw1_0 : w.heap.size < w1.heap.size := (by omega)
        obtain rfl : N = N' := by omega
        go_wp2_with fail
        refine (has_any _ _ _ _ h1 h6).mono ?_; rintro e w2 ⟨rfl, hbw2⟩; obtain ⟨hcw2, hfw2⟩ := bcell hbw2; have hzw2 := hbw2.size; (try simp only [sz] at hzw2); (try simp only [szc] at hzw2); have hzw2_0 : w.heap.size < w2.heap.size := (by omega)
        go_wp2_with fail
        refine (has_any _ _ _ _ h1 h6).mono ?_; rintro e w3 ⟨rfl, hbw3⟩
        go_wp2
        go_ret2
        refine twoRes HR.out ?_ rfl
        repeat (first | with_reducible exact Below.refl _ _ | with_reducible refine valloc ?_ _ | with_reducible refine vdrew ?_ | with_reducible refine vdrewN ?_ _ | with_reducible refine via (by assumption) ?_ | refine vset ?_ (by first | exact Nat.le_refl _ | (simp; done) | (simp; omega) | omega) _)
      · obtain ⟨i, rfl⟩ := Int.eq_ofNat_of_zero_le (show 0 ≤ f from ((inB_iff _ _ _).1 hif).1)
        obtain ⟨j, rfl⟩ := Int.eq_ofNat_of_zero_le (show 0 ≤ t from ((inB_iff _ _ _).1 hit).1)
        have hi : i < N := by have := (inB_iff _ _ _).1 hif; omega
        have hj : j < N := by have := (inB_iff _ _ _).1 hit; omega
        have HV := Lib.hid (show mostV N bs i j = (if closedT N bs i j ≠ 100000 then closedT N bs i j else 0) ∧ mostB N bs i j = decide (closedT N bs i j ≠ 100000) by
          simp [mostV, mostB, hfit, hif, hit])
        go_enter Try.func60, Try.ntmps60
        go_wp2_with fail
        refine (closed_yes _ _ _ bs _ (h.below (by repeat (first | with_reducible exact Below.refl _ _ | with_reducible refine valloc ?_ _ | with_reducible refine vdrew ?_ | with_reducible refine vdrewN ?_ _ | with_reducible refine via (by assumption) ?_ | refine vset ?_ (by first | exact Nat.le_refl _ | (simp; done) | (simp; omega) | omega) _))) hlen hfit).mono ?_; rintro e w1 ⟨g, N', R, hN', hN1, hN6, rfl, hG, hbw1⟩; obtain ⟨hcw1, hfw1⟩ := bcell hbw1; have hzw1 := hbw1.size; (try simp only [sz] at hzw1); (try simp only [szc] at hzw1); have hzw1_0 : w.heap.size < w1.heap.size := (by omega)
        obtain rfl : N = N' := by omega
        go_wp2_with fail
        refine (has_any _ _ _ _ h1 h6).mono ?_; rintro e w2 ⟨rfl, hbw2⟩; obtain ⟨hcw2, hfw2⟩ := bcell hbw2; have hzw2 := hbw2.size; (try simp only [sz] at hzw2); (try simp only [szc] at hzw2); have hzw2_0 : w.heap.size < w2.heap.size := (by omega)
        go_wp2_with fail
        refine (has_any _ _ _ _ h1 h6).mono ?_; rintro e w3 ⟨rfl, hbw3⟩; obtain ⟨hcw3, hfw3⟩ := bcell hbw3; have hzw3 := hbw3.size; (try simp only [sz] at hzw3); (try simp only [szc] at hzw3); have hzw3_0 : w.heap.size < w3.heap.size := (by omega)
        obtain ⟨g', off, b, o, cc, e', hg, r1, hbl, q1⟩ := (hG.mat.below (by repeat (first | with_reducible exact Below.refl _ _ | with_reducible refine valloc ?_ _ | with_reducible refine vdrew ?_ | with_reducible refine vdrewN ?_ _ | with_reducible refine via (by assumption) ?_ | refine vset ?_ (by first | exact Nat.le_refl _ | (simp; done) | (simp; omega) | omega) _)) : MAt w3 _ N N _).at_ hi
        cases e'
        rw [Nat.zero_add] at r1
        have p1 := q1 j hj
        clear q1
        generalize closedT N bs i j = v at *
        by_cases hv : v = 100000
        · have HR := Lib.hid (show mostV N bs i j = 0 ∧ mostB N bs i j = false by rw [HV.out.1, HV.out.2]; simp [hv])
          have hv' : (v == 100000) = true := by simp [hv]
          go_wp2
          go_ret2
          refine twoRes HR.out ?_ rfl
          repeat (first | with_reducible exact Below.refl _ _ | with_reducible refine valloc ?_ _ | with_reducible refine vdrew ?_ | with_reducible refine vdrewN ?_ _ | with_reducible refine via (by assumption) ?_ | refine vset ?_ (by first | exact Nat.le_refl _ | (simp; done) | (simp; omega) | omega) _)
        · have HR := Lib.hid (show mostV N bs i j = v ∧ mostB N bs i j = true by rw [HV.out.1, HV.out.2]; simp [hv])
          have hv' : (v == 100000) = false := by simp [hv]
          go_wp2
          go_ret2
          refine twoRes HR.out ?_ rfl
          repeat (first | with_reducible exact Below.refl _ _ | with_reducible refine valloc ?_ _ | with_reducible refine vdrew ?_ | with_reducible refine vdrewN ?_ _ | with_reducible refine via (by assumption) ?_ | refine vset ?_ (by first | exact Nat.le_refl _ | (simp; done) | (simp; omega) | omega) _)
set_option maxHeartbeats 4000000 in
theorem specMostOf_any (n : Int) (A : Option Addr) (c : Nat) (bs : List Bd) (f t : Int) (w : World) (h : BAt w A bs) (hlen : bs.length ≤ 1099511627776) :
    Calls Try.prog 57 #[.agg #[.int .i64 n, .slice A bs.length c], .int .i64 f, .int .i64 t] w (TwoRes (mostV n bs f t) (mostB n bs f t) w) := by
  cases hfit : fitsOk n bs
  · have HR := Lib.hid (most_none (n := n) (bs := bs) (f := f) (t := t) (by simp [mostB, hfit]))
    go_enter Try.func57, Try.ntmps57
    go_wp2_with fail
    refine (specFitsOk_any _ _ _ bs _ (h.below (by repeat (first | with_reducible exact Below.refl _ _ | with_reducible refine valloc ?_ _ | with_reducible refine vdrew ?_ | with_reducible refine vdrewN ?_ _ | with_reducible refine via (by assumption) ?_ | refine vset ?_ (by first | exact Nat.le_refl _ | (simp; done) | (simp; omega) | omega) _))) hlen).mono ?_; rintro e w1 ⟨rfl, hbw1⟩
    go_wp2
    go_ret2
    refine twoRes HR.out ?_ rfl
    repeat (first | with_reducible exact Below.refl _ _ | with_reducible refine valloc ?_ _ | with_reducible refine vdrew ?_ | with_reducible refine vdrewN ?_ _ | with_reducible refine via (by assumption) ?_ | refine vset ?_ (by first | exact Nat.le_refl _ | (simp; done) | (simp; omega) | omega) _)
  · obtain ⟨N, rfl⟩ := Int.eq_ofNat_of_zero_le (show 0 ≤ n by have := planOk_of (fits_plan hfit); omega)
    obtain ⟨h1, h6, _, _⟩ := planOk_of (fits_plan hfit)
    cases hif : inB f 0 (N-1)
    · have HR := Lib.hid (most_none (n := N) (bs := bs) (f := f) (t := t) (by simp [mostB, hif]))
      go_enter Try.func57, Try.ntmps57
      go_wp2_with fail
      refine (specFitsOk_any _ _ _ bs _ (h.below (by repeat (first | with_reducible exact Below.refl _ _ | with_reducible refine valloc ?_ _ | with_reducible refine vdrew ?_ | with_reducible refine vdrewN ?_ _ | with_reducible refine via (by assumption) ?_ | refine vset ?_ (by first | exact Nat.le_refl _ | (simp; done) | (simp; omega) | omega) _))) hlen).mono ?_; rintro e w1 ⟨rfl, hbw1⟩; obtain ⟨hcw1, hfw1⟩ := bcell hbw1; have hzw1 := hbw1.size; (try simp only [sz] at hzw1); (try simp only [szc] at hzw1); have hzw1_0 : w.heap.size < w1.heap.size := (by omega)
      go_wp2_with (go_at_call 46; refine (l1In_any _ _ _ _).mono ?_; rintro e w' ⟨rfl, rfl⟩)
      go_ret2
      refine twoRes HR.out ?_ rfl
      repeat (first | with_reducible exact Below.refl _ _ | with_reducible refine valloc ?_ _ | with_reducible refine vdrew ?_ | with_reducible refine vdrewN ?_ _ | with_reducible refine via (by assumption) ?_ | refine vset ?_ (by first | exact Nat.le_refl _ | (simp; done) | (simp; omega) | omega) _)
    · cases hit : inB t 0 (N-1)
      · have HR := Lib.hid (most_none (n := N) (bs := bs) (f := f) (t := t) (by simp [mostB, hit]))
        go_enter Try.func57, Try.ntmps57
        go_wp2_with fail
        refine (specFitsOk_any _ _ _ bs _ (h.below (by repeat (first | with_reducible exact Below.refl _ _ | with_reducible refine valloc ?_ _ | with_reducible refine vdrew ?_ | with_reducible refine vdrewN ?_ _ | with_reducible refine via (by assumption) ?_ | refine vset ?_ (by first | exact Nat.le_refl _ | (simp; done) | (simp; omega) | omega) _))) hlen).mono ?_; rintro e w1 ⟨rfl, hbw1⟩; obtain ⟨hcw1, hfw1⟩ := bcell hbw1; have hzw1 := hbw1.size; (try simp only [sz] at hzw1); (try simp only [szc] at hzw1); have hzw1_0 : w.heap.size < w1.heap.size := (by omega)
        go_wp2_with (go_at_call 46; refine (l1In_any _ _ _ _).mono ?_; rintro e w' ⟨rfl, rfl⟩)
        go_ret2
        refine twoRes HR.out ?_ rfl
        repeat (first | with_reducible exact Below.refl _ _ | with_reducible refine valloc ?_ _ | with_reducible refine vdrew ?_ | with_reducible refine vdrewN ?_ _ | with_reducible refine via (by assumption) ?_ | refine vset ?_ (by first | exact Nat.le_refl _ | (simp; done) | (simp; omega) | omega) _)
      · obtain ⟨i, rfl⟩ := Int.eq_ofNat_of_zero_le (show 0 ≤ f from ((inB_iff _ _ _).1 hif).1)
        obtain ⟨j, rfl⟩ := Int.eq_ofNat_of_zero_le (show 0 ≤ t from ((inB_iff _ _ _).1 hit).1)
        have hi : i < N := by have := (inB_iff _ _ _).1 hif; omega
        have hj : j < N := by have := (inB_iff _ _ _).1 hit; omega
        have HV := Lib.hid (show mostV N bs i j = (if closedT N bs i j ≠ 100000 then closedT N bs i j else 0) ∧ mostB N bs i j = decide (closedT N bs i j ≠ 100000) by
          simp [mostV, mostB, hfit, hif, hit])
        have HC := Lib.hid (closed_eq hfit i j hi hj)
        have HB := Lib.hid (closed_bound hfit i j hi hj).2
        go_enter Try.func57, Try.ntmps57
        go_wp2_with fail
        refine (specFitsOk_any _ _ _ bs _ (h.below (by repeat (first | with_reducible exact Below.refl _ _ | with_reducible refine valloc ?_ _ | with_reducible refine vdrew ?_ | with_reducible refine vdrewN ?_ _ | with_reducible refine via (by assumption) ?_ | refine vset ?_ (by first | exact Nat.le_refl _ | (simp; done) | (simp; omega) | omega) _))) hlen).mono ?_; rintro e w1 ⟨rfl, hbw1⟩; obtain ⟨hcw1, hfw1⟩ := bcell hbw1; have hzw1 := hbw1.size; (try simp only [sz] at hzw1); (try simp only [szc] at hzw1); have hzw1_0 : w.heap.size < w1.heap.size := (by omega)
        go_wp2_with (first
          | (go_at_call 46; refine (l1In_any _ _ _ _).mono ?_; rintro e w' ⟨rfl, rfl⟩)
          | fail)
        refine (l2Closed_any N _ _ bs _ (h.below (by repeat (first | with_reducible exact Below.refl _ _ | with_reducible refine valloc ?_ _ | with_reducible refine vdrew ?_ | with_reducible refine vdrewN ?_ _ | with_reducible refine via (by assumption) ?_ | refine vset ?_ (by first | exact Nat.le_refl _ | (simp; done) | (simp; omega) | omega) _))) (by omega) (by omega) hlen).mono ?_; rintro e w2 ⟨A2, c2, rfl, hm2, hbw2⟩; obtain ⟨hcw2, hfw2⟩ := bcell hbw2; have hzw2 := hbw2.size; (try simp only [sz] at hzw2); (try simp only [szc] at hzw2); have hzw2_0 : w.heap.size < w2.heap.size := (by omega)
        obtain ⟨g', off, b, o, cc, rfl, hg, r1, hbl, q1⟩ := (hm2.mat (Nat.le_refl _)).at_ hi
        have p1 := q1 j hj
        rw [HC.out] at p1
        clear q1 hm2
        generalize closedT N bs i j = v at *
        have hle := HB.out
        by_cases hv : v = 100000
        · have HR := Lib.hid (show mostV N bs i j = 0 ∧ mostB N bs i j = false by rw [HV.out.1, HV.out.2]; simp [hv])
          go_wp2
          go_ret2
          refine twoRes HR.out ?_ rfl
          repeat (first | with_reducible exact Below.refl _ _ | with_reducible refine valloc ?_ _ | with_reducible refine vdrew ?_ | with_reducible refine vdrewN ?_ _ | with_reducible refine via (by assumption) ?_ | refine vset ?_ (by first | exact Nat.le_refl _ | (simp; done) | (simp; omega) | omega) _)
        · have HR := Lib.hid (show mostV N bs i j = v ∧ mostB N bs i j = true by rw [HV.out.1, HV.out.2]; simp [hv])
          have hlt : v < 100000 := by omega
          go_wp2_with fail
          refine (l2Closed_any N _ _ bs _ (h.below (by repeat (first | with_reducible exact Below.refl _ _ | with_reducible refine valloc ?_ _ | with_reducible refine vdrew ?_ | with_reducible refine vdrewN ?_ _ | with_reducible refine via (by assumption) ?_ | refine vset ?_ (by first | exact Nat.le_refl _ | (simp; done) | (simp; omega) | omega) _))) (by omega) (by omega) hlen).mono ?_; rintro e w3 ⟨A3, c3, rfl, hm3, hbw3⟩; obtain ⟨hcw3, hfw3⟩ := bcell hbw3; have hzw3 := hbw3.size; (try simp only [sz] at hzw3); (try simp only [szc] at hzw3); have hzw3_0 : w.heap.size < w3.heap.size := (by omega)
          obtain ⟨g2', off2, b2, o2, cc2, rfl, hg2, r2, hbl2, q2⟩ := (hm3.mat (Nat.le_refl _)).at_ hi
          have p2 := q2 j hj
          rw [HC.out] at p2
          clear q2 hm3
          go_wp2
          go_ret2
          refine twoRes HR.out ?_ rfl
          repeat (first | with_reducible exact Below.refl _ _ | with_reducible refine valloc ?_ _ | with_reducible refine vdrew ?_ | with_reducible refine vdrewN ?_ _ | with_reducible refine via (by assumption) ?_ | refine vset ?_ (by first | exact Nat.le_refl _ | (simp; done) | (simp; omega) | omega) _)
end Go.Proofs.Ytaifpindiphlkab
namespace Go.Proofs.Ytaifpindiphlkab
open Go.RowKit
set_option linter.unusedVariables false
set_option maxRecDepth 10000
set_option linter.unusedSimpArgs false

theorem leastOf_any (n : Int) (A : Option Addr) (c : Nat) (bs : List Bd) (f t : Int) (w : World) (h : BAt w A bs) (hlen : bs.length ≤ 1099511627776) :
    Calls Try.prog 63 #[.agg #[.int .i64 n, .slice A bs.length c], .int .i64 f, .int .i64 t] w (TwoRes (wrap64 (-(mostV n bs t f))) (mostB n bs t f) w) := by
  go_enter Try.func63, Try.ntmps63
  go_wp2_with fail
  refine (mostOf_any _ _ _ bs _ _ _ (h.below (by repeat (first | with_reducible exact Below.refl _ _ | with_reducible refine valloc ?_ _ | with_reducible refine vdrew ?_ | with_reducible refine vdrewN ?_ _ | with_reducible refine via (by assumption) ?_ | refine vset ?_ (by first | exact Nat.le_refl _ | (simp; done) | (simp; omega) | omega) _))) hlen).mono ?_; rintro e w1 ⟨rfl, hbw1⟩
  go_wp2
  go_ret2
  refine ⟨rfl, ?_⟩
  repeat (first | with_reducible exact Below.refl _ _ | with_reducible refine valloc ?_ _ | with_reducible refine vdrew ?_ | with_reducible refine vdrewN ?_ _ | with_reducible refine via (by assumption) ?_ | refine vset ?_ (by first | exact Nat.le_refl _ | (simp; done) | (simp; omega) | omega) _)
theorem specLeastOf_any (n : Int) (A : Option Addr) (c : Nat) (bs : List Bd) (f t : Int) (w : World) (h : BAt w A bs) (hlen : bs.length ≤ 1099511627776) :
    Calls Try.prog 61 #[.agg #[.int .i64 n, .slice A bs.length c], .int .i64 f, .int .i64 t] w (TwoRes (wrap64 (-(mostV n bs t f))) (mostB n bs t f) w) := by
  go_enter Try.func61, Try.ntmps61
  go_wp2_with fail
  refine (specMostOf_any _ _ _ bs _ _ _ (h.below (by repeat (first | with_reducible exact Below.refl _ _ | with_reducible refine valloc ?_ _ | with_reducible refine vdrew ?_ | with_reducible refine vdrewN ?_ _ | with_reducible refine via (by assumption) ?_ | refine vset ?_ (by first | exact Nat.le_refl _ | (simp; done) | (simp; omega) | omega) _))) hlen).mono ?_; rintro e w1 ⟨rfl, hbw1⟩
  go_wp2
  go_ret2
  refine ⟨rfl, ?_⟩
  repeat (first | with_reducible exact Below.refl _ _ | with_reducible refine valloc ?_ _ | with_reducible refine vdrew ?_ | with_reducible refine vdrewN ?_ _ | with_reducible refine via (by assumption) ?_ | refine vset ?_ (by first | exact Nat.le_refl _ | (simp; done) | (simp; omega) | omega) _)
/-- How many numbers a second point may be later than a first one. -/
def wideV (n : Int) (bs : List Bd) (f t : Int) : Int := if mostB n bs f t = true ∧ mostB n bs t f = true then wrap64 (wrap64 (mostV n bs f t - wrap64 (-(mostV n bs t f))) + 1) else 0
end Go.Proofs.Ytaifpindiphlkab
namespace Go.Proofs.Ytaifpindiphlkab
open Go.RowKit
set_option linter.unusedVariables false
set_option maxRecDepth 10000
set_option linter.unusedSimpArgs false

/-- May a difference be, by a closed table? -/
def betw (T : Tab) (i j : Nat) (b : Int) : Bool := (decide (T i j = 100000) || decide (b ≤ T i j)) && (decide (T j i = 100000) || decide (wrap64 (-(T j i)) ≤ b))
set_option maxHeartbeats 4000000 in
theorem mayBe_any (A : Option Addr) (N i j cg : Nat) (T : Tab) (b : Int) (w : World) (h : MAt w A N N T) (hi : i < N) (hj : j < N) :
    Calls Try.prog 50 #[.slice A N cg, .int .i64 i, .int .i64 j, .int .i64 b] w fun e w' => e = .returned (.bool (betw T i j b)) ∧ Below w.heap.size w w' := by
  obtain ⟨g, off, b1, o1, cc1, rfl, hg, r1, hbl1, q1⟩ := h.at_ hi
  obtain ⟨g2, off2, b2, o2, cc2, e', hg2, r2, hbl2, q2⟩ := h.at_ hj
  cases e'
  have p1 := q1 j hj
  have p2 := q2 i hi
  clear q1 q2 h
  have HB := Lib.hid (show betw T i j b = ((decide (T i j = 100000) || decide (b ≤ T i j)) && (decide (T j i = 100000) || decide (wrap64 (-(T j i)) ≤ b))) from rfl)
  generalize betw T i j b = res at *
  generalize T i j = x at *
  generalize T j i = y at *
  by_cases h1 : x = 100000 <;> by_cases h2 : b ≤ x <;> by_cases h3 : y = 100000 <;> by_cases h4 : wrap64 (-y) ≤ b
  all_goals
    go_enter Try.func50, Try.ntmps50
    go_wp2
    go_ret
    refine ⟨ret_bool ?_, Below.refl _ _⟩
    rw [HB.out]
    first
      | (simp [h1, h2, h3, h4]; done)
      | (rw [Bool.eq_iff_iff]; simp; omega)
/-- May a second point be so much later than a first one? -/
def mayB (n : Int) (bs : List Bd) (f t b : Int) : Bool := fitsOk n bs && inB f 0 (n-1) && inB t 0 (n-1) && inB b (-2000) 2000 && betw (closedT n bs) f.toNat t.toNat b
end Go.Proofs.Ytaifpindiphlkab
namespace Go.Proofs.Ytaifpindiphlkab
open Go.RowKit
set_option linter.unusedVariables false
set_option maxRecDepth 10000
set_option linter.unusedSimpArgs false

theorem most_in {N : Nat} {bs : List Bd} {i j : Nat} (hfit : fitsOk N bs = true) (hi : inB i 0 ((N : Int)-1) = true) (hj : inB j 0 ((N : Int)-1) = true) :
    mostB N bs i j = decide (closedT N bs i j ≠ 100000) ∧ (mostB N bs i j = true → mostV N bs i j = closedT N bs i j) := by
  refine ⟨by simp [mostB, hfit, hi, hj], fun h => by simp [mostV, h]⟩
theorem betw_most {N : Nat} {bs : List Bd} {i j : Nat} {b : Int} (hfit : fitsOk N bs = true) (hi : inB i 0 ((N : Int)-1) = true) (hj : inB j 0 ((N : Int)-1) = true) :
    betw (closedT N bs) i j b = ((!mostB N bs i j || decide (b ≤ mostV N bs i j)) && (!mostB N bs j i || decide (wrap64 (-(mostV N bs j i)) ≤ b))) := by
  obtain ⟨a1, a2⟩ := most_in hfit hi hj
  obtain ⟨b1, b2⟩ := most_in hfit hj hi
  unfold betw
  by_cases h1 : closedT N bs i j = 100000 <;> by_cases h2 : closedT N bs j i = 100000
  all_goals
    simp only [h1, h2, ne_eq, not_true_eq_false, not_false_eq_true, decide_true, decide_false] at a1 b1
    simp only [a1, b1, h1, h2, decide_true, decide_false, Bool.true_or, Bool.false_or, Bool.not_true, Bool.not_false, Bool.true_and, Bool.and_true]
    try rw [a2 a1]
    try rw [b2 b1]
end Go.Proofs.Ytaifpindiphlkab
namespace Go.Proofs.Ytaifpindiphlkab
open Go.RowKit
set_option linter.unusedVariables false
set_option maxRecDepth 10000
set_option linter.unusedSimpArgs false

def tightOk (n : Int) (bs : List Bd) (a : Int) : Bool := fitsOk n bs && inB a 0 (bs.length - 1) && match bs[a.toNat]? with | some x => decide (closedT n bs x.f.toNat x.t.toNat = x.m) | none => false
theorem tight_most {n : Int} {bs : List Bd} {k : Nat} {x : Bd} (hx : bs[k]? = some x) (hk : inB k 0 (bs.length - 1) = true) : tightOk n bs k = (mostB n bs x.f x.t && decide (mostV n bs x.f x.t = x.m)) := by
  cases hfit : fitsOk n bs
  · simp [tightOk, mostB, hfit]
  · obtain ⟨h1, h6, _, hin⟩ := planOk_of (fits_plan hfit)
    have hi := hin x (List.mem_of_getElem? hx)
    have i1 : inB x.f 0 (n-1) = true := (inB_iff _ _ _).2 (by omega)
    have i2 : inB x.t 0 (n-1) = true := (inB_iff _ _ _).2 (by omega)
    simp only [tightOk, mostB, mostV, hfit, hk, i1, i2, hx, Int.toNat_natCast, Bool.true_and]
    by_cases h : closedT n bs x.f.toNat x.t.toNat = 100000
    · simp [h]; omega
    · simp [h]
end Go.Proofs.Ytaifpindiphlkab
