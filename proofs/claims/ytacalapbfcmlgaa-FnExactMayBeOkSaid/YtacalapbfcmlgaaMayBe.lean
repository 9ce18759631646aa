/- Contracts of impl.table.mayBe and of MayBeOk, of the program and of the reference; for slices of at most 2^40 bounds. -/
import Derived.Test.YtacalapbfcmlgaaMost2
namespace Go.Proofs.Ytacalapbfcmlgaa
open Go.RowKit
set_option linter.unusedVariables false
set_option linter.unusedSimpArgs false

/-- May a difference be, by a closed table? -/
def betw (T : Tab) (i j : Nat) (b : Int) : Bool := (decide (T i j = 100000) || decide (b ≤ T i j)) && (decide (T j i = 100000) || decide (wrap64 (-(T j i)) ≤ b))
set_option maxHeartbeats 4000000 in
theorem mayBe_any (A : Option Addr) (N i j cg : Nat) (T : Tab) (b : Int) (w : World) (h : MAt w A N N T) (hi : i < N) (hj : j < N) :
    Calls Try.prog 67 #[.slice A N cg, .int .i64 i, .int .i64 j, .int .i64 b] w fun e w' => e = .returned (.bool (betw T i j b)) ∧ Below w.heap.size w w' := by
  obtain ⟨g, off, b1, o1, cc1, rfl, hg, r1, hbl1, q1⟩ := h.at_ hi
  obtain ⟨g2, off2, b2, o2, cc2, e', hg2, r2, hbl2, q2⟩ := h.at_ hj
  cases e'
  have p1 := q1 j hj
  have p2 := q2 i hi
  clear q1 q2 h
  have HB := Lib.hid (show betw T i j b = ((decide (T i j = 100000) || decide (b ≤ T i j)) && (decide (T j i = 100000) || decide (wrap64 (-(T j i)) ≤ b))) from rfl)
  generalize betw T i j b = res at *
  generalize T i j = x at *
  generalize T j i = y at *
  by_cases h1 : x = 100000 <;> by_cases h2 : b ≤ x <;> by_cases h3 : y = 100000 <;> by_cases h4 : wrap64 (-y) ≤ b
  all_goals
    go_enter Try.func67, Try.ntmps67
    go_wp2
    go_ret
    refine ⟨ret_bool ?_, Below.refl _ _⟩
    rw [HB.out]
    first
      | (simp [h1, h2, h3, h4]; done)
      | (rw [Bool.eq_iff_iff]; simp; omega)
/-- May a second point be so much later than a first one? -/
def mayB (n : Int) (bs : List Bd) (f t b : Int) : Bool := fitsOk n bs && inB f 0 (n-1) && inB t 0 (n-1) && inB b (-2000) 2000 && betw (closedT n bs) f.toNat t.toNat b
set_option maxHeartbeats 4000000 in
theorem mayBeOk_any (n : Int) (A : Option Addr) (c : Nat) (bs : List Bd) (f t b : Int) (w : World) (h : BAt w A bs) (hlen : bs.length ≤ 1099511627776) :
    Calls Try.prog 41 #[.agg #[.int .i64 n, .slice A bs.length c], .int .i64 f, .int .i64 t, .int .i64 b] w fun e w' => e = .returned (.bool (mayB n bs f t b)) ∧ Below w.heap.size w w' := by
  cases hfit : fitsOk n bs
  · have HR := Lib.hid (show mayB n bs f t b = false by simp [mayB, hfit])
    go_enter Try.func41, Try.ntmps41
    go_wp2_with fail
    refine (closed_no _ _ _ bs _ (h.below (by repeat (first | with_reducible exact Below.refl _ _ | with_reducible refine valloc ?_ _ | with_reducible refine vdrew ?_ | with_reducible refine vdrewN ?_ _ | with_reducible refine via (by assumption) ?_ | refine vset ?_ (by first | exact Nat.le_refl _ | (simp; done) | (simp; omega) | omega) _))) hlen hfit).mono ?_; rintro e w1 ⟨rfl, hbw1⟩
    go_wp2
    go_ret
    refine ⟨ret_bool HR.out.symm, ?_⟩
    repeat (first | with_reducible exact Below.refl _ _ | with_reducible refine valloc ?_ _ | with_reducible refine vdrew ?_ | with_reducible refine vdrewN ?_ _ | with_reducible refine via (by assumption) ?_ | refine vset ?_ (by first | exact Nat.le_refl _ | (simp; done) | (simp; omega) | omega) _)
  · obtain ⟨N, rfl⟩ := Int.eq_ofNat_of_zero_le (show 0 ≤ n by have := planOk_of (fits_plan hfit); omega)
    obtain ⟨h1, h6, _, _⟩ := planOk_of (fits_plan hfit)
    cases hif : inB f 0 (N-1)
    · have HR := Lib.hid (show mayB N bs f t b = false by simp [mayB, hif])
      go_enter Try.func41, Try.ntmps41
      go_wp2_with fail
      refine (closed_yes _ _ _ bs _ (h.below (by repeat (first | with_reducible exact Below.refl _ _ | with_reducible refine valloc ?_ _ | with_reducible refine vdrew ?_ | with_reducible refine vdrewN ?_ _ | with_reducible refine via (by assumption) ?_ | refine vset ?_ (by first | exact Nat.le_refl _ | (simp; done) | (simp; omega) | omega) _))) hlen hfit).mono ?_; rintro e w1 ⟨g, N', R, hN', hN1, hN6, rfl, hG, hbw1⟩; obtain ⟨hcw1, hfw1⟩ := bcell hbw1; have hzw1 := hbw1.size; (try simp only [sz] at hzw1); (try simp only [szc] at hzw1); have hzw1_0 : w.heap.size < w1.heap.size := (by omega)
      obtain rfl : N = N' := by omega
      go_wp2_with fail
      refine (has_any _ _ _ _ h1 h6).mono ?_; rintro e w2 ⟨rfl, hbw2⟩
      go_wp2
      go_ret
      refine ⟨ret_bool HR.out.symm, ?_⟩
      repeat (first | with_reducible exact Below.refl _ _ | with_reducible refine valloc ?_ _ | with_reducible refine vdrew ?_ | with_reducible refine vdrewN ?_ _ | with_reducible refine via (by assumption) ?_ | refine vset ?_ (by first | exact Nat.le_refl _ | (simp; done) | (simp; omega) | omega) _)
    · cases hit : inB t 0 (N-1)
      · have HR := Lib.hid (show mayB N bs f t b = false by simp [mayB, hit])
        go_enter Try.func41, Try.ntmps41
        go_wp2_with fail
        refine (closed_yes _ _ _ bs _ (h.below (by repeat (first | with_reducible exact Below.refl _ _ | with_reducible refine valloc ?_ _ | with_reducible refine vdrew ?_ | with_reducible refine vdrewN ?_ _ | with_reducible refine via (by assumption) ?_ | refine vset ?_ (by first | exact Nat.le_refl _ | (simp; done) | (simp; omega) | omega) _))) hlen hfit).mono ?_; rintro e w1 ⟨g, N', R, hN', hN1, hN6, rfl, hG, hbw1⟩; obtain ⟨hcw1, hfw1⟩ := bcell hbw1; have hzw1 := hbw1.size; (try simp only [sz] at hzw1); (try simp only [szc] at hzw1); have hzw1_0 : w.heap.size < w1.heap.size := (by omega)
        obtain rfl : N = N' := by omega
        go_wp2_with fail
        refine (has_any _ _ _ _ h1 h6).mono ?_; rintro e w2 ⟨rfl, hbw2⟩; obtain ⟨hcw2, hfw2⟩ := bcell hbw2; have hzw2 := hbw2.size; (try simp only [sz] at hzw2); (try simp only [szc] at hzw2); have hzw2_0 : w.heap.size < w2.heap.size := (by omega)
        go_wp2_with fail
        refine (has_any _ _ _ _ h1 h6).mono ?_; rintro e w3 ⟨rfl, hbw3⟩
        go_wp2
        go_ret
        refine ⟨ret_bool HR.out.symm, ?_⟩
        repeat (first | with_reducible exact Below.refl _ _ | with_reducible refine valloc ?_ _ | with_reducible refine vdrew ?_ | with_reducible refine vdrewN ?_ _ | with_reducible refine via (by assumption) ?_ | refine vset ?_ (by first | exact Nat.le_refl _ | (simp; done) | (simp; omega) | omega) _)
      · obtain ⟨i, rfl⟩ := Int.eq_ofNat_of_zero_le (show 0 ≤ f from ((inB_iff _ _ _).1 hif).1)
        obtain ⟨j, rfl⟩ := Int.eq_ofNat_of_zero_le (show 0 ≤ t from ((inB_iff _ _ _).1 hit).1)
        have hi : i < N := by have := (inB_iff _ _ _).1 hif; omega
        have hj : j < N := by have := (inB_iff _ _ _).1 hit; omega
        cases hib : inB b (-2000) 2000
        · have HR := Lib.hid (show mayB N bs i j b = false by simp [mayB, hib])
          go_enter Try.func41, Try.ntmps41
          go_wp2_with fail
          refine (closed_yes _ _ _ bs _ (h.below (by repeat (first | with_reducible exact Below.refl _ _ | with_reducible refine valloc ?_ _ | with_reducible refine vdrew ?_ | with_reducible refine vdrewN ?_ _ | with_reducible refine via (by assumption) ?_ | refine vset ?_ (by first | exact Nat.le_refl _ | (simp; done) | (simp; omega) | omega) _))) hlen hfit).mono ?_; rintro e w1 ⟨g, N', R, hN', hN1, hN6, rfl, hG, hbw1⟩; obtain ⟨hcw1, hfw1⟩ := bcell hbw1; have hzw1 := hbw1.size; (try simp only [sz] at hzw1); (try simp only [szc] at hzw1); have hzw1_0 : w.heap.size < w1.heap.size := (by omega)
          obtain rfl : N = N' := by omega
          go_wp2_with fail
          refine (has_any _ _ _ _ h1 h6).mono ?_; rintro e w2 ⟨rfl, hbw2⟩; obtain ⟨hcw2, hfw2⟩ := bcell hbw2; have hzw2 := hbw2.size; (try simp only [sz] at hzw2); (try simp only [szc] at hzw2); have hzw2_0 : w.heap.size < w2.heap.size := (by omega)
          go_wp2_with fail
          refine (has_any _ _ _ _ h1 h6).mono ?_; rintro e w3 ⟨rfl, hbw3⟩; obtain ⟨hcw3, hfw3⟩ := bcell hbw3; have hzw3 := hbw3.size; (try simp only [sz] at hzw3); (try simp only [szc] at hzw3); have hzw3_0 : w.heap.size < w3.heap.size := (by omega)
          go_wp2_with (go_at_call 58; refine (in_any _ _ _ _).mono ?_; rintro e w' ⟨rfl, rfl⟩)
          go_ret
          refine ⟨ret_bool HR.out.symm, ?_⟩
          repeat (first | with_reducible exact Below.refl _ _ | with_reducible refine valloc ?_ _ | with_reducible refine vdrew ?_ | with_reducible refine vdrewN ?_ _ | with_reducible refine via (by assumption) ?_ | refine vset ?_ (by first | exact Nat.le_refl _ | (simp; done) | (simp; omega) | omega) _)
        · have HR := Lib.hid (show mayB N bs i j b = betw (closedT N bs) i j b by simp [mayB, hfit, hif, hit, hib])
          go_enter Try.func41, Try.ntmps41
          go_wp2_with fail
          refine (closed_yes _ _ _ bs _ (h.below (by repeat (first | with_reducible exact Below.refl _ _ | with_reducible refine valloc ?_ _ | with_reducible refine vdrew ?_ | with_reducible refine vdrewN ?_ _ | with_reducible refine via (by assumption) ?_ | refine vset ?_ (by first | exact Nat.le_refl _ | (simp; done) | (simp; omega) | omega) _))) hlen hfit).mono ?_; rintro e w1 ⟨g, N', R, hN', hN1, hN6, rfl, hG, hbw1⟩; obtain ⟨hcw1, hfw1⟩ := bcell hbw1; have hzw1 := hbw1.size; (try simp only [sz] at hzw1); (try simp only [szc] at hzw1); have hzw1_0 : w.heap.size < w1.heap.size := (by omega)
          obtain rfl : N = N' := by omega
          have HM := Lib.hid hG.mat
          clear hG
          go_wp2_with fail
          refine (has_any _ _ _ _ h1 h6).mono ?_; rintro e w2 ⟨rfl, hbw2⟩; obtain ⟨hcw2, hfw2⟩ := bcell hbw2; have hzw2 := hbw2.size; (try simp only [sz] at hzw2); (try simp only [szc] at hzw2); have hzw2_0 : w.heap.size < w2.heap.size := (by omega)
          go_wp2_with fail
          refine (has_any _ _ _ _ h1 h6).mono ?_; rintro e w3 ⟨rfl, hbw3⟩; obtain ⟨hcw3, hfw3⟩ := bcell hbw3; have hzw3 := hbw3.size; (try simp only [sz] at hzw3); (try simp only [szc] at hzw3); have hzw3_0 : w.heap.size < w3.heap.size := (by omega)
          go_wp2_with (first
            | (go_at_call 58; refine (in_any _ _ _ _).mono ?_; rintro e w' ⟨rfl, rfl⟩)
            | (go_at_call 67; refine (mayBe_any _ N i j _ _ b _ (HM.out.below (by repeat (first | with_reducible exact Below.refl _ _ | with_reducible refine valloc ?_ _ | with_reducible refine vdrew ?_ | with_reducible refine vdrewN ?_ _ | with_reducible refine via (by assumption) ?_ | refine vset ?_ (by first | exact Nat.le_refl _ | (simp; done) | (simp; omega) | omega) _))) hi hj).mono ?_; rintro e w4 ⟨rfl, hbw4⟩))
          go_ret
          refine ⟨ret_bool HR.out.symm, ?_⟩
          repeat (first | with_reducible exact Below.refl _ _ | with_reducible refine valloc ?_ _ | with_reducible refine vdrew ?_ | with_reducible refine vdrewN ?_ _ | with_reducible refine via (by assumption) ?_ | refine vset ?_ (by first | exact Nat.le_refl _ | (simp; done) | (simp; omega) | omega) _)
end Go.Proofs.Ytacalapbfcmlgaa
