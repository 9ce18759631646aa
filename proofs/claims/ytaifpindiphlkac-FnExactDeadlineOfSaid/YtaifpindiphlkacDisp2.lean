/- Contracts of ReadyOk and DeadlineOf, of the program and of the reference; for slices of at most 2^40 elements. -/
import Derived.Test.YtaifpindiphlkacDisp
import Derived.Test.YtaifpindiphlkacReady
namespace Go.Proofs.Ytaifpindiphlkac
open Go.RowKit
set_option linter.unusedVariables false
set_option maxRecDepth 10000
set_option linter.unusedSimpArgs false

def rdyB (n : Int) (bs : List Bd) (now : Int) (xs : List Int) (p : Int) : Bool := winB n bs now xs p && readyB (closedT n bs) xs p.toNat
theorem readyB_same {T T' : Tab} {xs : List Int} {p : Nat} (h : ∀ i, i < xs.length → T p i = T' p i) : readyB T xs p = readyB T' xs p := by
  rw [Bool.eq_iff_iff]
  unfold readyB
  rw [List.all_eq_true, List.all_eq_true]
  constructor
  · intro hh i hi; rw [← h i (List.mem_range.1 hi)]; exact hh i hi
  · intro hh i hi; rw [h i (List.mem_range.1 hi)]; exact hh i hi
set_option maxHeartbeats 1000000 in
theorem readyOk_any (n : Int) (A : Option Addr) (c : Nat) (bs : List Bd) (now : Int) (A' : Option Addr) (c' : Nat) (xs : List Int) (p : Int) (w : World) (h : BAt w A bs) (h' : IAt w A' xs) (hlen : bs.length ≤ 1099511627776) (hlen' : xs.length ≤ 1099511627776) :
    Calls Try.prog 17 #[.agg #[.int .i64 n, .slice A bs.length c], .agg #[.int .i64 now, .slice A' xs.length c'], .int .i64 p] w fun e w' => e = .returned (.bool (rdyB n bs now xs p)) ∧ Below w.heap.size w w' := by
  cases hs : stOk n bs now xs
  · have HR := Lib.hid (show rdyB n bs now xs p = false by simp [rdyB, winB, hs])
    go_enter Try.func17, Try.ntmps17
    go_wp2_with fail
    refine (stateOk_any _ _ _ bs _ _ _ xs _ (h.below (by repeat (first | with_reducible exact Below.refl _ _ | with_reducible refine valloc ?_ _ | with_reducible refine vdrew ?_ | with_reducible refine vdrewN ?_ _ | with_reducible refine via (by assumption) ?_ | refine vset ?_ (by first | exact Nat.le_refl _ | (simp; done) | (simp; omega) | omega) _))) (h'.below (by repeat (first | with_reducible exact Below.refl _ _ | with_reducible refine valloc ?_ _ | with_reducible refine vdrew ?_ | with_reducible refine vdrewN ?_ _ | with_reducible refine via (by assumption) ?_ | refine vset ?_ (by first | exact Nat.le_refl _ | (simp; done) | (simp; omega) | omega) _))) hlen hlen').mono ?_; rintro e w1 ⟨rfl, hbw1⟩
    go_wp2
    go_ret
    refine ⟨ret_bool HR.out.symm, ?_⟩
    repeat (first | with_reducible exact Below.refl _ _ | with_reducible refine valloc ?_ _ | with_reducible refine vdrew ?_ | with_reducible refine vdrewN ?_ _ | with_reducible refine via (by assumption) ?_ | refine vset ?_ (by first | exact Nat.le_refl _ | (simp; done) | (simp; omega) | omega) _)
  · cases ho : openB xs p
    · have HR := Lib.hid (show rdyB n bs now xs p = false by simp [rdyB, winB, ho])
      go_enter Try.func17, Try.ntmps17
      go_wp2_with fail
      refine (stateOk_any _ _ _ bs _ _ _ xs _ (h.below (by repeat (first | with_reducible exact Below.refl _ _ | with_reducible refine valloc ?_ _ | with_reducible refine vdrew ?_ | with_reducible refine vdrewN ?_ _ | with_reducible refine via (by assumption) ?_ | refine vset ?_ (by first | exact Nat.le_refl _ | (simp; done) | (simp; omega) | omega) _))) (h'.below (by repeat (first | with_reducible exact Below.refl _ _ | with_reducible refine valloc ?_ _ | with_reducible refine vdrew ?_ | with_reducible refine vdrewN ?_ _ | with_reducible refine via (by assumption) ?_ | refine vset ?_ (by first | exact Nat.le_refl _ | (simp; done) | (simp; omega) | omega) _))) hlen hlen').mono ?_; rintro e w1 ⟨rfl, hbw1⟩; obtain ⟨hcw1, hfw1⟩ := bcell hbw1; have hzw1 := hbw1.size; (try simp only [sz] at hzw1); (try simp only [szc] at hzw1); have hzw1_0 : w.heap.size < w1.heap.size := (by omega); have hzw1_1 : w.heap.size + 1 < w1.heap.size := (by omega)
      go_wp2_with fail
      refine (open_any _ _ _ xs _ _ (h'.below (by repeat (first | with_reducible exact Below.refl _ _ | with_reducible refine valloc ?_ _ | with_reducible refine vdrew ?_ | with_reducible refine vdrewN ?_ _ | with_reducible refine via (by assumption) ?_ | refine vset ?_ (by first | exact Nat.le_refl _ | (simp; done) | (simp; omega) | omega) _))) hlen').mono ?_; rintro e w2 ⟨rfl, hbw2⟩
      go_wp2
      go_ret
      refine ⟨ret_bool HR.out.symm, ?_⟩
      repeat (first | with_reducible exact Below.refl _ _ | with_reducible refine valloc ?_ _ | with_reducible refine vdrew ?_ | with_reducible refine vdrewN ?_ _ | with_reducible refine via (by assumption) ?_ | refine vset ?_ (by first | exact Nat.le_refl _ | (simp; done) | (simp; omega) | omega) _)
    · obtain ⟨hfit, hl, _, _, _⟩ := stOk_fit hs
      have hi : inB p 0 ((xs.length : Int) - 1) = true := by simp only [openB, Bool.and_eq_true] at ho; exact ho.1
      obtain ⟨q, rfl⟩ := Int.eq_ofNat_of_zero_le (show 0 ≤ p from ((inB_iff _ _ _).1 hi).1)
      have hq : q < xs.length := by have := (inB_iff _ _ _).1 hi; omega
      subst hl
      have h16 : 1 ≤ (xs.length : Int) ∧ (xs.length : Int) ≤ 6 := by simp only [fitsOk, Bool.and_eq_true] at hfit; have := planOk_of hfit.1; omega
      have HR := Lib.hid (show rdyB xs.length bs now xs q = readyB (closedT xs.length bs) xs q by simp [rdyB, winB, hs, ho])
      go_enter Try.func17, Try.ntmps17
      go_wp2_with fail
      refine (stateOk_any _ _ _ bs _ _ _ xs _ (h.below (by repeat (first | with_reducible exact Below.refl _ _ | with_reducible refine valloc ?_ _ | with_reducible refine vdrew ?_ | with_reducible refine vdrewN ?_ _ | with_reducible refine via (by assumption) ?_ | refine vset ?_ (by first | exact Nat.le_refl _ | (simp; done) | (simp; omega) | omega) _))) (h'.below (by repeat (first | with_reducible exact Below.refl _ _ | with_reducible refine valloc ?_ _ | with_reducible refine vdrew ?_ | with_reducible refine vdrewN ?_ _ | with_reducible refine via (by assumption) ?_ | refine vset ?_ (by first | exact Nat.le_refl _ | (simp; done) | (simp; omega) | omega) _))) hlen hlen').mono ?_; rintro e w1 ⟨rfl, hbw1⟩; obtain ⟨hcw1, hfw1⟩ := bcell hbw1; have hzw1 := hbw1.size; (try simp only [sz] at hzw1); (try simp only [szc] at hzw1); have hzw1_0 : w.heap.size < w1.heap.size := (by omega); have hzw1_1 : w.heap.size + 1 < w1.heap.size := (by omega)
      go_wp2_with fail
      refine (open_any _ _ _ xs _ _ (h'.below (by repeat (first | with_reducible exact Below.refl _ _ | with_reducible refine valloc ?_ _ | with_reducible refine vdrew ?_ | with_reducible refine vdrewN ?_ _ | with_reducible refine via (by assumption) ?_ | refine vset ?_ (by first | exact Nat.le_refl _ | (simp; done) | (simp; omega) | omega) _))) hlen').mono ?_; rintro e w2 ⟨rfl, hbw2⟩; obtain ⟨hcw2, hfw2⟩ := bcell hbw2; have hzw2 := hbw2.size; (try simp only [sz] at hzw2); (try simp only [szc] at hzw2); have hzw2_0 : w.heap.size < w2.heap.size := (by omega); have hzw2_1 : w.heap.size + 1 < w2.heap.size := (by omega)
      go_wp2_with fail
      refine (closed_yes _ _ _ bs _ (h.below (by repeat (first | with_reducible exact Below.refl _ _ | with_reducible refine valloc ?_ _ | with_reducible refine vdrew ?_ | with_reducible refine vdrewN ?_ _ | with_reducible refine via (by assumption) ?_ | refine vset ?_ (by first | exact Nat.le_refl _ | (simp; done) | (simp; omega) | omega) _))) hlen hfit).mono ?_; rintro e w3 ⟨g, N', R, hN', hN1, hN6, rfl, hG, hbw3⟩; obtain ⟨hcw3, hfw3⟩ := bcell hbw3; have hzw3 := hbw3.size; (try simp only [sz] at hzw3); (try simp only [szc] at hzw3); have hzw3_0 : w.heap.size < w3.heap.size := (by omega); have hzw3_1 : w.heap.size + 1 < w3.heap.size := (by omega)
      obtain rfl : xs.length = N' := by omega
      have HM := Lib.hid hG.mat
      clear hG
      generalize closedT xs.length bs = T at *
      go_wp2_with fail
      refine (ready_any _ _ _ _ xs.length q now T xs _ HM.out (h'.below (by repeat (first | with_reducible exact Below.refl _ _ | with_reducible refine valloc ?_ _ | with_reducible refine vdrew ?_ | with_reducible refine vdrewN ?_ _ | with_reducible refine via (by assumption) ?_ | refine vset ?_ (by first | exact Nat.le_refl _ | (simp; done) | (simp; omega) | omega) _))) hq (Nat.le_refl _) (by omega)).mono ?_; rintro e w4 ⟨rfl, hbw4⟩
      go_wp2
      go_ret
      refine ⟨ret_bool HR.out.symm, ?_⟩
      repeat (first | with_reducible exact Below.refl _ _ | with_reducible refine valloc ?_ _ | with_reducible refine vdrew ?_ | with_reducible refine vdrewN ?_ _ | with_reducible refine via (by assumption) ?_ | refine vset ?_ (by first | exact Nat.le_refl _ | (simp; done) | (simp; omega) | omega) _)
/-- Until when some point must be done, of the first ones. -/
def dlG (T : Tab) (xs : List Int) : Nat → Int
  | 0 => 100000
  | k + 1 => if nthI xs k = -1 then mn (dlG T xs k) (highG true T k xs xs.length) else dlG T xs k
def dlV (n : Int) (bs : List Bd) (now : Int) (xs : List Int) : Int := if stOk n bs now xs = true then dlG (closedT n bs) xs xs.length else -1
theorem dlG_yes {T : Tab} {xs : List Int} {k : Nat} (h : nthI xs k = -1) : dlG T xs (k + 1) = mn (dlG T xs k) (highG true T k xs xs.length) := if_pos h
theorem dlG_no {T : Tab} {xs : List Int} {k : Nat} (h : ¬ nthI xs k = -1) : dlG T xs (k + 1) = dlG T xs k := if_neg h
set_option maxHeartbeats 1000000 in
theorem deadlineOf_any (n : Int) (A : Option Addr) (c : Nat) (bs : List Bd) (now : Int) (A' : Option Addr) (c' : Nat) (xs : List Int) (w : World) (h : BAt w A bs) (h' : IAt w A' xs) (hlen : bs.length ≤ 1099511627776) (hlen' : xs.length ≤ 1099511627776) :
    Calls Try.prog 19 #[.agg #[.int .i64 n, .slice A bs.length c], .agg #[.int .i64 now, .slice A' xs.length c']] w fun e w' => e = .returned (.int .i64 (dlV n bs now xs)) ∧ Below w.heap.size w w' := by
  cases hs : stOk n bs now xs
  · have HR := Lib.hid (show dlV n bs now xs = -1 by simp [dlV, hs])
    go_enter Try.func19, Try.ntmps19
    go_wp2_with fail
    refine (stateOk_any _ _ _ bs _ _ _ xs _ (h.below (by repeat (first | with_reducible exact Below.refl _ _ | with_reducible refine valloc ?_ _ | with_reducible refine vdrew ?_ | with_reducible refine vdrewN ?_ _ | with_reducible refine via (by assumption) ?_ | refine vset ?_ (by first | exact Nat.le_refl _ | (simp; done) | (simp; omega) | omega) _))) (h'.below (by repeat (first | with_reducible exact Below.refl _ _ | with_reducible refine valloc ?_ _ | with_reducible refine vdrew ?_ | with_reducible refine vdrewN ?_ _ | with_reducible refine via (by assumption) ?_ | refine vset ?_ (by first | exact Nat.le_refl _ | (simp; done) | (simp; omega) | omega) _))) hlen hlen').mono ?_; rintro e w1 ⟨rfl, hbw1⟩
    go_wp2
    go_ret
    refine ⟨ret_int HR.out.symm, ?_⟩
    repeat (first | with_reducible exact Below.refl _ _ | with_reducible refine valloc ?_ _ | with_reducible refine vdrew ?_ | with_reducible refine vdrewN ?_ _ | with_reducible refine via (by assumption) ?_ | refine vset ?_ (by first | exact Nat.le_refl _ | (simp; done) | (simp; omega) | omega) _)
  · obtain ⟨hfit, hl, _, _, _⟩ := stOk_fit hs
    subst hl
    have h16 : 1 ≤ (xs.length : Int) ∧ (xs.length : Int) ≤ 6 := by simp only [fitsOk, Bool.and_eq_true] at hfit; have := planOk_of hfit.1; omega
    have HR := Lib.hid (show dlV xs.length bs now xs = dlG (closedT xs.length bs) xs xs.length by simp [dlV, hs])
    go_enter Try.func19, Try.ntmps19
    go_wp2_with fail
    refine (stateOk_any _ _ _ bs _ _ _ xs _ (h.below (by repeat (first | with_reducible exact Below.refl _ _ | with_reducible refine valloc ?_ _ | with_reducible refine vdrew ?_ | with_reducible refine vdrewN ?_ _ | with_reducible refine via (by assumption) ?_ | refine vset ?_ (by first | exact Nat.le_refl _ | (simp; done) | (simp; omega) | omega) _))) (h'.below (by repeat (first | with_reducible exact Below.refl _ _ | with_reducible refine valloc ?_ _ | with_reducible refine vdrew ?_ | with_reducible refine vdrewN ?_ _ | with_reducible refine via (by assumption) ?_ | refine vset ?_ (by first | exact Nat.le_refl _ | (simp; done) | (simp; omega) | omega) _))) hlen hlen').mono ?_; rintro e w1 ⟨rfl, hbw1⟩
    have i0 : w1.cell? ⟨w.heap.size + 1, 0, none⟩ = some (.int .i64 now) := cB hbw1 (by simp)
    have i1 : w1.cell? ⟨w.heap.size + 1, 1, none⟩ = some (.slice A' xs.length c') := cB hbw1 (by simp)
    obtain ⟨hcw1, hfw1⟩ := bcell hbw1; have hzw1 := hbw1.size; (try simp only [sz] at hzw1); (try simp only [szc] at hzw1); have hzw1_0 : w.heap.size < w1.heap.size := (by omega); have hzw1_1 : w.heap.size + 1 < w1.heap.size := (by omega)
    go_wp2_with fail
    refine (closed_yes _ _ _ bs _ (h.below (by repeat (first | with_reducible exact Below.refl _ _ | with_reducible refine valloc ?_ _ | with_reducible refine vdrew ?_ | with_reducible refine vdrewN ?_ _ | with_reducible refine via (by assumption) ?_ | refine vset ?_ (by first | exact Nat.le_refl _ | (simp; done) | (simp; omega) | omega) _))) hlen hfit).mono ?_; rintro e w3 ⟨g, N', R, hN', hN1, hN6, rfl, hG, hbw3⟩
    have j0 := cB hbw3 i0
    have j1 := cB hbw3 i1
    have hz3 := hbw3.size
    obtain rfl : xs.length = N' := by omega
    have HM := Lib.hid hG.mat
    clear hG
    have BB : Below w.heap.size w w3 := (by repeat (first | with_reducible exact Below.refl _ _ | with_reducible refine valloc ?_ _ | with_reducible refine vdrew ?_ | with_reducible refine vdrewN ?_ _ | with_reducible refine via (by assumption) ?_ | refine vset ?_ (by first | exact Nat.le_refl _ | (simp; done) | (simp; omega) | omega) _))
    have HI := Lib.hid (h'.below BB)
    generalize closedT xs.length bs = T at *
    go_wp2
    go_loopw [7, 23] (fun out k W => ∃ kk : Nat, kk ≤ xs.length ∧ k = .int .i64 kk ∧ out = .int .i64 (dlG T xs kk) ∧ W.cell? ⟨w.heap.size + 1, 0, none⟩ = some (.int .i64 now) ∧ W.cell? ⟨w.heap.size + 1, 1, none⟩ = some (.slice A' xs.length c') ∧ Below w3.heap.size w3 W) (fun _ k _ => xs.length - (intOf k).toNat)
    case atStart => exact ⟨0, Nat.zero_le _, rfl, rfl, j0, j1, Below.refl _ _⟩
    case round =>
      obtain ⟨k, hk, rfl, rfl, e0, e1, hb⟩ := hrel
      by_cases hlt : k < xs.length
      · obtain ⟨bx, ox, x, hA, hbx, hx, hxm, cx⟩ := (HI.out.below hb).at_ hlt
        clear hA
        have OE := Lib.hid (openB_at hx)
        have X1 := Lib.hid (nthI_of hx)
        clear hx hxm cx
        have D1 := Lib.hid (fun hh => dlG_yes (T := T) (xs := xs) (k := k) hh)
        have D2 := Lib.hid (fun hh => dlG_no (T := T) (xs := xs) (k := k) hh)
        generalize dlG T xs k = dl at *
        go_wp2_with fail
        refine (open_any now A' c' xs k _ (HI.out.below hb) hlen').mono ?_; rintro e w4 ⟨rfl, hbw4⟩
        rw [OE.out]
        have f0 := cB hbw4 e0
        have f1 := cB hbw4 e1
        have b4 := hb.trans (hbw4.mono hb.size)
        cases hxe : (x == -1)
        · have E1 := Lib.hid (D2.out (by rw [X1.out]; intro hh; rw [hh] at hxe; simp at hxe))
          go_wp2
          go_roundw
          case rel => exact ⟨k + 1, by omega, by go_num, by rw [E1.out], f0, f1, b4⟩
          case measure => simp [intOf]; omega
        · have E1 := Lib.hid (D1.out (by rw [X1.out]; exact beq_iff_eq.1 hxe))
          have HI4 := Lib.hid (HI.out.below b4)
          have HM4 := Lib.hid (HM.out.below b4)
          go_wp2_with fail
          refine (window_any _ _ _ _ xs.length k now T xs _ HM4.out HI4.out hlt (Nat.le_refl _) (by omega)).mono ?_; rintro e w5 ⟨rfl, hbw5⟩
          have g0 := cB hbw5 f0
          have g1 := cB hbw5 f1
          have b5 := b4.trans (hbw5.mono b4.size)
          generalize highG true T k xs xs.length = hi at *
          go_wp2
          go_roundw
          case rel => exact ⟨k + 1, by omega, by go_num, by rw [E1.out]; rfl, g0, g1, b5⟩
          case measure => simp [intOf]; omega
      · obtain rfl : xs.length = k := by omega
        go_wp2
        go_ret
        exact ⟨ret_int HR.out.symm, BB.trans (hb.mono BB.size)⟩
set_option maxHeartbeats 1000000 in
theorem specReadyOk_any (n : Int) (A : Option Addr) (c : Nat) (bs : List Bd) (now : Int) (A' : Option Addr) (c' : Nat) (xs : List Int) (p : Int) (w : World) (h : BAt w A bs) (h' : IAt w A' xs) (hlen : bs.length ≤ 1099511627776) (hlen' : xs.length ≤ 1099511627776) :
    Calls Try.prog 16 #[.agg #[.int .i64 n, .slice A bs.length c], .agg #[.int .i64 now, .slice A' xs.length c'], .int .i64 p] w fun e w' => e = .returned (.bool (rdyB n bs now xs p)) ∧ Below w.heap.size w w' := by
  cases hw : winB n bs now xs p
  · have HR := Lib.hid (show rdyB n bs now xs p = false by simp [rdyB, hw])
    go_enter Try.func16, Try.ntmps16
    go_wp2_with fail
    refine (specWindowOf_any _ _ _ bs _ _ _ xs _ _ (h.below (by repeat (first | with_reducible exact Below.refl _ _ | with_reducible refine valloc ?_ _ | with_reducible refine vdrew ?_ | with_reducible refine vdrewN ?_ _ | with_reducible refine via (by assumption) ?_ | refine vset ?_ (by first | exact Nat.le_refl _ | (simp; done) | (simp; omega) | omega) _))) (h'.below (by repeat (first | with_reducible exact Below.refl _ _ | with_reducible refine valloc ?_ _ | with_reducible refine vdrew ?_ | with_reducible refine vdrewN ?_ _ | with_reducible refine via (by assumption) ?_ | refine vset ?_ (by first | exact Nat.le_refl _ | (simp; done) | (simp; omega) | omega) _))) hlen hlen').mono ?_; rintro e w1 ⟨rfl, hbw1⟩
    go_wp2
    go_ret
    refine ⟨ret_bool HR.out.symm, ?_⟩
    repeat (first | with_reducible exact Below.refl _ _ | with_reducible refine valloc ?_ _ | with_reducible refine vdrew ?_ | with_reducible refine vdrewN ?_ _ | with_reducible refine via (by assumption) ?_ | refine vset ?_ (by first | exact Nat.le_refl _ | (simp; done) | (simp; omega) | omega) _)
  · have hs : stOk n bs now xs = true := by simp only [winB, Bool.and_eq_true] at hw; exact hw.1
    have ho : openB xs p = true := by simp only [winB, Bool.and_eq_true] at hw; exact hw.2
    obtain ⟨hfit, hl, _, _, _⟩ := stOk_fit hs
    have hi : inB p 0 ((xs.length : Int) - 1) = true := by simp only [openB, Bool.and_eq_true] at ho; exact ho.1
    obtain ⟨q, rfl⟩ := Int.eq_ofNat_of_zero_le (show 0 ≤ p from ((inB_iff _ _ _).1 hi).1)
    have hq : q < xs.length := by have := (inB_iff _ _ _).1 hi; omega
    subst hl
    have h16 : 1 ≤ (xs.length : Int) ∧ (xs.length : Int) ≤ 6 := by simp only [fitsOk, Bool.and_eq_true] at hfit; have := planOk_of hfit.1; omega
    have HR := Lib.hid (show rdyB xs.length bs now xs q = readyB (closedT xs.length bs) xs q by simp [rdyB, hw])
    have HC := Lib.hid (closed_eq hfit)
    go_enter Try.func16, Try.ntmps16
    go_wp2_with fail
    refine (specWindowOf_any _ _ _ bs _ _ _ xs _ _ (h.below (by repeat (first | with_reducible exact Below.refl _ _ | with_reducible refine valloc ?_ _ | with_reducible refine vdrew ?_ | with_reducible refine vdrewN ?_ _ | with_reducible refine via (by assumption) ?_ | refine vset ?_ (by first | exact Nat.le_refl _ | (simp; done) | (simp; omega) | omega) _))) (h'.below (by repeat (first | with_reducible exact Below.refl _ _ | with_reducible refine valloc ?_ _ | with_reducible refine vdrew ?_ | with_reducible refine vdrewN ?_ _ | with_reducible refine via (by assumption) ?_ | refine vset ?_ (by first | exact Nat.le_refl _ | (simp; done) | (simp; omega) | omega) _))) hlen hlen').mono ?_; rintro e w1 ⟨rfl, hbw1⟩
    have i0 : w1.cell? ⟨w.heap.size + 1, 0, none⟩ = some (.int .i64 now) := cB hbw1 (by simp)
    have i1 : w1.cell? ⟨w.heap.size + 1, 1, none⟩ = some (.slice A' xs.length c') := cB hbw1 (by simp)
    obtain ⟨hcw1, hfw1⟩ := bcell hbw1; have hzw1 := hbw1.size; (try simp only [sz] at hzw1); (try simp only [szc] at hzw1); have hzw1_0 : w.heap.size < w1.heap.size := (by omega); have hzw1_1 : w.heap.size + 1 < w1.heap.size := (by omega)
    go_wp2_with fail
    refine (l2Closed_any xs.length _ _ bs _ (h.below (by repeat (first | with_reducible exact Below.refl _ _ | with_reducible refine valloc ?_ _ | with_reducible refine vdrew ?_ | with_reducible refine vdrewN ?_ _ | with_reducible refine via (by assumption) ?_ | refine vset ?_ (by first | exact Nat.le_refl _ | (simp; done) | (simp; omega) | omega) _))) (by omega) (by omega) hlen).mono ?_; rintro e w3 ⟨A3, c3, rfl, hm3, hbw3⟩
    have j0 := cB hbw3 i0
    have j1 := cB hbw3 i1
    have hz3 := hbw3.size
    have HM := Lib.hid ((hm3.mat (Nat.le_refl _)).eqT HC.out)
    clear hm3
    have BB : Below w.heap.size w w3 := (by repeat (first | with_reducible exact Below.refl _ _ | with_reducible refine valloc ?_ _ | with_reducible refine vdrew ?_ | with_reducible refine vdrewN ?_ _ | with_reducible refine via (by assumption) ?_ | refine vset ?_ (by first | exact Nat.le_refl _ | (simp; done) | (simp; omega) | omega) _))
    have HI := Lib.hid (h'.below BB)
    generalize closedT xs.length bs = T at *
    go_wp2
    go_loopw [11] (fun k W => ∃ kk : Nat, kk ≤ xs.length ∧ k = .int .i64 kk ∧ (∀ i, i < kk → ¬ (nthI xs i = -1 ∧ T q i < 0)) ∧ W.cell? ⟨w.heap.size + 1, 1, none⟩ = some (.slice A' xs.length c') ∧ Below w3.heap.size w3 W) (fun k _ => xs.length - (intOf k).toNat)
    case atStart => exact ⟨0, Nat.zero_le _, rfl, fun i hi => absurd hi (Nat.not_lt_zero _), j1, Below.refl _ _⟩
    case round =>
      obtain ⟨k, hk, rfl, hok, e1, hb⟩ := hrel
      have HOK := Lib.hid hok
      clear hok
      by_cases hlt : k < xs.length
      · obtain ⟨bx, ox, x, rfl, hbx, hx, hxm, cx⟩ := (HI.out.below hb).at_ hlt
        have X1 := Lib.hid (nthI_of hx)
        clear hx hxm
        obtain ⟨g, off, b1, o1, cc1, rfl, hg, r1, hbl1, q1⟩ := (HM.out.below hb).at_ hq
        have p1 := q1 k hlt
        clear q1
        cases hxe : (x == -1)
        · have HN := Lib.hid (show ¬ (nthI xs k = -1 ∧ T q k < 0) by rw [X1.out]; intro hh; rw [hh.1] at hxe; simp at hxe)
          go_wp2
          go_roundw
          case rel => exact ⟨k + 1, by omega, by go_num, fun i hi => by
            by_cases e : i = k
            · rw [e]; exact HN.out
            · exact HOK.out i (by omega), e1, hb⟩
          case measure => simp [intOf]; omega
        · have HXE := Lib.hid (beq_iff_eq.1 hxe)
          by_cases hneg : T q k < 0
          · have HR2 := Lib.hid (readyB_bad (p := q) hlt (by rw [X1.out, HXE.out]) hneg)
            go_wp2
            go_ret
            exact ⟨ret_bool (by rw [HR.out, HR2.out]), BB.trans (hb.mono BB.size)⟩
          · have HN := Lib.hid (show ¬ (nthI xs k = -1 ∧ T q k < 0) from fun hh => hneg hh.2)
            have hge : 0 ≤ T q k := by omega
            go_wp2
            go_roundw
            case rel => exact ⟨k + 1, by omega, by go_num, fun i hi => by
              by_cases e : i = k
              · rw [e]; exact HN.out
              · exact HOK.out i (by omega), e1, hb⟩
            case measure => simp [intOf]; omega
      · obtain rfl : xs.length = k := by omega
        have HR2 := Lib.hid (readyB_good (p := q) HOK.out)
        go_wp2
        go_ret
        exact ⟨ret_bool (by rw [HR.out, HR2.out]), BB.trans (hb.mono BB.size)⟩
set_option maxHeartbeats 1000000 in
theorem specDeadlineOf_any (n : Int) (A : Option Addr) (c : Nat) (bs : List Bd) (now : Int) (A' : Option Addr) (c' : Nat) (xs : List Int) (w : World) (h : BAt w A bs) (h' : IAt w A' xs) (hlen : bs.length ≤ 1099511627776) (hlen' : xs.length ≤ 1099511627776) :
    Calls Try.prog 18 #[.agg #[.int .i64 n, .slice A bs.length c], .agg #[.int .i64 now, .slice A' xs.length c']] w fun e w' => e = .returned (.int .i64 (dlV n bs now xs)) ∧ Below w.heap.size w w' := by
  cases hs : stOk n bs now xs
  · have HR := Lib.hid (show dlV n bs now xs = -1 by simp [dlV, hs])
    go_enter Try.func18, Try.ntmps18
    go_wp2_with fail
    refine (specStateOk_any _ _ _ bs _ _ _ xs _ (h.below (by repeat (first | with_reducible exact Below.refl _ _ | with_reducible refine valloc ?_ _ | with_reducible refine vdrew ?_ | with_reducible refine vdrewN ?_ _ | with_reducible refine via (by assumption) ?_ | refine vset ?_ (by first | exact Nat.le_refl _ | (simp; done) | (simp; omega) | omega) _))) (h'.below (by repeat (first | with_reducible exact Below.refl _ _ | with_reducible refine valloc ?_ _ | with_reducible refine vdrew ?_ | with_reducible refine vdrewN ?_ _ | with_reducible refine via (by assumption) ?_ | refine vset ?_ (by first | exact Nat.le_refl _ | (simp; done) | (simp; omega) | omega) _))) hlen hlen').mono ?_; rintro e w1 ⟨rfl, hbw1⟩
    go_wp2
    go_ret
    refine ⟨ret_int HR.out.symm, ?_⟩
    repeat (first | with_reducible exact Below.refl _ _ | with_reducible refine valloc ?_ _ | with_reducible refine vdrew ?_ | with_reducible refine vdrewN ?_ _ | with_reducible refine via (by assumption) ?_ | refine vset ?_ (by first | exact Nat.le_refl _ | (simp; done) | (simp; omega) | omega) _)
  · obtain ⟨hfit, hl, _, _, _⟩ := stOk_fit hs
    subst hl
    have h16 : 1 ≤ (xs.length : Int) ∧ (xs.length : Int) ≤ 6 := by simp only [fitsOk, Bool.and_eq_true] at hfit; have := planOk_of hfit.1; omega
    have HR := Lib.hid (show dlV xs.length bs now xs = dlG (closedT xs.length bs) xs xs.length by simp [dlV, hs])
    have HC := Lib.hid (closed_eq hfit)
    have HT := Lib.hid (fun i j hi hj => (closed_bound hfit i j hi hj).2)
    go_enter Try.func18, Try.ntmps18
    go_wp2_with fail
    refine (specStateOk_any _ _ _ bs _ _ _ xs _ (h.below (by repeat (first | with_reducible exact Below.refl _ _ | with_reducible refine valloc ?_ _ | with_reducible refine vdrew ?_ | with_reducible refine vdrewN ?_ _ | with_reducible refine via (by assumption) ?_ | refine vset ?_ (by first | exact Nat.le_refl _ | (simp; done) | (simp; omega) | omega) _))) (h'.below (by repeat (first | with_reducible exact Below.refl _ _ | with_reducible refine valloc ?_ _ | with_reducible refine vdrew ?_ | with_reducible refine vdrewN ?_ _ | with_reducible refine via (by assumption) ?_ | refine vset ?_ (by first | exact Nat.le_refl _ | (simp; done) | (simp; omega) | omega) _))) hlen hlen').mono ?_; rintro e w1 ⟨rfl, hbw1⟩
    have i0 : w1.cell? ⟨w.heap.size + 1, 0, none⟩ = some (.int .i64 now) := cB hbw1 (by simp)
    have i1 : w1.cell? ⟨w.heap.size + 1, 1, none⟩ = some (.slice A' xs.length c') := cB hbw1 (by simp)
    obtain ⟨hcw1, hfw1⟩ := bcell hbw1; have hzw1 := hbw1.size; (try simp only [sz] at hzw1); (try simp only [szc] at hzw1); have hzw1_0 : w.heap.size < w1.heap.size := (by omega); have hzw1_1 : w.heap.size + 1 < w1.heap.size := (by omega)
    go_wp2_with fail
    refine (l2Closed_any xs.length _ _ bs _ (h.below (by repeat (first | with_reducible exact Below.refl _ _ | with_reducible refine valloc ?_ _ | with_reducible refine vdrew ?_ | with_reducible refine vdrewN ?_ _ | with_reducible refine via (by assumption) ?_ | refine vset ?_ (by first | exact Nat.le_refl _ | (simp; done) | (simp; omega) | omega) _))) (by omega) (by omega) hlen).mono ?_; rintro e w3 ⟨A3, c3, rfl, hm3, hbw3⟩
    have j0 := cB hbw3 i0
    have j1 := cB hbw3 i1
    have hz3 := hbw3.size
    have HM := Lib.hid ((hm3.mat (Nat.le_refl _)).eqT HC.out)
    clear hm3
    have BB : Below w.heap.size w w3 := (by repeat (first | with_reducible exact Below.refl _ _ | with_reducible refine valloc ?_ _ | with_reducible refine vdrew ?_ | with_reducible refine vdrewN ?_ _ | with_reducible refine via (by assumption) ?_ | refine vset ?_ (by first | exact Nat.le_refl _ | (simp; done) | (simp; omega) | omega) _))
    have HI := Lib.hid (h'.below BB)
    generalize closedT xs.length bs = T at *
    go_wp2
    go_loopw [5, 7] (fun out k W => ∃ kk : Nat, kk ≤ xs.length ∧ k = .int .i64 kk ∧ out = .int .i64 (dlG T xs kk) ∧ W.cell? ⟨w.heap.size + 1, 0, none⟩ = some (.int .i64 now) ∧ W.cell? ⟨w.heap.size + 1, 1, none⟩ = some (.slice A' xs.length c') ∧ Below w3.heap.size w3 W) (fun _ k _ => xs.length - (intOf k).toNat)
    case atStart => exact ⟨0, Nat.zero_le _, rfl, rfl, j0, j1, Below.refl _ _⟩
    case round =>
      obtain ⟨k, hk, rfl, rfl, e0, e1, hb⟩ := hrel
      by_cases hlt : k < xs.length
      · obtain ⟨bx, ox, x, rfl, hbx, hx, hxm, cx⟩ := (HI.out.below hb).at_ hlt
        have X1 := Lib.hid (nthI_of hx)
        clear hx hxm
        have D1 := Lib.hid (fun hh => dlG_yes (T := T) (xs := xs) (k := k) hh)
        have D2 := Lib.hid (fun hh => dlG_no (T := T) (xs := xs) (k := k) hh)
        generalize dlG T xs k = dl at *
        cases hxe : (x == -1)
        · have E1 := Lib.hid (D2.out (by rw [X1.out]; intro hh; rw [hh] at hxe; simp at hxe))
          go_wp2
          go_roundw
          case rel => exact ⟨k + 1, by omega, by go_num, by rw [E1.out], e0, e1, hb⟩
          case measure => simp [intOf]; omega
        · have E1 := Lib.hid (D1.out (by rw [X1.out]; exact beq_iff_eq.1 hxe))
          have HI4 := Lib.hid (HI.out.below hb)
          have HM4 := Lib.hid (HM.out.below hb)
          go_wp2_with fail
          refine (l6Window_any _ _ _ _ xs.length k now T xs _ HM4.out HI4.out hlt (Nat.le_refl _) (by omega) HT.out).mono ?_; rintro e w5 ⟨rfl, hbw5⟩
          have g0 := cB hbw5 e0
          have g1 := cB hbw5 e1
          have b5 := hb.trans (hbw5.mono hb.size)
          generalize highG true T k xs xs.length = hi at *
          go_wp2
          go_roundw
          case rel => exact ⟨k + 1, by omega, by go_num, by rw [E1.out]; rfl, g0, g1, b5⟩
          case measure => simp [intOf]; omega
      · obtain rfl : xs.length = k := by omega
        go_wp2
        go_ret
        exact ⟨ret_int HR.out.symm, BB.trans (hb.mono BB.size)⟩
end Go.Proofs.Ytaifpindiphlkac
