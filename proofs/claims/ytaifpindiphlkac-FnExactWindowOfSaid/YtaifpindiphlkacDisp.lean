/- Contracts of WindowOf, of the program and of the reference; for slices of at most 2^40 elements. -/
import Derived.Test.YtaifpindiphlkacKJ
import Derived.Test.YtaifpindiphlkacWindows2
import Derived.OwnWalk
namespace Go.Proofs.Ytaifpindiphlkac
open Go.RowKit
set_option linter.unusedVariables false
set_option maxRecDepth 10000
set_option linter.unusedSimpArgs false

theorem MAt.eqT {w : World} {A : Option Addr} {N M : Nat} {T T' : Tab} (h : MAt w A N M T) (he : ∀ i j, i < M → j < N → T i j = T' i j) : MAt w A N M T' := by
  intro h0
  obtain ⟨g, off, e, hg, hr⟩ := h h0
  refine ⟨g, off, e, hg, fun i hi => ?_⟩
  obtain ⟨b, o, c, h1, h2, h3⟩ := hr i hi
  exact ⟨b, o, c, h1, h2, fun j hj => by rw [← he i j hi hj]; exact h3 j hj⟩
def winB (n : Int) (bs : List Bd) (now : Int) (xs : List Int) (p : Int) : Bool := stOk n bs now xs && openB xs p
def winL (n : Int) (bs : List Bd) (now : Int) (xs : List Int) (p : Int) : Int := if winB n bs now xs p = true then lowG true (closedT n bs) p.toNat xs now xs.length else 0
def winH (n : Int) (bs : List Bd) (now : Int) (xs : List Int) (p : Int) : Int := if winB n bs now xs p = true then highG true (closedT n bs) p.toNat xs xs.length else 0
def WinRes (n : Int) (bs : List Bd) (now : Int) (xs : List Int) (p : Int) (w : World) (e : Ending) (w' : World) : Prop :=
  e = .returned (.tuple #[.int .i64 (winL n bs now xs p), .int .i64 (winH n bs now xs p), .bool (winB n bs now xs p)]) ∧ Below w.heap.size w w'
theorem win_no {n : Int} {bs : List Bd} {now : Int} {xs : List Int} {p : Int} (h : winB n bs now xs p = false) : winL n bs now xs p = 0 ∧ winH n bs now xs p = 0 ∧ winB n bs now xs p = false := ⟨by simp [winL, h], by simp [winH, h], h⟩
theorem win_yes {n : Int} {bs : List Bd} {now : Int} {xs : List Int} {p : Nat} (h : winB n bs now xs p = true) : winL n bs now xs p = lowG true (closedT n bs) p xs now xs.length ∧ winH n bs now xs p = highG true (closedT n bs) p xs xs.length ∧ winB n bs now xs p = true := ⟨by simp [winL, h], by simp [winH, h], h⟩
set_option maxHeartbeats 1000000 in
theorem windowOf_any (n : Int) (A : Option Addr) (c : Nat) (bs : List Bd) (now : Int) (A' : Option Addr) (c' : Nat) (xs : List Int) (p : Int) (w : World) (h : BAt w A bs) (h' : IAt w A' xs) (hlen : bs.length ≤ 1099511627776) (hlen' : xs.length ≤ 1099511627776) :
    Calls Try.prog 13 #[.agg #[.int .i64 n, .slice A bs.length c], .agg #[.int .i64 now, .slice A' xs.length c'], .int .i64 p] w (WinRes n bs now xs p w) := by
  cases hs : stOk n bs now xs
  · have HR := Lib.hid (win_no (show winB n bs now xs p = false by simp [winB, hs]))
    go_enter Try.func13, Try.ntmps13
    go_wp2_with fail
    refine (stateOk_any _ _ _ bs _ _ _ xs _ (h.below (by repeat (first | with_reducible exact Below.refl _ _ | with_reducible refine valloc ?_ _ | with_reducible refine vdrew ?_ | with_reducible refine vdrewN ?_ _ | with_reducible refine via (by assumption) ?_ | refine vset ?_ (by first | exact Nat.le_refl _ | (simp; done) | (simp; omega) | omega) _))) (h'.below (by repeat (first | with_reducible exact Below.refl _ _ | with_reducible refine valloc ?_ _ | with_reducible refine vdrew ?_ | with_reducible refine vdrewN ?_ _ | with_reducible refine via (by assumption) ?_ | refine vset ?_ (by first | exact Nat.le_refl _ | (simp; done) | (simp; omega) | omega) _))) hlen hlen').mono ?_; rintro e w1 ⟨rfl, hbw1⟩
    go_wp2
    go_ret3
    refine ⟨by rw [HR.out.1, HR.out.2.1, HR.out.2.2]; rfl, ?_⟩
    repeat (first | with_reducible exact Below.refl _ _ | with_reducible refine valloc ?_ _ | with_reducible refine vdrew ?_ | with_reducible refine vdrewN ?_ _ | with_reducible refine via (by assumption) ?_ | refine vset ?_ (by first | exact Nat.le_refl _ | (simp; done) | (simp; omega) | omega) _)
  · cases ho : openB xs p
    · have HR := Lib.hid (win_no (show winB n bs now xs p = false by simp [winB, ho]))
      go_enter Try.func13, Try.ntmps13
      go_wp2_with fail
      refine (stateOk_any _ _ _ bs _ _ _ xs _ (h.below (by repeat (first | with_reducible exact Below.refl _ _ | with_reducible refine valloc ?_ _ | with_reducible refine vdrew ?_ | with_reducible refine vdrewN ?_ _ | with_reducible refine via (by assumption) ?_ | refine vset ?_ (by first | exact Nat.le_refl _ | (simp; done) | (simp; omega) | omega) _))) (h'.below (by repeat (first | with_reducible exact Below.refl _ _ | with_reducible refine valloc ?_ _ | with_reducible refine vdrew ?_ | with_reducible refine vdrewN ?_ _ | with_reducible refine via (by assumption) ?_ | refine vset ?_ (by first | exact Nat.le_refl _ | (simp; done) | (simp; omega) | omega) _))) hlen hlen').mono ?_; rintro e w1 ⟨rfl, hbw1⟩; obtain ⟨hcw1, hfw1⟩ := bcell hbw1; have hzw1 := hbw1.size; (try simp only [sz] at hzw1); (try simp only [szc] at hzw1); have hzw1_0 : w.heap.size < w1.heap.size := (by omega); have hzw1_1 : w.heap.size + 1 < w1.heap.size := (by omega)
      go_wp2_with fail
      refine (open_any _ _ _ xs _ _ (h'.below (by repeat (first | with_reducible exact Below.refl _ _ | with_reducible refine valloc ?_ _ | with_reducible refine vdrew ?_ | with_reducible refine vdrewN ?_ _ | with_reducible refine via (by assumption) ?_ | refine vset ?_ (by first | exact Nat.le_refl _ | (simp; done) | (simp; omega) | omega) _))) hlen').mono ?_; rintro e w2 ⟨rfl, hbw2⟩
      go_wp2
      go_ret3
      refine ⟨by rw [HR.out.1, HR.out.2.1, HR.out.2.2]; rfl, ?_⟩
      repeat (first | with_reducible exact Below.refl _ _ | with_reducible refine valloc ?_ _ | with_reducible refine vdrew ?_ | with_reducible refine vdrewN ?_ _ | with_reducible refine via (by assumption) ?_ | refine vset ?_ (by first | exact Nat.le_refl _ | (simp; done) | (simp; omega) | omega) _)
    · obtain ⟨hfit, hl, _, _, _⟩ := stOk_fit hs
      have hi : inB p 0 ((xs.length : Int) - 1) = true := by simp only [openB, Bool.and_eq_true] at ho; exact ho.1
      obtain ⟨q, rfl⟩ := Int.eq_ofNat_of_zero_le (show 0 ≤ p from ((inB_iff _ _ _).1 hi).1)
      have hq : q < xs.length := by have := (inB_iff _ _ _).1 hi; omega
      subst hl
      have h16 : 1 ≤ (xs.length : Int) ∧ (xs.length : Int) ≤ 6 := by simp only [fitsOk, Bool.and_eq_true] at hfit; have := planOk_of hfit.1; omega
      have HR := Lib.hid (win_yes (show winB xs.length bs now xs q = true by simp [winB, hs, ho]))
      go_enter Try.func13, Try.ntmps13
      go_wp2_with fail
      refine (stateOk_any _ _ _ bs _ _ _ xs _ (h.below (by repeat (first | with_reducible exact Below.refl _ _ | with_reducible refine valloc ?_ _ | with_reducible refine vdrew ?_ | with_reducible refine vdrewN ?_ _ | with_reducible refine via (by assumption) ?_ | refine vset ?_ (by first | exact Nat.le_refl _ | (simp; done) | (simp; omega) | omega) _))) (h'.below (by repeat (first | with_reducible exact Below.refl _ _ | with_reducible refine valloc ?_ _ | with_reducible refine vdrew ?_ | with_reducible refine vdrewN ?_ _ | with_reducible refine via (by assumption) ?_ | refine vset ?_ (by first | exact Nat.le_refl _ | (simp; done) | (simp; omega) | omega) _))) hlen hlen').mono ?_; rintro e w1 ⟨rfl, hbw1⟩; obtain ⟨hcw1, hfw1⟩ := bcell hbw1; have hzw1 := hbw1.size; (try simp only [sz] at hzw1); (try simp only [szc] at hzw1); have hzw1_0 : w.heap.size < w1.heap.size := (by omega); have hzw1_1 : w.heap.size + 1 < w1.heap.size := (by omega)
      go_wp2_with fail
      refine (open_any _ _ _ xs _ _ (h'.below (by repeat (first | with_reducible exact Below.refl _ _ | with_reducible refine valloc ?_ _ | with_reducible refine vdrew ?_ | with_reducible refine vdrewN ?_ _ | with_reducible refine via (by assumption) ?_ | refine vset ?_ (by first | exact Nat.le_refl _ | (simp; done) | (simp; omega) | omega) _))) hlen').mono ?_; rintro e w2 ⟨rfl, hbw2⟩; obtain ⟨hcw2, hfw2⟩ := bcell hbw2; have hzw2 := hbw2.size; (try simp only [sz] at hzw2); (try simp only [szc] at hzw2); have hzw2_0 : w.heap.size < w2.heap.size := (by omega); have hzw2_1 : w.heap.size + 1 < w2.heap.size := (by omega)
      go_wp2_with fail
      refine (closed_yes _ _ _ bs _ (h.below (by repeat (first | with_reducible exact Below.refl _ _ | with_reducible refine valloc ?_ _ | with_reducible refine vdrew ?_ | with_reducible refine vdrewN ?_ _ | with_reducible refine via (by assumption) ?_ | refine vset ?_ (by first | exact Nat.le_refl _ | (simp; done) | (simp; omega) | omega) _))) hlen hfit).mono ?_; rintro e w3 ⟨g, N', R, hN', hN1, hN6, rfl, hG, hbw3⟩; obtain ⟨hcw3, hfw3⟩ := bcell hbw3; have hzw3 := hbw3.size; (try simp only [sz] at hzw3); (try simp only [szc] at hzw3); have hzw3_0 : w.heap.size < w3.heap.size := (by omega); have hzw3_1 : w.heap.size + 1 < w3.heap.size := (by omega)
      obtain rfl : xs.length = N' := by omega
      have HM := Lib.hid hG.mat
      clear hG
      generalize closedT xs.length bs = T at *
      go_wp2_with fail
      refine (window_any _ _ _ _ xs.length q now T xs _ HM.out (h'.below (by repeat (first | with_reducible exact Below.refl _ _ | with_reducible refine valloc ?_ _ | with_reducible refine vdrew ?_ | with_reducible refine vdrewN ?_ _ | with_reducible refine via (by assumption) ?_ | refine vset ?_ (by first | exact Nat.le_refl _ | (simp; done) | (simp; omega) | omega) _))) hq (Nat.le_refl _) (by omega)).mono ?_; rintro e w4 ⟨rfl, hbw4⟩
      go_wp2
      go_ret3
      refine ⟨by rw [HR.out.1, HR.out.2.1, HR.out.2.2]; rfl, ?_⟩
      repeat (first | with_reducible exact Below.refl _ _ | with_reducible refine valloc ?_ _ | with_reducible refine vdrew ?_ | with_reducible refine vdrewN ?_ _ | with_reducible refine via (by assumption) ?_ | refine vset ?_ (by first | exact Nat.le_refl _ | (simp; done) | (simp; omega) | omega) _)
set_option maxHeartbeats 1000000 in
theorem specWindowOf_any (n : Int) (A : Option Addr) (c : Nat) (bs : List Bd) (now : Int) (A' : Option Addr) (c' : Nat) (xs : List Int) (p : Int) (w : World) (h : BAt w A bs) (h' : IAt w A' xs) (hlen : bs.length ≤ 1099511627776) (hlen' : xs.length ≤ 1099511627776) :
    Calls Try.prog 10 #[.agg #[.int .i64 n, .slice A bs.length c], .agg #[.int .i64 now, .slice A' xs.length c'], .int .i64 p] w (WinRes n bs now xs p w) := by
  cases hs : stOk n bs now xs
  · have HR := Lib.hid (win_no (show winB n bs now xs p = false by simp [winB, hs]))
    go_enter Try.func10, Try.ntmps10
    go_wp2_with fail
    refine (specStateOk_any _ _ _ bs _ _ _ xs _ (h.below (by repeat (first | with_reducible exact Below.refl _ _ | with_reducible refine valloc ?_ _ | with_reducible refine vdrew ?_ | with_reducible refine vdrewN ?_ _ | with_reducible refine via (by assumption) ?_ | refine vset ?_ (by first | exact Nat.le_refl _ | (simp; done) | (simp; omega) | omega) _))) (h'.below (by repeat (first | with_reducible exact Below.refl _ _ | with_reducible refine valloc ?_ _ | with_reducible refine vdrew ?_ | with_reducible refine vdrewN ?_ _ | with_reducible refine via (by assumption) ?_ | refine vset ?_ (by first | exact Nat.le_refl _ | (simp; done) | (simp; omega) | omega) _))) hlen hlen').mono ?_; rintro e w1 ⟨rfl, hbw1⟩
    go_wp2
    go_ret3
    refine ⟨by rw [HR.out.1, HR.out.2.1, HR.out.2.2]; rfl, ?_⟩
    repeat (first | with_reducible exact Below.refl _ _ | with_reducible refine valloc ?_ _ | with_reducible refine vdrew ?_ | with_reducible refine vdrewN ?_ _ | with_reducible refine via (by assumption) ?_ | refine vset ?_ (by first | exact Nat.le_refl _ | (simp; done) | (simp; omega) | omega) _)
  · obtain ⟨hfit, hl, _, _, _⟩ := stOk_fit hs
    subst hl
    have h16 : 1 ≤ (xs.length : Int) ∧ (xs.length : Int) ≤ 6 := by simp only [fitsOk, Bool.and_eq_true] at hfit; have := planOk_of hfit.1; omega
    cases hi : inB p 0 ((xs.length : Int) - 1)
    · have HR := Lib.hid (win_no (show winB xs.length bs now xs p = false by simp [winB, openB, hi]))
      go_enter Try.func10, Try.ntmps10
      go_wp2_with fail
      refine (specStateOk_any _ _ _ bs _ _ _ xs _ (h.below (by repeat (first | with_reducible exact Below.refl _ _ | with_reducible refine valloc ?_ _ | with_reducible refine vdrew ?_ | with_reducible refine vdrewN ?_ _ | with_reducible refine via (by assumption) ?_ | refine vset ?_ (by first | exact Nat.le_refl _ | (simp; done) | (simp; omega) | omega) _))) (h'.below (by repeat (first | with_reducible exact Below.refl _ _ | with_reducible refine valloc ?_ _ | with_reducible refine vdrew ?_ | with_reducible refine vdrewN ?_ _ | with_reducible refine via (by assumption) ?_ | refine vset ?_ (by first | exact Nat.le_refl _ | (simp; done) | (simp; omega) | omega) _))) hlen hlen').mono ?_; rintro e w1 ⟨rfl, hbw1⟩; obtain ⟨hcw1, hfw1⟩ := bcell hbw1; have hzw1 := hbw1.size; (try simp only [sz] at hzw1); (try simp only [szc] at hzw1); have hzw1_0 : w.heap.size < w1.heap.size := (by omega); have hzw1_1 : w.heap.size + 1 < w1.heap.size := (by omega)
      go_wp2_with (go_at_call 32; refine (l1In_any _ _ _ _).mono ?_; rintro e w' ⟨rfl, rfl⟩)
      go_ret3
      refine ⟨by rw [HR.out.1, HR.out.2.1, HR.out.2.2]; rfl, ?_⟩
      repeat (first | with_reducible exact Below.refl _ _ | with_reducible refine valloc ?_ _ | with_reducible refine vdrew ?_ | with_reducible refine vdrewN ?_ _ | with_reducible refine via (by assumption) ?_ | refine vset ?_ (by first | exact Nat.le_refl _ | (simp; done) | (simp; omega) | omega) _)
    · obtain ⟨q, rfl⟩ := Int.eq_ofNat_of_zero_le (show 0 ≤ p from ((inB_iff _ _ _).1 hi).1)
      have hq : q < xs.length := by have := (inB_iff _ _ _).1 hi; omega
      obtain ⟨b, off, x, rfl, hbl, hx, hxm, c0⟩ := h'.at_ hq
      have OE := Lib.hid (show openB xs q = (x == -1) by simp [openB, hi, nthI_of hx, Int.toNat_natCast]; exact Bool.eq_iff_iff.2 (by simp))
      clear hx hxm
      cases hxe : (x == -1)
      · have HR := Lib.hid (win_no (show winB xs.length bs now xs q = false by simp only [winB, OE.out, hxe, Bool.and_false]))
        have hxn : (x != -1) = true := by rw [bne, hxe]; rfl
        go_enter Try.func10, Try.ntmps10
        go_wp2_with fail
        refine (specStateOk_any _ _ _ bs _ _ _ xs _ (h.below (by repeat (first | with_reducible exact Below.refl _ _ | with_reducible refine valloc ?_ _ | with_reducible refine vdrew ?_ | with_reducible refine vdrewN ?_ _ | with_reducible refine via (by assumption) ?_ | refine vset ?_ (by first | exact Nat.le_refl _ | (simp; done) | (simp; omega) | omega) _))) (h'.below (by repeat (first | with_reducible exact Below.refl _ _ | with_reducible refine valloc ?_ _ | with_reducible refine vdrew ?_ | with_reducible refine vdrewN ?_ _ | with_reducible refine via (by assumption) ?_ | refine vset ?_ (by first | exact Nat.le_refl _ | (simp; done) | (simp; omega) | omega) _))) hlen hlen').mono ?_; rintro e w1 ⟨rfl, hbw1⟩
        have d0 := cB hbw1 (cA (cA c0 _) _)
        obtain ⟨hcw1, hfw1⟩ := bcell hbw1; have hzw1 := hbw1.size; (try simp only [sz] at hzw1); (try simp only [szc] at hzw1); have hzw1_0 : w.heap.size < w1.heap.size := (by omega); have hzw1_1 : w.heap.size + 1 < w1.heap.size := (by omega)
        clear c0
        go_wp2_with (go_at_call 32; refine (l1In_any _ _ _ _).mono ?_; rintro e w' ⟨rfl, rfl⟩)
        go_ret3
        refine ⟨by rw [HR.out.1, HR.out.2.1, HR.out.2.2]; rfl, ?_⟩
        repeat (first | with_reducible exact Below.refl _ _ | with_reducible refine valloc ?_ _ | with_reducible refine vdrew ?_ | with_reducible refine vdrewN ?_ _ | with_reducible refine via (by assumption) ?_ | refine vset ?_ (by first | exact Nat.le_refl _ | (simp; done) | (simp; omega) | omega) _)
      · have HR := Lib.hid (win_yes (show winB xs.length bs now xs q = true by simp only [winB, OE.out, hxe, hs, Bool.and_true]))
        have hxn : (x != -1) = false := by rw [bne, hxe]; rfl
        have HC := Lib.hid (closed_eq hfit)
        have HT := Lib.hid (fun i j hi hj => (closed_bound hfit i j hi hj).2)
        go_enter Try.func10, Try.ntmps10
        go_wp2_with fail
        refine (specStateOk_any _ _ _ bs _ _ _ xs _ (h.below (by repeat (first | with_reducible exact Below.refl _ _ | with_reducible refine valloc ?_ _ | with_reducible refine vdrew ?_ | with_reducible refine vdrewN ?_ _ | with_reducible refine via (by assumption) ?_ | refine vset ?_ (by first | exact Nat.le_refl _ | (simp; done) | (simp; omega) | omega) _))) (h'.below (by repeat (first | with_reducible exact Below.refl _ _ | with_reducible refine valloc ?_ _ | with_reducible refine vdrew ?_ | with_reducible refine vdrewN ?_ _ | with_reducible refine via (by assumption) ?_ | refine vset ?_ (by first | exact Nat.le_refl _ | (simp; done) | (simp; omega) | omega) _))) hlen hlen').mono ?_; rintro e w1 ⟨rfl, hbw1⟩
        have d0 := cB hbw1 (cA (cA c0 _) _)
        have i0 : w1.cell? ⟨w.heap.size, 0, none⟩ = some (.int .i64 xs.length) := cB hbw1 (by simp)
        have i1 : w1.cell? ⟨w.heap.size, 1, none⟩ = some (.slice A bs.length c) := cB hbw1 (by simp)
        have j0 : w1.cell? ⟨w.heap.size + 1, 0, none⟩ = some (.int .i64 now) := cB hbw1 (by simp)
        have j1 : w1.cell? ⟨w.heap.size + 1, 1, none⟩ = some (.slice (some ⟨b, off, none⟩) xs.length c') := cB hbw1 (by simp)
        have BB : Below w.heap.size w w1 := (by repeat (first | with_reducible exact Below.refl _ _ | with_reducible refine valloc ?_ _ | with_reducible refine vdrew ?_ | with_reducible refine vdrewN ?_ _ | with_reducible refine via (by assumption) ?_ | refine vset ?_ (by first | exact Nat.le_refl _ | (simp; done) | (simp; omega) | omega) _))
        have HB1 := Lib.hid (h.below BB)
        have HI1 := Lib.hid (h'.below BB)
        have hz1 := hbw1.size
        clear c0 h h'
        generalize hT : closedT xs.length bs = T at *
        go_wp2_with (go_at_call 32; refine (l1In_any _ _ _ _).mono ?_; rintro e w' ⟨rfl, rfl⟩)
        go_region_held3 (fun w' => w'.cell? ⟨w.heap.size, 0, none⟩ = some (.int .i64 xs.length) ∧ w'.cell? ⟨w.heap.size, 1, none⟩ = some (.slice A bs.length c) ∧ w'.cell? ⟨w.heap.size + 1, 0, none⟩ = some (.int .i64 now) ∧ w'.cell? ⟨w.heap.size + 1, 1, none⟩ = some (.slice (some ⟨b, off, none⟩) xs.length c')) (first | go_keep | (go_split_ands; (repeat' apply And.intro) <;> (first | assumption | (refine cB (by assumption) ?_; first | assumption | (simp; assumption)) | (simp; assumption))))
          (first
            | (go_at_call 34; refine (l2Closed_any xs.length _ _ bs _ (HB1.out.below (by repeat (first | with_reducible exact Below.refl _ _ | with_reducible refine valloc ?_ _ | with_reducible refine vdrew ?_ | with_reducible refine vdrewN ?_ _ | with_reducible refine via (by assumption) ?_ | refine vset ?_ (by first | exact Nat.le_refl _ | (simp; done) | (simp; omega) | omega) _))) (by omega) (by omega) hlen).mono ?_; rintro e w2 ⟨A2, c2, rfl, hm2, hbw2⟩)
            | (go_at_call 33; refine (l6Window_any _ _ _ _ xs.length q now T xs _ ((hm2.mat (Nat.le_refl _)).eqT HC.out) (HI1.out.below (by repeat (first | with_reducible exact Below.refl _ _ | with_reducible refine valloc ?_ _ | with_reducible refine vdrew ?_ | with_reducible refine vdrewN ?_ _ | with_reducible refine via (by assumption) ?_ | refine vset ?_ (by first | exact Nat.le_refl _ | (simp; done) | (simp; omega) | omega) _))) hq (Nat.le_refl _) (by omega) HT.out).mono ?_; rintro e w3 ⟨rfl, hbw3⟩))
        have b2 := (vdrew BB).trans (hbw2.mono BB.size)
        have b3 := b2.trans (hbw3.mono b2.size)
        go_wp2
        go_ret3
        exact ⟨by rw [HR.out.1, HR.out.2.1, HR.out.2.2]; rfl, b3⟩
end Go.Proofs.Ytaifpindiphlkac
