/- Contracts of StateOk, of the program and of the reference; for slices of at most 2^40 elements. Contracts of StateNew, of the program and of the reference; for slices of at most 2^40 bounds. Rows of bounds that a call makes by append; slices.Clone of bounds; and what a state adds to a plan. Contracts of GoesOnOk, of the program and of the reference; for slices of at most 2^40 elements. -/
import Derived.Test.YtaifpindiphlkacKE
import Derived.Test.YtaifpindiphlkacKD
import Derived.Test.YtaifpindiphlkacKI
import Derived.Test.YtaifpindiphlkacKB
import Derived.Test.YtaifpindiphlkacFromPt
import Derived.Test.YtaifpindiphlkacKC
import Derived.Laws.AppendOwnNone
import Derived.Laws.OwnMore
import Derived.Lib.SliceRun
import Derived.Deep.RegionHeld3
namespace Go.Proofs.Ytaifpindiphlkac
open Go.RowKit
set_option linter.unusedVariables false
set_option maxRecDepth 10000
set_option linter.unusedSimpArgs false

/-- Is it a state of the plan? -/
def stOk (n : Int) (bs : List Bd) (now : Int) (xs : List Int) : Bool := fitsOk n bs && decide ((xs.length : Int) = n) && inB now 0 2000 && decide (nthI xs 0 = 0) && allB xs (-1) now
theorem isClock_any (t : Int) (w : World) : Calls Try.prog 51 #[.int .i64 t] w fun e w' => e = .returned (.bool (inB t 0 2000)) ∧ Below w.heap.size w w' := by
  go_enter Try.func51, Try.ntmps51
  go_wp2_with (go_at_call 53; refine (in_any _ _ _ _).mono ?_; rintro e w1 ⟨rfl, rfl⟩)
  go_ret
  exact ⟨rfl, Below.refl _ _⟩
theorem stOk_fit {n now : Int} {bs : List Bd} {xs : List Int} (h : stOk n bs now xs = true) : fitsOk n bs = true ∧ (xs.length : Int) = n ∧ (0 ≤ now ∧ now ≤ 2000) ∧ nthI xs 0 = 0 ∧ ∀ x ∈ xs, -1 ≤ x ∧ x ≤ now := by
  simp only [stOk, Bool.and_eq_true, decide_eq_true_eq] at h
  obtain ⟨⟨⟨⟨h1, h2⟩, h3⟩, h4⟩, h5⟩ := h
  exact ⟨h1, h2, (inB_iff _ _ _).1 h3, h4, (allB_iff _ _ _).1 h5⟩
set_option maxHeartbeats 1000000 in
theorem stateOk_any (n : Int) (A : Option Addr) (c : Nat) (bs : List Bd) (now : Int) (A' : Option Addr) (c' : Nat) (xs : List Int) (w : World) (h : BAt w A bs) (h' : IAt w A' xs) (hlen : bs.length ≤ 1099511627776) (hlen' : xs.length ≤ 1099511627776) :
    Calls Try.prog 36 #[.agg #[.int .i64 n, .slice A bs.length c], .agg #[.int .i64 now, .slice A' xs.length c']] w fun e w' => e = .returned (.bool (stOk n bs now xs)) ∧ Below w.heap.size w w' := by
  cases hfit : fitsOk n bs
  · have HR := Lib.hid (show stOk n bs now xs = false by simp [stOk, hfit])
    go_enter Try.func36, Try.ntmps36
    go_wp2_with fail
    refine (fitsOk_any _ _ _ bs _ (h.below (by repeat (first | with_reducible exact Below.refl _ _ | with_reducible refine valloc ?_ _ | with_reducible refine vdrew ?_ | with_reducible refine vdrewN ?_ _ | with_reducible refine via (by assumption) ?_ | refine vset ?_ (by first | exact Nat.le_refl _ | (simp; done) | (simp; omega) | omega) _))) hlen).mono ?_; rintro e w1 ⟨rfl, hbw1⟩
    go_wp2
    go_ret
    refine ⟨ret_bool HR.out.symm, ?_⟩
    repeat (first | with_reducible exact Below.refl _ _ | with_reducible refine valloc ?_ _ | with_reducible refine vdrew ?_ | with_reducible refine vdrewN ?_ _ | with_reducible refine via (by assumption) ?_ | refine vset ?_ (by first | exact Nat.le_refl _ | (simp; done) | (simp; omega) | omega) _)
  by_cases hl : (xs.length : Int) = n
  · have hn1 : 1 ≤ n := by simp only [fitsOk, Bool.and_eq_true] at hfit; have := planOk_of hfit.1; omega
    have hl0 : 0 < xs.length := by omega
    cases hcl : inB now 0 2000
    · have HR := Lib.hid (show stOk n bs now xs = false by simp [stOk, hcl])
      have hne : ((xs.length : Int) != n) = false := by simp [hl]
      clear hl
      go_enter Try.func36, Try.ntmps36
      go_wp2_with fail
      refine (fitsOk_any _ _ _ bs _ (h.below (by repeat (first | with_reducible exact Below.refl _ _ | with_reducible refine valloc ?_ _ | with_reducible refine vdrew ?_ | with_reducible refine vdrewN ?_ _ | with_reducible refine via (by assumption) ?_ | refine vset ?_ (by first | exact Nat.le_refl _ | (simp; done) | (simp; omega) | omega) _))) hlen).mono ?_; rintro e w1 ⟨rfl, hbw1⟩; obtain ⟨hcw1, hfw1⟩ := bcell hbw1; have hzw1 := hbw1.size; (try simp only [sz] at hzw1); (try simp only [szc] at hzw1); have hzw1_0 : w.heap.size < w1.heap.size := (by omega); have hzw1_1 : w.heap.size + 1 < w1.heap.size := (by omega)
      go_wp2_with fail
      refine (isClock_any _ _).mono ?_; rintro e w2 ⟨rfl, hbw2⟩
      go_wp2
      go_ret
      refine ⟨ret_bool HR.out.symm, ?_⟩
      repeat (first | with_reducible exact Below.refl _ _ | with_reducible refine valloc ?_ _ | with_reducible refine vdrew ?_ | with_reducible refine vdrewN ?_ _ | with_reducible refine via (by assumption) ?_ | refine vset ?_ (by first | exact Nat.le_refl _ | (simp; done) | (simp; omega) | omega) _)
    · obtain ⟨b, off, x, rfl, hbl, hx, hxm, c0⟩ := h'.at_ hl0
      have X0 := nthI_of hx
      rw [Nat.add_zero] at c0
      by_cases hx0 : x = 0
      · have HR := Lib.hid (show stOk n bs now xs = allB xs (-1) now by simp [stOk, hfit, hl, hcl, X0, hx0])
        have hne : ((xs.length : Int) != n) = false := by simp [hl]
        have hx0' : (x != 0) = false := by simp [hx0]
        clear hl hx hxm X0
        go_enter Try.func36, Try.ntmps36
        go_wp2_with fail
        refine (fitsOk_any _ _ _ bs _ (h.below (by repeat (first | with_reducible exact Below.refl _ _ | with_reducible refine valloc ?_ _ | with_reducible refine vdrew ?_ | with_reducible refine vdrewN ?_ _ | with_reducible refine via (by assumption) ?_ | refine vset ?_ (by first | exact Nat.le_refl _ | (simp; done) | (simp; omega) | omega) _))) hlen).mono ?_; rintro e w1 ⟨rfl, hbw1⟩; obtain ⟨hcw1, hfw1⟩ := bcell hbw1; have hzw1 := hbw1.size; (try simp only [sz] at hzw1); (try simp only [szc] at hzw1); have hzw1_0 : w.heap.size < w1.heap.size := (by omega); have hzw1_1 : w.heap.size + 1 < w1.heap.size := (by omega)
        go_wp2_with fail
        refine (isClock_any _ _).mono ?_; rintro e w2 ⟨rfl, hbw2⟩; obtain ⟨hcw2, hfw2⟩ := bcell hbw2; have hzw2 := hbw2.size; (try simp only [sz] at hzw2); (try simp only [szc] at hzw2); have hzw2_0 : w.heap.size < w2.heap.size := (by omega); have hzw2_1 : w.heap.size + 1 < w2.heap.size := (by omega)
        have d0 : w2.cell? ⟨b, off, none⟩ = some (.int .i64 x) := cB hbw2 (cB hbw1 (cA (cA c0 _) _))
        clear hx0 c0
        go_wp2_with fail
        refine (allIn_any _ _ xs _ _ _ (h'.below (by repeat (first | with_reducible exact Below.refl _ _ | with_reducible refine valloc ?_ _ | with_reducible refine vdrew ?_ | with_reducible refine vdrewN ?_ _ | with_reducible refine via (by assumption) ?_ | refine vset ?_ (by first | exact Nat.le_refl _ | (simp; done) | (simp; omega) | omega) _))) hlen').mono ?_; rintro e w3 ⟨rfl, hbw3⟩
        go_wp2
        go_ret
        refine ⟨ret_bool HR.out.symm, ?_⟩
        repeat (first | with_reducible exact Below.refl _ _ | with_reducible refine valloc ?_ _ | with_reducible refine vdrew ?_ | with_reducible refine vdrewN ?_ _ | with_reducible refine via (by assumption) ?_ | refine vset ?_ (by first | exact Nat.le_refl _ | (simp; done) | (simp; omega) | omega) _)
      · have HR := Lib.hid (show stOk n bs now xs = false by simp [stOk, X0, hx0])
        have hne : ((xs.length : Int) != n) = false := by simp [hl]
        have hx0' : (x != 0) = true := by simpa using hx0
        clear hl hx hxm X0 hx0
        go_enter Try.func36, Try.ntmps36
        go_wp2_with fail
        refine (fitsOk_any _ _ _ bs _ (h.below (by repeat (first | with_reducible exact Below.refl _ _ | with_reducible refine valloc ?_ _ | with_reducible refine vdrew ?_ | with_reducible refine vdrewN ?_ _ | with_reducible refine via (by assumption) ?_ | refine vset ?_ (by first | exact Nat.le_refl _ | (simp; done) | (simp; omega) | omega) _))) hlen).mono ?_; rintro e w1 ⟨rfl, hbw1⟩; obtain ⟨hcw1, hfw1⟩ := bcell hbw1; have hzw1 := hbw1.size; (try simp only [sz] at hzw1); (try simp only [szc] at hzw1); have hzw1_0 : w.heap.size < w1.heap.size := (by omega); have hzw1_1 : w.heap.size + 1 < w1.heap.size := (by omega)
        go_wp2_with fail
        refine (isClock_any _ _).mono ?_; rintro e w2 ⟨rfl, hbw2⟩; obtain ⟨hcw2, hfw2⟩ := bcell hbw2; have hzw2 := hbw2.size; (try simp only [sz] at hzw2); (try simp only [szc] at hzw2); have hzw2_0 : w.heap.size < w2.heap.size := (by omega); have hzw2_1 : w.heap.size + 1 < w2.heap.size := (by omega)
        have d0 : w2.cell? ⟨b, off, none⟩ = some (.int .i64 x) := cB hbw2 (cB hbw1 (cA (cA c0 _) _))
        clear c0
        go_wp2
        go_ret
        refine ⟨ret_bool HR.out.symm, ?_⟩
        repeat (first | with_reducible exact Below.refl _ _ | with_reducible refine valloc ?_ _ | with_reducible refine vdrew ?_ | with_reducible refine vdrewN ?_ _ | with_reducible refine via (by assumption) ?_ | refine vset ?_ (by first | exact Nat.le_refl _ | (simp; done) | (simp; omega) | omega) _)
  · have HR := Lib.hid (show stOk n bs now xs = false by simp [stOk, hl])
    have hne : ((xs.length : Int) != n) = true := by simpa using hl
    clear hl
    go_enter Try.func36, Try.ntmps36
    go_wp2_with fail
    refine (fitsOk_any _ _ _ bs _ (h.below (by repeat (first | with_reducible exact Below.refl _ _ | with_reducible refine valloc ?_ _ | with_reducible refine vdrew ?_ | with_reducible refine vdrewN ?_ _ | with_reducible refine via (by assumption) ?_ | refine vset ?_ (by first | exact Nat.le_refl _ | (simp; done) | (simp; omega) | omega) _))) hlen).mono ?_; rintro e w1 ⟨rfl, hbw1⟩; obtain ⟨hcw1, hfw1⟩ := bcell hbw1; have hzw1 := hbw1.size; (try simp only [sz] at hzw1); (try simp only [szc] at hzw1); have hzw1_0 : w.heap.size < w1.heap.size := (by omega); have hzw1_1 : w.heap.size + 1 < w1.heap.size := (by omega)
    go_wp2
    go_ret
    refine ⟨ret_bool HR.out.symm, ?_⟩
    repeat (first | with_reducible exact Below.refl _ _ | with_reducible refine valloc ?_ _ | with_reducible refine vdrew ?_ | with_reducible refine vdrewN ?_ _ | with_reducible refine via (by assumption) ?_ | refine vset ?_ (by first | exact Nat.le_refl _ | (simp; done) | (simp; omega) | omega) _)
set_option maxHeartbeats 1000000 in
theorem specStateOk_any (n : Int) (A : Option Addr) (c : Nat) (bs : List Bd) (now : Int) (A' : Option Addr) (c' : Nat) (xs : List Int) (w : World) (h : BAt w A bs) (h' : IAt w A' xs) (hlen : bs.length ≤ 1099511627776) (hlen' : xs.length ≤ 1099511627776) :
    Calls Try.prog 31 #[.agg #[.int .i64 n, .slice A bs.length c], .agg #[.int .i64 now, .slice A' xs.length c']] w fun e w' => e = .returned (.bool (stOk n bs now xs)) ∧ Below w.heap.size w w' := by
  cases hfit : fitsOk n bs
  · have HR := Lib.hid (show stOk n bs now xs = false by simp [stOk, hfit])
    go_enter Try.func31, Try.ntmps31
    go_wp2_with fail
    refine (specFitsOk_any _ _ _ bs _ (h.below (by repeat (first | with_reducible exact Below.refl _ _ | with_reducible refine valloc ?_ _ | with_reducible refine vdrew ?_ | with_reducible refine vdrewN ?_ _ | with_reducible refine via (by assumption) ?_ | refine vset ?_ (by first | exact Nat.le_refl _ | (simp; done) | (simp; omega) | omega) _))) hlen).mono ?_; rintro e w1 ⟨rfl, hbw1⟩
    go_wp2
    go_ret
    refine ⟨ret_bool HR.out.symm, ?_⟩
    repeat (first | with_reducible exact Below.refl _ _ | with_reducible refine valloc ?_ _ | with_reducible refine vdrew ?_ | with_reducible refine vdrewN ?_ _ | with_reducible refine via (by assumption) ?_ | refine vset ?_ (by first | exact Nat.le_refl _ | (simp; done) | (simp; omega) | omega) _)
  by_cases hl : (xs.length : Int) = n
  · have hn1 : 1 ≤ n := by simp only [fitsOk, Bool.and_eq_true] at hfit; have := planOk_of hfit.1; omega
    have hl0 : 0 < xs.length := by omega
    cases hcl : inB now 0 2000
    · have HR := Lib.hid (show stOk n bs now xs = false by simp [stOk, hcl])
      have hne : ((xs.length : Int) != n) = false := by simp [hl]
      clear hl
      go_enter Try.func31, Try.ntmps31
      go_wp2_with fail
      refine (specFitsOk_any _ _ _ bs _ (h.below (by repeat (first | with_reducible exact Below.refl _ _ | with_reducible refine valloc ?_ _ | with_reducible refine vdrew ?_ | with_reducible refine vdrewN ?_ _ | with_reducible refine via (by assumption) ?_ | refine vset ?_ (by first | exact Nat.le_refl _ | (simp; done) | (simp; omega) | omega) _))) hlen).mono ?_; rintro e w1 ⟨rfl, hbw1⟩; obtain ⟨hcw1, hfw1⟩ := bcell hbw1; have hzw1 := hbw1.size; (try simp only [sz] at hzw1); (try simp only [szc] at hzw1); have hzw1_0 : w.heap.size < w1.heap.size := (by omega); have hzw1_1 : w.heap.size + 1 < w1.heap.size := (by omega)
      go_wp2_with fail
      refine (l1In_any _ _ _ _).mono ?_; rintro e w2 ⟨rfl, rfl⟩
      go_wp2
      go_ret
      refine ⟨ret_bool HR.out.symm, ?_⟩
      repeat (first | with_reducible exact Below.refl _ _ | with_reducible refine valloc ?_ _ | with_reducible refine vdrew ?_ | with_reducible refine vdrewN ?_ _ | with_reducible refine via (by assumption) ?_ | refine vset ?_ (by first | exact Nat.le_refl _ | (simp; done) | (simp; omega) | omega) _)
    · obtain ⟨b, off, x, rfl, hbl, hx, hxm, c0⟩ := h'.at_ hl0
      have X0 := nthI_of hx
      rw [Nat.add_zero] at c0
      by_cases hx0 : x = 0
      · have HR := Lib.hid (show stOk n bs now xs = allB xs (-1) now by simp [stOk, hfit, hl, hcl, X0, hx0])
        have hne : ((xs.length : Int) != n) = false := by simp [hl]
        have hx0' : (x != 0) = false := by simp [hx0]
        clear hl hx hxm X0
        go_enter Try.func31, Try.ntmps31
        go_wp2_with fail
        refine (specFitsOk_any _ _ _ bs _ (h.below (by repeat (first | with_reducible exact Below.refl _ _ | with_reducible refine valloc ?_ _ | with_reducible refine vdrew ?_ | with_reducible refine vdrewN ?_ _ | with_reducible refine via (by assumption) ?_ | refine vset ?_ (by first | exact Nat.le_refl _ | (simp; done) | (simp; omega) | omega) _))) hlen).mono ?_; rintro e w1 ⟨rfl, hbw1⟩
        have j0 : w1.cell? ⟨w.heap.size + 1, 0, none⟩ = some (.int .i64 now) := cB hbw1 (by simp)
        have j1 : w1.cell? ⟨w.heap.size + 1, 1, none⟩ = some (.slice (some ⟨b, off, none⟩) xs.length c') := cB hbw1 (by simp)
        obtain ⟨hcw1, hfw1⟩ := bcell hbw1; have hzw1 := hbw1.size; (try simp only [sz] at hzw1); (try simp only [szc] at hzw1); have hzw1_0 : w.heap.size < w1.heap.size := (by omega); have hzw1_1 : w.heap.size + 1 < w1.heap.size := (by omega)
        go_wp2_with fail
        refine (l1In_any _ _ _ _).mono ?_; rintro e w2 ⟨rfl, rfl⟩
        have d0 : w1.cell? ⟨b, off, none⟩ = some (.int .i64 x) := cB hbw1 (cA (cA c0 _) _)
        clear hx0 c0
        have HX := Lib.hid (h'.below (w1 := w1) (by repeat (first | with_reducible exact Below.refl _ _ | with_reducible refine valloc ?_ _ | with_reducible refine vdrew ?_ | with_reducible refine vdrewN ?_ _ | with_reducible refine via (by assumption) ?_ | refine vset ?_ (by first | exact Nat.le_refl _ | (simp; done) | (simp; omega) | omega) _)))
        have BB : Below w.heap.size w w1 := (by repeat (first | with_reducible exact Below.refl _ _ | with_reducible refine valloc ?_ _ | with_reducible refine vdrew ?_ | with_reducible refine vdrewN ?_ _ | with_reducible refine via (by assumption) ?_ | refine vset ?_ (by first | exact Nat.le_refl _ | (simp; done) | (simp; omega) | omega) _))
        go_wp2
        go_loopw [5] (fun k W => ∃ kk : Nat, kk ≤ xs.length ∧ k = .int .i64 kk ∧ (∀ y ∈ xs.take kk, (!inB y (-1) now) = false) ∧ W.cell? ⟨w.heap.size + 1, 0, none⟩ = some (.int .i64 now) ∧ W.cell? ⟨w.heap.size + 1, 1, none⟩ = some (.slice (some ⟨b, off, none⟩) xs.length c') ∧ Below w1.heap.size w1 W) (fun k _ => xs.length - (intOf k).toNat)
        case atStart => exact ⟨0, Nat.zero_le _, rfl, by simp, j0, j1, Below.refl _ _⟩
        case round =>
          obtain ⟨k, hk, rfl, hno, e0, e1, hb⟩ := hrel
          have HNO := Lib.hid hno
          have BW := BB.trans (hb.mono BB.size)
          clear hno
          by_cases hlt : k < xs.length
          · obtain ⟨b', off', y, e', hbl', hy, hym, d1⟩ := (HX.out.below hb).at_ hlt
            cases e'
            have HY := Lib.hid hy
            clear hy hym
            cases hf : inB y (-1) now
            · have HR2 := Lib.hid (show stOk n bs now xs = false by rw [HR.out]; simp [allB, any_of (q := fun x => !inB x (-1) now) HY.out (by simp [hf])])
              go_wp2
              go_region_held3 (fun w' => w'.cell? ⟨w.heap.size + 1, 0, none⟩ = some (.int .i64 now) ∧ w'.cell? ⟨w.heap.size + 1, 1, none⟩ = some (.slice (some ⟨b, off, none⟩) xs.length c') ∧ w'.cell? ⟨b, off + k, none⟩ = some (.int .i64 y)) (first | go_keep | (go_split_ands; (repeat' apply And.intro) <;> (first | assumption | (refine cB (by assumption) ?_; first | assumption | (simp; assumption)) | (simp; assumption))))
                (first | (go_at_call 32; refine (l1In_any _ _ _ _).mono ?_; rintro e w' ⟨rfl, rfl⟩))
              go_wp2
              go_ret
              exact ⟨ret_bool HR2.out.symm, vdrew BW⟩
            · have HF := Lib.hid (show (!inB y (-1) now) = false by simp [hf])
              go_wp2
              go_region_held3 (fun w' => w'.cell? ⟨w.heap.size + 1, 0, none⟩ = some (.int .i64 now) ∧ w'.cell? ⟨w.heap.size + 1, 1, none⟩ = some (.slice (some ⟨b, off, none⟩) xs.length c') ∧ w'.cell? ⟨b, off + k, none⟩ = some (.int .i64 y)) (first | go_keep | (go_split_ands; (repeat' apply And.intro) <;> (first | assumption | (refine cB (by assumption) ?_; first | assumption | (simp; assumption)) | (simp; assumption))))
                (first | (go_at_call 32; refine (l1In_any _ _ _ _).mono ?_; rintro e w' ⟨rfl, rfl⟩))
              go_wp2
              go_roundw
              case rel => exact ⟨k + 1, by omega, by go_num, snoc_false HY.out HNO.out HF.out, e0, e1, vdrew hb⟩
              case measure => simp [intOf]; omega
          · have HR2 := Lib.hid (show stOk n bs now xs = true by rw [HR.out]; simp [allB, any_none (show xs.length ≤ k by omega) HNO.out])
            go_wp2
            go_ret
            exact ⟨ret_bool HR2.out.symm, BW⟩
      · have HR := Lib.hid (show stOk n bs now xs = false by simp [stOk, X0, hx0])
        have hne : ((xs.length : Int) != n) = false := by simp [hl]
        have hx0' : (x != 0) = true := by simpa using hx0
        clear hl hx hxm X0 hx0
        go_enter Try.func31, Try.ntmps31
        go_wp2_with fail
        refine (specFitsOk_any _ _ _ bs _ (h.below (by repeat (first | with_reducible exact Below.refl _ _ | with_reducible refine valloc ?_ _ | with_reducible refine vdrew ?_ | with_reducible refine vdrewN ?_ _ | with_reducible refine via (by assumption) ?_ | refine vset ?_ (by first | exact Nat.le_refl _ | (simp; done) | (simp; omega) | omega) _))) hlen).mono ?_; rintro e w1 ⟨rfl, hbw1⟩; obtain ⟨hcw1, hfw1⟩ := bcell hbw1; have hzw1 := hbw1.size; (try simp only [sz] at hzw1); (try simp only [szc] at hzw1); have hzw1_0 : w.heap.size < w1.heap.size := (by omega); have hzw1_1 : w.heap.size + 1 < w1.heap.size := (by omega)
        go_wp2_with fail
        refine (l1In_any _ _ _ _).mono ?_; rintro e w2 ⟨rfl, rfl⟩
        have d0 : w1.cell? ⟨b, off, none⟩ = some (.int .i64 x) := cB hbw1 (cA (cA c0 _) _)
        clear c0
        go_wp2
        go_ret
        refine ⟨ret_bool HR.out.symm, ?_⟩
        repeat (first | with_reducible exact Below.refl _ _ | with_reducible refine valloc ?_ _ | with_reducible refine vdrew ?_ | with_reducible refine vdrewN ?_ _ | with_reducible refine via (by assumption) ?_ | refine vset ?_ (by first | exact Nat.le_refl _ | (simp; done) | (simp; omega) | omega) _)
  · have HR := Lib.hid (show stOk n bs now xs = false by simp [stOk, hl])
    have hne : ((xs.length : Int) != n) = true := by simpa using hl
    clear hl
    go_enter Try.func31, Try.ntmps31
    go_wp2_with fail
    refine (specFitsOk_any _ _ _ bs _ (h.below (by repeat (first | with_reducible exact Below.refl _ _ | with_reducible refine valloc ?_ _ | with_reducible refine vdrew ?_ | with_reducible refine vdrewN ?_ _ | with_reducible refine via (by assumption) ?_ | refine vset ?_ (by first | exact Nat.le_refl _ | (simp; done) | (simp; omega) | omega) _))) hlen).mono ?_; rintro e w1 ⟨rfl, hbw1⟩; obtain ⟨hcw1, hfw1⟩ := bcell hbw1; have hzw1 := hbw1.size; (try simp only [sz] at hzw1); (try simp only [szc] at hzw1); have hzw1_0 : w.heap.size < w1.heap.size := (by omega); have hzw1_1 : w.heap.size + 1 < w1.heap.size := (by omega)
    go_wp2
    go_ret
    refine ⟨ret_bool HR.out.symm, ?_⟩
    repeat (first | with_reducible exact Below.refl _ _ | with_reducible refine valloc ?_ _ | with_reducible refine vdrew ?_ | with_reducible refine vdrewN ?_ _ | with_reducible refine via (by assumption) ?_ | refine vset ?_ (by first | exact Nat.le_refl _ | (simp; done) | (simp; omega) | omega) _)
end Go.Proofs.Ytaifpindiphlkac
namespace Go.Proofs.Ytaifpindiphlkac
open Go.RowKit
set_option linter.unusedVariables false
set_option maxRecDepth 10000
set_option linter.unusedSimpArgs false

/-- The first point at 0, the others not done, as far as k; behind that z. -/
def newV (z : Int) (k : Nat) : Nat → Int := fun i => if i = 0 then 0 else if i < k then -1 else z
def newL (n : Int) (bs : List Bd) : List Int := if fitsOk n bs = true then (List.range n.toNat).map (newV 0 n.toNat) else []
theorem newL_len (n : Int) (bs : List Bd) : (newL n bs).length ≤ 6 := by
  unfold newL
  split
  · rename_i h
    have := planOk_of (fits_plan h)
    rw [List.length_map, List.length_range]; omega
  · simp
def StRes (xs : List Int) (b : Bool) (w : World) (e : Ending) (w' : World) : Prop :=
  ∃ G c, e = .returned (.tuple #[.agg #[.int .i64 0, .slice G xs.length c], .bool b]) ∧ RI w' w.heap.size w'.heap.size G xs ∧ Below w.heap.size w w'
theorem VRow.ri2 {w : World} {g N : Nat} {v : Nat → Int} (h : VRow w g N v) {lo hi : Nat} (hN : 1 ≤ N) (hl : lo ≤ g) (hh : g < hi) : RI w lo hi (some ⟨g, 0, none⟩) ((List.range N).map v) := by
  have := h.ri (T := fun _ => v) (i := 0) hN hl hh (fun _ _ => rfl)
  exact this
theorem made_vrow {w : World} {g N : Nat} {v : Nat → Int} (h : Blk w g 3 (madeCells #[.int .i64 0] N)) (e : ∀ a, a < N → v a = 0) : VRow w g N v := by
  refine ⟨_, h, fun a ha => ?_⟩
  rw [e a ha, ← Array.getElem?_toList, toList_madeCells_one, List.getElem?_replicate, if_pos ha]
theorem newV_one (a : Nat) : newV 0 1 a = 0 := by
  unfold newV; split
  · rfl
  · rw [if_neg (by omega)]
theorem newV_step {k : Nat} (hk : 1 ≤ k) (a : Nat) : (if a = k then (-1 : Int) else newV 0 k a) = newV 0 (k + 1) a := by
  unfold newV
  by_cases e : a = k
  · rw [if_pos e, if_neg (by omega), if_pos (by omega)]
  · rw [if_neg e]
    by_cases e2 : a = 0
    · rw [if_pos e2, if_pos e2]
    · rw [if_neg e2, if_neg e2]
      by_cases e3 : a < k
      · rw [if_pos e3, if_pos (by omega)]
      · rw [if_neg e3, if_neg (by omega)]
theorem newV_snoc {k : Nat} (hk : 1 ≤ k) : (List.range (k + 1)).map (newV 0 (k + 1)) = (List.range k).map (newV 0 k) ++ [-1] := by
  rw [List.range_succ, List.map_append]
  congr 1
  · refine List.map_congr_left fun a ha => ?_
    have := List.mem_range.1 ha
    rw [← newV_step hk a, if_neg (by omega)]
  · show [newV 0 (k + 1) k] = [-1]
    rw [← newV_step hk k, if_pos rfl]
theorem OwnL.one (w : World) (base : Nat) (hb : base ≤ w.heap.size) : OwnL (w.alloc (.cells #[.int .i64 0] 3)) base (.slice (some ⟨w.heap.size, 0, none⟩) 1 1) [0] :=
  ⟨rfl, .inr ⟨w.heap.size, 1, #[.int .i64 0], rfl, hb, heap_alloc_new w _, Nat.le_refl _, by unfold maxLen; omega, rfl, rfl⟩⟩
theorem OwnL.box {w : World} {base B i : Nat} {v u : Value} {xs : List Int} {cs : Array Value} (h : OwnL w base v xs) (hB : Blk w B 36 cs) : OwnL (w.setCell ⟨B, i, none⟩ u) base v xs := by
  obtain ⟨h1, h2⟩ := h
  refine ⟨h1, ?_⟩
  rcases h2 with h2 | ⟨g, cap, cur, hv, hg, hh, r⟩
  · exact Or.inl h2
  · refine Or.inr ⟨g, cap, cur, hv, hg, ?_, r⟩
    refine (Below.heap_setCell w ⟨B, i, none⟩ u g ?_).trans hh
    intro e
    have e2 : g = B := e
    subst e2
    unfold Blk at hB
    rw [hB] at hh
    injection hh with hh
    injection hh with _ hh
    exact absurd hh (by decide)
/-- append of one number; states elsewhere are as they were. -/
theorem wpList_pushB {ops : Array Oper} {rest : List Oper} {o : Oper} {a : Act} {Q : Exit → Act → World → Prop} {w : World} (hgd : o.guard = none) (s x : Operand)
    (ho : o.op = .call { callee := .builtin .append, args := #[s, x], argTypes := #[25, 25] }) (base : Nat) (v : Value) (xs : List Int) (hs : a.eval s = v) (hown : OwnL w base v xs)
    (g : Nat) (y : Int) (hx : a.eval x = .slice (some ⟨g, 0, none⟩) 1 1) (hc : w.cell? ⟨g, 0, none⟩ = some (.int .i64 y)) (hlen : xs.length ≤ 1099511627776) (hbase : base ≤ w.heap.size)
    (h : ∀ v' w', OwnL w' base v' (xs ++ [y]) → Below base w w' → (∀ k cs, Blk w k 36 cs → Blk w' k 36 cs) → wpList Try.prog ops Q rest (a.put o.dst v') w') : wpList Try.prog ops Q (o :: rest) a w := by
  obtain ⟨i0, hi, hz0, hz1, hz2⟩ := info_parts Try.infoInt
  refine wpList_append_own _ hgd s x 25 ho base 3 i0 (.int .i64 0) 1 8 Try.underlying25 hi hz0 hz1 hz2 rfl (by decide) v xs.length _ hs hown ⟨g, 0, none⟩ 1 1 [.int .i64 y] hx rfl ?_ ?_ ?_ ?_ hbase ?_
  · intro j u hj
    match j, hj with
    | 0, hj => simp at hj; subst hj; simpa [Addr.add] using hc
  · intro u hu; simp at hu; subst hu; rfl
  · unfold maxLen; omega
  · omega
  · intro v' w' hown' hg _
    refine h v' w' ?_ ?_ ?_
    · unfold OwnL
      rw [List.length_append, List.map_append]
      exact hown'
    · refine (Below.refl base w).grown hg hbase (fun k hk => ?_)
      rcases hown.2 with ⟨rfl, _⟩ | ⟨g', cap, cur, rfl, hb', _⟩
      · cases hk
      · simp only [Value.ownBlock, Option.some.injEq] at hk; omega
    · intro k cs hk
      refine (hg.block k hk.lt ?_).trans hk
      rcases hown.2 with ⟨rfl, _⟩ | ⟨g', cap, cur, rfl, hb', hh, _⟩
      · simp [Value.ownBlock]
      · intro e
        have e2 : k = g' := by simpa [Value.ownBlock] using e
        subst e2
        unfold Blk at hk
        rw [hk] at hh
        injection hh with hh
        injection hh with _ hh
        exact absurd hh (by decide)
theorem RI.far2 {w : World} {lo hi B i j : Nat} {A : Option Addr} {xs : List Int} {u u' : Value} (h : RI w lo hi A xs) (hB : B < lo) : RI ((w.setCell ⟨B, i, none⟩ u).setCell ⟨B, j, none⟩ u') lo hi A xs := by
  rcases h with h | ⟨g, cs, e, h1, h2, hBk, hF⟩
  · exact Or.inl h
  · refine Or.inr ⟨g, cs, e, h1, h2, Blk.far (Blk.far hBk ?_ _) ?_ _, hF⟩ <;> (dsimp only; omega)
end Go.Proofs.Ytaifpindiphlkac
namespace Go.Proofs.Ytaifpindiphlkac
open Go.RowKit
set_option linter.unusedVariables false
set_option maxRecDepth 10000
set_option linter.unusedSimpArgs false

def flat (bs : List Bd) : List Value := bs.flatMap fun x => [.int .i64 x.f, .int .i64 x.t, .int .i64 x.m]
theorem flat_cons (x : Bd) (bs : List Bd) : flat (x :: bs) = .int .i64 x.f :: .int .i64 x.t :: .int .i64 x.m :: flat bs := rfl
theorem flat_append (a b : List Bd) : flat (a ++ b) = flat a ++ flat b := by simp [flat]
theorem flat_len : ∀ bs : List Bd, (flat bs).length = bs.length * 3
  | [] => rfl
  | x :: bs => by rw [flat_cons]; simp only [List.length_cons, flat_len bs]; omega
theorem flat_at : ∀ (bs : List Bd) (i : Nat) (x : Bd), bs[i]? = some x → (flat bs)[i * 3]? = some (.int .i64 x.f) ∧ (flat bs)[i * 3 + 1]? = some (.int .i64 x.t) ∧ (flat bs)[i * 3 + 2]? = some (.int .i64 x.m)
  | y :: bs, 0, x, h => by simp at h; subst h; exact ⟨rfl, rfl, rfl⟩
  | y :: bs, i + 1, x, h => by
    have h2 : bs[i]? = some x := by simpa using h
    rw [flat_cons, show (i + 1) * 3 = i * 3 + 1 + 1 + 1 by omega]
    exact flat_at bs i x h2
theorem flat_inv : ∀ (bs : List Bd) (j : Nat) (u : Value), (flat bs)[j]? = some u → ∃ i x, bs[i]? = some x ∧ ((j = i * 3 ∧ u = .int .i64 x.f) ∨ (j = i * 3 + 1 ∧ u = .int .i64 x.t) ∨ (j = i * 3 + 2 ∧ u = .int .i64 x.m))
  | [], j, u, h => by simp [flat] at h
  | y :: bs, 0, u, h => ⟨0, y, rfl, Or.inl ⟨rfl, by rw [flat_cons] at h; simpa using h.symm⟩⟩
  | y :: bs, 1, u, h => ⟨0, y, rfl, Or.inr (Or.inl ⟨rfl, by rw [flat_cons] at h; simpa using h.symm⟩)⟩
  | y :: bs, 2, u, h => ⟨0, y, rfl, Or.inr (Or.inr ⟨rfl, by rw [flat_cons] at h; simpa using h.symm⟩)⟩
  | y :: bs, j + 3, u, h => by
    rw [flat_cons] at h
    obtain ⟨i, x, hx, h3⟩ := flat_inv bs j u (by simpa using h)
    refine ⟨i + 1, x, by simpa using hx, ?_⟩
    rcases h3 with ⟨e, f⟩ | ⟨e, f⟩ | ⟨e, f⟩
    · exact Or.inl ⟨by omega, f⟩
    · exact Or.inr (Or.inl ⟨by omega, f⟩)
    · exact Or.inr (Or.inr ⟨by omega, f⟩)
/-- v is a slice of the call's own, in a block from base on, that holds the bounds bs. -/
def OwnB (w : World) (base : Nat) (v : Value) (bs : List Bd) : Prop := w.ownsRow base 74 3 v bs.length (flat bs)
theorem OwnB.empty (w : World) (base g : Nat) (hg : g = w.heap.size) (hb : base ≤ g) : OwnB (w.alloc (.cells #[] 74)) base (.slice (some ⟨g, 0, none⟩) 0 0) [] := by
  subst hg
  exact ⟨rfl, .inr ⟨w.heap.size, 0, #[], rfl, hb, heap_alloc_new w _, Nat.le_refl _, Nat.zero_le _, rfl, rfl⟩⟩
theorem OwnB.nil (w : World) (base : Nat) : OwnB w base (.slice none 0 0) [] := ⟨rfl, .inl ⟨rfl, rfl⟩⟩
theorem OwnB.alloc {w : World} {base : Nat} {v : Value} {bs : List Bd} (h : OwnB w base v bs) (o : Obj) : OwnB (w.alloc o) base v bs := World.ownsRow.alloc h o
theorem OwnB.drew {w : World} {base : Nat} {v : Value} {bs : List Bd} (h : OwnB w base v bs) : OwnB w.drew base v bs := h
theorem OwnB.below {w w1 : World} {base : Nat} {v : Value} {bs : List Bd} (h : OwnB w base v bs) (hb : Below w.heap.size w w1) : OwnB w1 base v bs := by
  obtain ⟨h1, h2⟩ := h
  refine ⟨h1, ?_⟩
  rcases h2 with h2 | ⟨g, cap, cur, hv, hg, hh, r⟩
  · exact Or.inl h2
  · refine Or.inr ⟨g, cap, cur, hv, hg, ?_, r⟩
    rw [hb.block g (by
      rcases Nat.lt_or_ge g w.heap.size with hlt | hge
      · exact hlt
      · rw [Array.getElem?_eq_none hge] at hh; cases hh)]
    exact hh
theorem OwnB.bat {w : World} {base : Nat} {v : Value} {bs : List Bd} (h : OwnB w base v bs) : ∃ A c, v = .slice A bs.length c ∧ BAt w A bs := by
  obtain ⟨h1, ⟨rfl, h0⟩ | ⟨g, cap, cur, rfl, hg, hh, hn, hc, hs, ht⟩⟩ := h
  · exact ⟨none, 0, by rw [h0], fun hp => by omega⟩
  · refine ⟨some ⟨g, 0, none⟩, cap, rfl, fun _ => ?_⟩
    have hlt : g < w.heap.size := by
      rcases Nat.lt_or_ge g w.heap.size with hlt | hge
      · exact hlt
      · rw [Array.getElem?_eq_none hge] at hh; cases hh
    refine ⟨g, 0, rfl, hlt, fun i x hx => ?_⟩
    have hi : i < bs.length := (List.getElem?_eq_some_iff.1 hx).1
    obtain ⟨a0, a1, a2⟩ := flat_at bs i x hx
    have key : ∀ j u, (flat bs)[j]? = some u → w.cell? ⟨g, j, none⟩ = some u := by
      intro j u hu
      rw [cell_of_row w g j cur _ (0, 0) hh]
      have hj : j < bs.length * 3 := by
        have := (List.getElem?_eq_some_iff.1 hu).1
        rwa [flat_len] at this
      rw [← ht, List.getElem?_take_of_lt hj] at hu
      simpa using hu
    simp only [Nat.zero_add]
    exact ⟨key _ _ a0, key _ _ a1, key _ _ a2⟩
theorem OwnB.box {w : World} {base B i : Nat} {v u : Value} {bs : List Bd} {cs : Array Value} (h : OwnB w base v bs) (hB : Blk w B 34 cs) : OwnB (w.setCell ⟨B, i, none⟩ u) base v bs := by
  obtain ⟨h1, h2⟩ := h
  refine ⟨h1, ?_⟩
  rcases h2 with h2 | ⟨g, cap, cur, hv, hg, hh, r⟩
  · exact Or.inl h2
  · refine Or.inr ⟨g, cap, cur, hv, hg, ?_, r⟩
    refine (Below.heap_setCell w ⟨B, i, none⟩ u g ?_).trans hh
    intro e
    have e2 : g = B := e
    subst e2
    unfold Blk at hB
    rw [hB] at hh
    injection hh with hh
    injection hh with _ hh
    exact absurd hh (by decide)
/-- append of some bounds; plans elsewhere are as they were. -/
theorem wpList_pushD {ops : Array Oper} {rest : List Oper} {o : Oper} {a : Act} {Q : Exit → Act → World → Prop} {w : World} (hgd : o.guard = none) (s x : Operand)
    (ho : o.op = .call { callee := .builtin .append, args := #[s, x], argTypes := #[32, 32] }) (base : Nat) (v : Value) (bs : List Bd) (hs : a.eval s = v) (hown : OwnB w base v bs)
    (A : Option Addr) (c m : Nat) (ys : List Bd) (hm : m = ys.length) (hx : a.eval x = .slice A m c) (hc : BAt w A ys) (h0 : A = none → c = 0) (hlen : bs.length + ys.length ≤ 1000000) (hbase : base ≤ w.heap.size)
    (h : ∀ v' w', OwnB w' base v' (bs ++ ys) → Below base w w' → (∀ k cs, Blk w k 34 cs → Blk w' k 34 cs) → wpList Try.prog ops Q rest (a.put o.dst v') w') : wpList Try.prog ops Q (o :: rest) a w := by
  subst hm
  obtain ⟨i0, hi, hz0, hz1, hz2⟩ := info_parts Try.infoBound
  cases A with
  | none =>
    have hy : ys = [] := by
      cases ys with
      | nil => rfl
      | cons y ys =>
        obtain ⟨b, off, e, _⟩ := hc (by simp)
        cases e
    subst hy
    obtain rfl := h0 rfl
    refine wpList_append_own_none hgd s x 32 ho base 74 i0 3 Try.underlying32 hi v bs.length _ hs hown hx ?_
    refine h v w ?_ (Below.refl _ _) (fun _ _ hk => hk)
    rw [List.append_nil]; exact hown
  | some ad =>
    refine wpList_append_own _ hgd s x 32 ho base 74 i0 (.agg #[.int .i64 0, .int .i64 0, .int .i64 0]) 3 24 Try.underlying32 hi hz0 hz1 hz2 rfl (by decide) v bs.length _ hs hown ad ys.length c (flat ys) hx (flat_len ys) ?_ ?_ ?_ ?_ hbase ?_
    · intro j u hj
      obtain ⟨i, y, hy, h3⟩ := flat_inv ys j u hj
      obtain ⟨b, off, e, _, hcc⟩ := hc (by have := (List.getElem?_eq_some_iff.1 hy).1; omega)
      cases e
      obtain ⟨q0, q1, q2⟩ := hcc i y hy
      have ea : ∀ j, (⟨b, off, none⟩ : Addr).add j = ⟨b, off + j, none⟩ := by
        intro j; unfold Addr.add; split <;> simp_all
      rw [ea]
      rcases h3 with ⟨rfl, rfl⟩ | ⟨rfl, rfl⟩ | ⟨rfl, rfl⟩
      · exact q0
      · exact q1
      · exact q2
    · intro u hu
      obtain ⟨j, hj⟩ := List.getElem?_of_mem hu
      obtain ⟨i, y, hy, h3⟩ := flat_inv ys j u hj
      rcases h3 with ⟨_, rfl⟩ | ⟨_, rfl⟩ | ⟨_, rfl⟩ <;> rfl
    · unfold maxLen; omega
    · omega
    · intro v' w' hown' hg _
      refine h v' w' ?_ ?_ ?_
      · unfold OwnB
        rw [List.length_append, flat_append]
        exact hown'
      · refine (Below.refl base w).grown hg hbase (fun k hk => ?_)
        rcases hown.2 with ⟨rfl, _⟩ | ⟨g', cap, cur, rfl, hb', _⟩
        · cases hk
        · simp only [Value.ownBlock, Option.some.injEq] at hk; omega
      · intro k cs hk
        refine (hg.block k hk.lt ?_).trans hk
        rcases hown.2 with ⟨rfl, _⟩ | ⟨g', cap, cur, rfl, hb', hh, _⟩
        · simp [Value.ownBlock]
        · intro e
          have e2 : k = g' := by simpa [Value.ownBlock] using e
          subst e2
          unfold Blk at hk
          rw [hk] at hh
          injection hh with hh
          injection hh with _ hh
          exact absurd hh (by decide)
/-- What a state adds to the bounds of a plan, by its first points. -/
def goB (now : Int) (xs : List Int) : Nat → List Bd
  | 0 => []
  | k + 1 => goB now xs k ++ (if nthI xs k = -1 then [⟨k, 0, -now⟩] else [⟨0, k, nthI xs k⟩, ⟨k, 0, -(nthI xs k)⟩])
theorem goB_len (now : Int) (xs : List Int) : ∀ k, (goB now xs k).length ≤ 2 * k
  | 0 => Nat.le_refl _
  | k + 1 => by
    have := goB_len now xs k
    show (goB now xs k ++ _).length ≤ _
    rw [List.length_append]
    split <;> simp <;> omega
theorem goB_in {now : Int} {xs : List Int} (h : 0 ≤ now ∧ now ≤ 2000) (hx : ∀ x ∈ xs, -1 ≤ x ∧ x ≤ now) : ∀ k, k ≤ xs.length → ∀ y ∈ goB now xs k, 0 ≤ y.f ∧ y.f < xs.length ∧ 0 ≤ y.t ∧ y.t < xs.length ∧ -100000 ≤ y.m
  | 0, _, y, hy => by simp [goB] at hy
  | k + 1, hk, y, hy => by
    have e : xs[k]? = some xs[k] := List.getElem?_eq_getElem (by omega)
    have hb := hx _ (List.mem_of_getElem? e)
    rw [← nthI_of e] at hb
    rcases List.mem_append.1 hy with hy | hy
    · exact goB_in h hx k (by omega) y hy
    · split at hy
      · rw [List.mem_singleton] at hy; subst hy
        refine ⟨?_, ?_, ?_, ?_, ?_⟩ <;> simp only <;> omega
      · rcases List.mem_cons.1 hy with rfl | hy
        · refine ⟨?_, ?_, ?_, ?_, ?_⟩ <;> simp only <;> omega
        · rw [List.mem_singleton] at hy; subst hy
          refine ⟨?_, ?_, ?_, ?_, ?_⟩ <;> simp only <;> omega
theorem diag_both {N : Nat} {L : List Bd} (hN : N ≤ 6) (h : ∀ x ∈ L, 0 ≤ x.f ∧ 0 ≤ x.t ∧ -100000 ≤ x.m) : diagOk N (closeS N (ent L)) = diagOk N (closeT N (startT L)) := by
  have e := startT_eq (bs := L) (fun x hx => ⟨(h x hx).1, (h x hx).2.1⟩)
  rw [e]
  rcases both_all (both_start (fun x hx => (h x hx).2.2)) N (Nat.le_refl _) hN with ⟨h1, h2, h3⟩ | ⟨⟨i, hi, hA⟩, i', hi', hB⟩
  · rw [diagOk_good (T := closeS N (ent L)) (fun i hi => by have a := h1 i i hi hi; have b := h2 i hi; unfold closeS; unfold closeT at *; rw [← a, b]; exact Int.le_refl _), diagOk_good (T := closeT N (ent L)) (fun i hi => by have b := h2 i hi; unfold closeT; rw [b]; exact Int.le_refl _)]
  · rw [diagOk_bad (T := closeT N (ent L)) hi hA, diagOk_bad (T := closeS N (ent L)) hi' hB]
def goV (n : Int) (bs : List Bd) (now : Int) (xs : List Int) : Bool := stOk n bs now xs && diagOk n.toNat (closeT n.toNat (startT (bs ++ goB now xs xs.length)))
end Go.Proofs.Ytaifpindiphlkac
namespace Go.Proofs.Ytaifpindiphlkac
open Go.RowKit
set_option linter.unusedVariables false
set_option maxRecDepth 10000
set_option linter.unusedSimpArgs false

theorem bd1 (w : World) (f t m : Int) : BAt (w.alloc (.cells #[.int .i64 f, .int .i64 t, .int .i64 m] 74)) (some ⟨w.heap.size, 0, none⟩) [⟨f, t, m⟩] := by
  intro _
  refine ⟨w.heap.size, 0, rfl, by simp, fun i x hx => ?_⟩
  match i, hx with
  | 0, hx => simp at hx; subst hx; exact ⟨by simp, by simp, by simp⟩
  | i + 1, hx => simp at hx
theorem bd2 (w : World) (f t m f' t' m' : Int) : BAt (w.alloc (.cells #[.int .i64 f, .int .i64 t, .int .i64 m, .int .i64 f', .int .i64 t', .int .i64 m'] 74)) (some ⟨w.heap.size, 0, none⟩) [⟨f, t, m⟩, ⟨f', t', m'⟩] := by
  intro _
  refine ⟨w.heap.size, 0, rfl, by simp, fun i x hx => ?_⟩
  match i, hx with
  | 0, hx => simp at hx; subst hx; exact ⟨by simp, by simp, by simp⟩
  | 1, hx => simp at hx; subst hx; exact ⟨by simp, by simp, by simp⟩
  | i + 2, hx => simp at hx
theorem goB_no {now : Int} {xs : List Int} {k : Nat} (h : nthI xs k = -1) : goB now xs (k + 1) = goB now xs k ++ [⟨k, 0, -now⟩] := by
  show goB now xs k ++ _ = _; rw [if_pos h]
theorem goB_yes {now : Int} {xs : List Int} {k : Nat} {x : Int} (hx : nthI xs k = x) (h : ¬ x = -1) : goB now xs (k + 1) = goB now xs k ++ [⟨0, k, x⟩, ⟨k, 0, -x⟩] := by
  show goB now xs k ++ _ = _; rw [hx, if_neg h]
end Go.Proofs.Ytaifpindiphlkac
