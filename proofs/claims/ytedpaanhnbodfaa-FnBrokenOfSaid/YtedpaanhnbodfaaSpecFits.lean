/- The contracts of spec.l2Fits and spec.FitsOk; for slices of at most 2^40 bounds. -/
import Derived.Test.YtedpaanhnbodfaaSpecClosed
import Derived.Test.YtedpaanhnbodfaaSpecPlan
namespace Go.Proofs.Ytedpaanhnbodfaa
open Go.RowKit
set_option linter.unusedVariables false
set_option maxRecDepth 10000
set_option linter.unusedSimpArgs false

/-- Does the plan fit, as the reference finds it? -/
def fitsS (n : Int) (bs : List Bd) : Bool := planOk n bs && diagOk n.toNat (closeS n.toNat (ent bs))
set_option maxHeartbeats 4000000 in
theorem l2Fits_any (N : Nat) (A : Option Addr) (c : Nat) (T : Tab) (w : World) (h : MAt w A N N T) (hN : N ≤ 1000) :
    Calls Try.prog 124 #[.slice A N c] w fun e w' => e = .returned (.bool (diagOk N T)) ∧ Below w.heap.size w w' := by
  have H0 := Lib.hid h
  clear h
  go_enter Try.func124, Try.ntmps124
  go_wp2
  go_loopw [3] (fun k W => ∃ kk : Nat, kk ≤ N ∧ k = .int .i64 kk ∧ (∀ i, i < kk → 0 ≤ T i i) ∧ Below w.heap.size w W) (fun k _ => N - (intOf k).toNat)
  case atStart => exact ⟨0, Nat.zero_le _, rfl, fun i hi => absurd hi (by omega), Below.refl _ _⟩
  case round =>
    obtain ⟨k, hk, rfl, hok, hb⟩ := hrel
    have HOK := Lib.hid hok
    clear hok
    by_cases hlt : k < N
    · obtain ⟨g, off, b, o, cc, rfl, hg, r1, hbl, q1⟩ := (H0.out.below hb).at_ hlt
      have p1 := q1 k hlt
      clear q1
      by_cases hneg : T k k < 0
      · have HD := Lib.hid (diagOk_bad hlt hneg)
        go_wp2
        go_ret
        exact ⟨ret_bool HD.out.symm, hb⟩
      · have HD := Lib.hid (show 0 ≤ T k k by omega)
        go_wp2
        go_roundw
        case rel => exact ⟨k + 1, by omega, by go_num, fun i hi => by
          by_cases e : i = k
          · rw [e]; exact HD.out
          · exact HOK.out i (by omega), hb⟩
        case measure => simp [intOf]; omega
    · obtain rfl : N = k := by omega
      have HD := Lib.hid (diagOk_good HOK.out)
      go_wp2
      go_ret
      exact ⟨ret_bool HD.out.symm, hb⟩
theorem specFits_any (n : Int) (A : Option Addr) (c : Nat) (bs : List Bd) (w : World) (h : BAt w A bs) (hlen : bs.length ≤ 1099511627776) :
    Calls Try.prog 66 #[.agg #[.int .i64 n, .slice A bs.length c]] w fun e w' => e = .returned (.bool (fitsS n bs)) ∧ Below w.heap.size w w' := by
  cases hp : planOk n bs
  · have HF := Lib.hid (show fitsS n bs = false by simp [fitsS, hp])
    go_enter Try.func66, Try.ntmps66
    go_wp2_with fail
    refine (specPlanOk_any _ _ _ bs _ (h.below (by repeat (first | with_reducible exact Below.refl _ _ | with_reducible refine valloc ?_ _ | with_reducible refine vdrew ?_ | with_reducible refine vdrewN ?_ _ | with_reducible refine via (by assumption) ?_ | refine vset ?_ (by first | exact Nat.le_refl _ | (simp; done) | (simp; omega) | omega) _))) hlen).mono ?_; rintro e w1 ⟨rfl, hbw1⟩
    go_wp2
    go_ret
    refine ⟨ret_bool HF.out.symm, ?_⟩
    repeat (first | with_reducible exact Below.refl _ _ | with_reducible refine valloc ?_ _ | with_reducible refine vdrew ?_ | with_reducible refine vdrewN ?_ _ | with_reducible refine via (by assumption) ?_ | refine vset ?_ (by first | exact Nat.le_refl _ | (simp; done) | (simp; omega) | omega) _)
  · obtain ⟨h1, h6, _, _⟩ := planOk_of hp
    obtain ⟨N, rfl⟩ := Int.eq_ofNat_of_zero_le (show 0 ≤ n by omega)
    have HF := Lib.hid (show fitsS N bs = diagOk N (closeS N (ent bs)) by simp [fitsS, hp])
    go_enter Try.func66, Try.ntmps66
    go_wp2_with fail
    refine (specPlanOk_any _ _ _ bs _ (h.below (by repeat (first | with_reducible exact Below.refl _ _ | with_reducible refine valloc ?_ _ | with_reducible refine vdrew ?_ | with_reducible refine vdrewN ?_ _ | with_reducible refine via (by assumption) ?_ | refine vset ?_ (by first | exact Nat.le_refl _ | (simp; done) | (simp; omega) | omega) _))) hlen).mono ?_; rintro e w1 ⟨rfl, hbw1⟩; obtain ⟨hcw1, hfw1⟩ := bcell hbw1; have hzw1 := hbw1.size; (try simp only [sz] at hzw1); (try simp only [szc] at hzw1); have hzw1_0 : w.heap.size < w1.heap.size := (by omega)
    go_wp2_with fail
    refine (l2Closed_any N _ _ bs _ (h.below (by repeat (first | with_reducible exact Below.refl _ _ | with_reducible refine valloc ?_ _ | with_reducible refine vdrew ?_ | with_reducible refine vdrewN ?_ _ | with_reducible refine via (by assumption) ?_ | refine vset ?_ (by first | exact Nat.le_refl _ | (simp; done) | (simp; omega) | omega) _))) (by omega) (by omega) hlen).mono ?_; rintro e w2 ⟨A2, c2, rfl, hm2, hbw2⟩
    go_wp2_with fail
    refine (l2Fits_any N _ _ _ _ ((hm2.mat (Nat.le_refl _)).below (by repeat (first | with_reducible exact Below.refl _ _ | with_reducible refine valloc ?_ _ | with_reducible refine vdrew ?_ | with_reducible refine vdrewN ?_ _ | with_reducible refine via (by assumption) ?_ | refine vset ?_ (by first | exact Nat.le_refl _ | (simp; done) | (simp; omega) | omega) _))) (by omega)).mono ?_; rintro e w3 ⟨rfl, hbw3⟩
    go_wp2
    go_ret
    refine ⟨ret_bool HF.out.symm, ?_⟩
    repeat (first | with_reducible exact Below.refl _ _ | with_reducible refine valloc ?_ _ | with_reducible refine vdrew ?_ | with_reducible refine vdrewN ?_ _ | with_reducible refine via (by assumption) ?_ | refine vset ?_ (by first | exact Nat.le_refl _ | (simp; done) | (simp; omega) | omega) _)
end Go.Proofs.Ytedpaanhnbodfaa
