/- Contracts of laws.eqIntSS: two readings of the same table are found the same. -/
import Derived.Test.YtnhadopllbcciaaSpecTab
import Derived.Test.YtnhadopllbcciaaInts
import Derived.Deep.RegionHeld3
namespace Go.Proofs.Ytnhadopllbcciaa
open Go.RowKit
set_option linter.unusedVariables false
set_option maxRecDepth 10000
set_option linter.unusedSimpArgs false

theorem rowIAt {w : World} {b o N i : Nat} {T : Tab} (hb : b < w.heap.size) (h : ∀ j, j < N → w.cell? ⟨b, o + j, none⟩ = some (.int .i64 (T i j))) : IAt w (some ⟨b, o, none⟩) (rowTo T i N) := by
  intro _
  refine ⟨b, o, rfl, hb, fun j x hx => ?_⟩
  have hj : j < N := by
    have := (List.getElem?_eq_some_iff.1 hx).1
    rwa [rowTo_length] at this
  rw [rowTo_at T i N j hj] at hx
  cases hx
  exact h j hj
set_option maxHeartbeats 4000000 in
theorem eqIntSS_same (A A' : Option Addr) (c c' N M : Nat) (T : Tab) (w : World) (h : MAt w A N M T) (h' : MAt w A' N M T) (hN : N ≤ 1000) (hM : M ≤ 1000) :
    Calls Try.prog 24 #[.slice A M c, .slice A' M c'] w fun e w' => e = .returned (.bool true) ∧ Below w.heap.size w w' := by
  have H := Lib.hid h
  have H' := Lib.hid h'
  clear h h'
  go_enter Try.func24, Try.ntmps24
  go_wp2
  go_loopw [5] (fun i W => ∃ ii : Nat, ii ≤ M ∧ i = .int .i64 ii ∧ Below w.heap.size w W) (fun i _ => M - (intOf i).toNat)
  case atStart => exact ⟨0, Nat.zero_le _, rfl, Below.refl _ _⟩
  case round =>
    obtain ⟨i, hi, rfl, hb⟩ := hrel
    by_cases hlt : i < M
    · obtain ⟨w2, hw2⟩ : ∃ w2 : World, w2 = wr := ⟨_, rfl⟩
      subst hw2
      obtain ⟨g, off, b1, o1, cc1, rfl, hg, r1, hbl1, q1⟩ := (H.out.below hb).at_ hlt
      obtain ⟨g2, off2, b2, o2, cc2, rfl, hg2, r2, hbl2, q2⟩ := (H'.out.below hb).at_ hlt
      obtain ⟨xs, hl, I1, I2⟩ : ∃ xs : List Int, xs.length = N ∧ Hid (IAt w2 (some ⟨b1, o1, none⟩) xs) ∧ Hid (IAt w2 (some ⟨b2, o2, none⟩) xs) := ⟨_, rowTo_length T i N, Lib.hid (rowIAt hbl1 q1), Lib.hid (rowIAt hbl2 q2)⟩
      clear q1 q2
      rw [← hl] at r1 r2
      have hx : xs.length ≤ 1000 := by omega
      clear hl
      go_wp2
      go_region_held3 (fun w' => w'.cell? ⟨g, off + i, none⟩ = some (.slice (some ⟨b1, o1, none⟩) xs.length cc1) ∧ w'.cell? ⟨g2, off2 + i, none⟩ = some (.slice (some ⟨b2, o2, none⟩) xs.length cc2)) (first | go_keep | (go_split_ands; (repeat' apply And.intro) <;> (first | assumption | (refine cB (by assumption) ?_; first | assumption | (simp; assumption)) | (simp; assumption))))
        (first | (go_at_call 36; refine (eqIntS_same _ _ _ _ xs _ (I1.out.below (by repeat (first | with_reducible exact Below.refl _ _ | with_reducible refine valloc ?_ _ | with_reducible refine vdrew ?_ | with_reducible refine vdrewN ?_ _ | with_reducible refine via (by assumption) ?_ | refine vset ?_ (by first | exact Nat.le_refl _ | (simp; done) | (simp; omega) | omega) _))) (I2.out.below (by repeat (first | with_reducible exact Below.refl _ _ | with_reducible refine valloc ?_ _ | with_reducible refine vdrew ?_ | with_reducible refine vdrewN ?_ _ | with_reducible refine via (by assumption) ?_ | refine vset ?_ (by first | exact Nat.le_refl _ | (simp; done) | (simp; omega) | omega) _))) (by omega)).mono ?_; rintro e w3 ⟨rfl, hbw3⟩))
      go_wp2
      go_roundw
      case rel => exact ⟨i + 1, by omega, by go_num, (vdrew hb).trans (hbw3.mono hb.size)⟩
      case measure => simp [intOf]; omega
    · obtain rfl : M = i := by omega
      go_wp2
      go_ret
      exact ⟨rfl, hb⟩
end Go.Proofs.Ytnhadopllbcciaa
