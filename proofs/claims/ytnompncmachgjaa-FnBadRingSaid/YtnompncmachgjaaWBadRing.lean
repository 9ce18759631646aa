/- The walk of the law FnBadRing: it returns true and changes nothing that was there; for codes of bytes. -/
import Derived.Test.YtnompncmachgjaaAlive
import Derived.Test.YtnompncmachgjaaBad
import Derived.Test.YtnompncmachgjaaDrawTight
import Derived.Test.YtnompncmachgjaaKB
namespace Go.Proofs.Ytnompncmachgjaa
open Go.RowKit
set_option linter.unusedVariables false
set_option maxRecDepth 10000
set_option linter.unusedSimpArgs false

theorem badB_fits' {n : Int} {bs : List Bd} (h : fitsOk n bs = true) : badB n bs = false := by simp [badB, h]
theorem badB_plan' {n : Int} {bs : List Bd} (h : badB n bs = false) : planOk n bs = false ∨ fitsOk n bs = true := by
  simp only [badB, Bool.and_eq_false_iff, Bool.not_eq_false'] at h; exact h
set_option maxHeartbeats 1000000 in
theorem FnBadRing_walk (A : Option Addr) (c : Nat) (xs : List Int) (w : World) (hB : Bytes w A c xs) (hl : xs.length ≤ 9223372036854775807) :
    Calls Try.prog 13 #[.slice A xs.length c] w fun e w' => e = .returned (.bool true) ∧ Below w.heap.size w w' := by
  by_cases hL : (1048576 : Int) < (xs.length : Int)
  · go_enter Try.func13, Try.ntmps13
    go_wp2
    go_ret
    exact ⟨rfl, Below.refl _ _⟩
  go_enter Try.func13, Try.ntmps13
  go_wp2_with fail
  refine (drawBadRing_any A c xs _ hB).mono ?_; rintro e w1 ⟨n, A1, c1, bs, rfl, ⟨hf0, hf7, hfl⟩, hc, hn, hrb, hb1⟩
  have HR := Lib.hid hrb
  clear hrb hn
  have hz1 := hb1.size
  have hml := bad_len n bs
  go_wp2_with fail
  refine (badRing_law _ _ _ bs _ (HR.out.bat.below (by repeat (first | with_reducible exact Below.refl _ _ | with_reducible refine valloc ?_ _ | with_reducible refine vdrew ?_ | with_reducible refine vdrewN ?_ _ | with_reducible refine via (by assumption) ?_ | refine vset ?_ (by first | exact Nat.le_refl _ | (simp; done) | (simp; omega) | omega) _))) (by omega)).mono ?_; rintro e w2 ⟨G1, C1, rfl, r1, hb2⟩
  have p0 : w2.cell? ⟨w1.heap.size, 0, none⟩ = some (.int .i64 n) := cB hb2 (by simp)
  have p1 : w2.cell? ⟨w1.heap.size, 1, none⟩ = some (.slice A1 bs.length c1) := cB hb2 (by simp)
  have R1 := Lib.hid r1
  clear r1
  go_wp2_with fail
  refine (specBadRing_law _ _ _ bs _ (HR.out.bat.below (by repeat (first | with_reducible exact Below.refl _ _ | with_reducible refine valloc ?_ _ | with_reducible refine vdrew ?_ | with_reducible refine vdrewN ?_ _ | with_reducible refine via (by assumption) ?_ | refine vset ?_ (by first | exact Nat.le_refl _ | (simp; done) | (simp; omega) | omega) _))) (by omega)).mono ?_; rintro e w3 ⟨G2, C2, rfl, r2, hb3⟩
  replace p0 := cB hb3 p0
  replace p1 := cB hb3 p1
  go_wp2_with fail
  refine (sameInts_same _ _ _ _ (badL n bs) _ (R1.out.iat.below (by repeat (first | with_reducible exact Below.refl _ _ | with_reducible refine valloc ?_ _ | with_reducible refine vdrew ?_ | with_reducible refine vdrewN ?_ _ | with_reducible refine via (by assumption) ?_ | refine vset ?_ (by first | exact Nat.le_refl _ | (simp; done) | (simp; omega) | omega) _))) r2.iat (by omega)).mono ?_; rintro e w4 ⟨rfl, hb4⟩
  replace p0 := cB hb4 p0
  replace p1 := cB hb4 p1
  clear r2
  have B4 := Lib.hid (show Below w.heap.size w w4 from (by repeat (first | with_reducible exact Below.refl _ _ | with_reducible refine valloc ?_ _ | with_reducible refine vdrew ?_ | with_reducible refine vdrewN ?_ _ | with_reducible refine via (by assumption) ?_ | refine vset ?_ (by first | exact Nat.le_refl _ | (simp; done) | (simp; omega) | omega) _)))
  have Q4 := Lib.hid (show BAt w4 A1 bs from HR.out.bat.below (by repeat (first | with_reducible exact Below.refl _ _ | with_reducible refine valloc ?_ _ | with_reducible refine vdrew ?_ | with_reducible refine vdrewN ?_ _ | with_reducible refine via (by assumption) ?_ | refine vset ?_ (by first | exact Nat.le_refl _ | (simp; done) | (simp; omega) | omega) _)))
  have X4 := Lib.hid (show IAt w4 G1 (badL n bs) from R1.out.iat.below (by repeat (first | with_reducible exact Below.refl _ _ | with_reducible refine valloc ?_ _ | with_reducible refine vdrew ?_ | with_reducible refine vdrewN ?_ _ | with_reducible refine via (by assumption) ?_ | refine vset ?_ (by first | exact Nat.le_refl _ | (simp; done) | (simp; omega) | omega) _)))
  clear hb1 hb2 hb3 hb4 hB hc R1 HR
  cases hb : badB n bs
  · have e0 := bad_no hb
    have hpf := badB_plan' hb
    rw [e0]
    clear hml X4 hb e0
    go_wp2_with fail
    refine (planOk_any _ _ _ bs _ Q4.out (by omega)).mono ?_; rintro e w5 ⟨rfl, hb5⟩
    replace p0 := cB hb5 p0
    replace p1 := cB hb5 p1
    have H5 := Lib.hid hb5
    clear hb5
    cases hp : planOk n bs
    · clear hpf
      go_wp2_with fail
      refine (alive_any _).mono ?_; rintro e w7 ⟨rfl, hb7⟩
      go_wp2
      go_ret
      exact ⟨rfl, via hb7 (via H5.out B4.out)⟩
    · have hf : fitsOk n bs = true := by
        rcases hpf with h | h
        · rw [hp] at h; cases h
        · exact h
      have HF := Lib.hid hf
      clear hpf hf
      go_wp2_with fail
      refine (fitsOk_any _ _ _ bs _ (Q4.out.below H5.out) (by omega)).mono ?_; rintro e w6 ⟨rfl, hb6⟩
      rw [HF.out]
      go_wp2_with fail
      refine (alive_any _).mono ?_; rintro e w7 ⟨rfl, hb7⟩
      go_wp2
      go_ret
      exact ⟨rfl, via hb7 (via hb6 (via H5.out B4.out))⟩
  · obtain ⟨hp, hf, hro, hrs, hrl, hr1⟩ := bad_yes hb
    have HF := Lib.hid hf
    have HRO := Lib.hid hro
    have hsv : ringSumB n bs (badL n bs) = ringSum bs (badL n bs) := by simp [ringSumB, hro]
    have HSV := Lib.hid hsv
    clear hb hp hf hro hsv
    go_wp2_with fail
    refine (ringSum_any _ _ _ _ _ bs (badL n bs) _ Q4.out X4.out (by omega) (by omega)).mono ?_; rintro e w5 ⟨rfl, hb5⟩
    replace p0 := cB hb5 p0
    replace p1 := cB hb5 p1
    rw [HSV.out, HRO.out]
    generalize ringSum bs (badL n bs) = sv at *
    go_wp2_with fail
    refine (fitsOk_any _ _ _ bs _ (Q4.out.below hb5) (by omega)).mono ?_; rintro e w6 ⟨rfl, hb6⟩
    replace p0 := cB hb6 p0
    replace p1 := cB hb6 p1
    rw [HF.out]
    go_wp2_with fail
    refine (ringOk_any _ _ _ _ _ bs (badL n bs) _ (Q4.out.below (via hb6 hb5)) (X4.out.below (via hb6 hb5)) (by omega) (by omega)).mono ?_; rintro e w7 ⟨rfl, hb7⟩
    replace p0 := cB hb7 p0
    replace p1 := cB hb7 p1
    rw [HRO.out]
    go_wp2
    go_ret
    exact ⟨rfl, via hb7 (via hb6 (via hb5 B4.out))⟩
end Go.Proofs.Ytnompncmachgjaa
