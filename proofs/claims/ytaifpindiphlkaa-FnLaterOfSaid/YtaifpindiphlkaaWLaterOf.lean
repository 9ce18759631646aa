/- The walk of the law FnLaterOf: it returns true and changes nothing that was there; for codes of bytes. -/
import Derived.Test.YtaifpindiphlkaaAlive
import Derived.Test.YtaifpindiphlkaaDraws3
import Derived.Test.YtaifpindiphlkaaPlainL1
import Derived.Test.YtaifpindiphlkaaKB
namespace Go.Proofs.Ytaifpindiphlkaa
open Go.RowKit
set_option linter.unusedVariables false
set_option maxRecDepth 10000
set_option linter.unusedSimpArgs false

set_option maxHeartbeats 1000000 in
theorem FnLaterOf_walk (A : Option Addr) (c : Nat) (xs : List Int) (w : World) (hB : Bytes w A c xs) (hl : xs.length ≤ 9223372036854775807) :
    Calls Try.prog 5 #[.slice A xs.length c] w fun e w' => e = .returned (.bool true) ∧ Below w.heap.size w w' := by
  by_cases hL : (1048576 : Int) < (xs.length : Int)
  · go_enter Try.func5, Try.ntmps5
    go_wp2
    go_ret
    exact ⟨rfl, Below.refl _ _⟩
  go_enter Try.func5, Try.ntmps5
  go_wp2_with fail
  refine (drawLaterOf_any A c xs _ hB).mono ?_; rintro e w1 ⟨n, A1, c1, bs, G, cg, ts, H, ch, us, rfl, ⟨hf0, hf7, hfl, _⟩, hc, hn, ⟨ht8, htb⟩, ⟨hu8, hub⟩, hrb, hri, hrj, hb1⟩
  have HR := Lib.hid hrb
  have HI := Lib.hid hri
  have HJ := Lib.hid hrj
  clear hrb hri hrj hn hub htb
  have hz1 := hb1.size
  have hml := laterOf_len n bs ts us
  go_wp2_with fail
  refine (laterOf_any _ _ _ _ _ _ _ bs ts us _ (HR.out.bat.below (by repeat (first | with_reducible exact Below.refl _ _ | with_reducible refine valloc ?_ _ | with_reducible refine vdrew ?_ | with_reducible refine vdrewN ?_ _ | with_reducible refine via (by assumption) ?_ | refine vset ?_ (by first | exact Nat.le_refl _ | (simp; done) | (simp; omega) | omega) _))) (HI.out.iat.below (by repeat (first | with_reducible exact Below.refl _ _ | with_reducible refine valloc ?_ _ | with_reducible refine vdrew ?_ | with_reducible refine vdrewN ?_ _ | with_reducible refine via (by assumption) ?_ | refine vset ?_ (by first | exact Nat.le_refl _ | (simp; done) | (simp; omega) | omega) _))) (HJ.out.iat.below (by repeat (first | with_reducible exact Below.refl _ _ | with_reducible refine valloc ?_ _ | with_reducible refine vdrew ?_ | with_reducible refine vdrewN ?_ _ | with_reducible refine via (by assumption) ?_ | refine vset ?_ (by first | exact Nat.le_refl _ | (simp; done) | (simp; omega) | omega) _))) (by omega) (by omega) (by omega)).mono ?_; rintro e w2 ⟨G1, C1, rfl, r1, hb2⟩
  have p0 : w2.cell? ⟨w1.heap.size, 0, none⟩ = some (.int .i64 n) := cB hb2 (by simp)
  have p1 : w2.cell? ⟨w1.heap.size, 1, none⟩ = some (.slice A1 bs.length c1) := cB hb2 (by simp)
  have R1 := Lib.hid r1
  clear r1
  go_wp2_with fail
  refine (specLaterOf_any _ _ _ _ _ _ _ bs ts us _ (HR.out.bat.below (by repeat (first | with_reducible exact Below.refl _ _ | with_reducible refine valloc ?_ _ | with_reducible refine vdrew ?_ | with_reducible refine vdrewN ?_ _ | with_reducible refine via (by assumption) ?_ | refine vset ?_ (by first | exact Nat.le_refl _ | (simp; done) | (simp; omega) | omega) _))) (HI.out.iat.below (by repeat (first | with_reducible exact Below.refl _ _ | with_reducible refine valloc ?_ _ | with_reducible refine vdrew ?_ | with_reducible refine vdrewN ?_ _ | with_reducible refine via (by assumption) ?_ | refine vset ?_ (by first | exact Nat.le_refl _ | (simp; done) | (simp; omega) | omega) _))) (HJ.out.iat.below (by repeat (first | with_reducible exact Below.refl _ _ | with_reducible refine valloc ?_ _ | with_reducible refine vdrew ?_ | with_reducible refine vdrewN ?_ _ | with_reducible refine via (by assumption) ?_ | refine vset ?_ (by first | exact Nat.le_refl _ | (simp; done) | (simp; omega) | omega) _))) (by omega) (by omega) (by omega)).mono ?_; rintro e w3 ⟨G2, C2, rfl, r2, hb3⟩
  replace p0 := cB hb3 p0
  replace p1 := cB hb3 p1
  go_wp2_with fail
  refine (sameInts_same _ _ _ _ (laterOf n bs ts us) _ (R1.out.iat.below (by repeat (first | with_reducible exact Below.refl _ _ | with_reducible refine valloc ?_ _ | with_reducible refine vdrew ?_ | with_reducible refine vdrewN ?_ _ | with_reducible refine via (by assumption) ?_ | refine vset ?_ (by first | exact Nat.le_refl _ | (simp; done) | (simp; omega) | omega) _))) r2.iat (by omega)).mono ?_; rintro e w4 ⟨rfl, hb4⟩
  replace p0 := cB hb4 p0
  replace p1 := cB hb4 p1
  have B4 := Lib.hid (show Below w.heap.size w w4 from (by repeat (first | with_reducible exact Below.refl _ _ | with_reducible refine valloc ?_ _ | with_reducible refine vdrew ?_ | with_reducible refine vdrewN ?_ _ | with_reducible refine via (by assumption) ?_ | refine vset ?_ (by first | exact Nat.le_refl _ | (simp; done) | (simp; omega) | omega) _)))
  have Q4 := Lib.hid (show BAt w4 A1 bs from HR.out.bat.below (by repeat (first | with_reducible exact Below.refl _ _ | with_reducible refine valloc ?_ _ | with_reducible refine vdrew ?_ | with_reducible refine vdrewN ?_ _ | with_reducible refine via (by assumption) ?_ | refine vset ?_ (by first | exact Nat.le_refl _ | (simp; done) | (simp; omega) | omega) _)))
  have I4 := Lib.hid (show IAt w4 G ts from HI.out.iat.below (by repeat (first | with_reducible exact Below.refl _ _ | with_reducible refine valloc ?_ _ | with_reducible refine vdrew ?_ | with_reducible refine vdrewN ?_ _ | with_reducible refine via (by assumption) ?_ | refine vset ?_ (by first | exact Nat.le_refl _ | (simp; done) | (simp; omega) | omega) _)))
  have J4 := Lib.hid (show IAt w4 H us from HJ.out.iat.below (by repeat (first | with_reducible exact Below.refl _ _ | with_reducible refine valloc ?_ _ | with_reducible refine vdrew ?_ | with_reducible refine vdrewN ?_ _ | with_reducible refine via (by assumption) ?_ | refine vset ?_ (by first | exact Nat.le_refl _ | (simp; done) | (simp; omega) | omega) _)))
  have X4 := Lib.hid (show IAt w4 G1 (laterOf n bs ts us) from R1.out.iat.below (by repeat (first | with_reducible exact Below.refl _ _ | with_reducible refine valloc ?_ _ | with_reducible refine vdrew ?_ | with_reducible refine vdrewN ?_ _ | with_reducible refine via (by assumption) ?_ | refine vset ?_ (by first | exact Nat.le_refl _ | (simp; done) | (simp; omega) | omega) _)))
  clear hb1 hb2 hb3 hb4 r2 hB hc R1 HR HI HJ
  by_cases hz : (laterOf n bs ts us).length = 0
  · rw [hz]
    go_wp2_with fail
    refine (alive_any _).mono ?_; rintro e w5 ⟨rfl, hb5⟩
    go_wp2
    go_ret
    exact ⟨rfl, via hb5 B4.out⟩
  · obtain ⟨x1, x2, x3, e1, e2⟩ := later_law hz
    clear x1 x2 x3
    have E1 := Lib.hid e1
    have E2 := Lib.hid e2
    have HK := Lib.hid (@later_keeps n bs ts us)
    obtain ⟨L, hLL⟩ : ∃ L : Nat, (laterOf n bs ts us).length = L + 1 := ⟨(laterOf n bs ts us).length - 1, by omega⟩
    rw [hLL]
    have HLL := Lib.hid hLL
    clear hLL hz e1 e2
    go_wp2_with fail
    rw [← HLL.out]
    refine (keepsOk_any _ _ _ _ _ bs ts _ Q4.out I4.out (by omega) (by omega)).mono ?_; rintro e w5 ⟨rfl, hb5⟩
    replace p0 := cB hb5 p0
    replace p1 := cB hb5 p1
    cases k1 : keepsOk n bs ts
    · clear k1
      have BW := Lib.hid (via hb5 (Below.refl w4.heap.size w4)); go_wp2_with fail; refine (laterOf_any _ _ _ _ _ _ _ bs us ts _ (Q4.out.below BW.out) (J4.out.below BW.out) (I4.out.below BW.out) (by omega) (by omega) (by omega)).mono ?_; rintro e wa ⟨G3, C3, rfl, r3, hba⟩; have R3 := Lib.hid r3.iat; rw [E1.out] at R3 ⊢; clear r3; replace p0 := cB hba p0; replace p1 := cB hba p1; go_wp2_with fail; refine (sameInts_same _ _ _ _ (laterOf n bs ts us) _ R3.out (X4.out.below (via hba BW.out)) (by omega)).mono ?_; rintro e wb ⟨rfl, hbb⟩; replace p0 := cB hbb p0; replace p1 := cB hbb p1; go_wp2_with fail; refine (laterOf_any _ _ _ _ _ _ _ bs ts ts _ (Q4.out.below (via hbb (via hba BW.out))) (I4.out.below (via hbb (via hba BW.out))) (I4.out.below (via hbb (via hba BW.out))) (by omega) (by omega) (by omega)).mono ?_; rintro e wc ⟨G4, C4, rfl, r4, hbc⟩; have R4 := Lib.hid r4.iat; rw [E2.out] at R4 ⊢; clear r4; go_wp2_with fail; refine (sameInts_same _ _ _ _ ts _ R4.out (I4.out.below (via hbc (via hbb (via hba BW.out)))) (by omega)).mono ?_; rintro e wd ⟨rfl, hbd⟩; go_wp2; go_ret; exact ⟨rfl, via hbd (via hbc (via hbb (via hba (B4.out.trans (BW.out.mono B4.out.size)))))⟩
    · go_wp2_with fail
      refine (keepsOk_any _ _ _ _ _ bs us _ (Q4.out.below (via hb5 (Below.refl w4.heap.size w4))) (J4.out.below (via hb5 (Below.refl w4.heap.size w4))) (by omega) (by omega)).mono ?_; rintro e w6 ⟨rfl, hb6⟩
      replace p0 := cB hb6 p0
      replace p1 := cB hb6 p1
      cases k2 : keepsOk n bs us
      · clear k1 k2
        have BW := Lib.hid (via hb6 (via hb5 (Below.refl w4.heap.size w4))); go_wp2_with fail; refine (laterOf_any _ _ _ _ _ _ _ bs us ts _ (Q4.out.below BW.out) (J4.out.below BW.out) (I4.out.below BW.out) (by omega) (by omega) (by omega)).mono ?_; rintro e wa ⟨G3, C3, rfl, r3, hba⟩; have R3 := Lib.hid r3.iat; rw [E1.out] at R3 ⊢; clear r3; replace p0 := cB hba p0; replace p1 := cB hba p1; go_wp2_with fail; refine (sameInts_same _ _ _ _ (laterOf n bs ts us) _ R3.out (X4.out.below (via hba BW.out)) (by omega)).mono ?_; rintro e wb ⟨rfl, hbb⟩; replace p0 := cB hbb p0; replace p1 := cB hbb p1; go_wp2_with fail; refine (laterOf_any _ _ _ _ _ _ _ bs ts ts _ (Q4.out.below (via hbb (via hba BW.out))) (I4.out.below (via hbb (via hba BW.out))) (I4.out.below (via hbb (via hba BW.out))) (by omega) (by omega) (by omega)).mono ?_; rintro e wc ⟨G4, C4, rfl, r4, hbc⟩; have R4 := Lib.hid r4.iat; rw [E2.out] at R4 ⊢; clear r4; go_wp2_with fail; refine (sameInts_same _ _ _ _ ts _ R4.out (I4.out.below (via hbc (via hbb (via hba BW.out)))) (by omega)).mono ?_; rintro e wd ⟨rfl, hbd⟩; go_wp2; go_ret; exact ⟨rfl, via hbd (via hbc (via hbb (via hba (B4.out.trans (BW.out.mono B4.out.size)))))⟩
      · have k3 := HK.out k1 k2
        clear k1 k2
        go_wp2_with fail
        refine (keepsOk_any _ _ _ _ _ bs (laterOf n bs ts us) _ (Q4.out.below (via hb6 (via hb5 (Below.refl w4.heap.size w4)))) (X4.out.below (via hb6 (via hb5 (Below.refl w4.heap.size w4)))) (by omega) (by omega)).mono ?_; rintro e w7 ⟨rfl, hb7⟩
        replace p0 := cB hb7 p0
        replace p1 := cB hb7 p1
        rw [k3]
        clear k3
        have BW := Lib.hid (via hb7 (via hb6 (via hb5 (Below.refl w4.heap.size w4)))); go_wp2_with fail; refine (laterOf_any _ _ _ _ _ _ _ bs us ts _ (Q4.out.below BW.out) (J4.out.below BW.out) (I4.out.below BW.out) (by omega) (by omega) (by omega)).mono ?_; rintro e wa ⟨G3, C3, rfl, r3, hba⟩; have R3 := Lib.hid r3.iat; rw [E1.out] at R3 ⊢; clear r3; replace p0 := cB hba p0; replace p1 := cB hba p1; go_wp2_with fail; refine (sameInts_same _ _ _ _ (laterOf n bs ts us) _ R3.out (X4.out.below (via hba BW.out)) (by omega)).mono ?_; rintro e wb ⟨rfl, hbb⟩; replace p0 := cB hbb p0; replace p1 := cB hbb p1; go_wp2_with fail; refine (laterOf_any _ _ _ _ _ _ _ bs ts ts _ (Q4.out.below (via hbb (via hba BW.out))) (I4.out.below (via hbb (via hba BW.out))) (I4.out.below (via hbb (via hba BW.out))) (by omega) (by omega) (by omega)).mono ?_; rintro e wc ⟨G4, C4, rfl, r4, hbc⟩; have R4 := Lib.hid r4.iat; rw [E2.out] at R4 ⊢; clear r4; go_wp2_with fail; refine (sameInts_same _ _ _ _ ts _ R4.out (I4.out.below (via hbc (via hbb (via hba BW.out)))) (by omega)).mono ?_; rintro e wd ⟨rfl, hbd⟩; go_wp2; go_ret; exact ⟨rfl, via hbd (via hbc (via hbb (via hba (B4.out.trans (BW.out.mono B4.out.size)))))⟩
end Go.Proofs.Ytaifpindiphlkaa
