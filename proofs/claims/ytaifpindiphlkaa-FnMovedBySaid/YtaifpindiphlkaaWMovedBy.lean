/- The walk of the law FnMovedBy: it returns true and changes nothing that was there; for codes of bytes. -/
import Derived.Test.YtaifpindiphlkaaAlive
import Derived.Test.YtaifpindiphlkaaDraws3
import Derived.Test.YtaifpindiphlkaaPlainL1
import Derived.Test.YtaifpindiphlkaaKB
namespace Go.Proofs.Ytaifpindiphlkaa
open Go.RowKit
set_option linter.unusedVariables false
set_option maxRecDepth 10000
set_option linter.unusedSimpArgs false

theorem shift_at {ts : List Int} {d : Int} {k : Nat} {t : Int} (h : ts[k]? = some t) : (shift ts d)[k]? = some (t + d) := by
  unfold shift; rw [List.getElem?_map, h]; rfl
set_option maxHeartbeats 4000000 in
theorem FnMovedBy_walk (A : Option Addr) (c : Nat) (xs : List Int) (w : World) (hB : Bytes w A c xs) (hl : xs.length ≤ 9223372036854775807) :
    Calls Try.prog 6 #[.slice A xs.length c] w fun e w' => e = .returned (.bool true) ∧ Below w.heap.size w w' := by
  by_cases hL : (1048576 : Int) < (xs.length : Int)
  · go_enter Try.func6, Try.ntmps6
    go_wp2
    go_ret
    exact ⟨rfl, Below.refl _ _⟩
  go_enter Try.func6, Try.ntmps6
  go_wp2_with fail
  refine (drawMovedBy_any A c xs _ hB).mono ?_; rintro e w1 ⟨n, A1, c1, bs, G, cg, ts, d, rfl, ⟨hf0, hf7, hfl, _⟩, hc, hn, ⟨ht8, htb⟩, hc2, hn2, hd1, hd2, hrb, hri, hb1⟩
  have HR := Lib.hid hrb
  have HI := Lib.hid hri
  have HTB := Lib.hid htb
  clear hrb hri hn hn2 htb
  have hz1 := hb1.size
  have hml := movedL_len n bs ts d
  go_wp2_with fail
  refine (movedBy_any _ _ _ _ _ bs ts d _ (HR.out.bat.below (by repeat (first | with_reducible exact Below.refl _ _ | with_reducible refine valloc ?_ _ | with_reducible refine vdrew ?_ | with_reducible refine vdrewN ?_ _ | with_reducible refine via (by assumption) ?_ | refine vset ?_ (by first | exact Nat.le_refl _ | (simp; done) | (simp; omega) | omega) _))) (HI.out.iat.below (by repeat (first | with_reducible exact Below.refl _ _ | with_reducible refine valloc ?_ _ | with_reducible refine vdrew ?_ | with_reducible refine vdrewN ?_ _ | with_reducible refine via (by assumption) ?_ | refine vset ?_ (by first | exact Nat.le_refl _ | (simp; done) | (simp; omega) | omega) _))) (by omega) (by omega)).mono ?_; rintro e w2 ⟨G1, C1, rfl, r1, hb2⟩
  have p0 : w2.cell? ⟨w1.heap.size, 0, none⟩ = some (.int .i64 n) := cB hb2 (by simp)
  have p1 : w2.cell? ⟨w1.heap.size, 1, none⟩ = some (.slice A1 bs.length c1) := cB hb2 (by simp)
  have R1 := Lib.hid r1
  clear r1
  go_wp2_with fail
  refine (specMovedBy_any _ _ _ _ _ bs ts d _ (HR.out.bat.below (by repeat (first | with_reducible exact Below.refl _ _ | with_reducible refine valloc ?_ _ | with_reducible refine vdrew ?_ | with_reducible refine vdrewN ?_ _ | with_reducible refine via (by assumption) ?_ | refine vset ?_ (by first | exact Nat.le_refl _ | (simp; done) | (simp; omega) | omega) _))) (HI.out.iat.below (by repeat (first | with_reducible exact Below.refl _ _ | with_reducible refine valloc ?_ _ | with_reducible refine vdrew ?_ | with_reducible refine vdrewN ?_ _ | with_reducible refine via (by assumption) ?_ | refine vset ?_ (by first | exact Nat.le_refl _ | (simp; done) | (simp; omega) | omega) _))) (by omega) (by omega)).mono ?_; rintro e w3 ⟨G2, C2, rfl, r2, hb3⟩
  replace p0 := cB hb3 p0
  replace p1 := cB hb3 p1
  go_wp2_with fail
  refine (sameInts_same _ _ _ _ (movedL n bs ts d) _ (R1.out.iat.below (by repeat (first | with_reducible exact Below.refl _ _ | with_reducible refine valloc ?_ _ | with_reducible refine vdrew ?_ | with_reducible refine vdrewN ?_ _ | with_reducible refine via (by assumption) ?_ | refine vset ?_ (by first | exact Nat.le_refl _ | (simp; done) | (simp; omega) | omega) _))) r2.iat (by omega)).mono ?_; rintro e w4 ⟨rfl, hb4⟩
  replace p0 := cB hb4 p0
  replace p1 := cB hb4 p1
  have B4 := Lib.hid (show Below w.heap.size w w4 from (by repeat (first | with_reducible exact Below.refl _ _ | with_reducible refine valloc ?_ _ | with_reducible refine vdrew ?_ | with_reducible refine vdrewN ?_ _ | with_reducible refine via (by assumption) ?_ | refine vset ?_ (by first | exact Nat.le_refl _ | (simp; done) | (simp; omega) | omega) _)))
  have Q4 := Lib.hid (show BAt w4 A1 bs from HR.out.bat.below (by repeat (first | with_reducible exact Below.refl _ _ | with_reducible refine valloc ?_ _ | with_reducible refine vdrew ?_ | with_reducible refine vdrewN ?_ _ | with_reducible refine via (by assumption) ?_ | refine vset ?_ (by first | exact Nat.le_refl _ | (simp; done) | (simp; omega) | omega) _)))
  have I4 := Lib.hid (show IAt w4 G ts from HI.out.iat.below (by repeat (first | with_reducible exact Below.refl _ _ | with_reducible refine valloc ?_ _ | with_reducible refine vdrew ?_ | with_reducible refine vdrewN ?_ _ | with_reducible refine via (by assumption) ?_ | refine vset ?_ (by first | exact Nat.le_refl _ | (simp; done) | (simp; omega) | omega) _)))
  have X4 := Lib.hid (show IAt w4 G1 (movedL n bs ts d) from R1.out.iat.below (by repeat (first | with_reducible exact Below.refl _ _ | with_reducible refine valloc ?_ _ | with_reducible refine vdrew ?_ | with_reducible refine vdrewN ?_ _ | with_reducible refine via (by assumption) ?_ | refine vset ?_ (by first | exact Nat.le_refl _ | (simp; done) | (simp; omega) | omega) _)))
  clear hb2 hb3 hb4 r2 hB hc hc2
  cases hm : movedOk n bs ts d
  · have e0 := movedL_no hm
    rw [e0]
    clear hml hm X4 R1
    go_wp2_with fail
    refine (alive_any _).mono ?_; rintro e w5 ⟨rfl, hb5⟩
    go_wp2
    go_ret
    exact ⟨rfl, via hb5 B4.out⟩
  · obtain ⟨hto, _, _, em, hm2, em2⟩ := moved_law hm
    have hlen := timesOk_len1 hto
    have EM := Lib.hid em
    have HM2 := Lib.hid hm2
    have EM2 := Lib.hid em2
    have HX := Lib.hid X4.out
    have hsl := shift_length ts d
    have hxl : (movedL n bs ts d).length = ts.length := by rw [em, hsl]
    have HXL := Lib.hid hxl
    clear hm hto em hm2 em2 hsl hxl
    go_wp2
    go_loopw [10] (fun k W => ∃ kk : Nat, kk ≤ ts.length ∧ k = .int .i64 kk ∧ Below w4.heap.size w4 W) (fun k _ => ts.length - (intOf k).toNat)
    case atStart => exact ⟨0, Nat.zero_le _, rfl, Below.refl _ _⟩
    case round =>
      obtain ⟨k, hk, rfl, hb⟩ := hrel
      have q0 := cB hb p0
      have q1 := cB hb p1
      by_cases hlt : k < ts.length
      · obtain ⟨b, off, x, eG, hbl, hx, hxm, c0⟩ := (I4.out.below hb).at_ hlt
        obtain ⟨b', off', x0, eG', hbl', hx0, hxm0, c00⟩ := (I4.out.below hb).at_ (show 0 < ts.length by omega)
        have ee := eG.symm.trans eG'
        cases ee
        obtain ⟨bx, ox, y, eX, hblx, hy, hym, d0⟩ := (X4.out.below hb).at_ (show k < (movedL n bs ts d).length by have := HXL.out; omega)
        obtain ⟨bx', ox', y0, eX', hblx', hy0, hym0, d00⟩ := (X4.out.below hb).at_ (show 0 < (movedL n bs ts d).length by have := HXL.out; omega)
        have ee := eX.symm.trans eX'
        cases ee
        subst eG; subst eX
        have ey : y = x + d := by rw [EM.out, shift_at hx] at hy; injection hy with hy; exact hy.symm
        have ey0 : y0 = x0 + d := by rw [EM.out, shift_at hx0] at hy0; injection hy0 with hy0; exact hy0.symm
        subst ey; subst ey0
        have bx1 := HTB.out x hxm
        have bx2 := HTB.out x0 hxm0
        have hk0 : (0 : Int) ≤ (k : Int) := by omega
        have hk1 : (k : Int) < (ts.length : Int) := by omega
        have hk2 : (k : Int) < ((movedL n bs ts d).length : Int) := by have := HXL.out; omega
        have hk3 : (0 : Int) < (ts.length : Int) := by omega
        have hk4 : (0 : Int) < ((movedL n bs ts d).length : Int) := by have := HXL.out; omega
        have wr1 : IntKind.i64.wrap (x + d - (x0 + d)) = x - x0 := by rw [IntWalk.i64_in _ ⟨by omega, by omega⟩]; omega
        have wr2 : IntKind.i64.wrap (x - x0) = x - x0 := IntWalk.i64_in _ ⟨by omega, by omega⟩
        rw [Nat.add_zero] at c00 d00
        clear hx hx0 hy hy0 eG' eX'
        go_wp2
        go_quiet (fail)
        go_wp2
        go_roundw
        case rel => exact ⟨k + 1, by omega, by go_num, vdrewN hb _⟩
        case measure => simp [intOf]; omega
      · go_wp2_with fail
        refine (movedBy_any _ _ _ _ _ bs (movedL n bs ts d) (-d) _ (Q4.out.below hb) (X4.out.below hb) (by omega) (by omega)).mono ?_; rintro e w5 ⟨G3, C3, rfl, r3, hb5⟩
        rw [HM2.out]
        have R3 := Lib.hid r3.iat
        rw [EM2.out] at R3 ⊢
        clear r3
        go_wp2_with fail
        refine (sameInts_same _ _ _ _ ts _ R3.out (I4.out.below (via hb5 hb)) (by omega)).mono ?_; rintro e w6 ⟨rfl, hb6⟩
        go_wp2
        go_ret
        exact ⟨rfl, via hb6 (via hb5 (B4.out.trans (hb.mono B4.out.size)))⟩
end Go.Proofs.Ytaifpindiphlkaa
