/- The walk of the law FnFromPoint: it returns true and changes nothing that was there; for codes of bytes. -/
import Derived.Test.YtnompncmachgjaaAlive
import Derived.Test.YtnompncmachgjaaDraws4
import Derived.Test.YtnompncmachgjaaPlainL3
import Derived.Test.YtnompncmachgjaaFromPt
import Derived.Test.YtnompncmachgjaaKB
namespace Go.Proofs.Ytnompncmachgjaa
open Go.RowKit
set_option linter.unusedVariables false
set_option maxRecDepth 10000
set_option linter.unusedSimpArgs false

set_option maxHeartbeats 1000000 in
theorem FnFromPoint_walk (A : Option Addr) (c : Nat) (xs : List Int) (w : World) (hB : Bytes w A c xs) (hl : xs.length ≤ 9223372036854775807) :
    Calls Try.prog 5 #[.slice A xs.length c] w fun e w' => e = .returned (.bool true) ∧ Below w.heap.size w w' := by
  by_cases hL : (1048576 : Int) < (xs.length : Int)
  · go_enter Try.func5, Try.ntmps5
    go_wp2
    go_ret
    exact ⟨rfl, Below.refl _ _⟩
  go_enter Try.func5, Try.ntmps5
  go_wp2_with fail
  refine (drawFromPoint_any A c xs _ hB).mono ?_; rintro e w1 ⟨n, A1, c1, bs, f, rfl, ⟨hf0, hf7, hfl, _⟩, hc, hn, hds, hrb, hb1⟩
  have HR := Lib.hid hrb
  clear hrb hn
  have hz1 := hb1.size
  have hml := fromL_len n bs f
  go_wp2_with fail
  refine (fromPoint_any _ _ _ bs f _ (HR.out.bat.below (by repeat (first | with_reducible exact Below.refl _ _ | with_reducible refine valloc ?_ _ | with_reducible refine vdrew ?_ | with_reducible refine vdrewN ?_ _ | with_reducible refine via (by assumption) ?_ | refine vset ?_ (by first | exact Nat.le_refl _ | (simp; done) | (simp; omega) | omega) _))) (by omega)).mono ?_; rintro e w2 ⟨G1, C1, rfl, r1, hb2⟩
  have p0 : w2.cell? ⟨w1.heap.size, 0, none⟩ = some (.int .i64 n) := cB hb2 (by simp)
  have p1 : w2.cell? ⟨w1.heap.size, 1, none⟩ = some (.slice A1 bs.length c1) := cB hb2 (by simp)
  have R1 := Lib.hid r1
  clear r1
  go_wp2_with fail
  refine (specFromPoint_any _ _ _ bs f _ (HR.out.bat.below (by repeat (first | with_reducible exact Below.refl _ _ | with_reducible refine valloc ?_ _ | with_reducible refine vdrew ?_ | with_reducible refine vdrewN ?_ _ | with_reducible refine via (by assumption) ?_ | refine vset ?_ (by first | exact Nat.le_refl _ | (simp; done) | (simp; omega) | omega) _))) (by omega)).mono ?_; rintro e w3 ⟨G2, C2, rfl, r2, hb3⟩
  replace p0 := cB hb3 p0
  replace p1 := cB hb3 p1
  have R2 := Lib.hid r2
  clear r2
  go_wp2_with fail
  refine (sameInts_same _ _ _ _ (fromL n bs f) _ (R1.out.iat.below (by repeat (first | with_reducible exact Below.refl _ _ | with_reducible refine valloc ?_ _ | with_reducible refine vdrew ?_ | with_reducible refine vdrewN ?_ _ | with_reducible refine via (by assumption) ?_ | refine vset ?_ (by first | exact Nat.le_refl _ | (simp; done) | (simp; omega) | omega) _))) R2.out.iat (by omega)).mono ?_; rintro e w4 ⟨rfl, hb4⟩
  replace p0 := cB hb4 p0
  replace p1 := cB hb4 p1
  have B4 := Lib.hid (show Below w.heap.size w w4 from (by repeat (first | with_reducible exact Below.refl _ _ | with_reducible refine valloc ?_ _ | with_reducible refine vdrew ?_ | with_reducible refine vdrewN ?_ _ | with_reducible refine via (by assumption) ?_ | refine vset ?_ (by first | exact Nat.le_refl _ | (simp; done) | (simp; omega) | omega) _)))
  have Q4 := Lib.hid (show BAt w4 A1 bs from HR.out.bat.below (by repeat (first | with_reducible exact Below.refl _ _ | with_reducible refine valloc ?_ _ | with_reducible refine vdrew ?_ | with_reducible refine vdrewN ?_ _ | with_reducible refine via (by assumption) ?_ | refine vset ?_ (by first | exact Nat.le_refl _ | (simp; done) | (simp; omega) | omega) _)))
  have X4 := Lib.hid (show IAt w4 G2 (fromL n bs f) from R2.out.iat.below (by repeat (first | with_reducible exact Below.refl _ _ | with_reducible refine valloc ?_ _ | with_reducible refine vdrew ?_ | with_reducible refine vdrewN ?_ _ | with_reducible refine via (by assumption) ?_ | refine vset ?_ (by first | exact Nat.le_refl _ | (simp; done) | (simp; omega) | omega) _)))
  clear hb1 hb2 hb3 hb4 hB hc R1 R2 HR
  cases hb : fromB n bs f
  · have e0 : fromL n bs f = [] := by simp [fromL, hb]
    rw [e0]
    clear hml X4 hb e0
    go_wp2_with fail
    refine (alive_any _).mono ?_; rintro e w5 ⟨rfl, hb5⟩
    go_wp2
    go_ret
    exact ⟨rfl, via hb5 B4.out⟩
  · obtain ⟨hfit, f0, f1, eL⟩ := fromB_of hb
    obtain ⟨z0, hlaw⟩ := from_law hb
    obtain ⟨_, _, _, hin⟩ := planOk_of (fits_plan hfit)
    obtain ⟨N, hN, n1, n6⟩ := fit_nat hfit
    subst hN
    obtain ⟨i, rfl⟩ := Int.eq_ofNat_of_zero_le f0
    have HIN := Lib.hid hin
    have HBD := Lib.hid (fun j (hj : j < N) => closed_bound hfit i j (by omega) hj)
    have HLAW := Lib.hid hlaw
    rw [Int.toNat_natCast, Int.toNat_natCast] at eL
    rw [Int.toNat_natCast] at z0
    have XC := Lib.hid (show ∀ j, j < N → (fromL N bs i)[j]? = some (closedT N bs i j) from fun j hj => by rw [eL]; exact rowTo_at _ _ _ _ hj)
    have hll : (fromL N bs i).length = N := by rw [eL, rowTo_length]
    have Z0 := Lib.hid z0
    have HLL := Lib.hid hll
    clear hb hfit hin hlaw z0 eL hml
    generalize fromL N bs i = L at *
    clear hll
    go_wp2
    go_loopw [9] (fun k W => ∃ kk : Nat, kk ≤ bs.length ∧ k = .int .i64 kk ∧ Below w4.heap.size w4 W) (fun k _ => bs.length - (intOf k).toNat)
    case atStart => exact ⟨0, Nat.zero_le _, rfl, Below.refl _ _⟩
    case round =>
      obtain ⟨k, hk, rfl, hb⟩ := hrel
      have q0 := cB hb p0
      have q1 := cB hb p1
      have HB := Lib.hid hb
      by_cases hlt : k < bs.length
      · obtain ⟨b, off, x, eA, hbl, hx, hxm, c0, c1', c2⟩ := (Q4.out.below hb).at_ hlt
        obtain ⟨g0, g1, g2, g3, g4, g5⟩ := HIN.out x hxm
        have hlw := HLAW.out x hxm
        obtain ⟨fx, tx, mx⟩ := x
        simp only at c0 c1' c2 g0 g1 g2 g3 g4 g5 hlw
        obtain ⟨fx, rfl⟩ := Int.eq_ofNat_of_zero_le g0
        obtain ⟨tx, rfl⟩ := Int.eq_ofNat_of_zero_le g2
        rw [Int.toNat_natCast, Int.toNat_natCast, Int.toNat_natCast] at hlw
        have hfx : fx < N := by omega
        have htx : tx < N := by omega
        obtain ⟨bx, ox, v1, eX, hblx, hv1, _, d1⟩ := (X4.out.below hb).at_ (show fx < L.length by have := HLL.out; omega)
        obtain ⟨bx', ox', v2, eX', hblx', hv2, _, d2⟩ := (X4.out.below hb).at_ (show tx < L.length by have := HLL.out; omega)
        have ee := eX.symm.trans eX'
        cases ee
        subst eX; subst eA
        have ev1 : v1 = closedT N bs i fx := by rw [XC.out fx hfx] at hv1; injection hv1 with h; exact h.symm
        have ev2 : v2 = closedT N bs i tx := by rw [XC.out tx htx] at hv2; injection hv2 with h; exact h.symm
        rw [← ev1, ← ev2] at hlw
        have bd1 := HBD.out fx hfx
        rw [← ev1] at bd1
        clear hx hxm eX' hv1 hv2 ev1 ev2 hb
        go_wp2
        obtain ⟨w5, hw5⟩ : ∃ w5, w5 = wr.alloc (.cells #[.int .i64 (fx : Int), .int .i64 (tx : Int), .int .i64 mx] 43) := ⟨_, rfl⟩
        have Q5 : Blk w5 wr.heap.size 43 #[.int .i64 (fx : Int), .int .i64 (tx : Int), .int .i64 mx] := by subst hw5; exact Blk.new _ _ _
        have B5 : Below w4.heap.size w4 w5 := by subst hw5; exact valloc HB.out _
        have d1' : w5.cell? ⟨bx, ox + fx, none⟩ = some (.int .i64 v1) := by subst hw5; exact cA d1 _
        have d2' : w5.cell? ⟨bx, ox + tx, none⟩ = some (.int .i64 v2) := by subst hw5; exact cA d2 _
        rw [← hw5]
        clear hw5 c0 c1' c2 q0 q1 d1 d2
        have b0 : w5.cell? ⟨wr.heap.size, 0, none⟩ = some (.int .i64 (fx : Int)) := Q5.cell 0
        have b1 : w5.cell? ⟨wr.heap.size, 1, none⟩ = some (.int .i64 (tx : Int)) := Q5.cell 1
        have b2 : w5.cell? ⟨wr.heap.size, 2, none⟩ = some (.int .i64 mx) := Q5.cell 2
        have i0 : (0 : Int) ≤ (fx : Int) := by omega
        have i1 : (fx : Int) < (L.length : Int) := by have := HLL.out; omega
        have i2 : (0 : Int) ≤ (tx : Int) := by omega
        have i3 : (tx : Int) < (L.length : Int) := by have := HLL.out; omega
        clear Q5
        by_cases hfar : v1 < 100000
        · obtain ⟨l1, l2, l3⟩ := hlw hfar
          have hd : decide (v1 < 100000) = true := decide_eq_true hfar
          have hwv : IntKind.i64.wrap (v1 + mx) = v1 + mx := IntWalk.i64_in _ ⟨by omega, by omega⟩
          have hd2 : decide (v1 + mx < v2) = false := decide_eq_false (by omega)
          clear hlw hfar
          go_quiet (fail)
          go_wp2
          go_roundw
          case rel => exact ⟨k + 1, by omega, by go_num, vdrewN B5 _⟩
          case measure => simp [intOf]; omega
        · have hd : decide (v1 < 100000) = false := decide_eq_false hfar
          clear hlw hfar
          go_quiet (fail)
          go_wp2
          go_roundw
          case rel => exact ⟨k + 1, by omega, by go_num, vdrewN B5 _⟩
          case measure => simp [intOf]; omega
      · obtain ⟨bx, ox, v1, eX, hblx, hv1, _, d1⟩ := (X4.out.below hb).at_ (show i < L.length by have := HLL.out; omega)
        have ev1 : v1 = 0 := by rw [XC.out i (by omega), Z0.out] at hv1; injection hv1 with h; exact h.symm
        subst eX; subst ev1
        have i0 : (0 : Int) ≤ (i : Int) := by omega
        have i1 : (i : Int) < (L.length : Int) := by have := HLL.out; omega
        clear hv1 hb
        go_wp2
        go_ret
        exact ⟨rfl, via HB.out B4.out⟩
end Go.Proofs.Ytnompncmachgjaa
