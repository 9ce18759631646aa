/- The walk of the law FnAlikeOk: it returns true and changes nothing that was there; for codes of bytes. -/
import Derived.Test.YtnompncmachgjaaAlive
import Derived.Test.YtnompncmachgjaaDrawAlike
import Derived.Test.YtnompncmachgjaaPlainL3
import Derived.Test.YtnompncmachgjaaKH
import Derived.Test.YtnompncmachgjaaSameT
import Derived.Test.YtnompncmachgjaaImplies
namespace Go.Proofs.Ytnompncmachgjaa
open Go.RowKit
set_option linter.unusedVariables false
set_option maxRecDepth 10000
set_option linter.unusedSimpArgs false

set_option maxHeartbeats 2000000 in
theorem FnAlikeOk_walk (A : Option Addr) (c : Nat) (xs : List Int) (w : World) (hB : Bytes w A c xs) (hl : xs.length ≤ 9223372036854775807) :
    Calls Try.prog 12 #[.slice A xs.length c] w fun e w' => e = .returned (.bool true) ∧ Below w.heap.size w w' := by
  by_cases hL : (1048576 : Int) < (xs.length : Int)
  · go_enter Try.func12, Try.ntmps12
    go_wp2
    go_ret
    exact ⟨rfl, Below.refl _ _⟩
  go_enter Try.func12, Try.ntmps12
  go_wp2_with fail
  refine (drawAlikeOk_any A c xs _ hB).mono ?_; rintro e w1 ⟨n, A1, c1, bs, m, A2, c2, cs, rfl, hl1, hl2, hr1, hr2, hb1⟩
  have HR1 := Lib.hid hr1
  have HR2 := Lib.hid hr2
  have HB1 := Lib.hid hb1
  clear hr1 hr2 hb1 hB
  go_upto_region 4 with (fail)
  refine name_c (fun w3 hw3 => ?_)
  obtain ⟨X1, hX1⟩ : ∃ X1, X1 = w1.heap.size := ⟨_, rfl⟩
  obtain ⟨X2, hX2⟩ : ∃ X2, X2 = w1.heap.size + 1 := ⟨_, rfl⟩
  have NP1 := Lib.hid (show Blk w3 X1 25 #[.int .i64 n, .slice A1 bs.length c1] by rw [hw3, hX1]; exact (Blk.new w1 _ _).alloc _)
  have NP2 := Lib.hid (show Blk w3 X2 25 #[.int .i64 m, .slice A2 cs.length c2] by rw [hw3, hX2]; exact Blk.new' (by rw [sz]) _ _)
  have NB := Lib.hid (show Below w.heap.size w w3 by rw [hw3]; exact valloc (valloc HB1.out _) _)
  have NQ := Lib.hid (show Below w1.heap.size w1 w3 by rw [hw3]; exact valloc (valloc (Below.refl _ _) _) _)
  have T1 := Lib.hid (HR1.out.bat.below NQ.out)
  have T2 := Lib.hid (HR2.out.bat.below NQ.out)
  rw [← hX2, ← hX1]
  have p0 : w3.cell? ⟨X1, 0, none⟩ = some (.int .i64 n) := NP1.out.cell 0
  have p1 : w3.cell? ⟨X1, 1, none⟩ = some (.slice A1 bs.length c1) := NP1.out.cell 1
  have q0 : w3.cell? ⟨X2, 0, none⟩ = some (.int .i64 m) := NP2.out.cell 0
  have q1 : w3.cell? ⟨X2, 1, none⟩ = some (.slice A2 cs.length c2) := NP2.out.cell 1
  clear hw3 hX1 hX2 NP1 NP2 NQ HR1 HR2 HB1
  obtain ⟨al, hal⟩ : ∃ al, al = (impliesOk n m bs cs && impliesOk m n cs bs) := ⟨_, rfl⟩
  have AL := Lib.hid hal
  have AL2 := Lib.hid (show (impliesOk m n cs bs && impliesOk n m bs cs) = al by rw [hal, Bool.and_comm])
  clear hal
  go_wp2_with fail
  refine (alikeOk_any n A1 c1 bs m A2 c2 cs _ T1.out T2.out (by omega) (by omega)).mono ?_; rintro e w4 ⟨rfl, hb4⟩
  rw [← AL.out]
  replace p0 := cB hb4 p0
  replace p1 := cB hb4 p1
  replace q0 := cB hb4 q0
  replace q1 := cB hb4 q1
  have U1 := Lib.hid (T1.out.below hb4)
  have U2 := Lib.hid (T2.out.below hb4)
  have UB := Lib.hid (via hb4 NB.out)
  clear hb4 T1 T2 NB
  go_wp2_with fail
  refine (specAlikeOk_any n A1 c1 bs m A2 c2 cs _ U1.out U2.out (by omega) (by omega)).mono ?_; rintro e w5 ⟨rfl, hb5⟩
  rw [← AL.out]
  replace p0 := cB hb5 p0
  replace p1 := cB hb5 p1
  replace q0 := cB hb5 q0
  replace q1 := cB hb5 q1
  have Q1 := Lib.hid (U1.out.below hb5)
  have Q2 := Lib.hid (U2.out.below hb5)
  have B5 := Lib.hid (via hb5 UB.out)
  have hbn : (al != al) = false := by simp
  clear hb5 U1 U2 UB
  go_wp2_with fail
  refine (specPlanOk_any n A1 c1 bs _ Q1.out (by omega)).mono ?_; rintro e w6 ⟨rfl, hb6⟩
  replace p0 := cB hb6 p0
  replace p1 := cB hb6 p1
  replace q0 := cB hb6 q0
  replace q1 := cB hb6 q1
  have V1 := Lib.hid (Q1.out.below hb6)
  have V2 := Lib.hid (Q2.out.below hb6)
  have B6' := Lib.hid (via hb6 B5.out)
  clear hb6 Q1 Q2 B5 hbn
  cases hp : planOk n bs
  · have e0 : al = false := by rw [AL.out]; simp [impliesOk, hp]
    subst e0
    clear hp
    go_wp2_with fail
    refine (alive_any _).mono ?_; rintro e w9 ⟨rfl, hb9⟩
    go_wp2
    go_ret
    exact ⟨rfl, via hb9 B6'.out⟩
  have HP := Lib.hid hp
  clear hp
  go_wp2_with fail
  refine (specPlanOk_any m A2 c2 cs _ V2.out (by omega)).mono ?_; rintro e w7 ⟨rfl, hb7⟩
  replace p0 := cB hb7 p0
  replace p1 := cB hb7 p1
  replace q0 := cB hb7 q0
  replace q1 := cB hb7 q1
  have Q1 := Lib.hid (V1.out.below hb7)
  have Q2 := Lib.hid (V2.out.below hb7)
  have B6 := Lib.hid (via hb7 B6'.out)
  clear hb7 V1 V2 B6'
  cases hq : planOk m cs
  · have e0 : al = false := by rw [AL.out]; simp [impliesOk, hq]
    subst e0
    clear hq
    go_wp2_with fail
    refine (alive_any _).mono ?_; rintro e w9 ⟨rfl, hb9⟩
    go_wp2
    go_ret
    exact ⟨rfl, via hb9 B6.out⟩
  have HQ := Lib.hid hq
  clear hq
  by_cases hnm : n = m
  · subst hnm
    have LAW := Lib.hid (alike_law HP.out HQ.out)
    rw [← AL.out] at LAW
    obtain ⟨N, hN, n1, n6⟩ : ∃ N : Nat, n = N ∧ 1 ≤ N ∧ N ≤ 6 := by
      have := planOk_of HP.out
      exact ⟨n.toNat, by omega, by omega, by omega⟩
    subst hN
    go_wp2_with fail
    refine (closedOf_any _ _ _ bs _ Q1.out (by omega)).mono ?_; rintro e w8 ⟨G1, C1, rfl, r1, hb8⟩
    replace p0 := cB hb8 p0
    replace p1 := cB hb8 p1
    replace q0 := cB hb8 q0
    replace q1 := cB hb8 q1
    have R1 := Lib.hid (r1.mat (Nat.le_refl _))
    have B8 := Lib.hid hb8
    clear r1 hb8
    go_wp2_with fail
    refine (closedOf_any _ _ _ cs _ (Q2.out.below B8.out) (by omega)).mono ?_; rintro e wa ⟨G2, C2, rfl, r2, hba⟩
    replace p0 := cB hba p0
    replace p1 := cB hba p1
    replace q0 := cB hba q0
    replace q1 := cB hba q1
    have R2 := Lib.hid (r2.mat (Nat.le_refl _))
    have BA := Lib.hid hba
    have BB := Lib.hid (via hba B8.out)
    clear r2 hba
    cases hf1 : fitsOk N bs <;> cases hf2 : fitsOk N cs
    · have e0 : al = true := by have := LAW.out; rw [hf1, hf2] at this; simpa using this
      subst e0
      clear hf1 hf2
      go_wp2_with fail
      refine (alikeOk_any N A2 c2 cs N A1 c1 bs _ (Q2.out.below (BB.out)) (Q1.out.below (BB.out)) (by omega) (by omega)).mono ?_; rintro e w9 ⟨rfl, hb9⟩
      rw [AL2.out]
      go_wp2
      go_ret
      exact ⟨rfl, via (via hb9 (BB.out)) B6.out⟩
    · have e0 : al = false := by have := LAW.out; rw [hf1, hf2] at this; simpa using this
      subst e0
      clear hf1 hf2
      go_wp2_with fail
      refine (alikeOk_any N A2 c2 cs N A1 c1 bs _ (Q2.out.below (BB.out)) (Q1.out.below (BB.out)) (by omega) (by omega)).mono ?_; rintro e w9 ⟨rfl, hb9⟩
      rw [AL2.out]
      go_wp2
      go_ret
      exact ⟨rfl, via (via hb9 (BB.out)) B6.out⟩
    · have e0 : al = false := by have := LAW.out; rw [hf1, hf2] at this; simpa using this
      subst e0
      clear hf1 hf2
      go_wp2_with fail
      refine (alikeOk_any N A2 c2 cs N A1 c1 bs _ (Q2.out.below (BB.out)) (Q1.out.below (BB.out)) (by omega) (by omega)).mono ?_; rintro e w9 ⟨rfl, hb9⟩
      rw [AL2.out]
      go_wp2
      go_ret
      exact ⟨rfl, via (via hb9 (BB.out)) B6.out⟩
    · have e0 : al = sameT N (closedT N bs) (closedT N cs) := by have := LAW.out; rw [hf1, hf2] at this; simpa using this
      have F1 := Lib.hid (show fitN N bs = N by simp [fitN, hf1])
      have F2 := Lib.hid (show fitN N cs = N by simp [fitN, hf2])
      rw [F1.out] at R1
      rw [F2.out] at R2
      rw [F1.out, F2.out]
      have E0 := Lib.hid e0
      clear hf1 hf2 e0
      go_wp2_with fail
      refine (sameTable_any _ _ _ _ N (closedT N bs) (closedT N cs) _ (R1.out.below BA.out) R2.out (by omega)).mono ?_; rintro e wb ⟨rfl, hbb⟩
      rw [← E0.out]
      replace p0 := cB hbb p0
      replace p1 := cB hbb p1
      replace q0 := cB hbb q0
      replace q1 := cB hbb q1
      have BC := Lib.hid (via hbb BB.out)
      clear hbb
      cases al
      · have hx9 : True := trivial
        go_wp2_with fail
        refine (alikeOk_any N A2 c2 cs N A1 c1 bs _ (Q2.out.below (BC.out)) (Q1.out.below (BC.out)) (by omega) (by omega)).mono ?_; rintro e w9 ⟨rfl, hb9⟩
        rw [AL2.out]
        go_wp2
        go_ret
        exact ⟨rfl, via (via hb9 (BC.out)) B6.out⟩
      · have hx9 : True := trivial
        go_wp2_with fail
        refine (alikeOk_any N A2 c2 cs N A1 c1 bs _ (Q2.out.below (BC.out)) (Q1.out.below (BC.out)) (by omega) (by omega)).mono ?_; rintro e w9 ⟨rfl, hb9⟩
        rw [AL2.out]
        go_wp2
        go_ret
        exact ⟨rfl, via (via hb9 (BC.out)) B6.out⟩
  · have hnm' : (n != m) = true := by simpa using hnm
    have e0 : al = false := by rw [AL.out]; simp [impliesOk, hnm]
    subst e0
    clear hnm
    go_wp2_with fail
    refine (alive_any _).mono ?_; rintro e w9 ⟨rfl, hb9⟩
    go_wp2
    go_ret
    exact ⟨rfl, via hb9 B6.out⟩
end Go.Proofs.Ytnompncmachgjaa
