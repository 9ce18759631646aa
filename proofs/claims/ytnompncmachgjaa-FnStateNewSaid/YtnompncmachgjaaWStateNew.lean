/- The walk of the law FnStateNew: it returns true and changes nothing that was there; for codes of bytes. -/
import Derived.Test.YtnompncmachgjaaAlive
import Derived.Test.YtnompncmachgjaaPlainL5
import Derived.Test.YtnompncmachgjaaKJ
import Derived.Test.YtnompncmachgjaaKB
namespace Go.Proofs.Ytnompncmachgjaa
open Go.RowKit
set_option linter.unusedVariables false
set_option maxRecDepth 10000
set_option linter.unusedSimpArgs false

theorem sameState_same (A A' : Option Addr) (c c' : Nat) (now : Int) (xs : List Int) (w : World) (h : IAt w A xs) (h' : IAt w A' xs) (hlen : xs.length ≤ 1099511627776) :
    Calls Try.prog 48 #[.agg #[.int .i64 now, .slice A xs.length c], .agg #[.int .i64 now, .slice A' xs.length c']] w fun e w' => e = .returned (.bool true) ∧ Below w.heap.size w w' := by
  go_enter Try.func48, Try.ntmps48
  go_wp2_with fail
  refine (sameInts_same _ _ _ _ xs _ (h.below (by repeat (first | with_reducible exact Below.refl _ _ | with_reducible refine valloc ?_ _ | with_reducible refine vdrew ?_ | with_reducible refine vdrewN ?_ _ | with_reducible refine via (by assumption) ?_ | refine vset ?_ (by first | exact Nat.le_refl _ | (simp; done) | (simp; omega) | omega) _))) (h'.below (by repeat (first | with_reducible exact Below.refl _ _ | with_reducible refine valloc ?_ _ | with_reducible refine vdrew ?_ | with_reducible refine vdrewN ?_ _ | with_reducible refine via (by assumption) ?_ | refine vset ?_ (by first | exact Nat.le_refl _ | (simp; done) | (simp; omega) | omega) _))) hlen).mono ?_; rintro e w1 ⟨rfl, hb1⟩
  go_wp2
  go_ret
  refine ⟨rfl, ?_⟩
  repeat (first | with_reducible exact Below.refl _ _ | with_reducible refine valloc ?_ _ | with_reducible refine vdrew ?_ | with_reducible refine vdrewN ?_ _ | with_reducible refine via (by assumption) ?_ | refine vset ?_ (by first | exact Nat.le_refl _ | (simp; done) | (simp; omega) | omega) _)
theorem IAt_nil (W : World) (A : Option Addr) : IAt W A [] := fun h0 => absurd h0 (by simp)
set_option maxHeartbeats 1000000 in
theorem FnStateNew_walk (A : Option Addr) (c : Nat) (xs : List Int) (w : World) (hB : Bytes w A c xs) (hl : xs.length ≤ 9223372036854775807) :
    Calls Try.prog 9 #[.slice A xs.length c] w fun e w' => e = .returned (.bool true) ∧ Below w.heap.size w w' := by
  by_cases hL : (1048576 : Int) < (xs.length : Int)
  · go_enter Try.func9, Try.ntmps9
    go_wp2
    go_ret
    exact ⟨rfl, Below.refl _ _⟩
  go_enter Try.func9, Try.ntmps9
  go_wp2_with fail
  refine (drawStateNew_any A c xs _ hB).mono ?_; rintro e w1 ⟨n, A1, c1, bs, rfl, ⟨hf0, hf7, hfl, _⟩, hc, hn, hrb, hb1⟩
  have HR := Lib.hid hrb
  have HN := Lib.hid hn
  clear hrb hn
  have hz1 := hb1.size
  have hml := newL_len n bs
  go_wp2_with fail
  refine (stateNew_any _ _ _ bs _ (HR.out.bat.below (by repeat (first | with_reducible exact Below.refl _ _ | with_reducible refine valloc ?_ _ | with_reducible refine vdrew ?_ | with_reducible refine vdrewN ?_ _ | with_reducible refine via (by assumption) ?_ | refine vset ?_ (by first | exact Nat.le_refl _ | (simp; done) | (simp; omega) | omega) _))) (by omega)).mono ?_; rintro e w2 ⟨G1, C1, rfl, r1, hb2⟩
  have p0 : w2.cell? ⟨w1.heap.size, 0, none⟩ = some (.int .i64 n) := cB hb2 (by simp)
  have p1 : w2.cell? ⟨w1.heap.size, 1, none⟩ = some (.slice A1 bs.length c1) := cB hb2 (by simp)
  have hz2 := hb2.size
  simp only [sz] at hz2
  have hlt2 : w1.heap.size < w2.heap.size := by omega
  have R1 := Lib.hid r1
  clear r1
  go_wp2_with fail
  refine (specStateNew_any _ _ _ bs _ (HR.out.bat.below (by repeat (first | with_reducible exact Below.refl _ _ | with_reducible refine valloc ?_ _ | with_reducible refine vdrew ?_ | with_reducible refine vdrewN ?_ _ | with_reducible refine via (by assumption) ?_ | refine vset ?_ (by first | exact Nat.le_refl _ | (simp; done) | (simp; omega) | omega) _))) (by omega)).mono ?_; rintro e w3 ⟨G2, C2, rfl, r2, hb3⟩
  replace p0 := cB hb3 (cA p0 _)
  replace p1 := cB hb3 (cA p1 _)
  have s0 : w3.cell? ⟨w2.heap.size, 0, none⟩ = some (.int .i64 0) := cB hb3 (by simp)
  have s1 : w3.cell? ⟨w2.heap.size, 1, none⟩ = some (.slice G1 (newL n bs).length C1) := cB hb3 (by simp)
  have hz3 := hb3.size
  simp only [sz] at hz3
  have hlt3 : w2.heap.size < w3.heap.size := by omega
  have hlt31 : w1.heap.size < w3.heap.size := by omega
  have R2 := Lib.hid r2
  clear r2
  go_wp2_with fail
  refine (sameState_same _ _ _ _ 0 (newL n bs) _ (R1.out.iat.below (by repeat (first | with_reducible exact Below.refl _ _ | with_reducible refine valloc ?_ _ | with_reducible refine vdrew ?_ | with_reducible refine vdrewN ?_ _ | with_reducible refine via (by assumption) ?_ | refine vset ?_ (by first | exact Nat.le_refl _ | (simp; done) | (simp; omega) | omega) _))) (R2.out.iat.below (by repeat (first | with_reducible exact Below.refl _ _ | with_reducible refine valloc ?_ _ | with_reducible refine vdrew ?_ | with_reducible refine vdrewN ?_ _ | with_reducible refine via (by assumption) ?_ | refine vset ?_ (by first | exact Nat.le_refl _ | (simp; done) | (simp; omega) | omega) _))) (by omega)).mono ?_; rintro e w4 ⟨rfl, hb4⟩
  replace p0 := cB hb4 (cA p0 _)
  replace p1 := cB hb4 (cA p1 _)
  replace s0 := cB hb4 (cA s0 _)
  replace s1 := cB hb4 (cA s1 _)
  have B4 := Lib.hid (show Below w.heap.size w w4 from (by repeat (first | with_reducible exact Below.refl _ _ | with_reducible refine valloc ?_ _ | with_reducible refine vdrew ?_ | with_reducible refine vdrewN ?_ _ | with_reducible refine via (by assumption) ?_ | refine vset ?_ (by first | exact Nat.le_refl _ | (simp; done) | (simp; omega) | omega) _)))
  have Q4 := Lib.hid (show BAt w4 A1 bs from HR.out.bat.below (by repeat (first | with_reducible exact Below.refl _ _ | with_reducible refine valloc ?_ _ | with_reducible refine vdrew ?_ | with_reducible refine vdrewN ?_ _ | with_reducible refine via (by assumption) ?_ | refine vset ?_ (by first | exact Nat.le_refl _ | (simp; done) | (simp; omega) | omega) _)))
  have X4 := Lib.hid (show IAt w4 G1 (newL n bs) from R1.out.iat.below (by repeat (first | with_reducible exact Below.refl _ _ | with_reducible refine valloc ?_ _ | with_reducible refine vdrew ?_ | with_reducible refine vdrewN ?_ _ | with_reducible refine via (by assumption) ?_ | refine vset ?_ (by first | exact Nat.le_refl _ | (simp; done) | (simp; omega) | omega) _)))
  have hz4 := hb4.size
  simp only [sz] at hz4
  have hlt4 : w2.heap.size < w4.heap.size := by omega
  have hlt41 : w1.heap.size < w4.heap.size := by omega
  clear hb1 hb2 hb3 hb4 hB hc R1 R2 HR
  cases hf : fitsOk n bs
  · have e0 : newL n bs = [] := by simp [newL, hf]
    rw [e0] at s1 ⊢
    clear hml X4
    have H0 := Lib.hid (fun W => sameState_same G1 none C1 0 0 [] W (IAt_nil _ _) (IAt_nil _ _) (by simp))
    go_wp2_with fail
    refine (H0.out _).mono ?_; rintro e w5 ⟨rfl, hb5⟩
    replace p0 := cB hb5 p0
    replace p1 := cB hb5 p1
    go_wp2_with fail
    refine (fitsOk_any _ _ _ bs _ (Q4.out.below (via hb5 (Below.refl _ _))) (by omega)).mono ?_; rintro e w6 ⟨rfl, hb6⟩
    rw [hf]
    go_wp2_with fail
    refine (alive_any _).mono ?_; rintro e w7 ⟨rfl, hb7⟩
    go_wp2
    go_ret
    exact ⟨rfl, via hb7 (via hb6 (via hb5 B4.out))⟩
  · have NL := Lib.hid (new_law hf)
    have SL := Lib.hid (stOk_new hf)
    obtain ⟨N, hN, n1, n6⟩ := fit_nat hf
    subst hN
    have MS := Lib.hid (mayNew_succ N bs)
    have M0 := Lib.hid (show mayNew N bs 0 = true from rfl)
    rw [Int.toNat_natCast] at NL
    clear hf
    go_wp2
    go_loopw [8, 9] (fun may j W => ∃ k : Nat, k ≤ N ∧ j = .int .i64 k ∧ may = .bool (mayNew N bs k) ∧ Below w4.heap.size w4 W) (fun _ j _ => N - (intOf j).toNat)
    case atStart => exact ⟨0, Nat.zero_le _, rfl, by rw [M0.out], Below.refl _ _⟩
    case round =>
      obtain ⟨k, hk, rfl, rfl, hb⟩ := hrel
      have q0 := cB hb p0
      have q1 := cB hb p1
      have t0 := cB hb s0
      have t1 := cB hb s1
      have HB := Lib.hid hb
      clear hb
      by_cases hlt : k < N
      · have MK := Lib.hid (MS.out k)
        go_wp2_with fail
        refine (mostOf_any _ _ _ bs 0 k _ (Q4.out.below HB.out) (by omega)).mono ?_; rintro e w5 ⟨rfl, hb5⟩
        have HB5 := Lib.hid (via hb5 HB.out)
        clear hb5
        generalize mostB N bs 0 k = mb at *
        generalize mostV N bs 0 k = mv at *
        generalize mayNew N bs k = my at *
        cases my <;> cases mb <;> by_cases hmv : 0 ≤ mv
        all_goals
          go_wp2
          go_roundw
          case rel => exact ⟨k + 1, by omega, by go_num, by rw [MK.out]; simp [hmv], HB5.out⟩
          case measure => simp [intOf]; omega
      · obtain rfl : k = N := by omega
        go_wp2_with fail
        refine (stateOk_any _ _ _ bs 0 _ _ (newL k bs) _ (Q4.out.below HB.out) (X4.out.below HB.out) (by omega) (by omega)).mono ?_; rintro e w5 ⟨rfl, hb5⟩
        replace q0 := cB hb5 q0
        replace q1 := cB hb5 q1
        replace t0 := cB hb5 t0
        replace t1 := cB hb5 t1
        rw [SL.out]
        go_wp2_with fail
        refine (goesOnOk_cap _ _ _ bs 0 _ _ (newL k bs) _ (Q4.out.below (via hb5 HB.out)) (X4.out.below (via hb5 HB.out)) HN.out (by omega) (by omega)).mono ?_; rintro e w6 ⟨rfl, hb6⟩
        rw [NL.out]
        generalize mayNew k bs k = my at *
        cases my
        all_goals
          go_wp2
          go_ret
          exact ⟨rfl, via hb6 (via hb5 (B4.out.trans (HB.out.mono B4.out.size)))⟩
end Go.Proofs.Ytnompncmachgjaa
