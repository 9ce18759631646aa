/- The walk of the law FnClosedOf: it returns true and changes nothing that was there; for codes of bytes. -/
import Derived.Test.YtnompncmachgjaaAlive
import Derived.Test.YtnompncmachgjaaSameT
import Derived.Test.YtnompncmachgjaaFromPt
import Derived.Test.YtnompncmachgjaaKH
namespace Go.Proofs.Ytnompncmachgjaa
open Go.RowKit
set_option linter.unusedVariables false
set_option maxRecDepth 10000
set_option linter.unusedSimpArgs false

theorem sameInts_row (A A' : Option Addr) (c c' N : Nat) (xs : List Int) (w : World) (h : IAt w A xs) (h' : IAt w A' xs) (hl : xs.length = N) (hN : N ≤ 1000) :
    Calls Try.prog 20 #[.slice A N c, .slice A' N c'] w fun e w' => e = .returned (.bool true) ∧ Below w.heap.size w w' := by
  subst hl; exact sameInts_same A A' c c' xs w h h' (by omega)
theorem sameTable_same (A A' : Option Addr) (c c' N : Nat) (T : Tab) (w : World) (h : MAt w A N N T) (h' : MAt w A' N N T) (hN : N ≤ 1000) :
    Calls Try.prog 36 #[.slice A N c, .slice A' N c'] w fun e w' => e = .returned (.bool true) ∧ Below w.heap.size w w' := by
  have := sameTable_any A A' c c' N T T w h h' hN
  rwa [sameT_self] at this
set_option maxHeartbeats 2000000 in
theorem FnClosedOf_walk (A : Option Addr) (c : Nat) (xs : List Int) (w : World) (hB : Bytes w A c xs) (hl : xs.length ≤ 9223372036854775807) :
    Calls Try.prog 6 #[.slice A xs.length c] w fun e w' => e = .returned (.bool true) ∧ Below w.heap.size w w' := by
  by_cases hL : (1048576 : Int) < (xs.length : Int)
  · go_enter Try.func6, Try.ntmps6
    go_wp2
    go_ret
    exact ⟨rfl, Below.refl _ _⟩
  go_enter Try.func6, Try.ntmps6
  go_wp2_with fail
  refine (drawClosedOf_any A c xs _ hB).mono ?_; rintro e w1 ⟨n, A1, c1, bs, rfl, ⟨hf0, hf7, hfl, _⟩, hc, hn, hrb, hb1⟩
  have HR := Lib.hid hrb
  clear hrb hn
  have hz1 := hb1.size
  have hml := fitN_le n bs
  go_wp2_with fail
  refine (closedOf_any _ _ _ bs _ (HR.out.bat.below (by repeat (first | with_reducible exact Below.refl _ _ | with_reducible refine valloc ?_ _ | with_reducible refine vdrew ?_ | with_reducible refine vdrewN ?_ _ | with_reducible refine via (by assumption) ?_ | refine vset ?_ (by first | exact Nat.le_refl _ | (simp; done) | (simp; omega) | omega) _))) (by omega)).mono ?_; rintro e w2 ⟨G1, C1, rfl, r1, hb2⟩
  have p0 : w2.cell? ⟨w1.heap.size, 0, none⟩ = some (.int .i64 n) := cB hb2 (by simp)
  have p1 : w2.cell? ⟨w1.heap.size, 1, none⟩ = some (.slice A1 bs.length c1) := cB hb2 (by simp)
  have R1 := Lib.hid (r1.mat (Nat.le_refl _))
  clear r1
  go_wp2_with fail
  refine (specClosedOf_any _ _ _ bs _ (HR.out.bat.below (by repeat (first | with_reducible exact Below.refl _ _ | with_reducible refine valloc ?_ _ | with_reducible refine vdrew ?_ | with_reducible refine vdrewN ?_ _ | with_reducible refine via (by assumption) ?_ | refine vset ?_ (by first | exact Nat.le_refl _ | (simp; done) | (simp; omega) | omega) _))) (by omega)).mono ?_; rintro e w3 ⟨G2, C2, rfl, r2, hb3⟩
  replace p0 := cB hb3 p0
  replace p1 := cB hb3 p1
  have R2 := Lib.hid (r2.mat (Nat.le_refl _))
  clear r2
  go_wp2_with fail
  refine (sameTable_same _ _ _ _ (fitN n bs) (closedT n bs) _ (R1.out.below (by repeat (first | with_reducible exact Below.refl _ _ | with_reducible refine valloc ?_ _ | with_reducible refine vdrew ?_ | with_reducible refine vdrewN ?_ _ | with_reducible refine via (by assumption) ?_ | refine vset ?_ (by first | exact Nat.le_refl _ | (simp; done) | (simp; omega) | omega) _))) R2.out (by omega)).mono ?_; rintro e w4 ⟨rfl, hb4⟩
  replace p0 := cB hb4 p0
  replace p1 := cB hb4 p1
  have B4 := Lib.hid (show Below w.heap.size w w4 from (by repeat (first | with_reducible exact Below.refl _ _ | with_reducible refine valloc ?_ _ | with_reducible refine vdrew ?_ | with_reducible refine vdrewN ?_ _ | with_reducible refine via (by assumption) ?_ | refine vset ?_ (by first | exact Nat.le_refl _ | (simp; done) | (simp; omega) | omega) _)))
  have Q4 := Lib.hid (show BAt w4 A1 bs from HR.out.bat.below (by repeat (first | with_reducible exact Below.refl _ _ | with_reducible refine valloc ?_ _ | with_reducible refine vdrew ?_ | with_reducible refine vdrewN ?_ _ | with_reducible refine via (by assumption) ?_ | refine vset ?_ (by first | exact Nat.le_refl _ | (simp; done) | (simp; omega) | omega) _)))
  have X4 := Lib.hid (show MAt w4 G2 (fitN n bs) (fitN n bs) (closedT n bs) from R2.out.below (by repeat (first | with_reducible exact Below.refl _ _ | with_reducible refine valloc ?_ _ | with_reducible refine vdrew ?_ | with_reducible refine vdrewN ?_ _ | with_reducible refine via (by assumption) ?_ | refine vset ?_ (by first | exact Nat.le_refl _ | (simp; done) | (simp; omega) | omega) _)))
  clear hb1 hb2 hb3 hb4 hB hc R1 R2 HR
  cases hf : fitsOk n bs
  · have e0 : fitN n bs = 0 := by simp [fitN, hf]
    rw [e0]
    have HF := Lib.hid hf
    clear hml X4 hf e0
    go_wp2_with fail
    refine (fitsOk_any _ _ _ bs _ Q4.out (by omega)).mono ?_; rintro e w5 ⟨rfl, hb5⟩
    rw [HF.out]
    go_wp2_with fail
    refine (alive_any _).mono ?_; rintro e w6 ⟨rfl, hb6⟩
    go_wp2
    go_ret
    exact ⟨rfl, via hb6 (via hb5 B4.out)⟩
  · obtain ⟨N, hN, n1, n6⟩ := fit_nat hf
    subst hN
    have e0 : fitN N bs = N := by simp [fitN, hf]
    have et : tabN N bs = N := by simp [tabN, fits_plan hf]
    have HF := Lib.hid hf
    have HET := Lib.hid et
    rw [e0] at X4 ⊢
    clear hml hf e0 et
    go_wp2_with fail
    refine (tableOf_any _ _ _ bs _ Q4.out (by omega)).mono ?_; rintro e w5 ⟨G3, C3, rfl, r3, hb5⟩
    replace p0 := cB hb5 p0
    replace p1 := cB hb5 p1
    rw [HET.out] at r3 ⊢
    have B5 := Lib.hid (via hb5 B4.out)
    have Q5 := Lib.hid (Q4.out.below hb5)
    have X5 := Lib.hid (X4.out.below hb5)
    have Y5 := Lib.hid (r3.mat (Nat.le_refl _))
    have DL := Lib.hid (fun i j (hi : i < N) (hj : j < N) => closed_le_ent HF.out hi hj)
    have DZ := Lib.hid (fun i (hi : i < N) => closed_zero HF.out hi)
    have DB := Lib.hid (fun i j (hi : i < N) (hj : j < N) => closed_bound HF.out i j hi hj)
    have DT := Lib.hid (fun i j k (hi : i < N) (hj : j < N) (hk : k < N) a b => closed_law HF.out hi hj hk a b)
    have FB := Lib.hid (fun i (hi : i < N) => show fromB N bs (i : Int) = true by unfold fromB; rw [HF.out, (inB_iff _ _ _).2 ⟨by omega, by omega⟩]; rfl)
    have FL := Lib.hid (fun i (hi : i < N) => show fromL N bs (i : Int) = rowTo (closedT N bs) i N by unfold fromL; rw [if_pos (FB.out i hi)]; simp)
    clear hb5 r3 Q4 X4 B4
    generalize closedT N bs = T at *
    generalize ent bs = E at *
    go_wp2
    go_loopw [9] (fun i W => ∃ ii : Nat, ii ≤ N ∧ i = .int .i64 ii ∧ Below w5.heap.size w5 W) (fun i _ => N - (intOf i).toNat)
    case atStart => exact ⟨0, Nat.zero_le _, rfl, Below.refl _ _⟩
    case round =>
      obtain ⟨i, hi, rfl, hb⟩ := hrel
      have q0 := cB hb p0
      have q1 := cB hb p1
      have HB := Lib.hid hb
      clear hb
      by_cases hlt : i < N
      · go_wp2_with fail
        refine (fromPoint_any _ _ _ bs (i : Int) _ (Q5.out.below HB.out) (by omega)).mono ?_; rintro e w6 ⟨G4, C4, rfl, r4, hb6⟩
        rw [FB.out i hlt, FL.out i hlt, rowTo_length]
        rw [FL.out i hlt] at r4
        have HB6 := Lib.hid (via hb6 HB.out)
        have R4 := Lib.hid r4.iat
        have q0' := cB hb6 q0
        have q1' := cB hb6 q1
        clear q0 q1 r4 hb6
        obtain ⟨gx, ox, bi, oi, ci, rfl, hgx, xr, hbi, xc⟩ := (X5.out.below HB6.out).at_ hlt
        obtain ⟨gy, oy, yi, pi, di, rfl, hgy, yr, hyi, yc⟩ := (Y5.out.below HB6.out).at_ hlt
        have xd := xc i hlt
        rw [DZ.out i hlt] at xd
        have hi0 : (0 : Int) ≤ (i : Int) := by omega
        have hi1 : (i : Int) < (N : Int) := by omega
        have XI := Lib.hid (rowIAt hbi xc)
        clear xc yc
        go_wp2_with fail
        refine (sameInts_row _ _ _ _ N (rowTo T i N) _ R4.out XI.out (rowTo_length _ _ _) (by omega)).mono ?_; rintro e w7 ⟨rfl, hb7⟩
        replace xr := cB hb7 xr
        replace yr := cB hb7 yr
        replace xd := cB hb7 xd
        have HB7 := Lib.hid (via hb7 HB6.out)
        clear hb7
        go_wp2
        go_loopw [12] (fun j W => ∃ jj : Nat, jj ≤ N ∧ j = .int .i64 jj ∧ Below w5.heap.size w5 W) (fun j _ => N - (intOf j).toNat)
        case atStart => exact ⟨0, Nat.zero_le _, rfl, HB7.out⟩
        case round =>
          obtain ⟨j, hj, rfl, hb⟩ := hrel
          have HB8 := Lib.hid hb
          clear hb xr yr xd
          by_cases hlt2 : j < N
          · obtain ⟨gx', ox', bi, oi, ci, e1, hgx, xr, hbi, xc⟩ := (X5.out.below HB8.out).at_ hlt
            cases e1
            obtain ⟨gy', oy', yi, pi, di, e2, hgy, yr, hyi, yc⟩ := (Y5.out.below HB8.out).at_ hlt
            cases e2
            have x1 := xc j hlt2
            have y1 := yc j hlt2
            have hle : decide (E i j < T i j) = false := decide_eq_false (by have := DL.out i j hlt hlt2; omega)
            have hj0 : (0 : Int) ≤ (j : Int) := by omega
            have hj1 : (j : Int) < (N : Int) := by omega
            clear xc yc
            go_wp2
            go_quiet (fail)
            go_wp2
            clear hle y1 yr
            go_loopw [13] (fun k W => ∃ kk : Nat, kk ≤ N ∧ k = .int .i64 kk ∧ Below w5.heap.size w5 W) (fun k _ => N - (intOf k).toNat)
            case atStart => exact ⟨0, Nat.zero_le _, rfl, vdrewN HB8.out _⟩
            case round =>
              obtain ⟨k, hk, rfl, hb⟩ := hrel
              have HB9 := Lib.hid hb
              clear hb xr x1
              by_cases hlt3 : k < N
              · obtain ⟨gx', ox', bi, oi, ci, e1, hgx, xr, hbi, xc⟩ := (X5.out.below HB9.out).at_ hlt
                cases e1
                obtain ⟨gx', ox', bk, ok, ck, e1, hgx', kr, hbk, kc⟩ := (X5.out.below HB9.out).at_ hlt3
                cases e1
                have x1 := xc j hlt2
                have x2 := xc k hlt3
                have x3 := kc j hlt2
                have hk0 : (0 : Int) ≤ (k : Int) := by omega
                have hk1 : (k : Int) < (N : Int) := by omega
                have b1 := DB.out i k hlt hlt3
                have b2 := DB.out k j hlt3 hlt2
                have hlw := DT.out i j k hlt hlt2 hlt3
                clear xc kc
                generalize T i j = tij at *
                generalize T i k = tik at *
                generalize T k j = tkj at *
                go_wp2
                by_cases h1 : tik < 100000
                · by_cases h2 : tkj < 100000
                  · have hl3 := hlw h1 h2
                    have d1 : decide (tik < 100000) = true := decide_eq_true h1
                    have d2 : decide (tkj < 100000) = true := decide_eq_true h2
                    have hws : IntKind.i64.wrap (tik + tkj) = tik + tkj := IntWalk.i64_in _ ⟨by omega, by omega⟩
                    have d3 : decide (tik + tkj < tij) = false := decide_eq_false (by omega)
                    clear h1 h2 hlw hl3
                    go_quiet (fail)
                    go_wp2
                    go_roundw
                    case rel => exact ⟨k + 1, by omega, by go_num, vdrewN HB9.out _⟩
                    case measure => simp [intOf]; omega
                  · have d1 : decide (tik < 100000) = true := decide_eq_true h1
                    have d2 : decide (tkj < 100000) = false := decide_eq_false h2
                    clear h1 h2 hlw
                    go_quiet (fail)
                    go_wp2
                    go_roundw
                    case rel => exact ⟨k + 1, by omega, by go_num, vdrewN HB9.out _⟩
                    case measure => simp [intOf]; omega
                · have d1 : decide (tik < 100000) = false := decide_eq_false h1
                  clear h1 hlw
                  go_quiet (fail)
                  go_wp2
                  go_roundw
                  case rel => exact ⟨k + 1, by omega, by go_num, vdrewN HB9.out _⟩
                  case measure => simp [intOf]; omega
              · obtain rfl : k = N := by omega
                go_wp2
                go_roundw
                case rel => exact ⟨j + 1, by omega, by go_num, HB9.out⟩
                case measure => simp [intOf]; omega
          · obtain rfl : j = N := by omega
            go_wp2
            go_roundw
            case rel => exact ⟨i + 1, by omega, by go_num, HB8.out⟩
            case measure => simp [intOf]; omega
      · go_wp2
        go_ret
        exact ⟨rfl, via HB.out B5.out⟩
end Go.Proofs.Ytnompncmachgjaa
