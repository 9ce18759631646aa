/- The walk of the law FnMayBeOk: it returns true and changes nothing that was there; for codes of bytes. -/
import Derived.Test.YtnompncmachgjaaAlive
import Derived.Test.YtnompncmachgjaaDrawJ3
import Derived.Test.YtnompncmachgjaaPlainL3
import Derived.Test.YtnompncmachgjaaKF
import Derived.Test.YtnompncmachgjaaKE
namespace Go.Proofs.Ytnompncmachgjaa
open Go.RowKit
set_option linter.unusedVariables false
set_option maxRecDepth 10000
set_option linter.unusedSimpArgs false

theorem mayB_not {n : Int} {bs : List Bd} {f t b : Int} (h : fitsOk n bs = false ∨ n ≤ t ∨ 2000 < b) : mayB n bs f t b = false := by
  cases e : mayB n bs f t b with
  | false => rfl
  | true =>
    obtain ⟨h1, _, _, _, h2, _, h3, _⟩ := mayB_of e
    rcases h with h | h | h
    · rw [h] at h1; cases h1
    · omega
    · omega
set_option maxHeartbeats 1000000 in
theorem FnMayBeOk_walk (A : Option Addr) (c : Nat) (xs : List Int) (w : World) (hB : Bytes w A c xs) (hl : xs.length ≤ 9223372036854775807) :
    Calls Try.prog 8 #[.slice A xs.length c] w fun e w' => e = .returned (.bool true) ∧ Below w.heap.size w w' := by
  by_cases hL : (1048576 : Int) < (xs.length : Int)
  · go_enter Try.func8, Try.ntmps8
    go_wp2
    go_ret
    exact ⟨rfl, Below.refl _ _⟩
  go_enter Try.func8, Try.ntmps8
  go_wp2_with fail
  refine (drawMayBeOk_any A c xs _ hB).mono ?_; rintro e w1 ⟨n, A1, c1, bs, f, t, d, rfl, ⟨hf0, hf7, hfl, _⟩, hc, hn, hds, hrb, hb1⟩
  have HR := Lib.hid hrb
  clear hrb hn
  obtain ⟨ha0, hb0, hd1, hd2⟩ := hds
  have hz1 := hb1.size
  go_wp2_with fail
  refine (mayBeOk_any _ _ _ bs f t d _ (HR.out.bat.below (by repeat (first | with_reducible exact Below.refl _ _ | with_reducible refine valloc ?_ _ | with_reducible refine vdrew ?_ | with_reducible refine vdrewN ?_ _ | with_reducible refine via (by assumption) ?_ | refine vset ?_ (by first | exact Nat.le_refl _ | (simp; done) | (simp; omega) | omega) _))) (by omega)).mono ?_; rintro e w2 ⟨rfl, hb2⟩
  have p0 : w2.cell? ⟨w1.heap.size, 0, none⟩ = some (.int .i64 n) := cB hb2 (by simp)
  have p1 : w2.cell? ⟨w1.heap.size, 1, none⟩ = some (.slice A1 bs.length c1) := cB hb2 (by simp)
  go_wp2_with fail
  refine (specMayBeOk_any _ _ _ bs f t d _ (HR.out.bat.below (by repeat (first | with_reducible exact Below.refl _ _ | with_reducible refine valloc ?_ _ | with_reducible refine vdrew ?_ | with_reducible refine vdrewN ?_ _ | with_reducible refine via (by assumption) ?_ | refine vset ?_ (by first | exact Nat.le_refl _ | (simp; done) | (simp; omega) | omega) _))) (by omega)).mono ?_; rintro e w3 ⟨rfl, hb3⟩
  replace p0 := cB hb3 p0
  replace p1 := cB hb3 p1
  have B4 := Lib.hid (show Below w.heap.size w w3 from (by repeat (first | with_reducible exact Below.refl _ _ | with_reducible refine valloc ?_ _ | with_reducible refine vdrew ?_ | with_reducible refine vdrewN ?_ _ | with_reducible refine via (by assumption) ?_ | refine vset ?_ (by first | exact Nat.le_refl _ | (simp; done) | (simp; omega) | omega) _)))
  have Q4 := Lib.hid (show BAt w3 A1 bs from HR.out.bat.below (by repeat (first | with_reducible exact Below.refl _ _ | with_reducible refine valloc ?_ _ | with_reducible refine vdrew ?_ | with_reducible refine vdrewN ?_ _ | with_reducible refine via (by assumption) ?_ | refine vset ?_ (by first | exact Nat.le_refl _ | (simp; done) | (simp; omega) | omega) _)))
  clear hb1 hb2 hb3 hB hc HR
  cases hf : fitsOk n bs
  · have HF := Lib.hid hf
    clear hf
    rw [mayB_not (Or.inl HF.out)]
    go_wp2_with fail
    refine (specFitsOk_any _ _ _ bs _ Q4.out (by omega)).mono ?_; rintro e w5 ⟨rfl, hb5⟩
    rw [HF.out]
    replace p0 := cB hb5 p0
    replace p1 := cB hb5 p1
    go_wp2_with fail
    refine (alive_any _).mono ?_; rintro e w6 ⟨rfl, hb6⟩
    go_wp2
    go_ret
    exact ⟨rfl, via hb6 (via hb5 B4.out)⟩
  · have HF := Lib.hid hf
    clear hf
    by_cases h1 : n ≤ t
    · have hx9 : True := trivial
      rw [mayB_not (Or.inr (Or.inl h1))]
      go_wp2_with fail
      refine (specFitsOk_any _ _ _ bs _ Q4.out (by omega)).mono ?_; rintro e w5 ⟨rfl, hb5⟩
      rw [HF.out]
      replace p0 := cB hb5 p0
      replace p1 := cB hb5 p1
      go_wp2_with fail
      refine (alive_any _).mono ?_; rintro e w6 ⟨rfl, hb6⟩
      go_wp2
      go_ret
      exact ⟨rfl, via hb6 (via hb5 B4.out)⟩
    · by_cases h2 : 2000 < d
      · have hx9 : True := trivial
        rw [mayB_not (Or.inr (Or.inr h2))]
        go_wp2_with fail
        refine (specFitsOk_any _ _ _ bs _ Q4.out (by omega)).mono ?_; rintro e w5 ⟨rfl, hb5⟩
        rw [HF.out]
        replace p0 := cB hb5 p0
        replace p1 := cB hb5 p1
        go_wp2_with fail
        refine (alive_any _).mono ?_; rintro e w6 ⟨rfl, hb6⟩
        go_wp2
        go_ret
        exact ⟨rfl, via hb6 (via hb5 B4.out)⟩
      · have HBT := Lib.hid (fun k => mayB_between (n := n) (bs := bs) (f := f) (t := t) (b := d) (k := k))
        have MT := Lib.hid (mayB_turn (n := n) (bs := bs) (f := f) (t := t) (b := d))
        have hwd : IntKind.i64.wrap (-d) = -d := IntWalk.i64_in _ ⟨by omega, by omega⟩
        have hw40 : IntKind.i64.wrap (d + 40) = d + 40 := IntWalk.i64_in _ ⟨by omega, by omega⟩
        obtain ⟨o, ho⟩ : ∃ o, o = mayB n bs f t d := ⟨_, rfl⟩
        rw [← ho] at HBT MT ⊢
        clear ho
        go_wp2_with fail
        refine (specFitsOk_any _ _ _ bs _ Q4.out (by omega)).mono ?_; rintro e w5 ⟨rfl, hb5⟩
        rw [HF.out]
        replace p0 := cB hb5 p0
        replace p1 := cB hb5 p1
        have hz5 := hb5.size
        go_wp2_with fail
        refine (mostOf_any _ _ _ bs f t _ (Q4.out.below hb5) (by omega)).mono ?_; rintro e w6 ⟨rfl, hb6⟩
        replace p0 := cB hb6 p0
        replace p1 := cB hb6 p1
        have B6 := Lib.hid (via hb6 (via hb5 B4.out))
        have Q6 := Lib.hid ((Q4.out.below hb5).below hb6)
        clear hb5 hb6
        generalize mostV n bs f t = mv at *
        generalize mostB n bs f t = mb at *
        go_wp2
        go_loopw [10] (fun x W => ∃ j : Nat, j ≤ 41 ∧ x = .int .i64 (d + j) ∧ Below w6.heap.size w6 W) (fun x _ => 41 - (intOf x - d).toNat)
        case atStart => exact ⟨0, by omega, by simp, Below.refl _ _⟩
        case round =>
          obtain ⟨j, hj, rfl, hb⟩ := hrel
          have HB := Lib.hid hb
          clear hb
          cases o
          · have hx9 : True := trivial
            have q0 := cB HB.out p0
            have q1 := cB HB.out p1
            go_wp2_with fail
            refine (mayBeOk_any _ _ _ bs t f (-d) _ (Q6.out.below HB.out) (by omega)).mono ?_; rintro e w7 ⟨rfl, hb7⟩
            rw [MT.out]
            go_wp2
            go_ret
            exact ⟨rfl, via hb7 (via HB.out B6.out)⟩
          · cases mb
            · have hx9 : True := trivial
              have q0 := cB HB.out p0
              have q1 := cB HB.out p1
              go_wp2_with fail
              refine (mayBeOk_any _ _ _ bs t f (-d) _ (Q6.out.below HB.out) (by omega)).mono ?_; rintro e w7 ⟨rfl, hb7⟩
              rw [MT.out]
              go_wp2
              go_ret
              exact ⟨rfl, via hb7 (via HB.out B6.out)⟩
            · by_cases h3 : d + j ≤ mv
              · by_cases h4 : d + (j : Int) ≤ d + 40
                · have MB := HBT.out (d + j) rfl rfl (by omega) h3
                  have q0 := cB HB.out p0
                  have q1 := cB HB.out p1
                  go_wp2_with fail
                  refine (mayBeOk_any _ _ _ bs f t (d + j) _ (Q6.out.below HB.out) (by omega)).mono ?_; rintro e w7 ⟨rfl, hb7⟩
                  rw [MB]
                  clear MB
                  go_wp2
                  go_roundw
                  case rel => exact ⟨j + 1, by omega, by go_num, via hb7 HB.out⟩
                  case measure => simp [intOf]; omega
                · have hx9 : True := trivial
                  have q0 := cB HB.out p0
                  have q1 := cB HB.out p1
                  go_wp2_with fail
                  refine (mayBeOk_any _ _ _ bs t f (-d) _ (Q6.out.below HB.out) (by omega)).mono ?_; rintro e w7 ⟨rfl, hb7⟩
                  rw [MT.out]
                  go_wp2
                  go_ret
                  exact ⟨rfl, via hb7 (via HB.out B6.out)⟩
              · have hx9 : True := trivial
                have q0 := cB HB.out p0
                have q1 := cB HB.out p1
                go_wp2_with fail
                refine (mayBeOk_any _ _ _ bs t f (-d) _ (Q6.out.below HB.out) (by omega)).mono ?_; rintro e w7 ⟨rfl, hb7⟩
                rw [MT.out]
                go_wp2
                go_ret
                exact ⟨rfl, via hb7 (via HB.out B6.out)⟩
end Go.Proofs.Ytnompncmachgjaa
