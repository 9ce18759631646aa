/- Contracts of GoesOnOk, of the program and of the reference; for slices of at most 2^40 elements. -/
import Derived.Test.YtedpaanhnbodfaaGoes
import Derived.Deep.RegionHeld3
namespace Go.Proofs.Ytedpaanhnbodfaa
open Go.RowKit
set_option linter.unusedVariables false
set_option maxRecDepth 10000
set_option linter.unusedSimpArgs false

theorem bd1 (w : World) (f t m : Int) : BAt (w.alloc (.cells #[.int .i64 f, .int .i64 t, .int .i64 m] 55)) (some ⟨w.heap.size, 0, none⟩) [⟨f, t, m⟩] := by
  intro _
  refine ⟨w.heap.size, 0, rfl, by simp, fun i x hx => ?_⟩
  match i, hx with
  | 0, hx => simp at hx; subst hx; exact ⟨by simp, by simp, by simp⟩
  | i + 1, hx => simp at hx
theorem bd2 (w : World) (f t m f' t' m' : Int) : BAt (w.alloc (.cells #[.int .i64 f, .int .i64 t, .int .i64 m, .int .i64 f', .int .i64 t', .int .i64 m'] 55)) (some ⟨w.heap.size, 0, none⟩) [⟨f, t, m⟩, ⟨f', t', m'⟩] := by
  intro _
  refine ⟨w.heap.size, 0, rfl, by simp, fun i x hx => ?_⟩
  match i, hx with
  | 0, hx => simp at hx; subst hx; exact ⟨by simp, by simp, by simp⟩
  | 1, hx => simp at hx; subst hx; exact ⟨by simp, by simp, by simp⟩
  | i + 2, hx => simp at hx
theorem goB_no {now : Int} {xs : List Int} {k : Nat} (h : nthI xs k = -1) : goB now xs (k + 1) = goB now xs k ++ [⟨k, 0, -now⟩] := by
  show goB now xs k ++ _ = _; rw [if_pos h]
theorem goB_yes {now : Int} {xs : List Int} {k : Nat} {x : Int} (hx : nthI xs k = x) (h : ¬ x = -1) : goB now xs (k + 1) = goB now xs k ++ [⟨0, k, x⟩, ⟨k, 0, -x⟩] := by
  show goB now xs k ++ _ = _; rw [hx, if_neg h]
set_option maxHeartbeats 1000000 in
theorem goesOnOk_any (n : Int) (A : Option Addr) (bs : List Bd) (now : Int) (A' : Option Addr) (c' : Nat) (xs : List Int) (w : World) (h : BAt w A bs) (h' : IAt w A' xs) (hlen : bs.length ≤ 1099511627776) (hlen' : xs.length ≤ 1099511627776) :
    Calls Try.prog 75 #[.agg #[.int .i64 n, .slice A bs.length bs.length], .agg #[.int .i64 now, .slice A' xs.length c']] w fun e w' => e = .returned (.bool (goV n bs now xs)) ∧ Below w.heap.size w w' := by
  cases hs : stOk n bs now xs
  · have HR := Lib.hid (show goV n bs now xs = false by simp [goV, hs])
    go_enter Try.func75, Try.ntmps75
    go_wp2_with fail
    refine (stateOk_any _ _ _ bs _ _ _ xs _ (h.below (by repeat (first | with_reducible exact Below.refl _ _ | with_reducible refine valloc ?_ _ | with_reducible refine vdrew ?_ | with_reducible refine vdrewN ?_ _ | with_reducible refine via (by assumption) ?_ | refine vset ?_ (by first | exact Nat.le_refl _ | (simp; done) | (simp; omega) | omega) _))) (h'.below (by repeat (first | with_reducible exact Below.refl _ _ | with_reducible refine valloc ?_ _ | with_reducible refine vdrew ?_ | with_reducible refine vdrewN ?_ _ | with_reducible refine via (by assumption) ?_ | refine vset ?_ (by first | exact Nat.le_refl _ | (simp; done) | (simp; omega) | omega) _))) hlen hlen').mono ?_; rintro e w1 ⟨rfl, hbw1⟩
    go_wp2
    go_ret
    refine ⟨ret_bool HR.out.symm, ?_⟩
    repeat (first | with_reducible exact Below.refl _ _ | with_reducible refine valloc ?_ _ | with_reducible refine vdrew ?_ | with_reducible refine vdrewN ?_ _ | with_reducible refine via (by assumption) ?_ | refine vset ?_ (by first | exact Nat.le_refl _ | (simp; done) | (simp; omega) | omega) _)
  · obtain ⟨hfit, hl, hnow, _, hxs⟩ := stOk_fit hs
    subst hl
    have hp : planOk xs.length bs = true := by simp only [fitsOk, Bool.and_eq_true] at hfit; exact hfit.1
    obtain ⟨h1, h6, h16, hin⟩ := planOk_of hp
    have HR := Lib.hid (show goV xs.length bs now xs = diagOk xs.length (closeT xs.length (startT (bs ++ goB now xs xs.length))) by simp [goV, hs])
    have HG := Lib.hid (goB_len now xs)
    have HX := Lib.hid hxs
    have HIN := Lib.hid (show ∀ y ∈ bs ++ goB now xs xs.length, 0 ≤ y.f ∧ y.f < xs.length ∧ 0 ≤ y.t ∧ y.t < xs.length from fun y hy => by
      rcases List.mem_append.1 hy with hy | hy
      · have := hin y hy; omega
      · have := goB_in hnow hxs _ (Nat.le_refl _) y hy; omega)
    have hA0 : A = none → bs.length = 0 := fun e => by
      rcases Nat.eq_zero_or_pos bs.length with q | q
      · exact q
      · obtain ⟨b, off, e2, _⟩ := h q; rw [e] at e2; cases e2
    have HA0 := Lib.hid hA0
    clear hin hxs hA0
    go_enter Try.func75, Try.ntmps75
    go_wp2_with fail
    refine (stateOk_any _ _ _ bs _ _ _ xs _ (h.below (by repeat (first | with_reducible exact Below.refl _ _ | with_reducible refine valloc ?_ _ | with_reducible refine vdrew ?_ | with_reducible refine vdrewN ?_ _ | with_reducible refine via (by assumption) ?_ | refine vset ?_ (by first | exact Nat.le_refl _ | (simp; done) | (simp; omega) | omega) _))) (h'.below (by repeat (first | with_reducible exact Below.refl _ _ | with_reducible refine valloc ?_ _ | with_reducible refine vdrew ?_ | with_reducible refine vdrewN ?_ _ | with_reducible refine via (by assumption) ?_ | refine vset ?_ (by first | exact Nat.le_refl _ | (simp; done) | (simp; omega) | omega) _))) hlen hlen').mono ?_; rintro e w1 ⟨rfl, hbw1⟩
    have i0 : w1.cell? ⟨w.heap.size, 0, none⟩ = some (.int .i64 xs.length) := cB hbw1 (by simp)
    have i1 : w1.cell? ⟨w.heap.size + 1, 0, none⟩ = some (.int .i64 now) := cB hbw1 (by simp)
    have i2 : w1.cell? ⟨w.heap.size + 1, 1, none⟩ = some (.slice A' xs.length c') := cB hbw1 (by simp)
    have BB1 : Below w.heap.size w w1 := (by repeat (first | with_reducible exact Below.refl _ _ | with_reducible refine valloc ?_ _ | with_reducible refine vdrew ?_ | with_reducible refine vdrewN ?_ _ | with_reducible refine via (by assumption) ?_ | refine vset ?_ (by first | exact Nat.le_refl _ | (simp; done) | (simp; omega) | omega) _))
    obtain ⟨hcw1, hfw1⟩ := bcell hbw1; have hzw1 := hbw1.size; (try simp only [sz] at hzw1); (try simp only [szc] at hzw1); have hzw1_0 : w.heap.size < w1.heap.size := (by omega); have hzw1_1 : w.heap.size + 1 < w1.heap.size := (by omega)
    go_wp2_with fail
    refine (clone_any _ _ bs _ (h.below (by repeat (first | with_reducible exact Below.refl _ _ | with_reducible refine valloc ?_ _ | with_reducible refine vdrew ?_ | with_reducible refine vdrewN ?_ _ | with_reducible refine via (by assumption) ?_ | refine vset ?_ (by first | exact Nat.le_refl _ | (simp; done) | (simp; omega) | omega) _))) HA0.out (by omega)).mono ?_; rintro e w2 ⟨v2, rfl, hO2, hbw2⟩
    have j0 := cB hbw2 i0
    have j1 := cB hbw2 i1
    have j2 := cB hbw2 i2
    have hz2 := hbw2.size
    have HO2 := Lib.hid hO2
    have BB : Below w.heap.size w w2 := (by repeat (first | with_reducible exact Below.refl _ _ | with_reducible refine valloc ?_ _ | with_reducible refine vdrew ?_ | with_reducible refine vdrewN ?_ _ | with_reducible refine via (by assumption) ?_ | refine vset ?_ (by first | exact Nat.le_refl _ | (simp; done) | (simp; omega) | omega) _))
    have HI := Lib.hid (h'.below BB)
    clear hO2
    go_wp2
    go_loopw [5, 18] (fun out k W => ∃ kk : Nat, kk ≤ xs.length ∧ k = .int .i64 kk ∧ OwnB W w1.heap.size out (bs ++ goB now xs kk) ∧ Below w1.heap.size w1 W) (fun _ k _ => xs.length - (intOf k).toNat)
    case atStart => exact ⟨0, Nat.zero_le _, rfl, by simpa [goB] using HO2.out, hbw2⟩
    case round =>
      obtain ⟨k, hk, rfl, hO, hb⟩ := hrel
      have HO := Lib.hid hO
      have g1 := cBel hb hzw1_1 i1
      have g2 := cBel hb hzw1_1 i2
      have hzr := hb.size
      have hll : (bs ++ goB now xs k).length ≤ 28 := by have := HG.out k; rw [List.length_append]; omega
      have HIw := Lib.hid ((h'.below (show Below w.heap.size w w1 from BB1)).below hb)
      clear hO
      by_cases hlt : k < xs.length
      · obtain ⟨bx, ox, x, rfl, hbx, hx, hxm, cx⟩ := HIw.out.at_ hlt
        have X1 := Lib.hid (nthI_of hx)
        have hxi := HX.out x hxm
        clear hx hxm
        obtain ⟨w3, hw3⟩ : ∃ w3 : World, w3 = wr := ⟨_, rfl⟩
        subst hw3
        cases hxe : (x == -1)
        · have hne : ¬ x = -1 := by intro e; rw [e] at hxe; simp at hxe
          have HS := Lib.hid (goB_yes (now := now) X1.out hne)
          have EN : IntKind.i64.wrap (-x) = -x := (IntWalk.i64_left _).trans (IntWalk.wrap64_in _ (by omega))
          go_wp2_with (at_builtin; refine wpList_pushD rfl _ _ rfl w1.heap.size _ _ rfl (HO.out.alloc _) (some ⟨w3.heap.size, 0, none⟩) 2 2 [⟨0, k, x⟩, ⟨k, 0, -x⟩] rfl rfl (bd2 _ _ _ _ _ _ _) (fun q => by cases q) (by simp at hll ⊢; omega) (by simp; omega) ?_; intro v1 w4 hown4 hb4 hst4)
          go_roundw
          case rel => exact ⟨k + 1, by omega, by go_num, by rw [HS.out, ← List.append_assoc]; exact hown4, (hb.alloc hb.size _).trans hb4⟩
          case measure => simp [intOf]; omega
        · have hxv := beq_iff_eq.1 hxe
          have HS := Lib.hid (goB_no (now := now) (X1.out.trans hxv))
          have EN : IntKind.i64.wrap (-now) = -now := (IntWalk.i64_left _).trans (IntWalk.wrap64_in _ (by omega))
          go_wp2_with (at_builtin; refine wpList_pushD rfl _ _ rfl w1.heap.size _ _ rfl (HO.out.alloc _) (some ⟨w3.heap.size, 0, none⟩) 1 1 [⟨k, 0, -now⟩] rfl rfl (bd1 _ _ _ _) (fun q => by cases q) (by simp at hll ⊢; omega) (by simp; omega) ?_; intro v1 w4 hown4 hb4 hst4)
          go_roundw
          case rel => exact ⟨k + 1, by omega, by go_num, by rw [HS.out, ← List.append_assoc]; exact hown4, (hb.alloc hb.size _).trans hb4⟩
          case measure => simp [intOf]; omega
      · obtain rfl : xs.length = k := by omega
        have g0 := cBel hb hzw1_0 i0
        have BW := BB1.trans (hb.mono BB1.size)
        obtain ⟨G, cg, rfl, hB⟩ := HO.out.bat
        have HB := Lib.hid hB
        clear hB
        generalize hL : bs ++ goB now xs xs.length = L at *
        go_wp2_with fail
        refine (start_any xs.length _ _ L _ HB.out (by omega) (by omega) HIN.out).mono ?_; rintro e w5 ⟨g, R, rfl, hG, hbw5⟩
        go_wp2_with fail
        refine (close_any _ _ g xs.length xs.length R _ _ _ hG (by omega)).mono ?_; rintro e w6 ⟨rfl, hG6, hO6⟩
        clear hG hG6
        go_wp2
        go_ret
        exact ⟨ret_bool HR.out.symm, viaOnly hO6 (by omega) (BW.trans (hbw5.mono BW.size))⟩
end Go.Proofs.Ytedpaanhnbodfaa
