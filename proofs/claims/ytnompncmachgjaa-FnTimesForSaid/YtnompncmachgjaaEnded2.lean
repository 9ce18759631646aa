/- The contract of impl.EndedFrom, with the capacity of what it hands back. -/
import Derived.Test.YtnompncmachgjaaKI
import Derived.Test.YtnompncmachgjaaBadKit
namespace Go.Proofs.Ytnompncmachgjaa
open Go.RowKit
set_option linter.unusedVariables false
set_option maxRecDepth 10000
set_option linter.unusedSimpArgs false

def ListBoolResC (xs : List Int) (b : Bool) (w : World) (e : Ending) (w' : World) : Prop :=
  ∃ G c, e = .returned (.tuple #[.slice G xs.length c, .bool b]) ∧ RI w' w.heap.size w'.heap.size G xs ∧ xs.length ≤ c ∧ Below w.heap.size w w'
set_option maxHeartbeats 1000000 in
theorem endedFrom_len (n : Int) (A A' : Option Addr) (c c' : Nat) (bs : List Bd) (ts : List Int) (w : World) (h : BAt w A bs) (h' : IAt w A' ts) (hcap : ts.length ≤ c') (h0 : A' = none → c' = 0) (hlen : bs.length ≤ 1099511627776) (hlen' : ts.length ≤ 1099511627776) :
    Calls Try.prog 67 #[.agg #[.int .i64 n, .slice A bs.length c], .slice A' ts.length c'] w (ListBoolResC (endedL n bs ts) (startB n bs ts) w) := by
  have HA0 := Lib.hid h0
  clear h0
  cases hs : startB n bs ts
  · have HR := Lib.hid (show endedL n bs ts = [] by simp [endedL, hs])
    go_enter Try.func67, Try.ntmps67
    go_wp2_with fail
    refine (startOk_cap _ _ _ _ _ bs ts _ (h.below (by repeat (first | with_reducible exact Below.refl _ _ | with_reducible refine valloc ?_ _ | with_reducible refine vdrew ?_ | with_reducible refine vdrewN ?_ _ | with_reducible refine via (by assumption) ?_ | refine vset ?_ (by first | exact Nat.le_refl _ | (simp; done) | (simp; omega) | omega) _))) (h'.below (by repeat (first | with_reducible exact Below.refl _ _ | with_reducible refine valloc ?_ _ | with_reducible refine vdrew ?_ | with_reducible refine vdrewN ?_ _ | with_reducible refine via (by assumption) ?_ | refine vset ?_ (by first | exact Nat.le_refl _ | (simp; done) | (simp; omega) | omega) _))) hcap hlen hlen').mono ?_; rintro e w1 ⟨rfl, hbw1⟩
    go_wp2
    go_ret2
    rw [HR.out]
    refine ⟨none, 0, rfl, Or.inl ⟨rfl, rfl⟩, Nat.le_refl _, ?_⟩
    repeat (first | with_reducible exact Below.refl _ _ | with_reducible refine valloc ?_ _ | with_reducible refine vdrew ?_ | with_reducible refine vdrewN ?_ _ | with_reducible refine via (by assumption) ?_ | refine vset ?_ (by first | exact Nat.le_refl _ | (simp; done) | (simp; omega) | omega) _)
  · obtain ⟨hfit, hl0⟩ := startB_fit hs
    obtain ⟨N, rfl⟩ := Int.eq_ofNat_of_zero_le (show 0 ≤ n by have := planOk_of (fits_plan hfit); omega)
    obtain ⟨h1, h6, _, _⟩ := planOk_of (fits_plan hfit)
    have hl : ts.length ≤ N := by omega
    have HR := Lib.hid (show endedL N bs ts = extT (closedT N bs) ts (N - ts.length) by simp [endedL, hs])
    have HL := Lib.hid (extT_len (closedT N bs) ts)
    go_enter Try.func67, Try.ntmps67
    go_wp2_with fail
    refine (startOk_cap _ _ _ _ _ bs ts _ (h.below (by repeat (first | with_reducible exact Below.refl _ _ | with_reducible refine valloc ?_ _ | with_reducible refine vdrew ?_ | with_reducible refine vdrewN ?_ _ | with_reducible refine via (by assumption) ?_ | refine vset ?_ (by first | exact Nat.le_refl _ | (simp; done) | (simp; omega) | omega) _))) (h'.below (by repeat (first | with_reducible exact Below.refl _ _ | with_reducible refine valloc ?_ _ | with_reducible refine vdrew ?_ | with_reducible refine vdrewN ?_ _ | with_reducible refine via (by assumption) ?_ | refine vset ?_ (by first | exact Nat.le_refl _ | (simp; done) | (simp; omega) | omega) _))) hcap hlen hlen').mono ?_; rintro e w1 ⟨rfl, hbw1⟩
    have i0 : w1.cell? ⟨w.heap.size, 0, none⟩ = some (.int .i64 N) := cB hbw1 (by simp)
    obtain ⟨hcw1, hfw1⟩ := bcell hbw1; have hzw1 := hbw1.size; (try simp only [sz] at hzw1); (try simp only [szc] at hzw1); have hzw1_0 : w.heap.size < w1.heap.size := (by omega)
    go_wp2_with fail
    refine (closed_yes _ _ _ bs _ (h.below (by repeat (first | with_reducible exact Below.refl _ _ | with_reducible refine valloc ?_ _ | with_reducible refine vdrew ?_ | with_reducible refine vdrewN ?_ _ | with_reducible refine via (by assumption) ?_ | refine vset ?_ (by first | exact Nat.le_refl _ | (simp; done) | (simp; omega) | omega) _))) hlen hfit).mono ?_; rintro e w2 ⟨g, N', R, hN', hN1, hN6, rfl, hG, hbw2⟩; obtain ⟨hcw2, hfw2⟩ := bcell hbw2; have hzw2 := hbw2.size; (try simp only [sz] at hzw2); (try simp only [szc] at hzw2); have hzw2_0 : w.heap.size < w2.heap.size := (by omega)
    obtain rfl : N = N' := by omega
    have j0 : w2.cell? ⟨w.heap.size, 0, none⟩ = some (.int .i64 N) := by rw [hcw2 _ _ hzw1_0]; exact i0
    have HM := Lib.hid hG.mat
    clear hG
    have BB : Below w.heap.size w w2 := (by repeat (first | with_reducible exact Below.refl _ _ | with_reducible refine valloc ?_ _ | with_reducible refine vdrew ?_ | with_reducible refine vdrewN ?_ _ | with_reducible refine via (by assumption) ?_ | refine vset ?_ (by first | exact Nat.le_refl _ | (simp; done) | (simp; omega) | omega) _))
    have HI := Lib.hid (h'.below BB)
    generalize closedT N bs = T at *
    go_wp2_with (at_builtin; refine wpList_pushC rfl _ _ rfl w2.heap.size _ [] rfl (OwnL.nil _ _) A' _ _ ts rfl rfl HI.out HA0.out (by simpa using hlen') (Nat.le_refl _) ?_; intro v1 w3 hown3 hb3)
    rw [List.nil_append] at hown3
    have HO3 := Lib.hid hown3
    clear hown3
    go_loopw [8] (fun out W => ∃ (d : Nat) (xs : List Int), xs = extT T ts d ∧ xs.length ≤ N ∧ OwnL W w2.heap.size out xs ∧ Below w2.heap.size w2 W) (fun out _ => N - lenOf out)
    case atStart => exact ⟨0, ts, rfl, hl, HO3.out, hb3⟩
    case round =>
      obtain ⟨d, xs, hxs, hd, hown, hb⟩ := hrel
      obtain ⟨G, cg, rfl, hr, hcap2, _⟩ := hown.rcap
      have HO := Lib.hid hown
      have HRI := Lib.hid hr
      have f0 := cBel hb hzw2_0 j0
      have hzr := hb.size
      have HX := Lib.hid (show extT T ts (d + 1) = xs ++ [nextV T xs] by rw [hxs]; rfl)
      have HD := Lib.hid (show xs.length = ts.length + d by rw [hxs]; exact HL.out d)
      have HXS := Lib.hid hxs
      clear hown hr hxs
      by_cases hlt : xs.length < N
      · go_wp2_with fail
        refine (next_any _ _ _ _ N T xs _ (HM.out.below hb) HRI.out.iat hlt (by omega)).mono ?_; rintro e w4 ⟨rfl, hbw4⟩
        have O4 := Lib.hid (HO.out.below hbw4)
        have hz4 := hbw4.size
        go_wp2_with (at_builtin; refine wpList_push rfl _ _ rfl w2.heap.size _ _ rfl (O4.out.alloc _) w4.heap.size (nextV T xs) rfl (by simp) (by omega) (by simp; omega) ?_; intro v1 w5 hown5 hb5)
        go_roundw
        case rel => exact ⟨d + 1, xs ++ [nextV T xs], HX.out.symm, by simp; omega, hown5, ((hb.trans (hbw4.mono hb.size)).alloc (by omega) _).trans hb5⟩
        case measure =>
          obtain ⟨G5, c5, rfl, _⟩ := hown5.ri
          simp only [lenOf, List.length_append, List.length_singleton]; omega
      · have hge : xs.length = N := by omega
        have HR2 := Lib.hid (show endedL N bs ts = xs by rw [HR.out, HXS.out]; congr 1; have := HD.out; omega)
        go_wp2
        go_ret2
        rw [HR2.out]
        exact ⟨G, cg, rfl, HRI.out.wide BB.size (Nat.le_refl _), hcap2, BB.trans (hb.mono BB.size)⟩
end Go.Proofs.Ytnompncmachgjaa
