/- Contracts of impl and spec MovedBy, BrokenOf; for slices of at most 2^40 elements. -/
import Derived.Test.YtedpaanhnbodfaaLists
import Derived.Deep.QuietTactic
import Derived.BigQuiet
namespace Go.Proofs.Ytedpaanhnbodfaa
open Go.RowKit
set_option linter.unusedVariables false
set_option maxRecDepth 10000
set_option linter.unusedSimpArgs false

def shift (ts : List Int) (d : Int) : List Int := ts.map fun t => t + d
theorem shift_length (ts : List Int) (d : Int) : (shift ts d).length = ts.length := by simp [shift]
theorem shift_snoc {ts : List Int} {d t : Int} {k : Nat} (h : ts[k]? = some t) : shift (ts.take (k + 1)) d = shift (ts.take k) d ++ [t + d] := by
  obtain ⟨hl, hv⟩ := List.getElem?_eq_some_iff.1 h
  unfold shift
  rw [List.take_succ_eq_append_getElem hl, List.map_append, hv]; rfl
def movedOk (n : Int) (bs : List Bd) (ts : List Int) (d : Int) : Bool := timesOk n bs ts && inB d (-2000) 2000 && timesOk n bs (shift ts d)
def movedL (n : Int) (bs : List Bd) (ts : List Int) (d : Int) : List Int := if movedOk n bs ts d = true then shift ts d else []
theorem movedL_len (n : Int) (bs : List Bd) (ts : List Int) (d : Int) : (movedL n bs ts d).length ≤ ts.length := by unfold movedL; split <;> simp [shift]
set_option maxHeartbeats 2000000 in
theorem movedBy_any (n : Int) (A A1 : Option Addr) (c c1 : Nat) (bs : List Bd) (ts : List Int) (d : Int) (w : World) (h : BAt w A bs) (h' : IAt w A1 ts) (hlen : bs.length ≤ 1099511627776) (hlen' : ts.length ≤ 1099511627776) :
    Calls Try.prog 35 #[.agg #[.int .i64 n, .slice A bs.length c], .slice A1 ts.length c1, .int .i64 d] w (ListBoolRes (movedL n bs ts d) (movedOk n bs ts d) w) := by
  cases hp : timesOk n bs ts
  · have E := Lib.hid (show movedOk n bs ts d = false by simp [movedOk, hp])
    have E2 := Lib.hid (show movedL n bs ts d = [] by simp [movedL, E.out])
    rw [E.out, E2.out]
    go_enter Try.func35, Try.ntmps35
    go_wp2_with (go_at_call 27; refine (timesOk_any _ _ _ _ _ bs ts _ (h.below (by repeat (first | with_reducible exact Below.refl _ _ | with_reducible refine valloc ?_ _ | with_reducible refine vdrew ?_ | with_reducible refine vdrewN ?_ _ | with_reducible refine via (by assumption) ?_ | refine vset ?_ (by first | exact Nat.le_refl _ | (simp; done) | (simp; omega) | omega) _))) (h'.below (by repeat (first | with_reducible exact Below.refl _ _ | with_reducible refine valloc ?_ _ | with_reducible refine vdrew ?_ | with_reducible refine vdrewN ?_ _ | with_reducible refine via (by assumption) ?_ | refine vset ?_ (by first | exact Nat.le_refl _ | (simp; done) | (simp; omega) | omega) _))) hlen hlen').mono ?_; rintro e w1 ⟨rfl, hbw1⟩; obtain ⟨hcw1, hfw1⟩ := bcell hbw1; have hzw1 := hbw1.size; (try simp only [sz] at hzw1); (try simp only [szc] at hzw1); have hzw1_0 : w.heap.size < w1.heap.size := (by omega))
    go_ret2
    exact (OwnL.nil _ _).resB (Nat.le_refl _) (by repeat (first | with_reducible exact Below.refl _ _ | with_reducible refine valloc ?_ _ | with_reducible refine vdrew ?_ | with_reducible refine vdrewN ?_ _ | with_reducible refine via (by assumption) ?_ | refine vset ?_ (by first | exact Nat.le_refl _ | (simp; done) | (simp; omega) | omega) _)) _
  cases hd : inB d (-2000) 2000
  · have E := Lib.hid (show movedOk n bs ts d = false by simp [movedOk, hd])
    have E2 := Lib.hid (show movedL n bs ts d = [] by simp [movedL, E.out])
    rw [E.out, E2.out]
    go_enter Try.func35, Try.ntmps35
    go_wp2_with (first
      | (go_at_call 27; refine (timesOk_any _ _ _ _ _ bs ts _ (h.below (by repeat (first | with_reducible exact Below.refl _ _ | with_reducible refine valloc ?_ _ | with_reducible refine vdrew ?_ | with_reducible refine vdrewN ?_ _ | with_reducible refine via (by assumption) ?_ | refine vset ?_ (by first | exact Nat.le_refl _ | (simp; done) | (simp; omega) | omega) _))) (h'.below (by repeat (first | with_reducible exact Below.refl _ _ | with_reducible refine valloc ?_ _ | with_reducible refine vdrew ?_ | with_reducible refine vdrewN ?_ _ | with_reducible refine via (by assumption) ?_ | refine vset ?_ (by first | exact Nat.le_refl _ | (simp; done) | (simp; omega) | omega) _))) hlen hlen').mono ?_; rintro e w1 ⟨rfl, hbw1⟩; obtain ⟨hcw1, hfw1⟩ := bcell hbw1; have hzw1 := hbw1.size; (try simp only [sz] at hzw1); (try simp only [szc] at hzw1); have hzw1_0 : w.heap.size < w1.heap.size := (by omega))
      | (go_at_call 99; refine (in_any _ _ _ _).mono ?_; rintro e w' ⟨rfl, rfl⟩))
    go_ret2
    exact (OwnL.nil _ _).resB (Nat.le_refl _) (by repeat (first | with_reducible exact Below.refl _ _ | with_reducible refine valloc ?_ _ | with_reducible refine vdrew ?_ | with_reducible refine vdrewN ?_ _ | with_reducible refine via (by assumption) ?_ | refine vset ?_ (by first | exact Nat.le_refl _ | (simp; done) | (simp; omega) | omega) _)) _
  have hd2 := (inB_iff _ _ _).1 hd
  have HTS := Lib.hid (timesOk_of hp).2.2
  have EM := Lib.hid (show movedOk n bs ts d = timesOk n bs (shift ts d) by simp [movedOk, hp, hd])
  go_enter Try.func35, Try.ntmps35
  go_wp2_with (first
      | (go_at_call 27; refine (timesOk_any _ _ _ _ _ bs ts _ (h.below (by repeat (first | with_reducible exact Below.refl _ _ | with_reducible refine valloc ?_ _ | with_reducible refine vdrew ?_ | with_reducible refine vdrewN ?_ _ | with_reducible refine via (by assumption) ?_ | refine vset ?_ (by first | exact Nat.le_refl _ | (simp; done) | (simp; omega) | omega) _))) (h'.below (by repeat (first | with_reducible exact Below.refl _ _ | with_reducible refine valloc ?_ _ | with_reducible refine vdrew ?_ | with_reducible refine vdrewN ?_ _ | with_reducible refine via (by assumption) ?_ | refine vset ?_ (by first | exact Nat.le_refl _ | (simp; done) | (simp; omega) | omega) _))) hlen hlen').mono ?_; rintro e w1 ⟨rfl, hbw1⟩; obtain ⟨hcw1, hfw1⟩ := bcell hbw1; have hzw1 := hbw1.size; (try simp only [sz] at hzw1); (try simp only [szc] at hzw1); have hzw1_0 : w.heap.size < w1.heap.size := (by omega))
      | (go_at_call 99; refine (in_any _ _ _ _).mono ?_; rintro e w' ⟨rfl, rfl⟩))
  clear hp hd
  have b1 : Below w.heap.size w w1 := (by repeat (first | with_reducible exact Below.refl _ _ | with_reducible refine valloc ?_ _ | with_reducible refine vdrew ?_ | with_reducible refine vdrewN ?_ _ | with_reducible refine via (by assumption) ?_ | refine vset ?_ (by first | exact Nat.le_refl _ | (simp; done) | (simp; omega) | omega) _))
  have q0 : w1.cell? ⟨w.heap.size, 0, none⟩ = some (.int .i64 n) := by go_simp
  have q1 : w1.cell? ⟨w.heap.size, 1, none⟩ = some (.slice A bs.length c) := by go_simp
  have II := Lib.hid (h'.below b1)
  have BB := Lib.hid (h.below b1)
  clear h h' hcw1 hfw1
  go_loopw [8, 10, 22] (fun out t j W => ∃ k : Nat, k ≤ ts.length ∧ j = .int .i64 k ∧ OwnL W w1.heap.size out (shift (ts.take k) d) ∧ Below w1.heap.size w1 W) (fun _ _ j _ => ts.length - (intOf j).toNat)
  case atStart => exact ⟨0, Nat.zero_le _, rfl, OwnL.nil _ _, Below.refl _ _⟩
  case round =>
    obtain ⟨k, hk, rfl, hown, hbel⟩ := hrel
    have hml : (shift (ts.take k) d).length ≤ k := by rw [shift_length]; exact List.length_take_le _ _
    have hz := hbel.size
    by_cases hlt : k < ts.length
    · obtain ⟨ab, aoff, x, eA, _, hx, hxm, cx⟩ := (II.out.below hbel).at_ hlt
      subst eA
      have HM := Lib.hid (shift_snoc (d := d) hx)
      have hxb := HTS.out x hxm
      clear hx
      go_wp2_with (at_builtin; refine wpList_push rfl _ _ rfl w1.heap.size _ _ rfl (hown.alloc _) wr.heap.size (x + d) rfl (by simp) (by omega) (by simp; omega) ?_; intro v1 w3 hown3 hb3)
      go_roundw
      case rel => exact ⟨k + 1, by omega, by go_num, by rw [HM.out]; exact hown3, (hbel.alloc hbel.size _).trans hb3⟩
      case measure => simp [intOf]; omega
    · obtain rfl : k = ts.length := by omega
      rw [List.take_length] at hown hml
      obtain ⟨G, cg, rfl, hr⟩ := hown.ri
      have b2 : Below w.heap.size w wr := b1.trans (hbel.mono b1.size)
      have f0 := cB hbel q0
      have f1 := cB hbel q1
      have RR := Lib.hid hr
      have HO := Lib.hid hown
      clear hr hown q0 q1
      cases hq : timesOk n bs (shift ts d)
      · have E := Lib.hid (EM.out.trans hq)
        have E2 := Lib.hid (show movedL n bs ts d = [] by simp [movedL, E.out])
        go_wp2_with fail
        refine (timesOk_any _ _ _ _ _ bs (shift ts d) _ (BB.out.below hbel) RR.out.iat hlen (by omega)).mono ?_; rintro e w4 ⟨rfl, hbw4⟩
        go_wp2
        go_ret2
        rw [E.out, E2.out]
        exact (OwnL.nil _ _).resB (Nat.le_refl _) (via hbw4 b2) _
      · have E := Lib.hid (EM.out.trans hq)
        have E2 := Lib.hid (show movedL n bs ts d = shift ts d by simp [movedL, E.out])
        go_wp2_with fail
        refine (timesOk_any _ _ _ _ _ bs (shift ts d) _ (BB.out.below hbel) RR.out.iat hlen (by omega)).mono ?_; rintro e w4 ⟨rfl, hbw4⟩
        go_wp2
        go_ret2
        rw [E.out, E2.out]
        exact (HO.out.below hbw4).resB b1.size (via hbw4 b2) _
set_option maxHeartbeats 2000000 in
theorem specMovedBy_any (n : Int) (A A1 : Option Addr) (c c1 : Nat) (bs : List Bd) (ts : List Int) (d : Int) (w : World) (h : BAt w A bs) (h' : IAt w A1 ts) (hlen : bs.length ≤ 1099511627776) (hlen' : ts.length ≤ 1099511627776) :
    Calls Try.prog 36 #[.agg #[.int .i64 n, .slice A bs.length c], .slice A1 ts.length c1, .int .i64 d] w (ListBoolRes (movedL n bs ts d) (movedOk n bs ts d) w) := by
  cases hp : timesOk n bs ts
  · have E := Lib.hid (show movedOk n bs ts d = false by simp [movedOk, hp])
    have E2 := Lib.hid (show movedL n bs ts d = [] by simp [movedL, E.out])
    rw [E.out, E2.out]
    go_enter Try.func36, Try.ntmps36
    go_wp2_with (go_at_call 28; refine (specTimesOk_any _ _ _ _ _ bs ts _ (h.below (by repeat (first | with_reducible exact Below.refl _ _ | with_reducible refine valloc ?_ _ | with_reducible refine vdrew ?_ | with_reducible refine vdrewN ?_ _ | with_reducible refine via (by assumption) ?_ | refine vset ?_ (by first | exact Nat.le_refl _ | (simp; done) | (simp; omega) | omega) _))) (h'.below (by repeat (first | with_reducible exact Below.refl _ _ | with_reducible refine valloc ?_ _ | with_reducible refine vdrew ?_ | with_reducible refine vdrewN ?_ _ | with_reducible refine via (by assumption) ?_ | refine vset ?_ (by first | exact Nat.le_refl _ | (simp; done) | (simp; omega) | omega) _))) hlen hlen').mono ?_; rintro e w1 ⟨rfl, hbw1⟩; obtain ⟨hcw1, hfw1⟩ := bcell hbw1; have hzw1 := hbw1.size; (try simp only [sz] at hzw1); (try simp only [szc] at hzw1); have hzw1_0 : w.heap.size < w1.heap.size := (by omega))
    go_ret2
    exact (OwnL.empty w1 _ _ rfl (Nat.le_refl _)).resB (by omega) (by repeat (first | with_reducible exact Below.refl _ _ | with_reducible refine valloc ?_ _ | with_reducible refine vdrew ?_ | with_reducible refine vdrewN ?_ _ | with_reducible refine via (by assumption) ?_ | refine vset ?_ (by first | exact Nat.le_refl _ | (simp; done) | (simp; omega) | omega) _)) _
  cases hd : inB d (-2000) 2000
  · have E := Lib.hid (show movedOk n bs ts d = false by simp [movedOk, hd])
    have E2 := Lib.hid (show movedL n bs ts d = [] by simp [movedL, E.out])
    rw [E.out, E2.out]
    go_enter Try.func36, Try.ntmps36
    go_wp2_with (first
      | (go_at_call 28; refine (specTimesOk_any _ _ _ _ _ bs ts _ (h.below (by repeat (first | with_reducible exact Below.refl _ _ | with_reducible refine valloc ?_ _ | with_reducible refine vdrew ?_ | with_reducible refine vdrewN ?_ _ | with_reducible refine via (by assumption) ?_ | refine vset ?_ (by first | exact Nat.le_refl _ | (simp; done) | (simp; omega) | omega) _))) (h'.below (by repeat (first | with_reducible exact Below.refl _ _ | with_reducible refine valloc ?_ _ | with_reducible refine vdrew ?_ | with_reducible refine vdrewN ?_ _ | with_reducible refine via (by assumption) ?_ | refine vset ?_ (by first | exact Nat.le_refl _ | (simp; done) | (simp; omega) | omega) _))) hlen hlen').mono ?_; rintro e w1 ⟨rfl, hbw1⟩; obtain ⟨hcw1, hfw1⟩ := bcell hbw1; have hzw1 := hbw1.size; (try simp only [sz] at hzw1); (try simp only [szc] at hzw1); have hzw1_0 : w.heap.size < w1.heap.size := (by omega))
      | (go_at_call 103; refine (l1In_any _ _ _ _).mono ?_; rintro e w' ⟨rfl, rfl⟩))
    go_ret2
    exact (OwnL.empty w1 _ _ rfl (Nat.le_refl _)).resB (by omega) (by repeat (first | with_reducible exact Below.refl _ _ | with_reducible refine valloc ?_ _ | with_reducible refine vdrew ?_ | with_reducible refine vdrewN ?_ _ | with_reducible refine via (by assumption) ?_ | refine vset ?_ (by first | exact Nat.le_refl _ | (simp; done) | (simp; omega) | omega) _)) _
  have hd2 := (inB_iff _ _ _).1 hd
  have HTS := Lib.hid (timesOk_of hp).2.2
  have EM := Lib.hid (show movedOk n bs ts d = timesOk n bs (shift ts d) by simp [movedOk, hp, hd])
  go_enter Try.func36, Try.ntmps36
  go_wp2_with (first
      | (go_at_call 28; refine (specTimesOk_any _ _ _ _ _ bs ts _ (h.below (by repeat (first | with_reducible exact Below.refl _ _ | with_reducible refine valloc ?_ _ | with_reducible refine vdrew ?_ | with_reducible refine vdrewN ?_ _ | with_reducible refine via (by assumption) ?_ | refine vset ?_ (by first | exact Nat.le_refl _ | (simp; done) | (simp; omega) | omega) _))) (h'.below (by repeat (first | with_reducible exact Below.refl _ _ | with_reducible refine valloc ?_ _ | with_reducible refine vdrew ?_ | with_reducible refine vdrewN ?_ _ | with_reducible refine via (by assumption) ?_ | refine vset ?_ (by first | exact Nat.le_refl _ | (simp; done) | (simp; omega) | omega) _))) hlen hlen').mono ?_; rintro e w1 ⟨rfl, hbw1⟩; obtain ⟨hcw1, hfw1⟩ := bcell hbw1; have hzw1 := hbw1.size; (try simp only [sz] at hzw1); (try simp only [szc] at hzw1); have hzw1_0 : w.heap.size < w1.heap.size := (by omega))
      | (go_at_call 103; refine (l1In_any _ _ _ _).mono ?_; rintro e w' ⟨rfl, rfl⟩))
  clear hp hd
  have b1 : Below w.heap.size w w1 := (by repeat (first | with_reducible exact Below.refl _ _ | with_reducible refine valloc ?_ _ | with_reducible refine vdrew ?_ | with_reducible refine vdrewN ?_ _ | with_reducible refine via (by assumption) ?_ | refine vset ?_ (by first | exact Nat.le_refl _ | (simp; done) | (simp; omega) | omega) _))
  have q0 : w1.cell? ⟨w.heap.size, 0, none⟩ = some (.int .i64 n) := by go_simp
  have q1 : w1.cell? ⟨w.heap.size, 1, none⟩ = some (.slice A bs.length c) := by go_simp
  have II := Lib.hid (h'.below b1)
  have BB := Lib.hid (h.below b1)
  clear h h' hcw1 hfw1
  go_loopw [8, 9] (fun out j W => ∃ k : Nat, k ≤ ts.length ∧ j = .int .i64 k ∧ OwnL W w1.heap.size out (shift (ts.take k) d) ∧ Below w1.heap.size w1 W) (fun _ j _ => ts.length - (intOf j).toNat)
  case atStart => exact ⟨0, Nat.zero_le _, rfl, OwnL.empty _ _ _ rfl (Nat.le_refl _), (Below.refl _ _).alloc (Nat.le_refl _) _⟩
  case round =>
    obtain ⟨k, hk, rfl, hown, hbel⟩ := hrel
    have hml : (shift (ts.take k) d).length ≤ k := by rw [shift_length]; exact List.length_take_le _ _
    have hz := hbel.size
    by_cases hlt : k < ts.length
    · obtain ⟨ab, aoff, x, eA, _, hx, hxm, cx⟩ := (II.out.below hbel).at_ hlt
      subst eA
      have HM := Lib.hid (shift_snoc (d := d) hx)
      have hxb := HTS.out x hxm
      clear hx
      go_wp2_with (at_builtin; refine wpList_push rfl _ _ rfl w1.heap.size _ _ rfl (hown.alloc _) wr.heap.size (x + d) rfl (by simp) (by omega) (by simp; omega) ?_; intro v1 w3 hown3 hb3)
      go_roundw
      case rel => exact ⟨k + 1, by omega, by go_num, by rw [HM.out]; exact hown3, (hbel.alloc hbel.size _).trans hb3⟩
      case measure => simp [intOf]; omega
    · obtain rfl : k = ts.length := by omega
      rw [List.take_length] at hown hml
      obtain ⟨G, cg, rfl, hr⟩ := hown.ri
      have b2 : Below w.heap.size w wr := b1.trans (hbel.mono b1.size)
      have f0 := cB hbel q0
      have f1 := cB hbel q1
      have RR := Lib.hid hr
      have HO := Lib.hid hown
      clear hr hown q0 q1
      cases hq : timesOk n bs (shift ts d)
      · have E := Lib.hid (EM.out.trans hq)
        have E2 := Lib.hid (show movedL n bs ts d = [] by simp [movedL, E.out])
        go_wp2_with fail
        refine (specTimesOk_any _ _ _ _ _ bs (shift ts d) _ (BB.out.below hbel) RR.out.iat hlen (by omega)).mono ?_; rintro e w4 ⟨rfl, hbw4⟩
        go_wp2
        go_ret2
        rw [E.out, E2.out]
        have hz4 := (via hbw4 b2).size
        exact (OwnL.empty w4 _ _ rfl (Nat.le_refl _)).resB hz4 (valloc (via hbw4 b2) _) _
      · have E := Lib.hid (EM.out.trans hq)
        have E2 := Lib.hid (show movedL n bs ts d = shift ts d by simp [movedL, E.out])
        go_wp2_with fail
        refine (specTimesOk_any _ _ _ _ _ bs (shift ts d) _ (BB.out.below hbel) RR.out.iat hlen (by omega)).mono ?_; rintro e w4 ⟨rfl, hbw4⟩
        go_wp2
        go_ret2
        rw [E.out, E2.out]
        exact (HO.out.below hbw4).resB b1.size (via hbw4 b2) _
end Go.Proofs.Ytedpaanhnbodfaa
