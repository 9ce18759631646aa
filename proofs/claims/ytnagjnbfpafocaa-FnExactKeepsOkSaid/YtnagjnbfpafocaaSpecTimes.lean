/- Contracts of spec.TimesOk, spec.KeepsOk and of what they call; for slices of at most 2^40 elements. -/
import Derived.Test.YtnagjnbfpafocaaTimes
namespace Go.Proofs.Ytnagjnbfpafocaa
open Go.RowKit
set_option linter.unusedVariables false
set_option linter.unusedSimpArgs false

theorem timesOk_bad {n : Int} {bs : List Bd} {ts : List Int} {k : Nat} {x : Int} (hx : ts[k]? = some x) (h : inB x (-2000) 2000 = false) : timesOk n bs ts = false := by
  simp [timesOk, allB, any_of (q := fun x => !inB x (-2000) 2000) hx (by simp [h])]
theorem timesOk_end {n : Int} {bs : List Bd} {ts : List Int} {k : Nat} (hk : ts.length ≤ k) (hn : ∀ y ∈ ts.take k, (!inB y (-2000) 2000) = false) : timesOk n bs ts = (planOk n bs && ((ts.length : Int) == n)) := by
  simp [timesOk, allB, any_none hk hn]
set_option maxHeartbeats 1000000 in
theorem specTimesOk_any (n : Int) (A A' : Option Addr) (c c' : Nat) (bs : List Bd) (ts : List Int) (w : World) (h : BAt w A bs) (h' : IAt w A' ts) (hlen : bs.length ≤ 1099511627776) (hlen' : ts.length ≤ 1099511627776) :
    Calls Try.prog 24 #[.agg #[.int .i64 n, .slice A bs.length c], .slice A' ts.length c'] w fun e w' => e = .returned (.bool (timesOk n bs ts)) ∧ Below w.heap.size w w' := by
  go_enter Try.func24, Try.ntmps24
  go_wp2
  go_loopw [5] (fun i W => ∃ k : Nat, k ≤ ts.length ∧ i = .int .i64 k ∧ (∀ y ∈ ts.take k, (!inB y (-2000) 2000) = false) ∧ Below w.heap.size w W ∧ w.heap.size < W.heap.size ∧ W.cell? ⟨w.heap.size, 0, none⟩ = some (.int .i64 n) ∧ W.cell? ⟨w.heap.size, 1, none⟩ = some (.slice A bs.length c)) (fun i _ => ts.length - (intOf i).toNat)
  case atStart => exact ⟨0, Nat.zero_le _, rfl, by simp, valloc (Below.refl _ _) _, by simp, by simp, by simp⟩
  case round =>
    obtain ⟨k, hk, rfl, hno, hb, hz, e0, e1⟩ := hrel
    have HNO := Lib.hid hno
    clear hno
    by_cases hlt : k < ts.length
    · obtain ⟨b, off, x, rfl, hbl, hx, hxm, c0⟩ := (h'.below hb).at_ hlt
      have HX := Lib.hid hx
      clear hx h h'
      cases hf : inB x (-2000) 2000
      · have HR := Lib.hid (timesOk_bad (n := n) (bs := bs) HX.out hf)
        go_wp2_with (go_at_call 54; refine (l1In_any _ _ _ _).mono ?_; rintro e w' ⟨rfl, rfl⟩)
        go_ret
        exact ⟨ret_bool HR.out.symm, hb⟩
      · have HR := Lib.hid (show (!inB x (-2000) 2000) = false by simp [hf])
        go_wp2_with (go_at_call 54; refine (l1In_any _ _ _ _).mono ?_; rintro e w' ⟨rfl, rfl⟩)
        go_roundw
        case rel => exact ⟨k + 1, by omega, by go_num, snoc_false HX.out HNO.out HR.out, hb, hz, e0, e1⟩
        case measure => simp [intOf]; omega
    · have HR := Lib.hid (timesOk_end (n := n) (bs := bs) (by omega) HNO.out)
      cases hp : planOk n bs
      · go_wp2_with (go_at_call 17; refine (specPlanOk_any _ _ _ bs _ (h.below hb) hlen).mono ?_; rintro e w1 ⟨rfl, hbw1⟩)
        go_ret
        exact ⟨ret_bool (by rw [HR.out, hp]; rfl), via hbw1 hb⟩
      · cases hl : ((ts.length : Int) == n)
        · go_wp2_with (go_at_call 17; refine (specPlanOk_any _ _ _ bs _ (h.below hb) hlen).mono ?_; rintro e w1 ⟨rfl, hbw1⟩; obtain ⟨hcw1, _⟩ := bcell hbw1)
          go_ret
          exact ⟨ret_bool (by rw [HR.out, hp, hl]; rfl), via hbw1 hb⟩
        · go_wp2_with (go_at_call 17; refine (specPlanOk_any _ _ _ bs _ (h.below hb) hlen).mono ?_; rintro e w1 ⟨rfl, hbw1⟩; obtain ⟨hcw1, _⟩ := bcell hbw1)
          go_ret
          exact ⟨ret_bool (by rw [HR.out, hp, hl]; rfl), via hbw1 hb⟩
set_option maxHeartbeats 1000000 in
theorem l1Keeps_any (n : Int) (A A' : Option Addr) (c c' : Nat) (bs : List Bd) (ts : List Int) (w : World) (h : BAt w A bs) (h' : IAt w A' ts) (hlen : bs.length ≤ 1099511627776) (hlen' : ts.length ≤ 1099511627776)
    (hin : ∀ x ∈ bs, 0 ≤ x.f ∧ x.f < ts.length ∧ 0 ≤ x.t ∧ x.t < ts.length) (hts : ∀ t ∈ ts, -2000 ≤ t ∧ t ≤ 2000) :
    Calls Try.prog 60 #[.agg #[.int .i64 n, .slice A bs.length c], .slice A' ts.length c'] w fun e w' => e = .returned (.bool (!bs.any fun x => !keeps ts x)) ∧ Below w.heap.size w w' := by
  have HIN := Lib.hid hin
  have HTS := Lib.hid hts
  clear hin hts
  go_enter Try.func60, Try.ntmps60
  go_wp2
  go_loopw [5] (fun i W => ∃ k : Nat, k ≤ bs.length ∧ i = .int .i64 k ∧ (∀ y ∈ bs.take k, (!keeps ts y) = false) ∧ Below w.heap.size w W ∧ w.heap.size < W.heap.size ∧ W.cell? ⟨w.heap.size, 1, none⟩ = some (.slice A bs.length c)) (fun i _ => bs.length - (intOf i).toNat)
  case atStart => exact ⟨0, Nat.zero_le _, rfl, by simp, valloc (Below.refl _ _) _, by simp, by simp⟩
  case round =>
    obtain ⟨k, hk, rfl, hno, hb, hz, e1⟩ := hrel
    have HNO := Lib.hid hno
    clear hno
    by_cases hlt : k < bs.length
    · obtain ⟨b, off, x, rfl, hbl, hx, hxm, c0, c1, c2⟩ := (h.below hb).at_ hlt
      obtain ⟨p1, p2, p3, p4⟩ := HIN.out x hxm
      obtain ⟨f, t, m⟩ := x
      simp only at p1 p2 p3 p4 c0 c1 c2
      obtain ⟨f, rfl⟩ := Int.eq_ofNat_of_zero_le p1
      obtain ⟨t, rfl⟩ := Int.eq_ofNat_of_zero_le p3
      obtain ⟨tb, toff, u, rfl, hul, hu, hum, cu⟩ := (h'.below hb).at_ (k := f) (by omega)
      obtain ⟨tb', toff', v, e, hvl, hv, hvm, cv⟩ := (h'.below hb).at_ (k := t) (by omega)
      obtain ⟨rfl, rfl⟩ : tb = tb' ∧ toff = toff' := by injection e with e; injection e with e1 e2; exact ⟨e1, e2⟩
      have hu1 := HTS.out u hum
      have hv1 := HTS.out v hvm
      have E := Lib.hid (show keeps ts ⟨f, t, m⟩ = decide (v - u ≤ m) by simp [keeps, hu, hv])
      have HX := Lib.hid hx
      have hk0 : (0 : Int) ≤ (k : Int) := by omega
      have hk1 : (k : Int) < (bs.length : Int) := by omega
      clear hx h h' hu hv e
      by_cases hd : m < v - u
      · have HR := Lib.hid (show (bs.any fun x => !keeps ts x) = true from any_of HX.out (by rw [E.out]; simp; omega))
        go_wp2
        go_quiet (fail)
        go_wp2
        go_ret
        refine ⟨ret_bool (by rw [HR.out]; rfl), vdrewN hb _⟩
      · have HR := Lib.hid (show (!keeps ts ⟨f, t, m⟩) = false by rw [E.out]; simp; omega)
        go_wp2
        go_quiet (fail)
        go_wp2
        go_roundw
        case rel => exact ⟨k + 1, by omega, by go_num, snoc_false HX.out HNO.out HR.out, vdrewN hb _, hz, e1⟩
        case measure => simp [intOf]; omega
    · have HR := Lib.hid (any_none (show bs.length ≤ k by omega) HNO.out)
      clear h h'
      go_wp2
      go_ret
      exact ⟨ret_bool (by rw [HR.out]; rfl), hb⟩
theorem specKeepsOk_any (n : Int) (A A' : Option Addr) (c c' : Nat) (bs : List Bd) (ts : List Int) (w : World) (h : BAt w A bs) (h' : IAt w A' ts) (hlen : bs.length ≤ 1099511627776) (hlen' : ts.length ≤ 1099511627776) :
    Calls Try.prog 29 #[.agg #[.int .i64 n, .slice A bs.length c], .slice A' ts.length c'] w fun e w' => e = .returned (.bool (keepsOk n bs ts)) ∧ Below w.heap.size w w' := by
  cases hp : timesOk n bs ts
  · have E := Lib.hid (show keepsOk n bs ts = false by simp [keepsOk, hp])
    go_enter Try.func29, Try.ntmps29
    go_wp2_with (go_at_call 24; refine (specTimesOk_any _ _ _ _ _ bs ts _ (h.below (by repeat (first | with_reducible exact Below.refl _ _ | with_reducible refine valloc ?_ _ | with_reducible refine vdrew ?_ | with_reducible refine vdrewN ?_ _ | with_reducible refine via (by assumption) ?_ | refine vset ?_ (by first | exact Nat.le_refl _ | (simp; done) | (simp; omega) | omega) _))) (h'.below (by repeat (first | with_reducible exact Below.refl _ _ | with_reducible refine valloc ?_ _ | with_reducible refine vdrew ?_ | with_reducible refine vdrewN ?_ _ | with_reducible refine via (by assumption) ?_ | refine vset ?_ (by first | exact Nat.le_refl _ | (simp; done) | (simp; omega) | omega) _))) hlen hlen').mono ?_; rintro e w1 ⟨rfl, hbw1⟩; obtain ⟨hcw1, hfw1⟩ := bcell hbw1; have hzw1 := hbw1.size; (try simp only [sz] at hzw1); (try simp only [szc] at hzw1); have hzw1_0 : w.heap.size < w1.heap.size := (by omega))
    go_ret
    refine ⟨ret_bool E.out.symm, ?_⟩
    repeat (first | with_reducible exact Below.refl _ _ | with_reducible refine valloc ?_ _ | with_reducible refine vdrew ?_ | with_reducible refine vdrewN ?_ _ | with_reducible refine via (by assumption) ?_ | refine vset ?_ (by first | exact Nat.le_refl _ | (simp; done) | (simp; omega) | omega) _)
  · have E := Lib.hid (show keepsOk n bs ts = !bs.any fun x => !keeps ts x by simp [keepsOk, hp])
    obtain ⟨hp1, hn, hts⟩ := timesOk_of hp
    obtain ⟨n1, n6, _, hbs⟩ := planOk_of hp1
    have HIN := Lib.hid (show ∀ x ∈ bs, 0 ≤ x.f ∧ x.f < ts.length ∧ 0 ≤ x.t ∧ x.t < ts.length from fun x hx => by have := hbs x hx; omega)
    have HTS := Lib.hid hts
    clear hn hts hbs hp1
    go_enter Try.func29, Try.ntmps29
    go_wp2_with (first
      | (go_at_call 24; refine (specTimesOk_any _ _ _ _ _ bs ts _ (h.below (by repeat (first | with_reducible exact Below.refl _ _ | with_reducible refine valloc ?_ _ | with_reducible refine vdrew ?_ | with_reducible refine vdrewN ?_ _ | with_reducible refine via (by assumption) ?_ | refine vset ?_ (by first | exact Nat.le_refl _ | (simp; done) | (simp; omega) | omega) _))) (h'.below (by repeat (first | with_reducible exact Below.refl _ _ | with_reducible refine valloc ?_ _ | with_reducible refine vdrew ?_ | with_reducible refine vdrewN ?_ _ | with_reducible refine via (by assumption) ?_ | refine vset ?_ (by first | exact Nat.le_refl _ | (simp; done) | (simp; omega) | omega) _))) hlen hlen').mono ?_; rintro e w1 ⟨rfl, hbw1⟩; obtain ⟨hcw1, hfw1⟩ := bcell hbw1; have hzw1 := hbw1.size; (try simp only [sz] at hzw1); (try simp only [szc] at hzw1); have hzw1_0 : w.heap.size < w1.heap.size := (by omega))
      | (go_at_call 60; refine (l1Keeps_any _ _ _ _ _ bs ts _ (h.below (by repeat (first | with_reducible exact Below.refl _ _ | with_reducible refine valloc ?_ _ | with_reducible refine vdrew ?_ | with_reducible refine vdrewN ?_ _ | with_reducible refine via (by assumption) ?_ | refine vset ?_ (by first | exact Nat.le_refl _ | (simp; done) | (simp; omega) | omega) _))) (h'.below (by repeat (first | with_reducible exact Below.refl _ _ | with_reducible refine valloc ?_ _ | with_reducible refine vdrew ?_ | with_reducible refine vdrewN ?_ _ | with_reducible refine via (by assumption) ?_ | refine vset ?_ (by first | exact Nat.le_refl _ | (simp; done) | (simp; omega) | omega) _))) hlen hlen' HIN.out HTS.out).mono ?_; rintro e w2 ⟨rfl, hbw2⟩))
    go_ret
    refine ⟨ret_bool E.out.symm, ?_⟩
    repeat (first | with_reducible exact Below.refl _ _ | with_reducible refine valloc ?_ _ | with_reducible refine vdrew ?_ | with_reducible refine vdrewN ?_ _ | with_reducible refine via (by assumption) ?_ | refine vset ?_ (by first | exact Nat.le_refl _ | (simp; done) | (simp; omega) | omega) _)
end Go.Proofs.Ytnagjnbfpafocaa
