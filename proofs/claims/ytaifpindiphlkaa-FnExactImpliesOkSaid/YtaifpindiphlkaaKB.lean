/- Contracts of impl.TimesOk, impl.KeepsOk, spec.TimesOk, spec.KeepsOk and of what they call; for slices of at most 2^40 elements. Contracts of spec.TimesOk, spec.KeepsOk and of what they call; for slices of at most 2^40 elements. Contracts of the laws' helpers over rows of ints: copy, compare, mark, held; for rows of at most 2^20 or 2^40 numbers. Contracts of the laws' helpers that write marks into a result or an argument's copy and ask whether they are still there; for numbers and lengths of at most 2^40. -/
import Derived.Test.YtaifpindiphlkaaKA
import Derived.Deep.QuietTactic
import Derived.BigQuiet
namespace Go.Proofs.Ytaifpindiphlkaa
open Go.RowKit
set_option linter.unusedVariables false
set_option maxRecDepth 10000
set_option linter.unusedSimpArgs false

theorem allIn1_any (x lo hi : Int) (p q : Nat) (w : World) (p0 : w.cell? ⟨p, 0, none⟩ = some (.int .i64 lo)) (q0 : w.cell? ⟨q, 0, none⟩ = some (.int .i64 hi)) :
    Calls Try.prog 73 #[.int .i64 x, .pointer (some ⟨p, 0, none⟩), .pointer (some ⟨q, 0, none⟩)] w fun e w' => e = .returned (.bool (!inB x lo hi)) ∧ Below w.heap.size w w' := by
  go_enter Try.func73, Try.ntmps73
  go_wp2_with (go_at_call 46; refine (in_any _ _ _ _).mono ?_; rintro e w1 ⟨rfl, rfl⟩)
  go_ret
  exact ⟨rfl, Below.refl _ _⟩
def allB (xs : List Int) (lo hi : Int) : Bool := !xs.any fun x => !inB x lo hi
theorem allB_iff (xs : List Int) (lo hi : Int) : allB xs lo hi = true ↔ ∀ x ∈ xs, lo ≤ x ∧ x ≤ hi := by
  simp [allB, inB, List.any_eq_false]
theorem allIn_any (A : Option Addr) (c : Nat) (xs : List Int) (lo hi : Int) (w : World) (h : IAt w A xs) (hlen : xs.length ≤ 1099511627776) :
    Calls Try.prog 52 #[.slice A xs.length c, .int .i64 lo, .int .i64 hi] w fun e w' => e = .returned (.bool (allB xs lo hi)) ∧ Below w.heap.size w w' := by
  have HC := Lib.hid (containsI_any 73 #[.pointer (some ⟨w.heap.size, 0, none⟩), .pointer (some ⟨w.heap.size + 1, 0, none⟩)] (fun x => !inB x lo hi) A c xs ((w.alloc (.cells #[.int .i64 lo] 3)).alloc (.cells #[.int .i64 hi] 3))
        (h.below (valloc (valloc (Below.refl _ _) _) _)) hlen (fun _ _ => by go_simp) (fun W x hb _ => by
          have := allIn1_any x lo hi w.heap.size (w.heap.size + 1) W ((hb.cell (by simp; omega)).trans (by go_simp)) ((hb.cell (by simp)).trans (by go_simp))
          exact this))
  clear h
  go_enter Try.func52, Try.ntmps52
  go_wp2_with (go_at_call 72; refine HC.out.mono ?_; rintro e w1 ⟨rfl, hb1⟩)
  go_ret
  refine ⟨rfl, ?_⟩
  repeat (first | with_reducible exact Below.refl _ _ | with_reducible refine valloc ?_ _ | with_reducible refine vdrew ?_ | with_reducible refine vdrewN ?_ _ | with_reducible refine via (by assumption) ?_ | refine vset ?_ (by first | exact Nat.le_refl _ | (simp; done) | (simp; omega) | omega) _)
/-- Is there a time for each point? -/
def timesOk (n : Int) (bs : List Bd) (ts : List Int) : Bool := planOk n bs && ((ts.length : Int) == n) && allB ts (-2000) 2000
theorem timesOk_any (n : Int) (A A' : Option Addr) (c c' : Nat) (bs : List Bd) (ts : List Int) (w : World) (h : BAt w A bs) (h' : IAt w A' ts) (hlen : bs.length ≤ 1099511627776) (hlen' : ts.length ≤ 1099511627776) :
    Calls Try.prog 16 #[.agg #[.int .i64 n, .slice A bs.length c], .slice A' ts.length c'] w fun e w' => e = .returned (.bool (timesOk n bs ts)) ∧ Below w.heap.size w w' := by
  cases hp : planOk n bs
  · have E := Lib.hid (show timesOk n bs ts = false by simp [timesOk, hp])
    go_enter Try.func16, Try.ntmps16
    go_wp2_with (go_at_call 12; refine (planOk_any _ _ _ bs _ (h.below (by repeat (first | with_reducible exact Below.refl _ _ | with_reducible refine valloc ?_ _ | with_reducible refine vdrew ?_ | with_reducible refine vdrewN ?_ _ | with_reducible refine via (by assumption) ?_ | refine vset ?_ (by first | exact Nat.le_refl _ | (simp; done) | (simp; omega) | omega) _))) hlen).mono ?_; rintro e w1 ⟨rfl, hbw1⟩; obtain ⟨hcw1, hfw1⟩ := bcell hbw1; have hzw1 := hbw1.size; (try simp only [sz] at hzw1); (try simp only [szc] at hzw1); have hzw1_0 : w.heap.size < w1.heap.size := (by omega))
    go_ret
    refine ⟨ret_bool E.out.symm, ?_⟩
    repeat (first | with_reducible exact Below.refl _ _ | with_reducible refine valloc ?_ _ | with_reducible refine vdrew ?_ | with_reducible refine vdrewN ?_ _ | with_reducible refine via (by assumption) ?_ | refine vset ?_ (by first | exact Nat.le_refl _ | (simp; done) | (simp; omega) | omega) _)
  · cases hl : ((ts.length : Int) == n)
    · have E := Lib.hid (show timesOk n bs ts = false by simp [timesOk, hp, hl])
      go_enter Try.func16, Try.ntmps16
      go_wp2_with (go_at_call 12; refine (planOk_any _ _ _ bs _ (h.below (by repeat (first | with_reducible exact Below.refl _ _ | with_reducible refine valloc ?_ _ | with_reducible refine vdrew ?_ | with_reducible refine vdrewN ?_ _ | with_reducible refine via (by assumption) ?_ | refine vset ?_ (by first | exact Nat.le_refl _ | (simp; done) | (simp; omega) | omega) _))) hlen).mono ?_; rintro e w1 ⟨rfl, hbw1⟩; obtain ⟨hcw1, hfw1⟩ := bcell hbw1; have hzw1 := hbw1.size; (try simp only [sz] at hzw1); (try simp only [szc] at hzw1); have hzw1_0 : w.heap.size < w1.heap.size := (by omega))
      go_ret
      refine ⟨ret_bool E.out.symm, ?_⟩
      repeat (first | with_reducible exact Below.refl _ _ | with_reducible refine valloc ?_ _ | with_reducible refine vdrew ?_ | with_reducible refine vdrewN ?_ _ | with_reducible refine via (by assumption) ?_ | refine vset ?_ (by first | exact Nat.le_refl _ | (simp; done) | (simp; omega) | omega) _)
    · have E := Lib.hid (show timesOk n bs ts = allB ts (-2000) 2000 by simp [timesOk, hp, hl])
      go_enter Try.func16, Try.ntmps16
      go_wp2_with (first | (go_at_call 12; refine (planOk_any _ _ _ bs _ (h.below (by repeat (first | with_reducible exact Below.refl _ _ | with_reducible refine valloc ?_ _ | with_reducible refine vdrew ?_ | with_reducible refine vdrewN ?_ _ | with_reducible refine via (by assumption) ?_ | refine vset ?_ (by first | exact Nat.le_refl _ | (simp; done) | (simp; omega) | omega) _))) hlen).mono ?_; rintro e w1 ⟨rfl, hbw1⟩; obtain ⟨hcw1, hfw1⟩ := bcell hbw1; have hzw1 := hbw1.size; (try simp only [sz] at hzw1); (try simp only [szc] at hzw1); have hzw1_0 : w.heap.size < w1.heap.size := (by omega)) | (go_at_call 52; refine (allIn_any _ _ ts _ _ _ (h'.below (by repeat (first | with_reducible exact Below.refl _ _ | with_reducible refine valloc ?_ _ | with_reducible refine vdrew ?_ | with_reducible refine vdrewN ?_ _ | with_reducible refine via (by assumption) ?_ | refine vset ?_ (by first | exact Nat.le_refl _ | (simp; done) | (simp; omega) | omega) _))) hlen').mono ?_; rintro e w2 ⟨rfl, hbw2⟩))
      go_ret
      refine ⟨ret_bool E.out.symm, ?_⟩
      repeat (first | with_reducible exact Below.refl _ _ | with_reducible refine valloc ?_ _ | with_reducible refine vdrew ?_ | with_reducible refine vdrewN ?_ _ | with_reducible refine via (by assumption) ?_ | refine vset ?_ (by first | exact Nat.le_refl _ | (simp; done) | (simp; omega) | omega) _)
theorem timesOk_of {n : Int} {bs : List Bd} {ts : List Int} (h : timesOk n bs ts = true) : planOk n bs = true ∧ (ts.length : Int) = n ∧ ∀ t ∈ ts, -2000 ≤ t ∧ t ≤ 2000 := by
  simp only [timesOk, Bool.and_eq_true, beq_iff_eq, allB_iff] at h
  exact ⟨h.1.1, h.1.2, h.2⟩
/-- Do the times keep the bound? -/
def keeps (ts : List Int) (x : Bd) : Bool := decide (ts.getD x.t.toNat 0 - ts.getD x.f.toNat 0 ≤ x.m)
theorem keptBy_any (A : Option Addr) (c : Nat) (ts : List Int) (x : Bd) (w : World) (h : IAt w A ts) (hf : 0 ≤ x.f) (hf' : x.f < ts.length) (ht : 0 ≤ x.t) (ht' : x.t < ts.length) (hts : ∀ t ∈ ts, -2000 ≤ t ∧ t ≤ 2000) (hlen : ts.length ≤ 1099511627776) :
    Calls Try.prog 55 #[.agg #[.int .i64 x.f, .int .i64 x.t, .int .i64 x.m], .slice A ts.length c] w fun e w' => e = .returned (.bool (keeps ts x)) ∧ Below w.heap.size w w' := by
  obtain ⟨f, t, m⟩ := x
  simp only at hf hf' ht ht'
  obtain ⟨f, rfl⟩ := Int.eq_ofNat_of_zero_le hf
  obtain ⟨t, rfl⟩ := Int.eq_ofNat_of_zero_le ht
  obtain ⟨b, off, u, rfl, hbl, hu, hum, cu⟩ := h.at_ (k := f) (by omega)
  obtain ⟨b', off', v, e, hbl', hv, hvm, cv⟩ := h.at_ (k := t) (by omega)
  obtain ⟨rfl, rfl⟩ : b = b' ∧ off = off' := by injection e with e; injection e with e1 e2; exact ⟨e1, e2⟩
  have hu1 := hts u hum
  have hv1 := hts v hvm
  have E := Lib.hid (show keeps ts ⟨f, t, m⟩ = decide (v - u ≤ m) by simp [keeps, hu, hv])
  have hf0 : (0 : Int) ≤ (f : Int) := by omega
  have ht0 : (0 : Int) ≤ (t : Int) := by omega
  clear h hts hu hv e
  go_enter Try.func55, Try.ntmps55
  go_wp2
  go_quiet (fail)
  go_wp2
  go_ret
  refine ⟨ret_bool E.out.symm, ?_⟩
  repeat (first | with_reducible exact Below.refl _ _ | with_reducible refine valloc ?_ _ | with_reducible refine vdrew ?_ | with_reducible refine vdrewN ?_ _ | with_reducible refine via (by assumption) ?_ | refine vset ?_ (by first | exact Nat.le_refl _ | (simp; done) | (simp; omega) | omega) _)
theorem keeps1_any (A : Option Addr) (c : Nat) (ts : List Int) (x : Bd) (p : Nat) (w : World) (p0 : w.cell? ⟨p, 0, none⟩ = some (.slice A ts.length c)) (h : IAt w A ts) (hf : 0 ≤ x.f) (hf' : x.f < ts.length) (ht : 0 ≤ x.t) (ht' : x.t < ts.length) (hts : ∀ t ∈ ts, -2000 ≤ t ∧ t ≤ 2000) (hlen : ts.length ≤ 1099511627776) :
    Calls Try.prog 54 #[.agg #[.int .i64 x.f, .int .i64 x.t, .int .i64 x.m], .pointer (some ⟨p, 0, none⟩)] w fun e w' => e = .returned (.bool (!keeps ts x)) ∧ Below w.heap.size w w' := by
  have hp := cell_lt p0
  have H := Lib.hid (fun W (hb : Below w.heap.size w W) => keptBy_any A c ts x W (h.below hb) hf hf' ht ht' hts hlen)
  clear h hf hf' ht ht' hts
  go_enter Try.func54, Try.ntmps54
  go_wp2_with (go_at_call 55; refine (H.out _ (by repeat (first | with_reducible exact Below.refl _ _ | with_reducible refine valloc ?_ _ | with_reducible refine vdrew ?_ | with_reducible refine vdrewN ?_ _ | with_reducible refine via (by assumption) ?_ | refine vset ?_ (by first | exact Nat.le_refl _ | (simp; done) | (simp; omega) | omega) _))).mono ?_; rintro e w1 ⟨rfl, hb1⟩)
  go_ret
  refine ⟨rfl, ?_⟩
  repeat (first | with_reducible exact Below.refl _ _ | with_reducible refine valloc ?_ _ | with_reducible refine vdrew ?_ | with_reducible refine vdrewN ?_ _ | with_reducible refine via (by assumption) ?_ | refine vset ?_ (by first | exact Nat.le_refl _ | (simp; done) | (simp; omega) | omega) _)
/-- Do the times keep the plan? -/
def keepsOk (n : Int) (bs : List Bd) (ts : List Int) : Bool := timesOk n bs ts && !bs.any fun x => !keeps ts x
theorem keepsOk_any (n : Int) (A A' : Option Addr) (c c' : Nat) (bs : List Bd) (ts : List Int) (w : World) (h : BAt w A bs) (h' : IAt w A' ts) (hlen : bs.length ≤ 1099511627776) (hlen' : ts.length ≤ 1099511627776) :
    Calls Try.prog 22 #[.agg #[.int .i64 n, .slice A bs.length c], .slice A' ts.length c'] w fun e w' => e = .returned (.bool (keepsOk n bs ts)) ∧ Below w.heap.size w w' := by
  cases hp : timesOk n bs ts
  · have E := Lib.hid (show keepsOk n bs ts = false by simp [keepsOk, hp])
    go_enter Try.func22, Try.ntmps22
    go_wp2_with (go_at_call 16; refine (timesOk_any _ _ _ _ _ bs ts _ (h.below (by repeat (first | with_reducible exact Below.refl _ _ | with_reducible refine valloc ?_ _ | with_reducible refine vdrew ?_ | with_reducible refine vdrewN ?_ _ | with_reducible refine via (by assumption) ?_ | refine vset ?_ (by first | exact Nat.le_refl _ | (simp; done) | (simp; omega) | omega) _))) (h'.below (by repeat (first | with_reducible exact Below.refl _ _ | with_reducible refine valloc ?_ _ | with_reducible refine vdrew ?_ | with_reducible refine vdrewN ?_ _ | with_reducible refine via (by assumption) ?_ | refine vset ?_ (by first | exact Nat.le_refl _ | (simp; done) | (simp; omega) | omega) _))) hlen hlen').mono ?_; rintro e w1 ⟨rfl, hbw1⟩; obtain ⟨hcw1, hfw1⟩ := bcell hbw1; have hzw1 := hbw1.size; (try simp only [sz] at hzw1); (try simp only [szc] at hzw1); have hzw1_0 : w.heap.size < w1.heap.size := (by omega); have hzw1_1 : w.heap.size + 1 < w1.heap.size := (by omega))
    go_ret
    refine ⟨ret_bool E.out.symm, ?_⟩
    repeat (first | with_reducible exact Below.refl _ _ | with_reducible refine valloc ?_ _ | with_reducible refine vdrew ?_ | with_reducible refine vdrewN ?_ _ | with_reducible refine via (by assumption) ?_ | refine vset ?_ (by first | exact Nat.le_refl _ | (simp; done) | (simp; omega) | omega) _)
  · have E := Lib.hid (show keepsOk n bs ts = !bs.any fun x => !keeps ts x by simp [keepsOk, hp])
    obtain ⟨hp1, hn, hts⟩ := timesOk_of hp
    obtain ⟨n1, n6, _, hbs⟩ := planOk_of hp1
    have HTS := Lib.hid hts
    have HBS := Lib.hid hbs
    have HN := Lib.hid hn
    clear hn hts hbs hp1
    go_enter Try.func22, Try.ntmps22
    go_wp2_with (go_at_call 16; refine (timesOk_any _ _ _ _ _ bs ts _ (h.below (by repeat (first | with_reducible exact Below.refl _ _ | with_reducible refine valloc ?_ _ | with_reducible refine vdrew ?_ | with_reducible refine vdrewN ?_ _ | with_reducible refine via (by assumption) ?_ | refine vset ?_ (by first | exact Nat.le_refl _ | (simp; done) | (simp; omega) | omega) _))) (h'.below (by repeat (first | with_reducible exact Below.refl _ _ | with_reducible refine valloc ?_ _ | with_reducible refine vdrew ?_ | with_reducible refine vdrewN ?_ _ | with_reducible refine via (by assumption) ?_ | refine vset ?_ (by first | exact Nat.le_refl _ | (simp; done) | (simp; omega) | omega) _))) hlen hlen').mono ?_; rintro e w1 ⟨rfl, hbw1⟩; obtain ⟨hcw1, hfw1⟩ := bcell hbw1; have hzw1 := hbw1.size; (try simp only [sz] at hzw1); (try simp only [szc] at hzw1); have hzw1_0 : w.heap.size < w1.heap.size := (by omega); have hzw1_1 : w.heap.size + 1 < w1.heap.size := (by omega))
    have t0 : w1.cell? ⟨w.heap.size + 1, 0, none⟩ = some (.slice A' ts.length c') := by go_simp
    refine (containsB_any 54 #[.pointer (some ⟨w.heap.size + 1, 0, none⟩)] (fun x => !keeps ts x) A c bs w1 (h.below (by repeat (first | with_reducible exact Below.refl _ _ | with_reducible refine valloc ?_ _ | with_reducible refine vdrew ?_ | with_reducible refine vdrewN ?_ _ | with_reducible refine via (by assumption) ?_ | refine vset ?_ (by first | exact Nat.le_refl _ | (simp; done) | (simp; omega) | omega) _))) hlen (fun _ _ => by go_simp) (fun W x hb hx => by
      have hn := HN.out
      have hx' := HBS.out x hx
      exact keeps1_any A' c' ts x (w.heap.size + 1) W (cB hb t0) (h'.below (via hb (by repeat (first | with_reducible exact Below.refl _ _ | with_reducible refine valloc ?_ _ | with_reducible refine vdrew ?_ | with_reducible refine vdrewN ?_ _ | with_reducible refine via (by assumption) ?_ | refine vset ?_ (by first | exact Nat.le_refl _ | (simp; done) | (simp; omega) | omega) _)))) hx'.1 (by omega) hx'.2.2.1 (by omega) HTS.out hlen')).mono ?_
    rintro e w2 ⟨rfl, hbw2⟩
    go_wp2
    go_ret
    refine ⟨ret_bool E.out.symm, ?_⟩
    repeat (first | with_reducible exact Below.refl _ _ | with_reducible refine valloc ?_ _ | with_reducible refine vdrew ?_ | with_reducible refine vdrewN ?_ _ | with_reducible refine via (by assumption) ?_ | refine vset ?_ (by first | exact Nat.le_refl _ | (simp; done) | (simp; omega) | omega) _)
end Go.Proofs.Ytaifpindiphlkaa
namespace Go.Proofs.Ytaifpindiphlkaa
open Go.RowKit
set_option linter.unusedVariables false
set_option maxRecDepth 10000
set_option linter.unusedSimpArgs false

theorem timesOk_bad {n : Int} {bs : List Bd} {ts : List Int} {k : Nat} {x : Int} (hx : ts[k]? = some x) (h : inB x (-2000) 2000 = false) : timesOk n bs ts = false := by
  simp [timesOk, allB, any_of (q := fun x => !inB x (-2000) 2000) hx (by simp [h])]
theorem timesOk_end {n : Int} {bs : List Bd} {ts : List Int} {k : Nat} (hk : ts.length ≤ k) (hn : ∀ y ∈ ts.take k, (!inB y (-2000) 2000) = false) : timesOk n bs ts = (planOk n bs && ((ts.length : Int) == n)) := by
  simp [timesOk, allB, any_none hk hn]
set_option maxHeartbeats 1000000 in
theorem specTimesOk_any (n : Int) (A A' : Option Addr) (c c' : Nat) (bs : List Bd) (ts : List Int) (w : World) (h : BAt w A bs) (h' : IAt w A' ts) (hlen : bs.length ≤ 1099511627776) (hlen' : ts.length ≤ 1099511627776) :
    Calls Try.prog 17 #[.agg #[.int .i64 n, .slice A bs.length c], .slice A' ts.length c'] w fun e w' => e = .returned (.bool (timesOk n bs ts)) ∧ Below w.heap.size w w' := by
  go_enter Try.func17, Try.ntmps17
  go_wp2
  go_loopw [5] (fun i W => ∃ k : Nat, k ≤ ts.length ∧ i = .int .i64 k ∧ (∀ y ∈ ts.take k, (!inB y (-2000) 2000) = false) ∧ Below w.heap.size w W ∧ w.heap.size < W.heap.size ∧ W.cell? ⟨w.heap.size, 0, none⟩ = some (.int .i64 n) ∧ W.cell? ⟨w.heap.size, 1, none⟩ = some (.slice A bs.length c)) (fun i _ => ts.length - (intOf i).toNat)
  case atStart => exact ⟨0, Nat.zero_le _, rfl, by simp, valloc (Below.refl _ _) _, by simp, by simp, by simp⟩
  case round =>
    obtain ⟨k, hk, rfl, hno, hb, hz, e0, e1⟩ := hrel
    have HNO := Lib.hid hno
    clear hno
    by_cases hlt : k < ts.length
    · obtain ⟨b, off, x, rfl, hbl, hx, hxm, c0⟩ := (h'.below hb).at_ hlt
      have HX := Lib.hid hx
      clear hx h h'
      cases hf : inB x (-2000) 2000
      · have HR := Lib.hid (timesOk_bad (n := n) (bs := bs) HX.out hf)
        go_wp2_with (go_at_call 50; refine (l1In_any _ _ _ _).mono ?_; rintro e w' ⟨rfl, rfl⟩)
        go_ret
        exact ⟨ret_bool HR.out.symm, hb⟩
      · have HR := Lib.hid (show (!inB x (-2000) 2000) = false by simp [hf])
        go_wp2_with (go_at_call 50; refine (l1In_any _ _ _ _).mono ?_; rintro e w' ⟨rfl, rfl⟩)
        go_roundw
        case rel => exact ⟨k + 1, by omega, by go_num, snoc_false HX.out HNO.out HR.out, hb, hz, e0, e1⟩
        case measure => simp [intOf]; omega
    · have HR := Lib.hid (timesOk_end (n := n) (bs := bs) (by omega) HNO.out)
      cases hp : planOk n bs
      · go_wp2_with (go_at_call 13; refine (specPlanOk_any _ _ _ bs _ (h.below hb) hlen).mono ?_; rintro e w1 ⟨rfl, hbw1⟩)
        go_ret
        exact ⟨ret_bool (by rw [HR.out, hp]; rfl), via hbw1 hb⟩
      · cases hl : ((ts.length : Int) == n)
        · go_wp2_with (go_at_call 13; refine (specPlanOk_any _ _ _ bs _ (h.below hb) hlen).mono ?_; rintro e w1 ⟨rfl, hbw1⟩; obtain ⟨hcw1, _⟩ := bcell hbw1)
          go_ret
          exact ⟨ret_bool (by rw [HR.out, hp, hl]; rfl), via hbw1 hb⟩
        · go_wp2_with (go_at_call 13; refine (specPlanOk_any _ _ _ bs _ (h.below hb) hlen).mono ?_; rintro e w1 ⟨rfl, hbw1⟩; obtain ⟨hcw1, _⟩ := bcell hbw1)
          go_ret
          exact ⟨ret_bool (by rw [HR.out, hp, hl]; rfl), via hbw1 hb⟩
end Go.Proofs.Ytaifpindiphlkaa
namespace Go.Proofs.Ytaifpindiphlkaa
open Go.RowKit
set_option linter.unusedVariables false
set_option maxRecDepth 10000
set_option linter.unusedSimpArgs false

/-- What is handed back is a row of the call's own that holds the numbers xs. -/
def IntsCopy (xs : List Int) (w : World) (e : Ending) (w' : World) : Prop :=
  ∃ A, e = .returned (.slice A xs.length xs.length) ∧ RI w' w.heap.size w'.heap.size A xs ∧ Below w.heap.size w w'
theorem eqIntS_same (A A' : Option Addr) (c c' : Nat) (xs : List Int) (w : World) (h : IAt w A xs) (h' : IAt w A' xs) (hlen : xs.length ≤ 1099511627776) :
    Calls Try.prog 61 #[.slice A xs.length c, .slice A' xs.length c'] w fun e w' => e = .returned (.bool true) ∧ Below w.heap.size w w' := by
  go_enter Try.func61, Try.ntmps61
  go_wp2
  go_loopw [5] (fun i W => ∃ k : Nat, k ≤ xs.length ∧ i = .int .i64 k ∧ Below w.heap.size w W) (fun i _ => xs.length - (intOf i).toNat)
  case atStart => exact ⟨0, Nat.zero_le _, rfl, Below.refl _ _⟩
  case round =>
    obtain ⟨k, hk, rfl, hb⟩ := hrel
    by_cases hlt : k < xs.length
    · obtain ⟨b, off, x, rfl, hbl, hx, hxm, c0⟩ := (h.below hb).at_ hlt
      obtain ⟨b', off', x', rfl, hbl', hx', hxm', d0⟩ := (h'.below hb).at_ hlt
      obtain rfl : x = x' := by rw [hx] at hx'; injection hx'
      have hk0 : (0 : Int) ≤ (k : Int) := by omega
      have hk1 : (k : Int) < (xs.length : Int) := by omega
      clear hx hx' h h'
      go_wp2
      go_quiet (fail)
      go_wp2
      go_roundw
      case rel => exact ⟨k + 1, by omega, by go_num, vdrewN hb _⟩
      case measure => simp [intOf]; omega
    · clear h h'
      go_wp2
      go_ret
      exact ⟨rfl, hb⟩
theorem sameInts_same (A A' : Option Addr) (c c' : Nat) (xs : List Int) (w : World) (h : IAt w A xs) (h' : IAt w A' xs) (hlen : xs.length ≤ 1099511627776) :
    Calls Try.prog 20 #[.slice A xs.length c, .slice A' xs.length c'] w fun e w' => e = .returned (.bool true) ∧ Below w.heap.size w w' := by
  go_enter Try.func20, Try.ntmps20
  go_wp2
  go_loopw [5] (fun i W => ∃ k : Nat, k ≤ xs.length ∧ i = .int .i64 k ∧ Below w.heap.size w W) (fun i _ => xs.length - (intOf i).toNat)
  case atStart => exact ⟨0, Nat.zero_le _, rfl, Below.refl _ _⟩
  case round =>
    obtain ⟨k, hk, rfl, hb⟩ := hrel
    by_cases hlt : k < xs.length
    · obtain ⟨b, off, x, rfl, hbl, hx, hxm, c0⟩ := (h.below hb).at_ hlt
      obtain ⟨b', off', x', rfl, hbl', hx', hxm', d0⟩ := (h'.below hb).at_ hlt
      obtain rfl : x = x' := by rw [hx] at hx'; injection hx'
      have hk0 : (0 : Int) ≤ (k : Int) := by omega
      have hk1 : (k : Int) < (xs.length : Int) := by omega
      clear hx hx' h h'
      go_wp2
      go_quiet (fail)
      go_wp2
      go_roundw
      case rel => exact ⟨k + 1, by omega, by go_num, vdrewN hb _⟩
      case measure => simp [intOf]; omega
    · clear h h'
      go_wp2
      go_ret
      exact ⟨rfl, hb⟩
end Go.Proofs.Ytaifpindiphlkaa
namespace Go.Proofs.Ytaifpindiphlkaa
open Go.RowKit
set_option linter.unusedVariables false
set_option maxRecDepth 10000
set_option linter.unusedSimpArgs false

def marks (k : Int) (n : Nat) : List Int := (List.range n).map fun (i : Nat) => k + (i : Int)
theorem marks_length (k : Int) (n : Nat) : (marks k n).length = n := by simp [marks]
theorem marks_at {k : Int} {n i : Nat} (h : i < n) : (marks k n)[i]? = some (k + i) := by simp [marks, h]
theorem FillI.marks {xs : List Int} {cs : Array Value} (k : Int) (h : FillI xs xs.length cs) : FillI (marks k xs.length) 0 cs := FillI.zero _ (by rw [marks_length]; exact h.1)
set_option maxHeartbeats 400000 in
theorem markIntS_any (A : Option Addr) (c : Nat) (xs : List Int) (k0 : Int) (lo hi : Nat) (w : World) (h : RI w lo hi A xs) (hk1 : 0 ≤ k0) (hk2 : k0 ≤ 1099511627776) (hlen : xs.length ≤ 1099511627776) :
    Calls Try.prog 64 #[.slice A xs.length c, .int .i64 k0] w fun e w' => e = .returned (.int .i64 (k0 + xs.length)) ∧ RI w' lo hi A (marks k0 xs.length) ∧ Only lo hi w w' := by
  rcases h with ⟨rfl, rfl⟩ | ⟨g, cs0, rfl, h1, h2, hB0, hF0⟩
  · go_enter Try.func64, Try.ntmps64
    go_wp2
    go_loopw [1, 5] (fun k i W => k = .int .i64 k0 ∧ i = .int .i64 0 ∧ Only lo hi w W) (fun _ i _ => 0)
    case atStart => exact ⟨rfl, rfl, Only.refl _ _ _⟩
    case round =>
      obtain ⟨rfl, rfl, hb⟩ := hrel
      go_wp2
      go_ret
      exact ⟨ret_int (by simp), .inl ⟨rfl, rfl⟩, hb⟩
  · have HF := Lib.hid (hF0.marks k0)
    have HB := Lib.hid hB0
    clear hF0 hB0
    go_enter Try.func64, Try.ntmps64
    go_wp2
    go_loopw [1, 5] (fun k i W => ∃ j : Nat, j ≤ xs.length ∧ i = .int .i64 j ∧ k = .int .i64 (k0 + j) ∧ Only lo hi w W ∧ ∃ cs, Blk W g 3 cs ∧ FillI (marks k0 xs.length) j cs) (fun _ i _ => xs.length - (intOf i).toNat)
    case atStart => exact ⟨0, Nat.zero_le _, rfl, by simp, Only.refl _ _ _, _, HB.out, HF.out⟩
    case round =>
      obtain ⟨j, hj, rfl, rfl, hb, cs, hB, hF⟩ := hrel
      by_cases hlt : j < xs.length
      · obtain ⟨u0, v0⟩ := hF.room (j := j) (by rw [marks_length]; exact hlt)
        have d0 := (hB.cell j).trans v0
        have f0 := hB.frozen j
        have HB1 := Lib.hid hB
        clear hB v0
        go_wp2
        go_roundw
        case rel => exact ⟨j + 1, by omega, by go_num, by go_num, hb.set_ h1 h2 _, _, HB1.out.set_ _ _, hF.step (marks_at hlt)⟩
        case measure => simp [intOf]; omega
      · obtain rfl : j = xs.length := by omega
        have HB1 := Lib.hid hB
        clear hB
        go_wp2
        go_ret
        exact ⟨rfl, .inr ⟨g, cs, rfl, h1, h2, HB1.out, by rw [marks_length]; exact hF⟩, hb⟩
theorem heldIntS_any (A : Option Addr) (c n : Nat) (k0 : Int) (w : World) (h : IAt w A (marks k0 n)) (hk1 : 0 ≤ k0) (hk2 : k0 ≤ 1099511627776) (hlen : n ≤ 1099511627776) :
    Calls Try.prog 65 #[.slice A n c, .int .i64 k0] w fun e w' => e = .returned (.int .i64 (k0 + n)) ∧ Below w.heap.size w w' := by
  go_enter Try.func65, Try.ntmps65
  go_wp2
  go_loopw [1, 5] (fun k i W => ∃ j : Nat, j ≤ n ∧ i = .int .i64 j ∧ k = .int .i64 (k0 + j) ∧ Below w.heap.size w W) (fun _ i _ => n - (intOf i).toNat)
  case atStart => exact ⟨0, Nat.zero_le _, rfl, by simp, Below.refl _ _⟩
  case round =>
    obtain ⟨j, hj, rfl, rfl, hb⟩ := hrel
    by_cases hlt : j < n
    · obtain ⟨b, off, x, rfl, hbl, hx, hxm, c0⟩ := (h.below hb).at_ (k := j) (by rw [marks_length]; exact hlt)
      rw [marks_at hlt] at hx
      injection hx with hx
      subst hx
      have hj0 : (0 : Int) ≤ (j : Int) := by omega
      have hj1 : (j : Int) < (n : Int) := by omega
      clear h
      go_wp2
      go_roundw
      case rel => exact ⟨j + 1, by omega, by go_num, by go_num, hb⟩
      case measure => simp [intOf]; omega
    · clear h
      obtain rfl : j = n := by omega
      go_wp2
      go_ret
      exact ⟨rfl, hb⟩
set_option maxHeartbeats 1000000 in
theorem markBoundS_any (A : Option Addr) (c : Nat) (bs : List Bd) (k0 : Int) (lo hi : Nat) (w : World) (h : RB w lo hi A bs) (hk1 : 0 ≤ k0) (hk2 : k0 ≤ 1099511627776) (hlen : bs.length ≤ 1099511627776) :
    Calls Try.prog 63 #[.slice A bs.length c, .int .i64 k0] w fun e w' => e = .returned (.int .i64 (k0 + 3 * bs.length)) ∧ Only lo hi w w' := by
  rcases h with ⟨rfl, rfl⟩ | ⟨g, cs0, rfl, h1, h2, hB0, hF0⟩
  · go_enter Try.func63, Try.ntmps63
    go_wp2
    go_loopw [1, 5] (fun k i W => k = .int .i64 k0 ∧ i = .int .i64 0 ∧ Only lo hi w W) (fun _ i _ => 0)
    case atStart => exact ⟨rfl, rfl, Only.refl _ _ _⟩
    case round =>
      obtain ⟨rfl, rfl, hb⟩ := hrel
      go_wp2
      go_ret
      exact ⟨ret_int (by simp), hb⟩
  · have HS := Lib.hid (show bs.length * 3 ≤ cs0.size from hF0.1)
    have HB := Lib.hid hB0
    clear hF0 hB0
    go_enter Try.func63, Try.ntmps63
    go_wp2
    go_loopw [1, 5] (fun k i W => ∃ j : Nat, j ≤ bs.length ∧ i = .int .i64 j ∧ k = .int .i64 (k0 + 3 * j) ∧ Only lo hi w W ∧ ∃ cs, Blk W g 64 cs ∧ bs.length * 3 ≤ cs.size) (fun _ i _ => bs.length - (intOf i).toNat)
    case atStart => exact ⟨0, Nat.zero_le _, rfl, by simp, Only.refl _ _ _, _, HB.out, HS.out⟩
    case round =>
      obtain ⟨j, hj, rfl, rfl, hb, cs, hB, hF⟩ := hrel
      by_cases hlt : j < bs.length
      · have v0 : cs[j * 3]? = some cs[j * 3] := Array.getElem?_eq_getElem (by omega)
        have v1 : cs[j * 3 + 1]? = some cs[j * 3 + 1] := Array.getElem?_eq_getElem (by omega)
        have v2 : cs[j * 3 + 2]? = some cs[j * 3 + 2] := Array.getElem?_eq_getElem (by omega)
        generalize cs[j * 3] = u0 at v0
        generalize cs[j * 3 + 1] = u1 at v1
        generalize cs[j * 3 + 2] = u2 at v2
        have d0 := (hB.cell (j * 3)).trans v0
        have d1 := (hB.cell (j * 3 + 1)).trans v1
        have d2 := (hB.cell (j * 3 + 2)).trans v2
        have f0 := hB.frozen (j * 3)
        have f1 := hB.frozen (j * 3 + 1)
        have f2 := hB.frozen (j * 3 + 2)
        have HB1 := Lib.hid hB
        clear hB v0 v1 v2
        go_wp2
        go_roundw
        case rel => exact ⟨j + 1, by omega, by go_num, by go_num, ((hb.set_ h1 h2 _).set_ h1 h2 _).set_ h1 h2 _, _, ((HB1.out.set_ _ _).set_ _ _).set_ _ _, by simpa using hF⟩
        case measure => simp [intOf]; omega
      · obtain rfl : j = bs.length := by omega
        have HB1 := Lib.hid hB
        clear hB
        go_wp2
        go_ret
        exact ⟨rfl, hb⟩
theorem markPlan_any (n : Int) (A : Option Addr) (c : Nat) (bs : List Bd) (k0 : Int) (lo hi : Nat) (w : World) (h : RB w lo hi A bs) (hk1 : 0 ≤ k0) (hk2 : k0 ≤ 1099511627776) (hlen : bs.length ≤ 1099511627776) (hh : hi ≤ w.heap.size) :
    Calls Try.prog 37 #[.agg #[.int .i64 n, .slice A bs.length c], .int .i64 k0] w fun e w' => e = .returned (.int .i64 (k0 + 3 * bs.length)) ∧ Only lo hi w w' := by
  go_enter Try.func37, Try.ntmps37
  go_wp2_with (go_at_call 63; refine (markBoundS_any A c bs k0 lo hi _ (h.same ((Same.refl _ _ _).alloc _) hh) hk1 hk2 hlen).mono ?_; rintro e w1 ⟨rfl, ho⟩)
  go_ret
  exact ⟨rfl, Only.only ho (Nat.le_refl _) (Nat.le_refl _) ((Only.refl _ _ _).alloc _)⟩
end Go.Proofs.Ytaifpindiphlkaa
