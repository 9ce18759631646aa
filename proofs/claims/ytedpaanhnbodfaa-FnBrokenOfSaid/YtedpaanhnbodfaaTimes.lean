/- Contracts of impl.TimesOk, impl.KeepsOk, spec.TimesOk, spec.KeepsOk and of what they call; for slices of at most 2^40 elements. -/
import Derived.Test.YtedpaanhnbodfaaCopy
import Derived.Deep.QuietTactic
import Derived.BigQuiet
namespace Go.Proofs.Ytedpaanhnbodfaa
open Go.RowKit
set_option linter.unusedVariables false
set_option maxRecDepth 10000
set_option linter.unusedSimpArgs false

theorem allIn1_any (x lo hi : Int) (p q : Nat) (w : World) (p0 : w.cell? ⟨p, 0, none⟩ = some (.int .i64 lo)) (q0 : w.cell? ⟨q, 0, none⟩ = some (.int .i64 hi)) :
    Calls Try.prog 147 #[.int .i64 x, .pointer (some ⟨p, 0, none⟩), .pointer (some ⟨q, 0, none⟩)] w fun e w' => e = .returned (.bool (!inB x lo hi)) ∧ Below w.heap.size w w' := by
  go_enter Try.func147, Try.ntmps147
  go_wp2_with (go_at_call 99; refine (in_any _ _ _ _).mono ?_; rintro e w1 ⟨rfl, rfl⟩)
  go_ret
  exact ⟨rfl, Below.refl _ _⟩
def allB (xs : List Int) (lo hi : Int) : Bool := !xs.any fun x => !inB x lo hi
theorem allB_iff (xs : List Int) (lo hi : Int) : allB xs lo hi = true ↔ ∀ x ∈ xs, lo ≤ x ∧ x ≤ hi := by
  simp [allB, inB, List.any_eq_false]
theorem allIn_any (A : Option Addr) (c : Nat) (xs : List Int) (lo hi : Int) (w : World) (h : IAt w A xs) (hlen : xs.length ≤ 1099511627776) :
    Calls Try.prog 105 #[.slice A xs.length c, .int .i64 lo, .int .i64 hi] w fun e w' => e = .returned (.bool (allB xs lo hi)) ∧ Below w.heap.size w w' := by
  have HC := Lib.hid (containsI_any 147 #[.pointer (some ⟨w.heap.size, 0, none⟩), .pointer (some ⟨w.heap.size + 1, 0, none⟩)] (fun x => !inB x lo hi) A c xs ((w.alloc (.cells #[.int .i64 lo] 3)).alloc (.cells #[.int .i64 hi] 3))
        (h.below (valloc (valloc (Below.refl _ _) _) _)) hlen (fun _ _ => by go_simp) (fun W x hb _ => by
          have := allIn1_any x lo hi w.heap.size (w.heap.size + 1) W ((hb.cell (by simp; omega)).trans (by go_simp)) ((hb.cell (by simp)).trans (by go_simp))
          exact this))
  clear h
  go_enter Try.func105, Try.ntmps105
  go_wp2_with (go_at_call 146; refine HC.out.mono ?_; rintro e w1 ⟨rfl, hb1⟩)
  go_ret
  refine ⟨rfl, ?_⟩
  repeat (first | with_reducible exact Below.refl _ _ | with_reducible refine valloc ?_ _ | with_reducible refine vdrew ?_ | with_reducible refine vdrewN ?_ _ | with_reducible refine via (by assumption) ?_ | refine vset ?_ (by first | exact Nat.le_refl _ | (simp; done) | (simp; omega) | omega) _)
/-- Is there a time for each point? -/
def timesOk (n : Int) (bs : List Bd) (ts : List Int) : Bool := planOk n bs && ((ts.length : Int) == n) && allB ts (-2000) 2000
theorem timesOk_any (n : Int) (A A' : Option Addr) (c c' : Nat) (bs : List Bd) (ts : List Int) (w : World) (h : BAt w A bs) (h' : IAt w A' ts) (hlen : bs.length ≤ 1099511627776) (hlen' : ts.length ≤ 1099511627776) :
    Calls Try.prog 27 #[.agg #[.int .i64 n, .slice A bs.length c], .slice A' ts.length c'] w fun e w' => e = .returned (.bool (timesOk n bs ts)) ∧ Below w.heap.size w w' := by
  cases hp : planOk n bs
  · have E := Lib.hid (show timesOk n bs ts = false by simp [timesOk, hp])
    go_enter Try.func27, Try.ntmps27
    go_wp2_with (go_at_call 23; refine (planOk_any _ _ _ bs _ (h.below (by repeat (first | with_reducible exact Below.refl _ _ | with_reducible refine valloc ?_ _ | with_reducible refine vdrew ?_ | with_reducible refine vdrewN ?_ _ | with_reducible refine via (by assumption) ?_ | refine vset ?_ (by first | exact Nat.le_refl _ | (simp; done) | (simp; omega) | omega) _))) hlen).mono ?_; rintro e w1 ⟨rfl, hbw1⟩; obtain ⟨hcw1, hfw1⟩ := bcell hbw1; have hzw1 := hbw1.size; (try simp only [sz] at hzw1); (try simp only [szc] at hzw1); have hzw1_0 : w.heap.size < w1.heap.size := (by omega))
    go_ret
    refine ⟨ret_bool E.out.symm, ?_⟩
    repeat (first | with_reducible exact Below.refl _ _ | with_reducible refine valloc ?_ _ | with_reducible refine vdrew ?_ | with_reducible refine vdrewN ?_ _ | with_reducible refine via (by assumption) ?_ | refine vset ?_ (by first | exact Nat.le_refl _ | (simp; done) | (simp; omega) | omega) _)
  · cases hl : ((ts.length : Int) == n)
    · have E := Lib.hid (show timesOk n bs ts = false by simp [timesOk, hp, hl])
      go_enter Try.func27, Try.ntmps27
      go_wp2_with (go_at_call 23; refine (planOk_any _ _ _ bs _ (h.below (by repeat (first | with_reducible exact Below.refl _ _ | with_reducible refine valloc ?_ _ | with_reducible refine vdrew ?_ | with_reducible refine vdrewN ?_ _ | with_reducible refine via (by assumption) ?_ | refine vset ?_ (by first | exact Nat.le_refl _ | (simp; done) | (simp; omega) | omega) _))) hlen).mono ?_; rintro e w1 ⟨rfl, hbw1⟩; obtain ⟨hcw1, hfw1⟩ := bcell hbw1; have hzw1 := hbw1.size; (try simp only [sz] at hzw1); (try simp only [szc] at hzw1); have hzw1_0 : w.heap.size < w1.heap.size := (by omega))
      go_ret
      refine ⟨ret_bool E.out.symm, ?_⟩
      repeat (first | with_reducible exact Below.refl _ _ | with_reducible refine valloc ?_ _ | with_reducible refine vdrew ?_ | with_reducible refine vdrewN ?_ _ | with_reducible refine via (by assumption) ?_ | refine vset ?_ (by first | exact Nat.le_refl _ | (simp; done) | (simp; omega) | omega) _)
    · have E := Lib.hid (show timesOk n bs ts = allB ts (-2000) 2000 by simp [timesOk, hp, hl])
      go_enter Try.func27, Try.ntmps27
      go_wp2_with (first | (go_at_call 23; refine (planOk_any _ _ _ bs _ (h.below (by repeat (first | with_reducible exact Below.refl _ _ | with_reducible refine valloc ?_ _ | with_reducible refine vdrew ?_ | with_reducible refine vdrewN ?_ _ | with_reducible refine via (by assumption) ?_ | refine vset ?_ (by first | exact Nat.le_refl _ | (simp; done) | (simp; omega) | omega) _))) hlen).mono ?_; rintro e w1 ⟨rfl, hbw1⟩; obtain ⟨hcw1, hfw1⟩ := bcell hbw1; have hzw1 := hbw1.size; (try simp only [sz] at hzw1); (try simp only [szc] at hzw1); have hzw1_0 : w.heap.size < w1.heap.size := (by omega)) | (go_at_call 105; refine (allIn_any _ _ ts _ _ _ (h'.below (by repeat (first | with_reducible exact Below.refl _ _ | with_reducible refine valloc ?_ _ | with_reducible refine vdrew ?_ | with_reducible refine vdrewN ?_ _ | with_reducible refine via (by assumption) ?_ | refine vset ?_ (by first | exact Nat.le_refl _ | (simp; done) | (simp; omega) | omega) _))) hlen').mono ?_; rintro e w2 ⟨rfl, hbw2⟩))
      go_ret
      refine ⟨ret_bool E.out.symm, ?_⟩
      repeat (first | with_reducible exact Below.refl _ _ | with_reducible refine valloc ?_ _ | with_reducible refine vdrew ?_ | with_reducible refine vdrewN ?_ _ | with_reducible refine via (by assumption) ?_ | refine vset ?_ (by first | exact Nat.le_refl _ | (simp; done) | (simp; omega) | omega) _)
theorem timesOk_of {n : Int} {bs : List Bd} {ts : List Int} (h : timesOk n bs ts = true) : planOk n bs = true ∧ (ts.length : Int) = n ∧ ∀ t ∈ ts, -2000 ≤ t ∧ t ≤ 2000 := by
  simp only [timesOk, Bool.and_eq_true, beq_iff_eq, allB_iff] at h
  exact ⟨h.1.1, h.1.2, h.2⟩
/-- Do the times keep the bound? -/
def keeps (ts : List Int) (x : Bd) : Bool := decide (ts.getD x.t.toNat 0 - ts.getD x.f.toNat 0 ≤ x.m)
theorem keptBy_any (A : Option Addr) (c : Nat) (ts : List Int) (x : Bd) (w : World) (h : IAt w A ts) (hf : 0 ≤ x.f) (hf' : x.f < ts.length) (ht : 0 ≤ x.t) (ht' : x.t < ts.length) (hts : ∀ t ∈ ts, -2000 ≤ t ∧ t ≤ 2000) (hlen : ts.length ≤ 1099511627776) :
    Calls Try.prog 108 #[.agg #[.int .i64 x.f, .int .i64 x.t, .int .i64 x.m], .slice A ts.length c] w fun e w' => e = .returned (.bool (keeps ts x)) ∧ Below w.heap.size w w' := by
  obtain ⟨f, t, m⟩ := x
  simp only at hf hf' ht ht'
  obtain ⟨f, rfl⟩ := Int.eq_ofNat_of_zero_le hf
  obtain ⟨t, rfl⟩ := Int.eq_ofNat_of_zero_le ht
  obtain ⟨b, off, u, rfl, hbl, hu, hum, cu⟩ := h.at_ (k := f) (by omega)
  obtain ⟨b', off', v, e, hbl', hv, hvm, cv⟩ := h.at_ (k := t) (by omega)
  obtain ⟨rfl, rfl⟩ : b = b' ∧ off = off' := by injection e with e; injection e with e1 e2; exact ⟨e1, e2⟩
  have hu1 := hts u hum
  have hv1 := hts v hvm
  have E := Lib.hid (show keeps ts ⟨f, t, m⟩ = decide (v - u ≤ m) by simp [keeps, hu, hv])
  have hf0 : (0 : Int) ≤ (f : Int) := by omega
  have ht0 : (0 : Int) ≤ (t : Int) := by omega
  clear h hts hu hv e
  go_enter Try.func108, Try.ntmps108
  go_wp2
  go_quiet (fail)
  go_wp2
  go_ret
  refine ⟨ret_bool E.out.symm, ?_⟩
  repeat (first | with_reducible exact Below.refl _ _ | with_reducible refine valloc ?_ _ | with_reducible refine vdrew ?_ | with_reducible refine vdrewN ?_ _ | with_reducible refine via (by assumption) ?_ | refine vset ?_ (by first | exact Nat.le_refl _ | (simp; done) | (simp; omega) | omega) _)
theorem keeps1_any (A : Option Addr) (c : Nat) (ts : List Int) (x : Bd) (p : Nat) (w : World) (p0 : w.cell? ⟨p, 0, none⟩ = some (.slice A ts.length c)) (h : IAt w A ts) (hf : 0 ≤ x.f) (hf' : x.f < ts.length) (ht : 0 ≤ x.t) (ht' : x.t < ts.length) (hts : ∀ t ∈ ts, -2000 ≤ t ∧ t ≤ 2000) (hlen : ts.length ≤ 1099511627776) :
    Calls Try.prog 107 #[.agg #[.int .i64 x.f, .int .i64 x.t, .int .i64 x.m], .pointer (some ⟨p, 0, none⟩)] w fun e w' => e = .returned (.bool (!keeps ts x)) ∧ Below w.heap.size w w' := by
  have hp := cell_lt p0
  have H := Lib.hid (fun W (hb : Below w.heap.size w W) => keptBy_any A c ts x W (h.below hb) hf hf' ht ht' hts hlen)
  clear h hf hf' ht ht' hts
  go_enter Try.func107, Try.ntmps107
  go_wp2_with (go_at_call 108; refine (H.out _ (by repeat (first | with_reducible exact Below.refl _ _ | with_reducible refine valloc ?_ _ | with_reducible refine vdrew ?_ | with_reducible refine vdrewN ?_ _ | with_reducible refine via (by assumption) ?_ | refine vset ?_ (by first | exact Nat.le_refl _ | (simp; done) | (simp; omega) | omega) _))).mono ?_; rintro e w1 ⟨rfl, hb1⟩)
  go_ret
  refine ⟨rfl, ?_⟩
  repeat (first | with_reducible exact Below.refl _ _ | with_reducible refine valloc ?_ _ | with_reducible refine vdrew ?_ | with_reducible refine vdrewN ?_ _ | with_reducible refine via (by assumption) ?_ | refine vset ?_ (by first | exact Nat.le_refl _ | (simp; done) | (simp; omega) | omega) _)
/-- Do the times keep the plan? -/
def keepsOk (n : Int) (bs : List Bd) (ts : List Int) : Bool := timesOk n bs ts && !bs.any fun x => !keeps ts x
theorem keepsOk_any (n : Int) (A A' : Option Addr) (c c' : Nat) (bs : List Bd) (ts : List Int) (w : World) (h : BAt w A bs) (h' : IAt w A' ts) (hlen : bs.length ≤ 1099511627776) (hlen' : ts.length ≤ 1099511627776) :
    Calls Try.prog 33 #[.agg #[.int .i64 n, .slice A bs.length c], .slice A' ts.length c'] w fun e w' => e = .returned (.bool (keepsOk n bs ts)) ∧ Below w.heap.size w w' := by
  cases hp : timesOk n bs ts
  · have E := Lib.hid (show keepsOk n bs ts = false by simp [keepsOk, hp])
    go_enter Try.func33, Try.ntmps33
    go_wp2_with (go_at_call 27; refine (timesOk_any _ _ _ _ _ bs ts _ (h.below (by repeat (first | with_reducible exact Below.refl _ _ | with_reducible refine valloc ?_ _ | with_reducible refine vdrew ?_ | with_reducible refine vdrewN ?_ _ | with_reducible refine via (by assumption) ?_ | refine vset ?_ (by first | exact Nat.le_refl _ | (simp; done) | (simp; omega) | omega) _))) (h'.below (by repeat (first | with_reducible exact Below.refl _ _ | with_reducible refine valloc ?_ _ | with_reducible refine vdrew ?_ | with_reducible refine vdrewN ?_ _ | with_reducible refine via (by assumption) ?_ | refine vset ?_ (by first | exact Nat.le_refl _ | (simp; done) | (simp; omega) | omega) _))) hlen hlen').mono ?_; rintro e w1 ⟨rfl, hbw1⟩; obtain ⟨hcw1, hfw1⟩ := bcell hbw1; have hzw1 := hbw1.size; (try simp only [sz] at hzw1); (try simp only [szc] at hzw1); have hzw1_0 : w.heap.size < w1.heap.size := (by omega); have hzw1_1 : w.heap.size + 1 < w1.heap.size := (by omega))
    go_ret
    refine ⟨ret_bool E.out.symm, ?_⟩
    repeat (first | with_reducible exact Below.refl _ _ | with_reducible refine valloc ?_ _ | with_reducible refine vdrew ?_ | with_reducible refine vdrewN ?_ _ | with_reducible refine via (by assumption) ?_ | refine vset ?_ (by first | exact Nat.le_refl _ | (simp; done) | (simp; omega) | omega) _)
  · have E := Lib.hid (show keepsOk n bs ts = !bs.any fun x => !keeps ts x by simp [keepsOk, hp])
    obtain ⟨hp1, hn, hts⟩ := timesOk_of hp
    obtain ⟨n1, n6, _, hbs⟩ := planOk_of hp1
    have HTS := Lib.hid hts
    have HBS := Lib.hid hbs
    have HN := Lib.hid hn
    clear hn hts hbs hp1
    go_enter Try.func33, Try.ntmps33
    go_wp2_with (go_at_call 27; refine (timesOk_any _ _ _ _ _ bs ts _ (h.below (by repeat (first | with_reducible exact Below.refl _ _ | with_reducible refine valloc ?_ _ | with_reducible refine vdrew ?_ | with_reducible refine vdrewN ?_ _ | with_reducible refine via (by assumption) ?_ | refine vset ?_ (by first | exact Nat.le_refl _ | (simp; done) | (simp; omega) | omega) _))) (h'.below (by repeat (first | with_reducible exact Below.refl _ _ | with_reducible refine valloc ?_ _ | with_reducible refine vdrew ?_ | with_reducible refine vdrewN ?_ _ | with_reducible refine via (by assumption) ?_ | refine vset ?_ (by first | exact Nat.le_refl _ | (simp; done) | (simp; omega) | omega) _))) hlen hlen').mono ?_; rintro e w1 ⟨rfl, hbw1⟩; obtain ⟨hcw1, hfw1⟩ := bcell hbw1; have hzw1 := hbw1.size; (try simp only [sz] at hzw1); (try simp only [szc] at hzw1); have hzw1_0 : w.heap.size < w1.heap.size := (by omega); have hzw1_1 : w.heap.size + 1 < w1.heap.size := (by omega))
    have t0 : w1.cell? ⟨w.heap.size + 1, 0, none⟩ = some (.slice A' ts.length c') := by go_simp
    refine (containsB_any 107 #[.pointer (some ⟨w.heap.size + 1, 0, none⟩)] (fun x => !keeps ts x) A c bs w1 (h.below (by repeat (first | with_reducible exact Below.refl _ _ | with_reducible refine valloc ?_ _ | with_reducible refine vdrew ?_ | with_reducible refine vdrewN ?_ _ | with_reducible refine via (by assumption) ?_ | refine vset ?_ (by first | exact Nat.le_refl _ | (simp; done) | (simp; omega) | omega) _))) hlen (fun _ _ => by go_simp) (fun W x hb hx => by
      have hn := HN.out
      have hx' := HBS.out x hx
      exact keeps1_any A' c' ts x (w.heap.size + 1) W (cB hb t0) (h'.below (via hb (by repeat (first | with_reducible exact Below.refl _ _ | with_reducible refine valloc ?_ _ | with_reducible refine vdrew ?_ | with_reducible refine vdrewN ?_ _ | with_reducible refine via (by assumption) ?_ | refine vset ?_ (by first | exact Nat.le_refl _ | (simp; done) | (simp; omega) | omega) _)))) hx'.1 (by omega) hx'.2.2.1 (by omega) HTS.out hlen')).mono ?_
    rintro e w2 ⟨rfl, hbw2⟩
    go_wp2
    go_ret
    refine ⟨ret_bool E.out.symm, ?_⟩
    repeat (first | with_reducible exact Below.refl _ _ | with_reducible refine valloc ?_ _ | with_reducible refine vdrew ?_ | with_reducible refine vdrewN ?_ _ | with_reducible refine via (by assumption) ?_ | refine vset ?_ (by first | exact Nat.le_refl _ | (simp; done) | (simp; omega) | omega) _)
end Go.Proofs.Ytedpaanhnbodfaa
