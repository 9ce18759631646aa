/- Contracts of impl.RingOk, impl.RingSum, spec.RingOk, spec.RingSum; for slices of at most 2^40 elements. -/
import Derived.Test.YtnompncmachgjaaKB
namespace Go.Proofs.Ytnompncmachgjaa
open Go.RowKit
set_option linter.unusedVariables false
set_option maxRecDepth 10000
set_option linter.unusedSimpArgs false

/-- The bound at a place. -/
def el (bs : List Bd) (i : Int) : Bd := bs.getD i.toNat ⟨0, 0, 0⟩
theorem el_nat (bs : List Bd) (a : Nat) (x : Bd) (h : bs[a]? = some x) : el bs (a : Int) = x := by simp [el, h]
/-- The place ahead of k in a ring. -/
def before (len k : Nat) : Nat := if k = 0 then len - 1 else k - 1
def linkOk (bs : List Bd) (ring : List Int) (k : Nat) : Prop := (el bs (ring.getD (before ring.length k) 0)).t = (el bs (ring.getD k 0)).f
instance (bs : List Bd) (ring : List Int) (k : Nat) : Decidable (linkOk bs ring k) := by unfold linkOk; infer_instance
def ringChain (bs : List Bd) (ring : List Int) : Bool := decide (∀ k, k < ring.length → linkOk bs ring k)
def ringOk (n : Int) (bs : List Bd) (ring : List Int) : Bool := planOk n bs && inB ring.length 1 16 && allB ring 0 ((bs.length : Int) - 1) && ringChain bs ring
theorem ringOk_of {n : Int} {bs : List Bd} {ring : List Int} (h : ringOk n bs ring = true) : planOk n bs = true ∧ 1 ≤ ring.length ∧ ring.length ≤ 16 ∧ (∀ x ∈ ring, 0 ≤ x ∧ x < bs.length) ∧ ∀ k, k < ring.length → linkOk bs ring k := by
  simp only [ringOk, ringChain, Bool.and_eq_true, allB_iff, inB_iff, decide_eq_true_eq] at h
  obtain ⟨⟨⟨h1, h2⟩, h3⟩, h4⟩ := h
  exact ⟨h1, by omega, by omega, fun x hx => by have := h3 x hx; omega, h4⟩
theorem ringChain_bad {bs : List Bd} {ring : List Int} {k : Nat} (hk : k < ring.length) (h : ¬ linkOk bs ring k) : ringChain bs ring = false := by
  unfold ringChain; rw [decide_eq_false_iff_not]; exact fun hh => h (hh k hk)
theorem ringChain_good {bs : List Bd} {ring : List Int} (h : ∀ k, k < ring.length → linkOk bs ring k) : ringChain bs ring = true := by
  unfold ringChain; rw [decide_eq_true_iff]; exact h
/-- The place in a ring that follows k. -/
theorem before_next {len k : Nat} (h : k < len) : before len ((k + 1) % len) = k ∧ (k + 1) % len < len := by
  refine ⟨?_, Nat.mod_lt _ (by omega)⟩
  unfold before
  by_cases e : k + 1 = len
  · rw [e, Nat.mod_self, if_pos rfl]; omega
  · rw [Nat.mod_eq_of_lt (by omega), if_neg (by omega)]; omega
theorem next_before {len k : Nat} (h : k < len) : (before len k + 1) % len = k := by
  unfold before
  by_cases e : k = 0
  · rw [if_pos e, e, show len - 1 + 1 = len by omega, Nat.mod_self]
  · rw [if_neg e, show k - 1 + 1 = k by omega, Nat.mod_eq_of_lt h]
theorem before_lt {len k : Nat} (h : k < len) : before len k < len := by unfold before; split <;> omega

set_option maxHeartbeats 2000000 in
theorem ringOk_any (n : Int) (A A' : Option Addr) (c c' : Nat) (bs : List Bd) (ring : List Int) (w : World) (h : BAt w A bs) (h' : IAt w A' ring) (hlen : bs.length ≤ 1099511627776) (hlen' : ring.length ≤ 1099511627776) :
    Calls Try.prog 63 #[.agg #[.int .i64 n, .slice A bs.length c], .slice A' ring.length c'] w fun e w' => e = .returned (.bool (ringOk n bs ring)) ∧ Below w.heap.size w w' := by
  cases hp : planOk n bs
  · have E := Lib.hid (show ringOk n bs ring = false by simp [ringOk, hp])
    go_enter Try.func63, Try.ntmps63
    go_wp2_with (go_at_call 22; refine (planOk_any _ _ _ bs _ (h.below (by repeat (first | with_reducible exact Below.refl _ _ | with_reducible refine valloc ?_ _ | with_reducible refine vdrew ?_ | with_reducible refine vdrewN ?_ _ | with_reducible refine via (by assumption) ?_ | refine vset ?_ (by first | exact Nat.le_refl _ | (simp; done) | (simp; omega) | omega) _))) hlen).mono ?_; rintro e w1 ⟨rfl, hbw1⟩; obtain ⟨hcw1, hfw1⟩ := bcell hbw1; have hzw1 := hbw1.size; (try simp only [sz] at hzw1); (try simp only [szc] at hzw1); have hzw1_0 : w.heap.size < w1.heap.size := (by omega))
    go_ret
    refine ⟨ret_bool E.out.symm, ?_⟩
    repeat (first | with_reducible exact Below.refl _ _ | with_reducible refine valloc ?_ _ | with_reducible refine vdrew ?_ | with_reducible refine vdrewN ?_ _ | with_reducible refine via (by assumption) ?_ | refine vset ?_ (by first | exact Nat.le_refl _ | (simp; done) | (simp; omega) | omega) _)
  cases hl : inB ring.length 1 16
  · have E := Lib.hid (show ringOk n bs ring = false by simp [ringOk, hp, hl])
    go_enter Try.func63, Try.ntmps63
    go_wp2_with (first
      | (go_at_call 22; refine (planOk_any _ _ _ bs _ (h.below (by repeat (first | with_reducible exact Below.refl _ _ | with_reducible refine valloc ?_ _ | with_reducible refine vdrew ?_ | with_reducible refine vdrewN ?_ _ | with_reducible refine via (by assumption) ?_ | refine vset ?_ (by first | exact Nat.le_refl _ | (simp; done) | (simp; omega) | omega) _))) hlen).mono ?_; rintro e w1 ⟨rfl, hbw1⟩; obtain ⟨hcw1, hfw1⟩ := bcell hbw1; have hzw1 := hbw1.size; (try simp only [sz] at hzw1); (try simp only [szc] at hzw1); have hzw1_0 : w.heap.size < w1.heap.size := (by omega))
      | (go_at_call 81; refine (in_any _ _ _ _).mono ?_; rintro e w' ⟨rfl, rfl⟩))
    go_ret
    refine ⟨ret_bool E.out.symm, ?_⟩
    repeat (first | with_reducible exact Below.refl _ _ | with_reducible refine valloc ?_ _ | with_reducible refine vdrew ?_ | with_reducible refine vdrewN ?_ _ | with_reducible refine via (by assumption) ?_ | refine vset ?_ (by first | exact Nat.le_refl _ | (simp; done) | (simp; omega) | omega) _)
  cases ha : allB ring 0 ((bs.length : Int) - 1)
  · have E := Lib.hid (show ringOk n bs ring = false by simp [ringOk, hp, hl, ha])
    go_enter Try.func63, Try.ntmps63
    go_wp2_with (first
      | (go_at_call 22; refine (planOk_any _ _ _ bs _ (h.below (by repeat (first | with_reducible exact Below.refl _ _ | with_reducible refine valloc ?_ _ | with_reducible refine vdrew ?_ | with_reducible refine vdrewN ?_ _ | with_reducible refine via (by assumption) ?_ | refine vset ?_ (by first | exact Nat.le_refl _ | (simp; done) | (simp; omega) | omega) _))) hlen).mono ?_; rintro e w1 ⟨rfl, hbw1⟩; obtain ⟨hcw1, hfw1⟩ := bcell hbw1; have hzw1 := hbw1.size; (try simp only [sz] at hzw1); (try simp only [szc] at hzw1); have hzw1_0 : w.heap.size < w1.heap.size := (by omega))
      | (go_at_call 81; refine (in_any _ _ _ _).mono ?_; rintro e w' ⟨rfl, rfl⟩)
      | (go_at_call 101; refine (allIn_any _ _ ring _ _ _ (h'.below (by repeat (first | with_reducible exact Below.refl _ _ | with_reducible refine valloc ?_ _ | with_reducible refine vdrew ?_ | with_reducible refine vdrewN ?_ _ | with_reducible refine via (by assumption) ?_ | refine vset ?_ (by first | exact Nat.le_refl _ | (simp; done) | (simp; omega) | omega) _))) hlen').mono ?_; rintro e w2 ⟨rfl, hbw2⟩))
    go_ret
    refine ⟨ret_bool E.out.symm, ?_⟩
    repeat (first | with_reducible exact Below.refl _ _ | with_reducible refine valloc ?_ _ | with_reducible refine vdrew ?_ | with_reducible refine vdrewN ?_ _ | with_reducible refine via (by assumption) ?_ | refine vset ?_ (by first | exact Nat.le_refl _ | (simp; done) | (simp; omega) | omega) _)
  have E := Lib.hid (show ringOk n bs ring = ringChain bs ring by simp [ringOk, hp, hl, ha])
  have HIN := Lib.hid (show ∀ x ∈ ring, 0 ≤ x ∧ x < bs.length from fun x hx => by have := (allB_iff _ _ _).1 ha x hx; omega)
  have hr := (inB_iff _ _ _).1 hl
  go_enter Try.func63, Try.ntmps63
  go_wp2_with (first
      | (go_at_call 22; refine (planOk_any _ _ _ bs _ (h.below (by repeat (first | with_reducible exact Below.refl _ _ | with_reducible refine valloc ?_ _ | with_reducible refine vdrew ?_ | with_reducible refine vdrewN ?_ _ | with_reducible refine via (by assumption) ?_ | refine vset ?_ (by first | exact Nat.le_refl _ | (simp; done) | (simp; omega) | omega) _))) hlen).mono ?_; rintro e w1 ⟨rfl, hbw1⟩; obtain ⟨hcw1, hfw1⟩ := bcell hbw1; have hzw1 := hbw1.size; (try simp only [sz] at hzw1); (try simp only [szc] at hzw1); have hzw1_0 : w.heap.size < w1.heap.size := (by omega))
      | (go_at_call 81; refine (in_any _ _ _ _).mono ?_; rintro e w' ⟨rfl, rfl⟩)
      | (go_at_call 101; refine (allIn_any _ _ ring _ _ _ (h'.below (by repeat (first | with_reducible exact Below.refl _ _ | with_reducible refine valloc ?_ _ | with_reducible refine vdrew ?_ | with_reducible refine vdrewN ?_ _ | with_reducible refine via (by assumption) ?_ | refine vset ?_ (by first | exact Nat.le_refl _ | (simp; done) | (simp; omega) | omega) _))) hlen').mono ?_; rintro e w2 ⟨rfl, hbw2⟩; obtain ⟨hcw2, hfw2⟩ := bcell hbw2; have hzw2 := hbw2.size; (try simp only [sz] at hzw2); (try simp only [szc] at hzw2); have hzw2_0 : w.heap.size < w2.heap.size := (by omega)))
  clear hp hl ha
  have b2 : Below w.heap.size w w2 := (by repeat (first | with_reducible exact Below.refl _ _ | with_reducible refine valloc ?_ _ | with_reducible refine vdrew ?_ | with_reducible refine vdrewN ?_ _ | with_reducible refine via (by assumption) ?_ | refine vset ?_ (by first | exact Nat.le_refl _ | (simp; done) | (simp; omega) | omega) _))
  have q1 : w2.cell? ⟨w.heap.size, 1, none⟩ = some (.slice A bs.length c) := by go_simp
  have B2 := h.below b2
  have I2 := h'.below b2
  obtain ⟨rb, roff, lastI, rfl, hrl, hlast, hlastm, cl⟩ := I2.at_ (k := ring.length - 1) (by omega)
  obtain ⟨l0, l1⟩ := HIN.out _ hlastm
  obtain ⟨li, rfl⟩ := Int.eq_ofNat_of_zero_le l0
  obtain ⟨bb, boff, lx, rfl, hbl, hlx, hlxm, d0, d1, d2⟩ := B2.at_ (k := li) (by omega)
  have hl0 : (0 : Int) ≤ (ring.length : Int) - 1 := by omega
  have hl1 : (ring.length : Int) - 1 < (ring.length : Int) := by omega
  have L0 := Lib.hid (show (el bs (ring.getD (before ring.length 0) 0)).t = lx.t by
    rw [show before ring.length 0 = ring.length - 1 from rfl, List.getD_eq_getElem?_getD, hlast]; exact congrArg Bd.t (el_nat bs li lx hlx))
  clear hlast hlx h h'
  have BB2 := Lib.hid B2
  have II2 := Lib.hid I2
  clear B2 I2
  go_quiet (fail)
  go_wp2
  go_loop [5, 7, 39] (fun last at_ i => ∃ k : Nat, k ≤ ring.length ∧ i = .int .i64 k ∧ last = .int .i64 (el bs (ring.getD (before ring.length k) 0)).t ∧ ∀ j, j < k → linkOk bs ring j) (fun _ _ i => ring.length - (intOf i).toNat)
  case atStart => exact ⟨0, Nat.zero_le _, rfl, by rw [L0.out], fun j hj => absurd hj (Nat.not_lt_zero _)⟩
  case round =>
    obtain ⟨k, hk, rfl, rfl, hok⟩ := hrel
    have HOK := Lib.hid hok
    clear hok d0 d1 d2 cl
    by_cases hlt : k < ring.length
    · obtain ⟨rb', roff', ki, e', _, hki, hkim, ck⟩ := II2.out.at_ hlt
      obtain ⟨rfl, rfl⟩ : rb = rb' ∧ roff = roff' := by injection e' with e'; injection e' with e1 e2; exact ⟨e1, e2⟩
      obtain ⟨k0, k1⟩ := HIN.out _ hkim
      obtain ⟨ki, rfl⟩ := Int.eq_ofNat_of_zero_le k0
      obtain ⟨bb', boff', kx, e'', _, hkx, hkxm, x0, x1, x2⟩ := BB2.out.at_ (k := ki) (by omega)
      obtain ⟨rfl, rfl⟩ : bb = bb' ∧ boff = boff' := by injection e'' with e'; injection e' with e1 e2; exact ⟨e1, e2⟩
      have K0 := Lib.hid (show el bs (ring.getD k 0) = kx by rw [List.getD_eq_getElem?_getD, hki]; exact el_nat bs ki kx hkx)
      have KB := Lib.hid (show before ring.length (k + 1) = k by unfold before; rw [if_neg (by omega)]; omega)
      clear hki hkx e' e''
      by_cases hne : kx.f = (el bs (ring.getD (before ring.length k) 0)).t
      · have HR := Lib.hid (show linkOk bs ring k from by unfold linkOk; rw [K0.out]; exact hne.symm)
        have hb' : (kx.f != (el bs (ring.getD (before ring.length k) 0)).t) = false := by simp [hne]
        clear hne
        generalize (el bs (ring.getD (before ring.length k) 0)).t = q at hb' ⊢
        go_wp2
        go_round
        case rel => exact ⟨k + 1, by omega, by go_num, by rw [KB.out, K0.out], fun j hj => by
          by_cases e : j = k
          · rw [e]; exact HR.out
          · exact HOK.out j (by omega)⟩
        case measure => simp [intOf]; omega
      · have HR := Lib.hid (ringChain_bad (k := k) hlt (fun hh => hne (by unfold linkOk at hh; rw [K0.out] at hh; exact hh.symm)))
        have hb' : (kx.f != (el bs (ring.getD (before ring.length k) 0)).t) = true := by simpa using hne
        clear hne
        generalize (el bs (ring.getD (before ring.length k) 0)).t = q at hb' ⊢
        go_wp2
        go_ret
        exact ⟨ret_bool (by rw [E.out, HR.out]), vdrewN b2 _⟩
    · have HR := Lib.hid (ringChain_good (bs := bs) (ring := ring) (fun k' hk' => HOK.out k' (by omega)))
      go_wp2
      go_ret
      exact ⟨ret_bool (by rw [E.out, HR.out]), vdrewN b2 _⟩
theorem allB_bad {xs : List Int} {lo hi x : Int} {k : Nat} (hx : xs[k]? = some x) (h : inB x lo hi = false) : allB xs lo hi = false := by
  simp [allB, any_of (q := fun x => !inB x lo hi) hx (by simp [h])]
theorem allB_end {xs : List Int} {lo hi : Int} {k : Nat} (hk : xs.length ≤ k) (hn : ∀ y ∈ xs.take k, (!inB y lo hi) = false) : allB xs lo hi = true := by
  simp [allB, any_none hk hn]
set_option maxHeartbeats 2000000 in
theorem specRingOk_any (n : Int) (A A' : Option Addr) (c c' : Nat) (bs : List Bd) (ring : List Int) (w : World) (h : BAt w A bs) (h' : IAt w A' ring) (hlen : bs.length ≤ 1099511627776) (hlen' : ring.length ≤ 1099511627776) :
    Calls Try.prog 106 #[.agg #[.int .i64 n, .slice A bs.length c], .slice A' ring.length c'] w fun e w' => e = .returned (.bool (ringOk n bs ring)) ∧ Below w.heap.size w w' := by
  go_enter Try.func106, Try.ntmps106
  go_wp2
  go_loopw [5] (fun i W => ∃ k : Nat, k ≤ ring.length ∧ i = .int .i64 k ∧ (∀ y ∈ ring.take k, (!inB y 0 ((bs.length : Int) - 1)) = false) ∧ Below w.heap.size w W ∧ w.heap.size < W.heap.size ∧ W.cell? ⟨w.heap.size, 0, none⟩ = some (.int .i64 n) ∧ W.cell? ⟨w.heap.size, 1, none⟩ = some (.slice A bs.length c)) (fun i _ => ring.length - (intOf i).toNat)
  case atStart => exact ⟨0, Nat.zero_le _, rfl, by simp, valloc (Below.refl _ _) _, by simp, by simp, by simp⟩
  case round =>
    obtain ⟨k, hk, rfl, hno, hb, hz, e0, e1⟩ := hrel
    have HNO := Lib.hid hno
    clear hno
    by_cases hlt : k < ring.length
    · obtain ⟨b, off, x, rfl, hbl, hx, hxm, c0⟩ := (h'.below hb).at_ hlt
      have HX := Lib.hid hx
      have hk0 : (0 : Int) ≤ (k : Int) := by omega
      have hk1 : (k : Int) < (ring.length : Int) := by omega
      clear hx h h'
      cases hf : inB x 0 ((bs.length : Int) - 1)
      · have HR := Lib.hid (show ringOk n bs ring = false by simp [ringOk, allB_bad HX.out hf])
        go_wp2
        go_still_tail 8, (by kernel_rfl)
        change wpList _ _ _ _ _ wr.drew
        have HB : Below w.heap.size w wr.drew := vdrew hb
        generalize wr.drew = w2 at HB
        go_wp2_with (go_at_call 93; refine (l1In_any _ _ _ _).mono ?_; rintro e w' ⟨rfl, rfl⟩)
        go_ret
        exact ⟨ret_bool HR.out.symm, HB⟩
      · have HR := Lib.hid (show (!inB x 0 ((bs.length : Int) - 1)) = false by simp [hf])
        go_wp2
        go_still_tail 8, (by kernel_rfl)
        change wpList _ _ _ _ _ wr.drew
        have HB : Below w.heap.size w wr.drew ∧ w.heap.size < wr.drew.heap.size ∧ wr.drew.cell? ⟨w.heap.size, 0, none⟩ = some (.int .i64 n) ∧ wr.drew.cell? ⟨w.heap.size, 1, none⟩ = some (.slice A bs.length c) := ⟨vdrew hb, hz, e0, e1⟩
        clear e0 e1 c0
        generalize wr.drew = w2 at HB
        have HB' := Lib.hid HB
        clear HB
        go_wp2_with (go_at_call 93; refine (l1In_any _ _ _ _).mono ?_; rintro e w' ⟨rfl, rfl⟩)
        go_roundw
        case rel => exact ⟨k + 1, by omega, by go_num, snoc_false HX.out HNO.out HR.out, HB'.out⟩
        case measure => simp [intOf]; omega
    · have HA := Lib.hid (allB_end (show ring.length ≤ k by omega) HNO.out)
      have HIN := Lib.hid (show ∀ x ∈ ring, 0 ≤ x ∧ x < bs.length from fun x hx => by have := (allB_iff _ _ _).1 HA.out x hx; omega)
      have BB2 := Lib.hid (h.below hb)
      have II2 := Lib.hid (h'.below hb)
      have HH := Lib.hid h
      clear h h'
      obtain ⟨wo, hwo⟩ : ∃ wo : World, wo = wr := ⟨_, rfl⟩
      subst hwo
      go_wp2
      go_loopw [6] (fun i W => ∃ k : Nat, k ≤ ring.length ∧ i = .int .i64 k ∧ (∀ j, j < k → linkOk bs ring ((j + 1) % ring.length)) ∧ ∃ q, W = wo.drewN q) (fun i _ => ring.length - (intOf i).toNat)
      case atStart => exact ⟨0, Nat.zero_le _, rfl, fun j hj => absurd hj (Nat.not_lt_zero _), 0, rfl⟩
      case round =>
        obtain ⟨k, hk, rfl, hok, q, rfl⟩ := hrel
        have HOK := Lib.hid hok
        clear hok
        by_cases hlt : k < ring.length
        · obtain ⟨rb, roff, ki, eA, _, hki, hkim, ck⟩ := II2.out.at_ hlt
          obtain ⟨HN1, HN2⟩ := before_next hlt
          obtain ⟨rb', roff', mi, e', _, hmi, hmim, cm⟩ := II2.out.at_ HN2
          subst eA
          obtain ⟨rfl, rfl⟩ : rb = rb' ∧ roff = roff' := by injection e' with e'; injection e' with e1 e2; exact ⟨e1, e2⟩
          obtain ⟨k0, k1⟩ := HIN.out _ hkim
          obtain ⟨ki, rfl⟩ := Int.eq_ofNat_of_zero_le k0
          obtain ⟨m0, m1⟩ := HIN.out _ hmim
          obtain ⟨mi, rfl⟩ := Int.eq_ofNat_of_zero_le m0
          obtain ⟨bb, boff, kx, eB, _, hkx, hkxm, x0, x1, x2⟩ := BB2.out.at_ (k := ki) (by omega)
          obtain ⟨bb', boff', mx, e'', _, hmx, hmxm, y0, y1, y2⟩ := BB2.out.at_ (k := mi) (by omega)
          subst eB
          obtain ⟨rfl, rfl⟩ : bb = bb' ∧ boff = boff' := by injection e'' with e'; injection e' with e1 e2; exact ⟨e1, e2⟩
          have K0 := Lib.hid (show linkOk bs ring ((k + 1) % ring.length) ↔ kx.t = mx.f by
            unfold linkOk; rw [HN1, List.getD_eq_getElem?_getD, hki, List.getD_eq_getElem?_getD, hmi]
            simp only [Option.getD_some]
            rw [el_nat bs ki kx hkx, el_nat bs mi mx hmx])
          have hk0 : (0 : Int) ≤ (k : Int) := by omega
          have hk1 : (k : Int) < (ring.length : Int) := by omega
          have hw1 : IntKind.i64.wrap ((k : Int) + 1) = (k : Int) + 1 := IntWalk.i64_in _ ⟨by omega, by omega⟩
          have hmn : ((k : Int) + 1).tmod (ring.length : Int) = (((k + 1) % ring.length : Nat) : Int) := by
            rw [Int.natCast_emod]; exact Int.tmod_eq_emod_of_nonneg (by omega)
          have hm0 : (0 : Int) ≤ (((k + 1) % ring.length : Nat) : Int) := by omega
          have hm1 : (((k + 1) % ring.length : Nat) : Int) < (ring.length : Int) := by omega
          clear hki hkx hmi hmx e' e'' HN1
          generalize hnx : (k + 1) % ring.length = nx at *
          have HNX := Lib.hid hnx
          clear hnx
          by_cases hne : kx.t = mx.f
          · have hb' : (kx.t != mx.f) = false := by simp [hne]
            have HR := Lib.hid (K0.out.2 hne)
            clear hne
            go_wp2
            go_quiet (fail)
            go_wp2
            go_roundw
            case rel => exact ⟨k + 1, by omega, by go_num, fun j hj => by
              by_cases e : j = k
              · rw [e, HNX.out]; exact HR.out
              · exact HOK.out j (by omega), _, rfl⟩
            case measure => simp [intOf]; omega
          · have hb' : (kx.t != mx.f) = true := by simpa using hne
            have HR := Lib.hid (show ringOk n bs ring = false by
              simp [ringOk, ringChain_bad (k := nx) HN2 (fun hh => hne (K0.out.1 hh))])
            clear hne
            go_wp2
            go_quiet (fail)
            go_wp2
            go_ret
            exact ⟨ret_bool HR.out.symm, vdrewN (vdrewN hb _) _⟩
        · have HC := Lib.hid (ringChain_good (bs := bs) (ring := ring) (fun k' hk' => by
            have h1 := HOK.out (before ring.length k') (by have := before_lt hk'; omega)
            rwa [next_before hk'] at h1))
          have HB := Lib.hid hb
          clear hb
          cases hp : planOk n bs
          · go_wp2_with (go_at_call 60; refine (specPlanOk_any _ _ _ bs _ (HH.out.below (vdrewN HB.out _)) hlen).mono ?_; rintro e w1 ⟨rfl, hbw1⟩)
            go_ret
            exact ⟨ret_bool (by simp [ringOk, hp]), via hbw1 (vdrewN HB.out _)⟩
          · cases hl : inB ring.length 1 16
            · go_wp2_with (first
                | (go_at_call 60; refine (specPlanOk_any _ _ _ bs _ (HH.out.below (vdrewN HB.out _)) hlen).mono ?_; rintro e w1 ⟨rfl, hbw1⟩)
                | (go_at_call 93; refine (l1In_any _ _ _ _).mono ?_; rintro e w' ⟨rfl, rfl⟩))
              go_ret
              exact ⟨ret_bool (by simp [ringOk, hp, hl]), via hbw1 (vdrewN HB.out _)⟩
            · go_wp2_with (first
                | (go_at_call 60; refine (specPlanOk_any _ _ _ bs _ (HH.out.below (vdrewN HB.out _)) hlen).mono ?_; rintro e w1 ⟨rfl, hbw1⟩)
                | (go_at_call 93; refine (l1In_any _ _ _ _).mono ?_; rintro e w' ⟨rfl, rfl⟩))
              go_ret
              exact ⟨ret_bool (by simp [ringOk, hp, hl, HA.out, HC.out]), via hbw1 (vdrewN HB.out _)⟩
/-- The sum of a ring. -/
def ringSum (bs : List Bd) (ring : List Int) : Int := (ring.map fun i => (el bs i).m).sum
theorem sum_snoc (l : List Int) (x : Int) : (l ++ [x]).sum = l.sum + x := by
  induction l with
  | nil => simp
  | cons a l ih => simp only [List.cons_append, List.sum_cons, ih]; omega
theorem ringSum_snoc {bs : List Bd} {ring : List Int} {k : Nat} {i : Int} (h : ring[k]? = some i) : ringSum bs (ring.take (k + 1)) = ringSum bs (ring.take k) + (el bs i).m := by
  obtain ⟨hl, hv⟩ := List.getElem?_eq_some_iff.1 h
  unfold ringSum
  rw [List.take_succ_eq_append_getElem hl, List.map_append, hv]
  exact sum_snoc _ _
theorem ringSum_le {bs : List Bd} {n : Int} (hp : planOk n bs = true) (ring : List Int) (hin : ∀ x ∈ ring, 0 ≤ x ∧ x < bs.length) : -99 * (ring.length : Int) ≤ ringSum bs ring ∧ ringSum bs ring ≤ 99 * (ring.length : Int) := by
  obtain ⟨_, _, _, hb⟩ := planOk_of hp
  unfold ringSum
  induction ring with
  | nil => simp
  | cons a l ih =>
    obtain ⟨h1, h2⟩ := hin a (by simp)
    have ih := ih (fun x hx => hin x (by simp [hx]))
    obtain ⟨a, rfl⟩ := Int.eq_ofNat_of_zero_le h1
    have hx : bs[a]? = some bs[a] := List.getElem?_eq_getElem (by omega)
    have hm := hb bs[a] (List.getElem_mem _)
    simp only [List.map_cons, List.sum_cons, List.length_cons, el_nat bs a _ hx]
    omega
theorem take_sub {ring : List Int} {bs : List Bd} (h : ∀ x ∈ ring, 0 ≤ x ∧ x < bs.length) (k : Nat) : ∀ x ∈ ring.take k, 0 ≤ x ∧ x < bs.length := fun x hx => h x (List.mem_of_mem_take hx)
/-- What RingSum returns. -/
def ringSumB (n : Int) (bs : List Bd) (ring : List Int) : Int := if ringOk n bs ring = true then ringSum bs ring else 0
set_option maxHeartbeats 2000000 in
theorem ringSum_any (n : Int) (A A' : Option Addr) (c c' : Nat) (bs : List Bd) (ring : List Int) (w : World) (h : BAt w A bs) (h' : IAt w A' ring) (hlen : bs.length ≤ 1099511627776) (hlen' : ring.length ≤ 1099511627776) :
    Calls Try.prog 55 #[.agg #[.int .i64 n, .slice A bs.length c], .slice A' ring.length c'] w fun e w' => e = .returned (.tuple #[.int .i64 (ringSumB n bs ring), .bool (ringOk n bs ring)]) ∧ Below w.heap.size w w' := by
  cases hp : ringOk n bs ring
  · have E := Lib.hid (show ringSumB n bs ring = 0 by simp [ringSumB, hp])
    rw [E.out]
    go_enter Try.func55, Try.ntmps55
    go_wp2_with (go_at_call 63; refine (ringOk_any _ _ _ _ _ bs ring _ (h.below (by repeat (first | with_reducible exact Below.refl _ _ | with_reducible refine valloc ?_ _ | with_reducible refine vdrew ?_ | with_reducible refine vdrewN ?_ _ | with_reducible refine via (by assumption) ?_ | refine vset ?_ (by first | exact Nat.le_refl _ | (simp; done) | (simp; omega) | omega) _))) (h'.below (by repeat (first | with_reducible exact Below.refl _ _ | with_reducible refine valloc ?_ _ | with_reducible refine vdrew ?_ | with_reducible refine vdrewN ?_ _ | with_reducible refine via (by assumption) ?_ | refine vset ?_ (by first | exact Nat.le_refl _ | (simp; done) | (simp; omega) | omega) _))) hlen hlen').mono ?_; rintro e w1 ⟨rfl, hbw1⟩; obtain ⟨hcw1, hfw1⟩ := bcell hbw1; have hzw1 := hbw1.size; (try simp only [sz] at hzw1); (try simp only [szc] at hzw1); have hzw1_0 : w.heap.size < w1.heap.size := (by omega))
    go_ret2
    refine ⟨rfl, ?_⟩
    repeat (first | with_reducible exact Below.refl _ _ | with_reducible refine valloc ?_ _ | with_reducible refine vdrew ?_ | with_reducible refine vdrewN ?_ _ | with_reducible refine via (by assumption) ?_ | refine vset ?_ (by first | exact Nat.le_refl _ | (simp; done) | (simp; omega) | omega) _)
  · obtain ⟨hp1, hr1, hr16, hin, _⟩ := ringOk_of hp
    have E := Lib.hid (show ringSumB n bs ring = ringSum bs ring by simp [ringSumB, hp])
    rw [E.out]
    have HIN := Lib.hid hin
    have HP := Lib.hid hp1
    clear hin hp1
    go_enter Try.func55, Try.ntmps55
    go_wp2_with (go_at_call 63; refine (ringOk_any _ _ _ _ _ bs ring _ (h.below (by repeat (first | with_reducible exact Below.refl _ _ | with_reducible refine valloc ?_ _ | with_reducible refine vdrew ?_ | with_reducible refine vdrewN ?_ _ | with_reducible refine via (by assumption) ?_ | refine vset ?_ (by first | exact Nat.le_refl _ | (simp; done) | (simp; omega) | omega) _))) (h'.below (by repeat (first | with_reducible exact Below.refl _ _ | with_reducible refine valloc ?_ _ | with_reducible refine vdrew ?_ | with_reducible refine vdrewN ?_ _ | with_reducible refine via (by assumption) ?_ | refine vset ?_ (by first | exact Nat.le_refl _ | (simp; done) | (simp; omega) | omega) _))) hlen hlen').mono ?_; rintro e w1 ⟨rfl, hbw1⟩; obtain ⟨hcw1, hfw1⟩ := bcell hbw1; have hzw1 := hbw1.size; (try simp only [sz] at hzw1); (try simp only [szc] at hzw1); have hzw1_0 : w.heap.size < w1.heap.size := (by omega))
    have b1 : Below w.heap.size w w1 := (by repeat (first | with_reducible exact Below.refl _ _ | with_reducible refine valloc ?_ _ | with_reducible refine vdrew ?_ | with_reducible refine vdrewN ?_ _ | with_reducible refine via (by assumption) ?_ | refine vset ?_ (by first | exact Nat.le_refl _ | (simp; done) | (simp; omega) | omega) _))
    have q1 : w1.cell? ⟨w.heap.size, 1, none⟩ = some (.slice A bs.length c) := by go_simp
    have BB := Lib.hid (h.below b1)
    have II := Lib.hid (h'.below b1)
    clear h h'
    go_loop [6, 8, 15] (fun sum at_ i => ∃ k : Nat, k ≤ ring.length ∧ i = .int .i64 k ∧ sum = .int .i64 (ringSum bs (ring.take k))) (fun _ _ i => ring.length - (intOf i).toNat)
    case atStart => exact ⟨0, Nat.zero_le _, rfl, rfl⟩
    case round =>
      obtain ⟨k, hk, rfl, rfl⟩ := hrel
      by_cases hlt : k < ring.length
      · obtain ⟨rb, roff, ki, rfl, _, hki, hkim, ck⟩ := II.out.at_ hlt
        obtain ⟨k0, k1⟩ := HIN.out _ hkim
        obtain ⟨ki, rfl⟩ := Int.eq_ofNat_of_zero_le k0
        obtain ⟨bb, boff, kx, rfl, _, hkx, hkxm, x0, x1, x2⟩ := BB.out.at_ (k := ki) (by omega)
        have K0 := Lib.hid (show ringSum bs (ring.take (k + 1)) = ringSum bs (ring.take k) + kx.m by rw [ringSum_snoc hki, el_nat bs ki kx hkx])
        have hs1 := ringSum_le HP.out (ring.take k) (take_sub HIN.out k)
        have hs2 : (ring.take k).length ≤ ring.length := List.length_take_le' _ _
        have hm := (planOk_of HP.out).2.2.2 kx hkxm
        clear hki hkx
        go_wp2
        go_round
        case rel => exact ⟨k + 1, by omega, by go_num, by rw [K0.out]⟩
        case measure => simp [intOf]; omega
      · obtain rfl : k = ring.length := by omega
        go_wp2
        go_ret2
        exact ⟨rfl, b1⟩
set_option maxHeartbeats 2000000 in
theorem specRingSum_any (n : Int) (A A' : Option Addr) (c c' : Nat) (bs : List Bd) (ring : List Int) (w : World) (h : BAt w A bs) (h' : IAt w A' ring) (hlen : bs.length ≤ 1099511627776) (hlen' : ring.length ≤ 1099511627776) :
    Calls Try.prog 56 #[.agg #[.int .i64 n, .slice A bs.length c], .slice A' ring.length c'] w fun e w' => e = .returned (.tuple #[.int .i64 (ringSumB n bs ring), .bool (ringOk n bs ring)]) ∧ Below w.heap.size w w' := by
  cases hp : ringOk n bs ring
  · have E := Lib.hid (show ringSumB n bs ring = 0 by simp [ringSumB, hp])
    rw [E.out]
    go_enter Try.func56, Try.ntmps56
    go_wp2_with (go_at_call 106; refine (specRingOk_any _ _ _ _ _ bs ring _ (h.below (by repeat (first | with_reducible exact Below.refl _ _ | with_reducible refine valloc ?_ _ | with_reducible refine vdrew ?_ | with_reducible refine vdrewN ?_ _ | with_reducible refine via (by assumption) ?_ | refine vset ?_ (by first | exact Nat.le_refl _ | (simp; done) | (simp; omega) | omega) _))) (h'.below (by repeat (first | with_reducible exact Below.refl _ _ | with_reducible refine valloc ?_ _ | with_reducible refine vdrew ?_ | with_reducible refine vdrewN ?_ _ | with_reducible refine via (by assumption) ?_ | refine vset ?_ (by first | exact Nat.le_refl _ | (simp; done) | (simp; omega) | omega) _))) hlen hlen').mono ?_; rintro e w1 ⟨rfl, hbw1⟩; obtain ⟨hcw1, hfw1⟩ := bcell hbw1; have hzw1 := hbw1.size; (try simp only [sz] at hzw1); (try simp only [szc] at hzw1); have hzw1_0 : w.heap.size < w1.heap.size := (by omega))
    go_ret2
    refine ⟨rfl, ?_⟩
    repeat (first | with_reducible exact Below.refl _ _ | with_reducible refine valloc ?_ _ | with_reducible refine vdrew ?_ | with_reducible refine vdrewN ?_ _ | with_reducible refine via (by assumption) ?_ | refine vset ?_ (by first | exact Nat.le_refl _ | (simp; done) | (simp; omega) | omega) _)
  · obtain ⟨hp1, hr1, hr16, hin, _⟩ := ringOk_of hp
    have E := Lib.hid (show ringSumB n bs ring = ringSum bs ring by simp [ringSumB, hp])
    rw [E.out]
    have HIN := Lib.hid hin
    have HP := Lib.hid hp1
    clear hin hp1
    go_enter Try.func56, Try.ntmps56
    go_wp2_with (go_at_call 106; refine (specRingOk_any _ _ _ _ _ bs ring _ (h.below (by repeat (first | with_reducible exact Below.refl _ _ | with_reducible refine valloc ?_ _ | with_reducible refine vdrew ?_ | with_reducible refine vdrewN ?_ _ | with_reducible refine via (by assumption) ?_ | refine vset ?_ (by first | exact Nat.le_refl _ | (simp; done) | (simp; omega) | omega) _))) (h'.below (by repeat (first | with_reducible exact Below.refl _ _ | with_reducible refine valloc ?_ _ | with_reducible refine vdrew ?_ | with_reducible refine vdrewN ?_ _ | with_reducible refine via (by assumption) ?_ | refine vset ?_ (by first | exact Nat.le_refl _ | (simp; done) | (simp; omega) | omega) _))) hlen hlen').mono ?_; rintro e w1 ⟨rfl, hbw1⟩; obtain ⟨hcw1, hfw1⟩ := bcell hbw1; have hzw1 := hbw1.size; (try simp only [sz] at hzw1); (try simp only [szc] at hzw1); have hzw1_0 : w.heap.size < w1.heap.size := (by omega))
    have b1 : Below w.heap.size w w1 := (by repeat (first | with_reducible exact Below.refl _ _ | with_reducible refine valloc ?_ _ | with_reducible refine vdrew ?_ | with_reducible refine vdrewN ?_ _ | with_reducible refine via (by assumption) ?_ | refine vset ?_ (by first | exact Nat.le_refl _ | (simp; done) | (simp; omega) | omega) _))
    have q1 : w1.cell? ⟨w.heap.size, 1, none⟩ = some (.slice A bs.length c) := by go_simp
    have BB := Lib.hid (h.below b1)
    have II := Lib.hid (h'.below b1)
    clear h h'
    go_loopw [6, 7] (fun sum i W => ∃ k : Nat, k ≤ ring.length ∧ i = .int .i64 k ∧ sum = .int .i64 (ringSum bs (ring.take k)) ∧ ∃ q, W = w1.drewN q) (fun _ i _ => ring.length - (intOf i).toNat)
    case atStart => exact ⟨0, Nat.zero_le _, rfl, rfl, 0, rfl⟩
    case round =>
      obtain ⟨k, hk, rfl, rfl, q, rfl⟩ := hrel
      by_cases hlt : k < ring.length
      · obtain ⟨rb, roff, ki, rfl, _, hki, hkim, ck⟩ := II.out.at_ hlt
        obtain ⟨k0, k1⟩ := HIN.out _ hkim
        obtain ⟨ki, rfl⟩ := Int.eq_ofNat_of_zero_le k0
        obtain ⟨bb, boff, kx, rfl, _, hkx, hkxm, x0, x1, x2⟩ := BB.out.at_ (k := ki) (by omega)
        have K0 := Lib.hid (show ringSum bs (ring.take (k + 1)) = ringSum bs (ring.take k) + kx.m by rw [ringSum_snoc hki, el_nat bs ki kx hkx])
        have hs1 := ringSum_le HP.out (ring.take k) (take_sub HIN.out k)
        have hs2 : (ring.take k).length ≤ ring.length := List.length_take_le' _ _
        have hm := (planOk_of HP.out).2.2.2 kx hkxm
        have hw1 : IntKind.i64.wrap (ringSum bs (ring.take k) + kx.m) = ringSum bs (ring.take k) + kx.m := IntWalk.i64_in _ ⟨by omega, by omega⟩
        have hk0 : (0 : Int) ≤ (k : Int) := by omega
        have hk1 : (k : Int) < (ring.length : Int) := by omega
        clear hki hkx
        go_wp2
        go_quiet (fail)
        clear hw1
        go_wp2
        go_roundw
        case rel => exact ⟨k + 1, by omega, by go_num, by rw [K0.out], _, rfl⟩
        case measure => simp [intOf]; omega
      · obtain rfl : k = ring.length := by omega
        go_wp2
        go_ret2
        exact ⟨by simp, vdrewN b1 _⟩
end Go.Proofs.Ytnompncmachgjaa
