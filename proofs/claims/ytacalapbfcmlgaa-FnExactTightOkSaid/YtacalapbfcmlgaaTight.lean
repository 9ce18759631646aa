/- Contracts of TightOk, of the program and of the reference; for slices of at most 2^40 bounds. -/
import Derived.Test.YtacalapbfcmlgaaMost
namespace Go.Proofs.Ytacalapbfcmlgaa
open Go.RowKit
set_option linter.unusedVariables false
set_option linter.unusedSimpArgs false

def tightOk (n : Int) (bs : List Bd) (a : Int) : Bool := fitsOk n bs && inB a 0 (bs.length - 1) && match bs[a.toNat]? with | some x => decide (closedT n bs x.f.toNat x.t.toNat = x.m) | none => false
set_option maxHeartbeats 4000000 in
theorem tightOk_any (n : Int) (A : Option Addr) (c : Nat) (bs : List Bd) (a : Int) (w : World) (h : BAt w A bs) (hlen : bs.length ≤ 1099511627776) :
    Calls Try.prog 32 #[.agg #[.int .i64 n, .slice A bs.length c], .int .i64 a] w fun e w' => e = .returned (.bool (tightOk n bs a)) ∧ Below w.heap.size w w' := by
  cases hfit : fitsOk n bs
  · have HR := Lib.hid (show tightOk n bs a = false by simp [tightOk, hfit])
    go_enter Try.func32, Try.ntmps32
    go_wp2_with fail
    refine (closed_no _ _ _ bs _ (h.below (by repeat (first | with_reducible exact Below.refl _ _ | with_reducible refine valloc ?_ _ | with_reducible refine vdrew ?_ | with_reducible refine vdrewN ?_ _ | with_reducible refine via (by assumption) ?_ | refine vset ?_ (by first | exact Nat.le_refl _ | (simp; done) | (simp; omega) | omega) _))) hlen hfit).mono ?_; rintro e w1 ⟨rfl, hbw1⟩
    go_wp2
    go_ret
    refine ⟨ret_bool HR.out.symm, ?_⟩
    repeat (first | with_reducible exact Below.refl _ _ | with_reducible refine valloc ?_ _ | with_reducible refine vdrew ?_ | with_reducible refine vdrewN ?_ _ | with_reducible refine via (by assumption) ?_ | refine vset ?_ (by first | exact Nat.le_refl _ | (simp; done) | (simp; omega) | omega) _)
  · cases hia : inB a 0 (bs.length-1)
    · have HR := Lib.hid (show tightOk n bs a = false by simp [tightOk, hia])
      go_enter Try.func32, Try.ntmps32
      go_wp2_with fail
      refine (closed_yes _ _ _ bs _ (h.below (by repeat (first | with_reducible exact Below.refl _ _ | with_reducible refine valloc ?_ _ | with_reducible refine vdrew ?_ | with_reducible refine vdrewN ?_ _ | with_reducible refine via (by assumption) ?_ | refine vset ?_ (by first | exact Nat.le_refl _ | (simp; done) | (simp; omega) | omega) _))) hlen hfit).mono ?_; rintro e w1 ⟨g, N', R, hN', hN1, hN6, rfl, hG, hbw1⟩; obtain ⟨hcw1, hfw1⟩ := bcell hbw1; have hzw1 := hbw1.size; (try simp only [sz] at hzw1); (try simp only [szc] at hzw1); have hzw1_0 : w.heap.size < w1.heap.size := (by omega)
      go_wp2_with (go_at_call 58; refine (in_any _ _ _ _).mono ?_; rintro e w' ⟨rfl, rfl⟩)
      go_ret
      refine ⟨ret_bool HR.out.symm, ?_⟩
      repeat (first | with_reducible exact Below.refl _ _ | with_reducible refine valloc ?_ _ | with_reducible refine vdrew ?_ | with_reducible refine vdrewN ?_ _ | with_reducible refine via (by assumption) ?_ | refine vset ?_ (by first | exact Nat.le_refl _ | (simp; done) | (simp; omega) | omega) _)
    · obtain ⟨k, rfl⟩ := Int.eq_ofNat_of_zero_le (show 0 ≤ a from ((inB_iff _ _ _).1 hia).1)
      have hk : k < bs.length := by have := (inB_iff _ _ _).1 hia; omega
      obtain ⟨N, rfl⟩ := Int.eq_ofNat_of_zero_le (show 0 ≤ n by have := planOk_of (fits_plan hfit); omega)
      obtain ⟨h1, h6, _, hin⟩ := planOk_of (fits_plan hfit)
      obtain ⟨b, off, x, rfl, hbl, hx, hxm, c0, c1, c2⟩ := h.at_ hk
      have hxi := hin x hxm
      clear hin
      have HT := Lib.hid (show tightOk N bs k = decide (closedT N bs x.f.toNat x.t.toNat = x.m) by simp [tightOk, hfit, hia, hx])
      clear hx hxm
      obtain ⟨f, t, m⟩ := x
      simp only at *
      obtain ⟨i, rfl⟩ := Int.eq_ofNat_of_zero_le (show 0 ≤ f by omega)
      obtain ⟨j, rfl⟩ := Int.eq_ofNat_of_zero_le (show 0 ≤ t by omega)
      have hi : i < N := by omega
      have hj : j < N := by omega
      go_enter Try.func32, Try.ntmps32
      go_wp2_with fail
      refine (closed_yes _ _ _ bs _ (h.below (by repeat (first | with_reducible exact Below.refl _ _ | with_reducible refine valloc ?_ _ | with_reducible refine vdrew ?_ | with_reducible refine vdrewN ?_ _ | with_reducible refine via (by assumption) ?_ | refine vset ?_ (by first | exact Nat.le_refl _ | (simp; done) | (simp; omega) | omega) _))) hlen hfit).mono ?_; rintro e w1 ⟨g, N', R, hN', hN1, hN6, rfl, hG, hbw1⟩; obtain ⟨hcw1, hfw1⟩ := bcell hbw1; have hzw1 := hbw1.size; (try simp only [sz] at hzw1); (try simp only [szc] at hzw1); have hzw1_0 : w.heap.size < w1.heap.size := (by omega)
      obtain rfl : N = N' := by omega
      have r1 := hG.row hi
      have p1 := hG.cell hi hj
      have d0 := cBel hbw1 (by simp; omega) (cA c0 _)
      have d1 := cBel hbw1 (by simp; omega) (cA c1 _)
      have d2 := cBel hbw1 (by simp; omega) (cA c2 _)
      clear hG
      rw [Int.toNat_natCast, Int.toNat_natCast] at HT
      generalize closedT N bs i j = v at *
      by_cases hv : v = m
      · have HR := Lib.hid (show tightOk N bs k = true by rw [HT.out]; simp [hv])
        have hv' : (v == m) = true := by simp [hv]
        go_wp2_with (go_at_call 58; refine (in_any _ _ _ _).mono ?_; rintro e w' ⟨rfl, rfl⟩)
        have F : ∀ w5, w5 = w1.alloc (Obj.cells #[Value.int IntKind.i64 ↑i, Value.int IntKind.i64 ↑j, Value.int IntKind.i64 m] 59) → w5.cell? ⟨w1.heap.size, 0, none⟩ = some (.int .i64 i) ∧ w5.cell? ⟨w1.heap.size, 1, none⟩ = some (.int .i64 j) ∧ w5.cell? ⟨w1.heap.size, 2, none⟩ = some (.int .i64 m) ∧ w5.cell? ⟨g, i, none⟩ = some (.slice (some ⟨R i, 0, none⟩) N N) ∧ w5.cell? ⟨R i, j, none⟩ = some (.int .i64 v) ∧ Below w.heap.size w w5 := by
          rintro w5 rfl
          refine ⟨by simp, by simp, by simp, cA r1 _, cA p1 _, ?_⟩
          repeat (first | with_reducible exact Below.refl _ _ | with_reducible refine valloc ?_ _ | with_reducible refine vdrew ?_ | with_reducible refine vdrewN ?_ _ | with_reducible refine via (by assumption) ?_ | refine vset ?_ (by first | exact Nat.le_refl _ | (simp; done) | (simp; omega) | omega) _)
        obtain ⟨w5, hw5⟩ : ∃ w5, w5 = w1.alloc (Obj.cells #[Value.int IntKind.i64 ↑i, Value.int IntKind.i64 ↑j, Value.int IntKind.i64 m] 59) := ⟨_, rfl⟩
        obtain ⟨s0, s1, s2, s3, s4, s5⟩ := F w5 hw5
        rw [← hw5]
        clear hw5 F
        clear r1 p1 d0 d1 d2
        go_quiet (fail)
        go_wp2
        go_ret
        exact ⟨ret_bool HR.out.symm, vdrewN s5 _⟩
      · have HR := Lib.hid (show tightOk N bs k = false by rw [HT.out]; simp [hv])
        have hv' : (v == m) = false := by simp [hv]
        go_wp2_with (go_at_call 58; refine (in_any _ _ _ _).mono ?_; rintro e w' ⟨rfl, rfl⟩)
        have F : ∀ w5, w5 = w1.alloc (Obj.cells #[Value.int IntKind.i64 ↑i, Value.int IntKind.i64 ↑j, Value.int IntKind.i64 m] 59) → w5.cell? ⟨w1.heap.size, 0, none⟩ = some (.int .i64 i) ∧ w5.cell? ⟨w1.heap.size, 1, none⟩ = some (.int .i64 j) ∧ w5.cell? ⟨w1.heap.size, 2, none⟩ = some (.int .i64 m) ∧ w5.cell? ⟨g, i, none⟩ = some (.slice (some ⟨R i, 0, none⟩) N N) ∧ w5.cell? ⟨R i, j, none⟩ = some (.int .i64 v) ∧ Below w.heap.size w w5 := by
          rintro w5 rfl
          refine ⟨by simp, by simp, by simp, cA r1 _, cA p1 _, ?_⟩
          repeat (first | with_reducible exact Below.refl _ _ | with_reducible refine valloc ?_ _ | with_reducible refine vdrew ?_ | with_reducible refine vdrewN ?_ _ | with_reducible refine via (by assumption) ?_ | refine vset ?_ (by first | exact Nat.le_refl _ | (simp; done) | (simp; omega) | omega) _)
        obtain ⟨w5, hw5⟩ : ∃ w5, w5 = w1.alloc (Obj.cells #[Value.int IntKind.i64 ↑i, Value.int IntKind.i64 ↑j, Value.int IntKind.i64 m] 59) := ⟨_, rfl⟩
        obtain ⟨s0, s1, s2, s3, s4, s5⟩ := F w5 hw5
        rw [← hw5]
        clear hw5 F
        clear r1 p1 d0 d1 d2
        go_quiet (fail)
        go_wp2
        go_ret
        exact ⟨ret_bool HR.out.symm, vdrewN s5 _⟩
theorem tight_most {n : Int} {bs : List Bd} {k : Nat} {x : Bd} (hx : bs[k]? = some x) (hk : inB k 0 (bs.length - 1) = true) : tightOk n bs k = (mostB n bs x.f x.t && decide (mostV n bs x.f x.t = x.m)) := by
  cases hfit : fitsOk n bs
  · simp [tightOk, mostB, hfit]
  · obtain ⟨h1, h6, _, hin⟩ := planOk_of (fits_plan hfit)
    have hi := hin x (List.mem_of_getElem? hx)
    have i1 : inB x.f 0 (n-1) = true := (inB_iff _ _ _).2 (by omega)
    have i2 : inB x.t 0 (n-1) = true := (inB_iff _ _ _).2 (by omega)
    simp only [tightOk, mostB, mostV, hfit, hk, i1, i2, hx, Int.toNat_natCast, Bool.true_and]
    by_cases h : closedT n bs x.f.toNat x.t.toNat = 100000
    · simp [h]; omega
    · simp [h]
set_option maxHeartbeats 4000000 in
theorem specTightOk_any (n : Int) (A : Option Addr) (c : Nat) (bs : List Bd) (a : Int) (w : World) (h : BAt w A bs) (hlen : bs.length ≤ 1099511627776) :
    Calls Try.prog 31 #[.agg #[.int .i64 n, .slice A bs.length c], .int .i64 a] w fun e w' => e = .returned (.bool (tightOk n bs a)) ∧ Below w.heap.size w w' := by
  cases hia : inB a 0 (bs.length-1)
  · have HR := Lib.hid (show tightOk n bs a = false by simp [tightOk, hia])
    go_enter Try.func31, Try.ntmps31
    go_wp2_with (go_at_call 57; refine (l1In_any _ _ _ _).mono ?_; rintro e w' ⟨rfl, rfl⟩)
    go_ret
    refine ⟨ret_bool HR.out.symm, ?_⟩
    repeat (first | with_reducible exact Below.refl _ _ | with_reducible refine valloc ?_ _ | with_reducible refine vdrew ?_ | with_reducible refine vdrewN ?_ _ | with_reducible refine via (by assumption) ?_ | refine vset ?_ (by first | exact Nat.le_refl _ | (simp; done) | (simp; omega) | omega) _)
  · obtain ⟨k, rfl⟩ := Int.eq_ofNat_of_zero_le (show 0 ≤ a from ((inB_iff _ _ _).1 hia).1)
    have hk : k < bs.length := by have := (inB_iff _ _ _).1 hia; omega
    have h' := h
    obtain ⟨b, off, x, rfl, hbl, hx, hxm, c0, c1, c2⟩ := h.at_ hk
    have HT := Lib.hid (tight_most (n := n) hx hia)
    clear hx hxm
    obtain ⟨f, t, m⟩ := x
    simp only at *
    cases hb : mostB n bs f t
    · have HR := Lib.hid (show tightOk n bs k = false by rw [HT.out, hb]; rfl)
      go_enter Try.func31, Try.ntmps31
      go_wp2_with (go_at_call 57; refine (l1In_any _ _ _ _).mono ?_; rintro e w' ⟨rfl, rfl⟩)
      have F : ∀ w5, w5 = w.alloc (Obj.cells #[Value.int IntKind.i64 n, .slice (some ⟨b, off, none⟩) bs.length c] 30) → w5.cell? ⟨w.heap.size, 0, none⟩ = some (.int .i64 n) ∧ w5.cell? ⟨w.heap.size, 1, none⟩ = some (.slice (some ⟨b, off, none⟩) bs.length c) ∧ (∃ b0, b0 = b ∧ w5.cell? ⟨b, off + k * 3, none⟩ = some (.int .i64 f) ∧ w5.cell? ⟨b, off + k * 3 + 1, none⟩ = some (.int .i64 t) ∧ w5.cell? ⟨b, off + k * 3 + 2, none⟩ = some (.int .i64 m)) ∧ BAt w5 (some ⟨b, off, none⟩) bs ∧ Below w.heap.size w w5 := by
        rintro w5 rfl
        refine ⟨by simp, by simp, ⟨b, rfl, cA c0 _, cA c1 _, cA c2 _⟩, h'.below (by repeat (first | with_reducible exact Below.refl _ _ | with_reducible refine valloc ?_ _ | with_reducible refine vdrew ?_ | with_reducible refine vdrewN ?_ _ | with_reducible refine via (by assumption) ?_ | refine vset ?_ (by first | exact Nat.le_refl _ | (simp; done) | (simp; omega) | omega) _)), ?_⟩
        repeat (first | with_reducible exact Below.refl _ _ | with_reducible refine valloc ?_ _ | with_reducible refine vdrew ?_ | with_reducible refine vdrewN ?_ _ | with_reducible refine via (by assumption) ?_ | refine vset ?_ (by first | exact Nat.le_refl _ | (simp; done) | (simp; omega) | omega) _)
      obtain ⟨w5, hw5⟩ : ∃ w5, w5 = w.alloc (Obj.cells #[Value.int IntKind.i64 n, .slice (some ⟨b, off, none⟩) bs.length c] 30) := ⟨_, rfl⟩
      obtain ⟨s0, s1, ⟨b0, hb0, s2, s3, s4⟩, s5, s6⟩ := F w5 hw5
      rw [← hw5]
      clear hw5 F c0 c1 c2 hb0
      have s7 := cell_lt s0
      have s8 := cell_lt s4
      have S5 := Lib.hid s5
      clear s5
      go_region_held3 (fun w' => w'.cell? ⟨w.heap.size, 0, none⟩ = some (.int .i64 n) ∧ w'.cell? ⟨w.heap.size, 1, none⟩ = some (.slice (some ⟨b, off, none⟩) bs.length c) ∧ w'.cell? ⟨b, off + k * 3, none⟩ = some (.int .i64 f) ∧ w'.cell? ⟨b, off + k * 3 + 1, none⟩ = some (.int .i64 t)) (first | go_keep | (go_split_ands; (repeat' apply And.intro) <;> (first | assumption | (refine cB (by assumption) ?_; first | assumption | (simp; assumption)) | (simp; assumption))))
        (first | (go_at_call 29; refine (specMostOf_any _ _ _ bs _ _ _ (S5.out.below (by repeat (first | with_reducible exact Below.refl _ _ | with_reducible refine valloc ?_ _ | with_reducible refine vdrew ?_ | with_reducible refine vdrewN ?_ _ | with_reducible refine via (by assumption) ?_ | refine vset ?_ (by first | exact Nat.le_refl _ | (simp; done) | (simp; omega) | omega) _))) hlen).mono ?_; rintro e w1 ⟨rfl, hbw1⟩))
      have d3 := (vdrew s6).trans (hbw1.mono s6.size)
      go_wp2
      go_ret
      exact ⟨ret_bool HR.out.symm, d3⟩
    · by_cases hv : mostV n bs f t = m
      · have HR := Lib.hid (show tightOk n bs k = true by rw [HT.out, hb]; simp [hv])
        have hv' : (mostV n bs f t == m) = true := by simp [hv]
        go_enter Try.func31, Try.ntmps31
        go_wp2_with (go_at_call 57; refine (l1In_any _ _ _ _).mono ?_; rintro e w' ⟨rfl, rfl⟩)
        have F : ∀ w5, w5 = w.alloc (Obj.cells #[Value.int IntKind.i64 n, .slice (some ⟨b, off, none⟩) bs.length c] 30) → w5.cell? ⟨w.heap.size, 0, none⟩ = some (.int .i64 n) ∧ w5.cell? ⟨w.heap.size, 1, none⟩ = some (.slice (some ⟨b, off, none⟩) bs.length c) ∧ (∃ b0, b0 = b ∧ w5.cell? ⟨b, off + k * 3, none⟩ = some (.int .i64 f) ∧ w5.cell? ⟨b, off + k * 3 + 1, none⟩ = some (.int .i64 t) ∧ w5.cell? ⟨b, off + k * 3 + 2, none⟩ = some (.int .i64 m)) ∧ BAt w5 (some ⟨b, off, none⟩) bs ∧ Below w.heap.size w w5 := by
          rintro w5 rfl
          refine ⟨by simp, by simp, ⟨b, rfl, cA c0 _, cA c1 _, cA c2 _⟩, h'.below (by repeat (first | with_reducible exact Below.refl _ _ | with_reducible refine valloc ?_ _ | with_reducible refine vdrew ?_ | with_reducible refine vdrewN ?_ _ | with_reducible refine via (by assumption) ?_ | refine vset ?_ (by first | exact Nat.le_refl _ | (simp; done) | (simp; omega) | omega) _)), ?_⟩
          repeat (first | with_reducible exact Below.refl _ _ | with_reducible refine valloc ?_ _ | with_reducible refine vdrew ?_ | with_reducible refine vdrewN ?_ _ | with_reducible refine via (by assumption) ?_ | refine vset ?_ (by first | exact Nat.le_refl _ | (simp; done) | (simp; omega) | omega) _)
        obtain ⟨w5, hw5⟩ : ∃ w5, w5 = w.alloc (Obj.cells #[Value.int IntKind.i64 n, .slice (some ⟨b, off, none⟩) bs.length c] 30) := ⟨_, rfl⟩
        obtain ⟨s0, s1, ⟨b0, hb0, s2, s3, s4⟩, s5, s6⟩ := F w5 hw5
        rw [← hw5]
        clear hw5 F c0 c1 c2 hb0
        have s7 := cell_lt s0
        have s8 := cell_lt s4
        have S5 := Lib.hid s5
        clear s5
        go_region_held3 (fun w' => w'.cell? ⟨w.heap.size, 0, none⟩ = some (.int .i64 n) ∧ w'.cell? ⟨w.heap.size, 1, none⟩ = some (.slice (some ⟨b, off, none⟩) bs.length c) ∧ w'.cell? ⟨b, off + k * 3, none⟩ = some (.int .i64 f) ∧ w'.cell? ⟨b, off + k * 3 + 1, none⟩ = some (.int .i64 t)) (first | go_keep | (go_split_ands; (repeat' apply And.intro) <;> (first | assumption | (refine cB (by assumption) ?_; first | assumption | (simp; assumption)) | (simp; assumption))))
          (first | (go_at_call 29; refine (specMostOf_any _ _ _ bs _ _ _ (S5.out.below (by repeat (first | with_reducible exact Below.refl _ _ | with_reducible refine valloc ?_ _ | with_reducible refine vdrew ?_ | with_reducible refine vdrewN ?_ _ | with_reducible refine via (by assumption) ?_ | refine vset ?_ (by first | exact Nat.le_refl _ | (simp; done) | (simp; omega) | omega) _))) hlen).mono ?_; rintro e w1 ⟨rfl, hbw1⟩))
        have d2 := cB hbw1 (cD s4)
        have d0 := cB hbw1 (cD s0)
        have d1 := cB hbw1 (cD s1)
        have d3 := (vdrew s6).trans (hbw1.mono s6.size)
        clear hbw1
        go_wp2
        go_ret
        exact ⟨ret_bool HR.out.symm, d3⟩
      · have HR := Lib.hid (show tightOk n bs k = false by rw [HT.out, hb]; simp [hv])
        have hv' : (mostV n bs f t == m) = false := by simp [hv]
        go_enter Try.func31, Try.ntmps31
        go_wp2_with (go_at_call 57; refine (l1In_any _ _ _ _).mono ?_; rintro e w' ⟨rfl, rfl⟩)
        have F : ∀ w5, w5 = w.alloc (Obj.cells #[Value.int IntKind.i64 n, .slice (some ⟨b, off, none⟩) bs.length c] 30) → w5.cell? ⟨w.heap.size, 0, none⟩ = some (.int .i64 n) ∧ w5.cell? ⟨w.heap.size, 1, none⟩ = some (.slice (some ⟨b, off, none⟩) bs.length c) ∧ (∃ b0, b0 = b ∧ w5.cell? ⟨b, off + k * 3, none⟩ = some (.int .i64 f) ∧ w5.cell? ⟨b, off + k * 3 + 1, none⟩ = some (.int .i64 t) ∧ w5.cell? ⟨b, off + k * 3 + 2, none⟩ = some (.int .i64 m)) ∧ BAt w5 (some ⟨b, off, none⟩) bs ∧ Below w.heap.size w w5 := by
          rintro w5 rfl
          refine ⟨by simp, by simp, ⟨b, rfl, cA c0 _, cA c1 _, cA c2 _⟩, h'.below (by repeat (first | with_reducible exact Below.refl _ _ | with_reducible refine valloc ?_ _ | with_reducible refine vdrew ?_ | with_reducible refine vdrewN ?_ _ | with_reducible refine via (by assumption) ?_ | refine vset ?_ (by first | exact Nat.le_refl _ | (simp; done) | (simp; omega) | omega) _)), ?_⟩
          repeat (first | with_reducible exact Below.refl _ _ | with_reducible refine valloc ?_ _ | with_reducible refine vdrew ?_ | with_reducible refine vdrewN ?_ _ | with_reducible refine via (by assumption) ?_ | refine vset ?_ (by first | exact Nat.le_refl _ | (simp; done) | (simp; omega) | omega) _)
        obtain ⟨w5, hw5⟩ : ∃ w5, w5 = w.alloc (Obj.cells #[Value.int IntKind.i64 n, .slice (some ⟨b, off, none⟩) bs.length c] 30) := ⟨_, rfl⟩
        obtain ⟨s0, s1, ⟨b0, hb0, s2, s3, s4⟩, s5, s6⟩ := F w5 hw5
        rw [← hw5]
        clear hw5 F c0 c1 c2 hb0
        have s7 := cell_lt s0
        have s8 := cell_lt s4
        have S5 := Lib.hid s5
        clear s5
        go_region_held3 (fun w' => w'.cell? ⟨w.heap.size, 0, none⟩ = some (.int .i64 n) ∧ w'.cell? ⟨w.heap.size, 1, none⟩ = some (.slice (some ⟨b, off, none⟩) bs.length c) ∧ w'.cell? ⟨b, off + k * 3, none⟩ = some (.int .i64 f) ∧ w'.cell? ⟨b, off + k * 3 + 1, none⟩ = some (.int .i64 t)) (first | go_keep | (go_split_ands; (repeat' apply And.intro) <;> (first | assumption | (refine cB (by assumption) ?_; first | assumption | (simp; assumption)) | (simp; assumption))))
          (first | (go_at_call 29; refine (specMostOf_any _ _ _ bs _ _ _ (S5.out.below (by repeat (first | with_reducible exact Below.refl _ _ | with_reducible refine valloc ?_ _ | with_reducible refine vdrew ?_ | with_reducible refine vdrewN ?_ _ | with_reducible refine via (by assumption) ?_ | refine vset ?_ (by first | exact Nat.le_refl _ | (simp; done) | (simp; omega) | omega) _))) hlen).mono ?_; rintro e w1 ⟨rfl, hbw1⟩))
        have d2 := cB hbw1 (cD s4)
        have d0 := cB hbw1 (cD s0)
        have d1 := cB hbw1 (cD s1)
        have d3 := (vdrew s6).trans (hbw1.mono s6.size)
        clear hbw1
        go_wp2
        go_ret
        exact ⟨ret_bool HR.out.symm, d3⟩
end Go.Proofs.Ytacalapbfcmlgaa
