/- Contracts of laws.markIntSS and laws.heldIntSS. -/
import Derived.Test.YtnhadopllbcciaaMatEq
import Derived.Test.YtnhadopllbcciaaMarks
namespace Go.Proofs.Ytnhadopllbcciaa
open Go.RowKit
set_option linter.unusedVariables false
set_option maxRecDepth 10000
set_option linter.unusedSimpArgs false

/-- The marks of a table of rows of N numbers: k, k + 1, and so on. -/
def markT (k : Int) (N : Nat) : Tab := fun i j => k + ((i * N : Nat) : Int) + (j : Int)
theorem rowMark (k : Int) (N i : Nat) : rowTo (markT k N) i N = marks (k + ((i * N : Nat) : Int)) N := rfl
set_option maxHeartbeats 4000000 in
theorem heldIntSS_any (A : Option Addr) (c N M : Nat) (k0 : Int) (w : World) (h : MAt w A N M (markT k0 N)) (hk1 : 0 ≤ k0) (hk2 : k0 ≤ 1000000) (hN : N ≤ 1000) (hM : M ≤ 1000) :
    Calls Try.prog 28 #[.slice A M c, .int .i64 k0] w fun e w' => e = .returned (.int .i64 (k0 + ((M * N : Nat) : Int))) ∧ Below w.heap.size w w' := by
  have H := Lib.hid h
  clear h
  go_enter Try.func28, Try.ntmps28
  go_wp2
  go_loopw [1, 5] (fun k i W => ∃ ii : Nat, ii ≤ M ∧ i = .int .i64 ii ∧ k = .int .i64 (k0 + ((ii * N : Nat) : Int)) ∧ Below w.heap.size w W) (fun _ i _ => M - (intOf i).toNat)
  case atStart => exact ⟨0, Nat.zero_le _, rfl, by simp, Below.refl _ _⟩
  case round =>
    obtain ⟨i, hi, rfl, rfl, hb⟩ := hrel
    by_cases hlt : i < M
    · obtain ⟨w2, hw2⟩ : ∃ w2 : World, w2 = wr := ⟨_, rfl⟩
      subst hw2
      obtain ⟨g, off, b1, o1, cc1, rfl, hg, r1, hbl1, q1⟩ := (H.out.below hb).at_ hlt
      have I1 := rowIAt hbl1 q1
      rw [rowMark] at I1
      have I2 := Lib.hid I1
      clear q1 I1
      have HN := Lib.hid (show (((i + 1) * N : Nat) : Int) = ((i * N : Nat) : Int) + (N : Int) by rw [Nat.succ_mul]; omega)
      have hiN : i * N ≤ 1000000 := Nat.mul_le_mul (show i ≤ 1000 by omega) hN
      generalize i * N = p at *
      have hp : (0 : Int) ≤ k0 + (p : Int) := by omega
      have hp2 : ¬ (k0 + (p : Int) + (N : Int) < 0) := by omega
      go_wp2_with fail
      refine (heldIntS_any _ _ N (k0 + (p : Int)) _ (I2.out.below (by repeat (first | with_reducible exact Below.refl _ _ | with_reducible refine valloc ?_ _ | with_reducible refine vdrew ?_ | with_reducible refine vdrewN ?_ _ | with_reducible refine via (by assumption) ?_ | refine vset ?_ (by first | exact Nat.le_refl _ | (simp; done) | (simp; omega) | omega) _))) (by omega) (by omega) (by omega)).mono ?_; rintro e w3 ⟨rfl, hbw3⟩
      go_wp2
      go_roundw
      case rel => exact ⟨i + 1, by omega, by go_num, by rw [HN.out, Int.add_assoc], hb.trans (hbw3.mono hb.size)⟩
      case measure => simp [intOf]; omega
    · obtain rfl : M = i := by omega
      go_wp2
      go_ret
      exact ⟨rfl, hb⟩
/-- One row's numbers are others; all else stands. -/
theorem Grid.newRow {w w1 : World} {lo hi g N i : Nat} {R C : Nat → Nat} {T : Tab} {ys : List Int} (h : Grid w lo hi g N R C T) (hi' : i < N) (ho : Only (R i) (R i + 1) w w1) (hr : RI w1 (R i) (R i + 1) (some ⟨R i, 0, none⟩) ys) (hl : ys.length = N) {T' : Tab}
    (h1 : ∀ j y, ys[j]? = some y → T' i j = y) (h2 : ∀ a b, a ≠ i → T' a b = T a b) : Grid w1 lo hi g N R C T' := by
  refine ⟨?_, h.glo, h.ghi, ?_, h.rlo, h.rhi, h.rne, h.inj, h.cap⟩
  · obtain ⟨cs, hB, hc⟩ := h.outer
    have hg := h.rne i hi'
    exact ⟨cs, (ho.block g hB.lt (by omega)).trans hB, hc⟩
  · intro a ha
    by_cases e : a = i
    · subst e
      rcases hr with ⟨h0, _⟩ | ⟨g', cs, e', _, _, hB, hF⟩
      · cases h0
      · cases e'
        refine ⟨cs, hB, fun j hj => ?_⟩
        have hy : ys[j]? = some ys[j] := List.getElem?_eq_getElem (by omega)
        rw [hF.2 j ys[j] (by omega) hy, h1 j _ hy]
    · obtain ⟨rs, hB, hc⟩ := h.rows a ha
      have hne : R a ≠ R i := fun e2 => e (h.inj a i ha hi' e2)
      exact ⟨rs, (ho.block (R a) hB.lt (by omega)).trans hB, fun j hj => by rw [hc j hj, h2 a j e]⟩
theorem Grid.rowRI {w : World} {lo hi g N i : Nat} {R C : Nat → Nat} {T : Tab} (h : Grid w lo hi g N R C T) (hi' : i < N) : RI w (R i) (R i + 1) (some ⟨R i, 0, none⟩) (rowTo T i N) := by
  obtain ⟨rs, hB, hc⟩ := h.rows i hi'
  refine Or.inr ⟨R i, rs, rfl, Nat.le_refl _, Nat.lt_succ_self _, hB, ?_, fun j x hj hx => ?_⟩
  · rw [rowTo_length]
    have := (Array.getElem?_eq_some_iff.1 (hc (N - 1) (by omega))).1
    omega
  · rw [rowTo_length] at hj
    rw [rowTo_at T i N j hj] at hx
    cases hx
    exact hc j hj
set_option maxHeartbeats 4000000 in
theorem markIntSS_any (lo hi g N c : Nat) (R C : Nat → Nat) (T : Tab) (k0 : Int) (w : World) (h : Grid w lo hi g N R C T) (hk1 : 0 ≤ k0) (hk2 : k0 ≤ 1000000) (hN : N ≤ 1000) :
    Calls Try.prog 27 #[.slice (some ⟨g, 0, none⟩) N c, .int .i64 k0] w fun e w' => e = .returned (.int .i64 (k0 + ((N * N : Nat) : Int))) ∧ Grid w' lo hi g N R C (markT k0 N) ∧ Only lo hi w w' := by
  have H := Lib.hid h
  clear h
  go_enter Try.func27, Try.ntmps27
  go_wp2
  go_loopw [1, 5] (fun k i W => ∃ ii : Nat, ii ≤ N ∧ i = .int .i64 ii ∧ k = .int .i64 (k0 + ((ii * N : Nat) : Int)) ∧ Grid W lo hi g N R C (fun a b => if a < ii then markT k0 N a b else T a b) ∧ Only lo hi w W) (fun _ i _ => N - (intOf i).toNat)
  case atStart => exact ⟨0, Nat.zero_le _, rfl, by simp, H.out.eq_ (fun a b _ _ => by simp), Only.refl _ _ _⟩
  case round =>
    obtain ⟨i, hi', rfl, rfl, hG, hO⟩ := hrel
    have HG := Lib.hid hG
    clear hG
    by_cases hlt : i < N
    · obtain ⟨w2, hw2⟩ : ∃ w2 : World, w2 = wr := ⟨_, rfl⟩
      subst hw2
      have r1 := HG.out.row hlt
      have hR1 := HG.out.rlo i hlt
      have hR2 := HG.out.rhi i hlt
      obtain ⟨xs, hl, HX⟩ : ∃ xs : List Int, xs.length = N ∧ Hid (RI w2 (R i) (R i + 1) (some ⟨R i, 0, none⟩) xs) := ⟨_, rowTo_length _ i N, Lib.hid (HG.out.rowRI hlt)⟩
      have HM := Lib.hid (show marks (k0 + ((i * N : Nat) : Int)) xs.length = rowTo (markT k0 N) i N by rw [hl, rowMark])
      have HN := Lib.hid (show (((i + 1) * N : Nat) : Int) = ((i * N : Nat) : Int) + (N : Int) by rw [Nat.succ_mul]; omega)
      have hiN : i * N ≤ 1000000 := Nat.mul_le_mul (show i ≤ 1000 by omega) hN
      have HL := Lib.hid hl
      rw [← hl] at r1
      have hx : xs.length ≤ 1000 := by omega
      clear hl
      generalize i * N = p at *
      go_wp2_with fail
      refine (markIntS_any _ _ xs (k0 + (p : Int)) _ _ _ HX.out (by omega) (by omega) (by omega)).mono ?_; rintro e w3 ⟨rfl, hRI, hO3⟩
      have HR3 := Lib.hid hRI
      clear hRI
      go_wp2
      go_roundw
      case rel =>
        refine ⟨i + 1, by omega, by go_num, by rw [HN.out, HL.out, Int.add_assoc], ?_, Only.only hO3 hR1 hR2 hO⟩
        have hr := HR3.out
        rw [HM.out] at hr
        refine HG.out.newRow hlt hO3 hr (rowTo_length _ _ _) (fun j y hy => ?_) (fun a b hab => ?_)
        · have hj : j < N := by
            have := (List.getElem?_eq_some_iff.1 hy).1
            rwa [rowTo_length] at this
          rw [rowTo_at _ i N j hj] at hy
          injection hy with hy
          rw [if_pos (Nat.lt_succ_self i)]
          exact hy
        · by_cases c1 : a < i
          · rw [if_pos c1, if_pos (by omega)]
          · rw [if_neg c1, if_neg (by omega)]
      case measure => simp [intOf]; omega
    · obtain rfl : N = i := by omega
      go_wp2
      go_ret
      exact ⟨rfl, HG.out.eq_ (fun a b ha _ => by rw [if_pos ha]), hO⟩
end Go.Proofs.Ytnhadopllbcciaa
