/- Contracts of laws.eqIntSS: two readings of the same table are found the same. Contracts of laws.markIntSS and laws.heldIntSS. Contracts of impl.TableOf and spec.TableOf; for slices of at most 2^40 bounds. Tables of the program's own, none or a Grid: how they stand, how they are marked. Contracts of impl.ClosedOf and spec.ClosedOf; for slices of at most 2^40 bounds. -/
import Derived.Test.YtaifpindiphlkaaKE
import Derived.Test.YtaifpindiphlkaaKB
import Derived.Deep.RegionHeld3
import Derived.Test.YtaifpindiphlkaaKD
namespace Go.Proofs.Ytaifpindiphlkaa
open Go.RowKit
set_option linter.unusedVariables false
set_option maxRecDepth 10000
set_option linter.unusedSimpArgs false

theorem rowIAt {w : World} {b o N i : Nat} {T : Tab} (hb : b < w.heap.size) (h : ∀ j, j < N → w.cell? ⟨b, o + j, none⟩ = some (.int .i64 (T i j))) : IAt w (some ⟨b, o, none⟩) (rowTo T i N) := by
  intro _
  refine ⟨b, o, rfl, hb, fun j x hx => ?_⟩
  have hj : j < N := by
    have := (List.getElem?_eq_some_iff.1 hx).1
    rwa [rowTo_length] at this
  rw [rowTo_at T i N j hj] at hx
  cases hx
  exact h j hj
set_option maxHeartbeats 4000000 in
theorem eqIntSS_same (A A' : Option Addr) (c c' N M : Nat) (T : Tab) (w : World) (h : MAt w A N M T) (h' : MAt w A' N M T) (hN : N ≤ 1000) (hM : M ≤ 1000) :
    Calls Try.prog 35 #[.slice A M c, .slice A' M c'] w fun e w' => e = .returned (.bool true) ∧ Below w.heap.size w w' := by
  have H := Lib.hid h
  have H' := Lib.hid h'
  clear h h'
  go_enter Try.func35, Try.ntmps35
  go_wp2
  go_loopw [5] (fun i W => ∃ ii : Nat, ii ≤ M ∧ i = .int .i64 ii ∧ Below w.heap.size w W) (fun i _ => M - (intOf i).toNat)
  case atStart => exact ⟨0, Nat.zero_le _, rfl, Below.refl _ _⟩
  case round =>
    obtain ⟨i, hi, rfl, hb⟩ := hrel
    by_cases hlt : i < M
    · obtain ⟨w2, hw2⟩ : ∃ w2 : World, w2 = wr := ⟨_, rfl⟩
      subst hw2
      obtain ⟨g, off, b1, o1, cc1, rfl, hg, r1, hbl1, q1⟩ := (H.out.below hb).at_ hlt
      obtain ⟨g2, off2, b2, o2, cc2, rfl, hg2, r2, hbl2, q2⟩ := (H'.out.below hb).at_ hlt
      obtain ⟨xs, hl, I1, I2⟩ : ∃ xs : List Int, xs.length = N ∧ Hid (IAt w2 (some ⟨b1, o1, none⟩) xs) ∧ Hid (IAt w2 (some ⟨b2, o2, none⟩) xs) := ⟨_, rowTo_length T i N, Lib.hid (rowIAt hbl1 q1), Lib.hid (rowIAt hbl2 q2)⟩
      clear q1 q2
      rw [← hl] at r1 r2
      have hx : xs.length ≤ 1000 := by omega
      clear hl
      go_wp2
      go_region_held3 (fun w' => w'.cell? ⟨g, off + i, none⟩ = some (.slice (some ⟨b1, o1, none⟩) xs.length cc1) ∧ w'.cell? ⟨g2, off2 + i, none⟩ = some (.slice (some ⟨b2, o2, none⟩) xs.length cc2)) (first | go_keep | (go_split_ands; (repeat' apply And.intro) <;> (first | assumption | (refine cB (by assumption) ?_; first | assumption | (simp; assumption)) | (simp; assumption))))
        (first | (go_at_call 61; refine (eqIntS_same _ _ _ _ xs _ (I1.out.below (by repeat (first | with_reducible exact Below.refl _ _ | with_reducible refine valloc ?_ _ | with_reducible refine vdrew ?_ | with_reducible refine vdrewN ?_ _ | with_reducible refine via (by assumption) ?_ | refine vset ?_ (by first | exact Nat.le_refl _ | (simp; done) | (simp; omega) | omega) _))) (I2.out.below (by repeat (first | with_reducible exact Below.refl _ _ | with_reducible refine valloc ?_ _ | with_reducible refine vdrew ?_ | with_reducible refine vdrewN ?_ _ | with_reducible refine via (by assumption) ?_ | refine vset ?_ (by first | exact Nat.le_refl _ | (simp; done) | (simp; omega) | omega) _))) (by omega)).mono ?_; rintro e w3 ⟨rfl, hbw3⟩))
      go_wp2
      go_roundw
      case rel => exact ⟨i + 1, by omega, by go_num, (vdrew hb).trans (hbw3.mono hb.size)⟩
      case measure => simp [intOf]; omega
    · obtain rfl : M = i := by omega
      go_wp2
      go_ret
      exact ⟨rfl, hb⟩
end Go.Proofs.Ytaifpindiphlkaa
namespace Go.Proofs.Ytaifpindiphlkaa
open Go.RowKit
set_option linter.unusedVariables false
set_option maxRecDepth 10000
set_option linter.unusedSimpArgs false

/-- The marks of a table of rows of N numbers: k, k + 1, and so on. -/
def markT (k : Int) (N : Nat) : Tab := fun i j => k + ((i * N : Nat) : Int) + (j : Int)
theorem rowMark (k : Int) (N i : Nat) : rowTo (markT k N) i N = marks (k + ((i * N : Nat) : Int)) N := rfl
set_option maxHeartbeats 4000000 in
theorem heldIntSS_any (A : Option Addr) (c N M : Nat) (k0 : Int) (w : World) (h : MAt w A N M (markT k0 N)) (hk1 : 0 ≤ k0) (hk2 : k0 ≤ 1000000) (hN : N ≤ 1000) (hM : M ≤ 1000) :
    Calls Try.prog 39 #[.slice A M c, .int .i64 k0] w fun e w' => e = .returned (.int .i64 (k0 + ((M * N : Nat) : Int))) ∧ Below w.heap.size w w' := by
  have H := Lib.hid h
  clear h
  go_enter Try.func39, Try.ntmps39
  go_wp2
  go_loopw [1, 5] (fun k i W => ∃ ii : Nat, ii ≤ M ∧ i = .int .i64 ii ∧ k = .int .i64 (k0 + ((ii * N : Nat) : Int)) ∧ Below w.heap.size w W) (fun _ i _ => M - (intOf i).toNat)
  case atStart => exact ⟨0, Nat.zero_le _, rfl, by simp, Below.refl _ _⟩
  case round =>
    obtain ⟨i, hi, rfl, rfl, hb⟩ := hrel
    by_cases hlt : i < M
    · obtain ⟨w2, hw2⟩ : ∃ w2 : World, w2 = wr := ⟨_, rfl⟩
      subst hw2
      obtain ⟨g, off, b1, o1, cc1, rfl, hg, r1, hbl1, q1⟩ := (H.out.below hb).at_ hlt
      have I1 := rowIAt hbl1 q1
      rw [rowMark] at I1
      have I2 := Lib.hid I1
      clear q1 I1
      have HN := Lib.hid (show (((i + 1) * N : Nat) : Int) = ((i * N : Nat) : Int) + (N : Int) by rw [Nat.succ_mul]; omega)
      have hiN : i * N ≤ 1000000 := Nat.mul_le_mul (show i ≤ 1000 by omega) hN
      generalize i * N = p at *
      have hp : (0 : Int) ≤ k0 + (p : Int) := by omega
      have hp2 : ¬ (k0 + (p : Int) + (N : Int) < 0) := by omega
      go_wp2_with fail
      refine (heldIntS_any _ _ N (k0 + (p : Int)) _ (I2.out.below (by repeat (first | with_reducible exact Below.refl _ _ | with_reducible refine valloc ?_ _ | with_reducible refine vdrew ?_ | with_reducible refine vdrewN ?_ _ | with_reducible refine via (by assumption) ?_ | refine vset ?_ (by first | exact Nat.le_refl _ | (simp; done) | (simp; omega) | omega) _))) (by omega) (by omega) (by omega)).mono ?_; rintro e w3 ⟨rfl, hbw3⟩
      go_wp2
      go_roundw
      case rel => exact ⟨i + 1, by omega, by go_num, by rw [HN.out, Int.add_assoc], hb.trans (hbw3.mono hb.size)⟩
      case measure => simp [intOf]; omega
    · obtain rfl : M = i := by omega
      go_wp2
      go_ret
      exact ⟨rfl, hb⟩
/-- One row's numbers are others; all else stands. -/
theorem Grid.newRow {w w1 : World} {lo hi g N i : Nat} {R C : Nat → Nat} {T : Tab} {ys : List Int} (h : Grid w lo hi g N R C T) (hi' : i < N) (ho : Only (R i) (R i + 1) w w1) (hr : RI w1 (R i) (R i + 1) (some ⟨R i, 0, none⟩) ys) (hl : ys.length = N) {T' : Tab}
    (h1 : ∀ j y, ys[j]? = some y → T' i j = y) (h2 : ∀ a b, a ≠ i → T' a b = T a b) : Grid w1 lo hi g N R C T' := by
  refine ⟨?_, h.glo, h.ghi, ?_, h.rlo, h.rhi, h.rne, h.inj, h.cap⟩
  · obtain ⟨cs, hB, hc⟩ := h.outer
    have hg := h.rne i hi'
    exact ⟨cs, (ho.block g hB.lt (by omega)).trans hB, hc⟩
  · intro a ha
    by_cases e : a = i
    · subst e
      rcases hr with ⟨h0, _⟩ | ⟨g', cs, e', _, _, hB, hF⟩
      · cases h0
      · cases e'
        refine ⟨cs, hB, fun j hj => ?_⟩
        have hy : ys[j]? = some ys[j] := List.getElem?_eq_getElem (by omega)
        rw [hF.2 j ys[j] (by omega) hy, h1 j _ hy]
    · obtain ⟨rs, hB, hc⟩ := h.rows a ha
      have hne : R a ≠ R i := fun e2 => e (h.inj a i ha hi' e2)
      exact ⟨rs, (ho.block (R a) hB.lt (by omega)).trans hB, fun j hj => by rw [hc j hj, h2 a j e]⟩
theorem Grid.rowRI {w : World} {lo hi g N i : Nat} {R C : Nat → Nat} {T : Tab} (h : Grid w lo hi g N R C T) (hi' : i < N) : RI w (R i) (R i + 1) (some ⟨R i, 0, none⟩) (rowTo T i N) := by
  obtain ⟨rs, hB, hc⟩ := h.rows i hi'
  refine Or.inr ⟨R i, rs, rfl, Nat.le_refl _, Nat.lt_succ_self _, hB, ?_, fun j x hj hx => ?_⟩
  · rw [rowTo_length]
    have := (Array.getElem?_eq_some_iff.1 (hc (N - 1) (by omega))).1
    omega
  · rw [rowTo_length] at hj
    rw [rowTo_at T i N j hj] at hx
    cases hx
    exact hc j hj
set_option maxHeartbeats 4000000 in
theorem markIntSS_any (lo hi g N c : Nat) (R C : Nat → Nat) (T : Tab) (k0 : Int) (w : World) (h : Grid w lo hi g N R C T) (hk1 : 0 ≤ k0) (hk2 : k0 ≤ 1000000) (hN : N ≤ 1000) :
    Calls Try.prog 38 #[.slice (some ⟨g, 0, none⟩) N c, .int .i64 k0] w fun e w' => e = .returned (.int .i64 (k0 + ((N * N : Nat) : Int))) ∧ Grid w' lo hi g N R C (markT k0 N) ∧ Only lo hi w w' := by
  have H := Lib.hid h
  clear h
  go_enter Try.func38, Try.ntmps38
  go_wp2
  go_loopw [1, 5] (fun k i W => ∃ ii : Nat, ii ≤ N ∧ i = .int .i64 ii ∧ k = .int .i64 (k0 + ((ii * N : Nat) : Int)) ∧ Grid W lo hi g N R C (fun a b => if a < ii then markT k0 N a b else T a b) ∧ Only lo hi w W) (fun _ i _ => N - (intOf i).toNat)
  case atStart => exact ⟨0, Nat.zero_le _, rfl, by simp, H.out.eq_ (fun a b _ _ => by simp), Only.refl _ _ _⟩
  case round =>
    obtain ⟨i, hi', rfl, rfl, hG, hO⟩ := hrel
    have HG := Lib.hid hG
    clear hG
    by_cases hlt : i < N
    · obtain ⟨w2, hw2⟩ : ∃ w2 : World, w2 = wr := ⟨_, rfl⟩
      subst hw2
      have r1 := HG.out.row hlt
      have hR1 := HG.out.rlo i hlt
      have hR2 := HG.out.rhi i hlt
      obtain ⟨xs, hl, HX⟩ : ∃ xs : List Int, xs.length = N ∧ Hid (RI w2 (R i) (R i + 1) (some ⟨R i, 0, none⟩) xs) := ⟨_, rowTo_length _ i N, Lib.hid (HG.out.rowRI hlt)⟩
      have HM := Lib.hid (show marks (k0 + ((i * N : Nat) : Int)) xs.length = rowTo (markT k0 N) i N by rw [hl, rowMark])
      have HN := Lib.hid (show (((i + 1) * N : Nat) : Int) = ((i * N : Nat) : Int) + (N : Int) by rw [Nat.succ_mul]; omega)
      have hiN : i * N ≤ 1000000 := Nat.mul_le_mul (show i ≤ 1000 by omega) hN
      have HL := Lib.hid hl
      rw [← hl] at r1
      have hx : xs.length ≤ 1000 := by omega
      clear hl
      generalize i * N = p at *
      go_wp2_with fail
      refine (markIntS_any _ _ xs (k0 + (p : Int)) _ _ _ HX.out (by omega) (by omega) (by omega)).mono ?_; rintro e w3 ⟨rfl, hRI, hO3⟩
      have HR3 := Lib.hid hRI
      clear hRI
      go_wp2
      go_roundw
      case rel =>
        refine ⟨i + 1, by omega, by go_num, by rw [HN.out, HL.out, Int.add_assoc], ?_, Only.only hO3 hR1 hR2 hO⟩
        have hr := HR3.out
        rw [HM.out] at hr
        refine HG.out.newRow hlt hO3 hr (rowTo_length _ _ _) (fun j y hy => ?_) (fun a b hab => ?_)
        · have hj : j < N := by
            have := (List.getElem?_eq_some_iff.1 hy).1
            rwa [rowTo_length] at this
          rw [rowTo_at _ i N j hj] at hy
          injection hy with hy
          rw [if_pos (Nat.lt_succ_self i)]
          exact hy
        · by_cases c1 : a < i
          · rw [if_pos c1, if_pos (by omega)]
          · rw [if_neg c1, if_neg (by omega)]
      case measure => simp [intOf]; omega
    · obtain rfl : N = i := by omega
      go_wp2
      go_ret
      exact ⟨rfl, HG.out.eq_ (fun a b ha _ => by rw [if_pos ha]), hO⟩
end Go.Proofs.Ytaifpindiphlkaa
namespace Go.Proofs.Ytaifpindiphlkaa
open Go.RowKit
set_option linter.unusedVariables false
set_option maxRecDepth 10000
set_option linter.unusedSimpArgs false

/-- How many rows the table of a plan has. -/
def tabN (n : Int) (bs : List Bd) : Nat := if planOk n bs = true then n.toNat else 0
/-- A table of the program's own: none, or a Grid. -/
def GridRes (N : Nat) (T : Tab) (w : World) (lo hi : Nat) (A : Option Addr) : Prop := (A = none ∧ N = 0) ∨ ∃ g R C, A = some ⟨g, 0, none⟩ ∧ Grid w lo hi g N R C T
def TabRes (N : Nat) (T : Tab) (w : World) (e : Ending) (w' : World) : Prop := ∃ A c, e = .returned (.slice A N c) ∧ GridRes N T w' w.heap.size w'.heap.size A ∧ Below w.heap.size w w'
theorem tableOf_any (n : Int) (A : Option Addr) (c : Nat) (bs : List Bd) (w : World) (h : BAt w A bs) (hlen : bs.length ≤ 1099511627776) :
    Calls Try.prog 34 #[.agg #[.int .i64 n, .slice A bs.length c]] w (TabRes (tabN n bs) (ent bs) w) := by
  cases hp : planOk n bs
  · have HN := Lib.hid (show tabN n bs = 0 by simp [tabN, hp])
    go_enter Try.func34, Try.ntmps34
    go_wp2_with fail
    refine (planOk_any _ _ _ bs _ (h.below (by repeat (first | with_reducible exact Below.refl _ _ | with_reducible refine valloc ?_ _ | with_reducible refine vdrew ?_ | with_reducible refine vdrewN ?_ _ | with_reducible refine via (by assumption) ?_ | refine vset ?_ (by first | exact Nat.le_refl _ | (simp; done) | (simp; omega) | omega) _))) hlen).mono ?_; rintro e w1 ⟨rfl, hbw1⟩
    go_wp2
    go_ret
    rw [HN.out]
    refine ⟨none, 0, rfl, Or.inl ⟨rfl, rfl⟩, ?_⟩
    repeat (first | with_reducible exact Below.refl _ _ | with_reducible refine valloc ?_ _ | with_reducible refine vdrew ?_ | with_reducible refine vdrewN ?_ _ | with_reducible refine via (by assumption) ?_ | refine vset ?_ (by first | exact Nat.le_refl _ | (simp; done) | (simp; omega) | omega) _)
  · obtain ⟨h1, h6, _, hin⟩ := planOk_of hp
    obtain ⟨N, rfl⟩ := Int.eq_ofNat_of_zero_le (show 0 ≤ n by omega)
    have HN := Lib.hid (show tabN N bs = N by simp [tabN, hp])
    have HE := Lib.hid (both_plan hp).1
    have HIN := Lib.hid (show ∀ x ∈ bs, 0 ≤ x.f ∧ x.f < N ∧ 0 ≤ x.t ∧ x.t < N from fun x hx => by have := hin x hx; omega)
    clear hin
    go_enter Try.func34, Try.ntmps34
    go_wp2_with fail
    refine (planOk_any _ _ _ bs _ (h.below (by repeat (first | with_reducible exact Below.refl _ _ | with_reducible refine valloc ?_ _ | with_reducible refine vdrew ?_ | with_reducible refine vdrewN ?_ _ | with_reducible refine via (by assumption) ?_ | refine vset ?_ (by first | exact Nat.le_refl _ | (simp; done) | (simp; omega) | omega) _))) hlen).mono ?_; rintro e w1 ⟨rfl, hbw1⟩; obtain ⟨hcw1, hfw1⟩ := bcell hbw1; have hzw1 := hbw1.size; (try simp only [sz] at hzw1); (try simp only [szc] at hzw1); have hzw1_0 : w.heap.size < w1.heap.size := (by omega)
    go_wp2_with fail
    refine (start_any N _ _ bs _ (h.below (by repeat (first | with_reducible exact Below.refl _ _ | with_reducible refine valloc ?_ _ | with_reducible refine vdrew ?_ | with_reducible refine vdrewN ?_ _ | with_reducible refine via (by assumption) ?_ | refine vset ?_ (by first | exact Nat.le_refl _ | (simp; done) | (simp; omega) | omega) _))) (by omega) hlen HIN.out).mono ?_; rintro e w2 ⟨g, R, rfl, hG, hbw2⟩
    have HG := Lib.hid hG
    clear hG
    go_wp2
    go_ret
    rw [HN.out]
    refine ⟨some ⟨g, 0, none⟩, N, rfl, Or.inr ⟨g, R, fun _ => N, rfl, ?_⟩, ?_⟩
    · rw [← HE.out]; exact HG.out.wide (by omega) (Nat.le_refl _)
    repeat (first | with_reducible exact Below.refl _ _ | with_reducible refine valloc ?_ _ | with_reducible refine vdrew ?_ | with_reducible refine vdrewN ?_ _ | with_reducible refine via (by assumption) ?_ | refine vset ?_ (by first | exact Nat.le_refl _ | (simp; done) | (simp; omega) | omega) _)
def LocRes (N : Nat) (T : Tab) (w : World) (e : Ending) (w' : World) : Prop := ∃ A c, e = .returned (.slice A N c) ∧ MLoc w' w.heap.size w'.heap.size A N N T ∧ Below w.heap.size w w'
theorem specTableOf_any (n : Int) (A : Option Addr) (c : Nat) (bs : List Bd) (w : World) (h : BAt w A bs) (hlen : bs.length ≤ 1099511627776) :
    Calls Try.prog 32 #[.agg #[.int .i64 n, .slice A bs.length c]] w (LocRes (tabN n bs) (ent bs) w) := by
  cases hp : planOk n bs
  · have HN := Lib.hid (show tabN n bs = 0 by simp [tabN, hp])
    go_enter Try.func32, Try.ntmps32
    go_wp2_with fail
    refine (specPlanOk_any _ _ _ bs _ (h.below (by repeat (first | with_reducible exact Below.refl _ _ | with_reducible refine valloc ?_ _ | with_reducible refine vdrew ?_ | with_reducible refine vdrewN ?_ _ | with_reducible refine via (by assumption) ?_ | refine vset ?_ (by first | exact Nat.le_refl _ | (simp; done) | (simp; omega) | omega) _))) hlen).mono ?_; rintro e w1 ⟨rfl, hbw1⟩
    go_wp2
    go_ret
    rw [HN.out]
    refine ⟨_, _, rfl, fun h0 => absurd h0 (by omega), ?_⟩
    repeat (first | with_reducible exact Below.refl _ _ | with_reducible refine valloc ?_ _ | with_reducible refine vdrew ?_ | with_reducible refine vdrewN ?_ _ | with_reducible refine via (by assumption) ?_ | refine vset ?_ (by first | exact Nat.le_refl _ | (simp; done) | (simp; omega) | omega) _)
  · obtain ⟨h1, h6, _, hin⟩ := planOk_of hp
    obtain ⟨N, rfl⟩ := Int.eq_ofNat_of_zero_le (show 0 ≤ n by omega)
    have HN := Lib.hid (show tabN N bs = N by simp [tabN, hp])
    clear hin
    go_enter Try.func32, Try.ntmps32
    go_wp2_with fail
    refine (specPlanOk_any _ _ _ bs _ (h.below (by repeat (first | with_reducible exact Below.refl _ _ | with_reducible refine valloc ?_ _ | with_reducible refine vdrew ?_ | with_reducible refine vdrewN ?_ _ | with_reducible refine via (by assumption) ?_ | refine vset ?_ (by first | exact Nat.le_refl _ | (simp; done) | (simp; omega) | omega) _))) hlen).mono ?_; rintro e w1 ⟨rfl, hbw1⟩; obtain ⟨hcw1, hfw1⟩ := bcell hbw1; have hzw1 := hbw1.size; (try simp only [sz] at hzw1); (try simp only [szc] at hzw1); have hzw1_0 : w.heap.size < w1.heap.size := (by omega)
    go_wp2_with fail
    refine (l2Table_any N _ _ bs _ (h.below (by repeat (first | with_reducible exact Below.refl _ _ | with_reducible refine valloc ?_ _ | with_reducible refine vdrew ?_ | with_reducible refine vdrewN ?_ _ | with_reducible refine via (by assumption) ?_ | refine vset ?_ (by first | exact Nat.le_refl _ | (simp; done) | (simp; omega) | omega) _))) (by omega) (by omega) hlen).mono ?_; rintro e w2 ⟨A2, c2, rfl, hm, hbw2⟩
    have HM := Lib.hid hm
    clear hm
    go_wp2
    go_ret
    rw [HN.out]
    refine ⟨A2, c2, rfl, HM.out.wide (by omega) (Nat.le_refl _), ?_⟩
    repeat (first | with_reducible exact Below.refl _ _ | with_reducible refine valloc ?_ _ | with_reducible refine vdrew ?_ | with_reducible refine vdrewN ?_ _ | with_reducible refine via (by assumption) ?_ | refine vset ?_ (by first | exact Nat.le_refl _ | (simp; done) | (simp; omega) | omega) _)
end Go.Proofs.Ytaifpindiphlkaa
namespace Go.Proofs.Ytaifpindiphlkaa
open Go.RowKit
set_option linter.unusedVariables false
set_option maxRecDepth 10000
set_option linter.unusedSimpArgs false

theorem tabN_le (n : Int) (bs : List Bd) : tabN n bs ≤ 6 := by
  unfold tabN
  split
  · rename_i h
    have := planOk_of h
    omega
  · omega
theorem GridRes.same {N : Nat} {T : Tab} {w w1 : World} {lo hi : Nat} {A : Option Addr} (h : GridRes N T w lo hi A) (hs : Same lo hi w w1) (hh : hi ≤ w.heap.size) : GridRes N T w1 lo hi A := by
  rcases h with h | ⟨g, R, C, e, hG⟩
  · exact Or.inl h
  · exact Or.inr ⟨g, R, C, e, hG.same hs hh⟩
theorem GridRes.wide {N : Nat} {T : Tab} {w : World} {lo hi lo' hi' : Nat} {A : Option Addr} (h : GridRes N T w lo hi A) (hl : lo' ≤ lo) (hh : hi ≤ hi') : GridRes N T w lo' hi' A := by
  rcases h with h | ⟨g, R, C, e, hG⟩
  · exact Or.inl h
  · exact Or.inr ⟨g, R, C, e, hG.wide hl hh⟩
theorem GridRes.mat {N : Nat} {T : Tab} {w : World} {lo hi : Nat} {A : Option Addr} (h : GridRes N T w lo hi A) (hh : hi ≤ w.heap.size) : MAt w A N N T := by
  rcases h with ⟨_, h⟩ | ⟨g, R, C, rfl, hG⟩
  · intro h0; omega
  · exact hG.mat
theorem markIntSS_res (lo hi N c : Nat) (A : Option Addr) (T : Tab) (k0 : Int) (w : World) (h : GridRes N T w lo hi A) (hk1 : 0 ≤ k0) (hk2 : k0 ≤ 1000000) (hN : N ≤ 1000) :
    Calls Try.prog 38 #[.slice A N c, .int .i64 k0] w fun e w' => e = .returned (.int .i64 (k0 + ((N * N : Nat) : Int))) ∧ GridRes N (markT k0 N) w' lo hi A ∧ Only lo hi w w' := by
  rcases h with ⟨rfl, rfl⟩ | ⟨g, R, C, rfl, hG⟩
  · go_enter Try.func38, Try.ntmps38
    go_wp2
    go_loopw [1, 5] (fun k i W => k = .int .i64 k0 ∧ i = .int .i64 0 ∧ W = w) (fun _ _ _ => 0)
    case atStart => exact ⟨rfl, rfl, rfl⟩
    case round =>
      obtain ⟨rfl, rfl, rfl⟩ := hrel
      go_wp2
      go_ret
      exact ⟨by simp, Or.inl ⟨rfl, rfl⟩, Only.refl _ _ _⟩
  · exact (markIntSS_any lo hi g N c R C T k0 w hG hk1 hk2 hN).mono fun e w' ⟨h1, h2, h3⟩ => ⟨h1, Or.inr ⟨g, R, C, rfl, h2⟩, h3⟩
end Go.Proofs.Ytaifpindiphlkaa
namespace Go.Proofs.Ytaifpindiphlkaa
open Go.RowKit
set_option linter.unusedVariables false
set_option maxRecDepth 10000
set_option linter.unusedSimpArgs false

/-- How many rows the closed table of a plan has. -/
def fitN (n : Int) (bs : List Bd) : Nat := if fitsOk n bs = true then n.toNat else 0
theorem fitN_le (n : Int) (bs : List Bd) : fitN n bs ≤ 6 := by
  unfold fitN
  split
  · rename_i h
    simp only [fitsOk, Bool.and_eq_true] at h
    have := planOk_of h.1
    omega
  · omega
def TabBoolRes (N : Nat) (T : Tab) (b : Bool) (w : World) (e : Ending) (w' : World) : Prop := ∃ A c, e = .returned (.tuple #[.slice A N c, .bool b]) ∧ GridRes N T w' w.heap.size w'.heap.size A ∧ Below w.heap.size w w'
def LocBoolRes (N : Nat) (T : Tab) (b : Bool) (w : World) (e : Ending) (w' : World) : Prop := ∃ A c, e = .returned (.tuple #[.slice A N c, .bool b]) ∧ MLoc w' w.heap.size w'.heap.size A N N T ∧ Below w.heap.size w w'
theorem MLoc.eq_ {w : World} {lo hi : Nat} {A : Option Addr} {N M : Nat} {T T' : Tab} (h : MLoc w lo hi A N M T) (he : ∀ i j, i < M → j < N → T i j = T' i j) : MLoc w lo hi A N M T' := by
  intro h0
  obtain ⟨g, off, e, g1, hg, hr⟩ := h h0
  refine ⟨g, off, e, g1, hg, fun i hi => ?_⟩
  obtain ⟨b, o, c, h1, b1, h2, h3⟩ := hr i hi
  exact ⟨b, o, c, h1, b1, h2, fun j hj => by rw [← he i j hi hj]; exact h3 j hj⟩
end Go.Proofs.Ytaifpindiphlkaa
