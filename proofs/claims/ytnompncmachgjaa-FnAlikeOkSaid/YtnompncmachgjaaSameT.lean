/- Contracts of laws.sameInts and laws.sameTable, for rows and tables of one size. -/
import Derived.Test.YtnompncmachgjaaKH
import Derived.Test.YtnompncmachgjaaPlainL3
import Derived.Test.YtnompncmachgjaaKB
import Derived.Deep.RegionHeld3
namespace Go.Proofs.Ytnompncmachgjaa
open Go.RowKit
set_option linter.unusedVariables false
set_option maxRecDepth 10000
set_option linter.unusedSimpArgs false

set_option maxHeartbeats 1000000 in
theorem sameInts_any (A A' : Option Addr) (c c' : Nat) (xs ys : List Int) (w : World) (h : IAt w A xs) (h' : IAt w A' ys) (hl : ys.length = xs.length) (hlen : xs.length ≤ 1099511627776) :
    Calls Try.prog 20 #[.slice A xs.length c, .slice A' xs.length c'] w fun e w' => e = .returned (.bool (decide (xs = ys))) ∧ Below w.heap.size w w' := by
  have HL := Lib.hid hl
  clear hl
  go_enter Try.func20, Try.ntmps20
  go_wp2
  go_loopw [5] (fun i W => ∃ k : Nat, k ≤ xs.length ∧ i = .int .i64 k ∧ (∀ a, a < k → xs[a]? = ys[a]?) ∧ Below w.heap.size w W) (fun i _ => xs.length - (intOf i).toNat)
  case atStart => exact ⟨0, Nat.zero_le _, rfl, fun a ha => absurd ha (Nat.not_lt_zero _), Below.refl _ _⟩
  case round =>
    obtain ⟨k, hk, rfl, hq, hb⟩ := hrel
    have HQ := Lib.hid hq
    clear hq
    by_cases hlt : k < xs.length
    · obtain ⟨b, off, x, rfl, hbl, hx, hxm, c0⟩ := (h.below hb).at_ hlt
      obtain ⟨b', off', y, rfl, hbl', hy, hym, d0⟩ := (h'.below hb).at_ (show k < ys.length by rw [HL.out]; exact hlt)
      have hk0 : (0 : Int) ≤ (k : Int) := by omega
      have hk1 : (k : Int) < (xs.length : Int) := by omega
      by_cases hxy : x = y
      · have hne : (x != y) = false := by simp [hxy]
        have E := Lib.hid (show xs[k]? = ys[k]? by rw [hx, hy, hxy])
        clear hx hy h h' hxy
        go_wp2
        go_quiet (fail)
        go_wp2
        go_roundw
        case rel => exact ⟨k + 1, by omega, by go_num, fun a ha => by
          by_cases e : a = k
          · rw [e]; exact E.out
          · exact HQ.out a (by omega), vdrewN hb _⟩
        case measure => simp [intOf]; omega
      · have hne : (x != y) = true := by simpa using hxy
        have E := Lib.hid (show decide (xs = ys) = false from decide_eq_false (fun e => hxy (by rw [e, hy] at hx; injection hx with hx; exact hx.symm)))
        clear hx hy h h' hxy
        go_wp2
        go_quiet (fail)
        go_wp2
        go_ret
        exact ⟨ret_bool E.out.symm, vdrewN hb _⟩
    · have E := Lib.hid (show decide (xs = ys) = true from decide_eq_true (List.ext_getElem? fun a => by
        by_cases ha : a < k
        · exact HQ.out a ha
        · rw [List.getElem?_eq_none (by omega), List.getElem?_eq_none (by rw [HL.out]; omega)]))
      clear h h'
      go_wp2
      go_ret
      exact ⟨ret_bool E.out.symm, hb⟩
theorem rowTo_eq (N i : Nat) (S T : Tab) : rowTo S i N = rowTo T i N ↔ ∀ j, j < N → S i j = T i j := by
  constructor
  · intro h j hj
    have h1 := rowTo_at S i N j hj
    rw [h, rowTo_at T i N j hj] at h1
    injection h1 with h1
    exact h1.symm
  · intro h
    refine List.ext_getElem? fun a => ?_
    by_cases ha : a < N
    · rw [rowTo_at S i N a ha, rowTo_at T i N a ha, h a ha]
    · rw [List.getElem?_eq_none (by rw [rowTo_length]; omega), List.getElem?_eq_none (by rw [rowTo_length]; omega)]
theorem sameT_bad {N i : Nat} {S T : Tab} (hi : i < N) (h : ¬ rowTo S i N = rowTo T i N) : sameT N S T = false := by
  cases e : sameT N S T with
  | false => rfl
  | true => exact absurd ((rowTo_eq N i S T).2 (fun j hj => (sameT_iff N S T).1 e i hi j hj)) h
theorem sameT_good {N : Nat} {S T : Tab} (h : ∀ i, i < N → rowTo S i N = rowTo T i N) : sameT N S T = true := (sameT_iff N S T).2 fun i hi j hj => (rowTo_eq N i S T).1 (h i hi) j hj
theorem sameT_self (N : Nat) (S : Tab) : sameT N S S = true := sameT_good fun _ _ => rfl
set_option maxHeartbeats 1000000 in
theorem sameTable_any (A A' : Option Addr) (c c' N : Nat) (S T : Tab) (w : World) (h : MAt w A N N S) (h' : MAt w A' N N T) (hN : N ≤ 1000) :
    Calls Try.prog 36 #[.slice A N c, .slice A' N c'] w fun e w' => e = .returned (.bool (sameT N S T)) ∧ Below w.heap.size w w' := by
  have H := Lib.hid h
  have H' := Lib.hid h'
  clear h h'
  go_enter Try.func36, Try.ntmps36
  go_wp2
  go_loopw [5] (fun i W => ∃ ii : Nat, ii ≤ N ∧ i = .int .i64 ii ∧ (∀ a, a < ii → rowTo S a N = rowTo T a N) ∧ Below w.heap.size w W) (fun i _ => N - (intOf i).toNat)
  case atStart => exact ⟨0, Nat.zero_le _, rfl, fun a ha => absurd ha (Nat.not_lt_zero _), Below.refl _ _⟩
  case round =>
    obtain ⟨i, hi, rfl, hq, hb⟩ := hrel
    have HQ := Lib.hid hq
    clear hq
    by_cases hlt : i < N
    · obtain ⟨w2, hw2⟩ : ∃ w2 : World, w2 = wr := ⟨_, rfl⟩
      subst hw2
      obtain ⟨g, off, b1, o1, cc1, rfl, hg, r1, hbl1, q1⟩ := (H.out.below hb).at_ hlt
      obtain ⟨g2, off2, b2, o2, cc2, rfl, hg2, r2, hbl2, q2⟩ := (H'.out.below hb).at_ hlt
      obtain ⟨xs, ys, hl, hl2, I1, I2, I3, I4⟩ : ∃ xs ys : List Int, xs.length = N ∧ ys.length = xs.length ∧ Hid (IAt w2 (some ⟨b1, o1, none⟩) xs) ∧ Hid (IAt w2 (some ⟨b2, o2, none⟩) ys) ∧ Hid (xs = rowTo S i N) ∧ Hid (ys = rowTo T i N) := ⟨_, _, rowTo_length S i N, by rw [rowTo_length, rowTo_length], Lib.hid (rowIAt hbl1 q1), Lib.hid (rowIAt hbl2 q2), Lib.hid rfl, Lib.hid rfl⟩
      have HL2 := Lib.hid hl2
      clear q1 q2 hl2
      rw [← hl] at r1 r2
      have hx : xs.length ≤ 1000 := by omega
      clear hl
      go_wp2
      go_region_held3 (fun w' => w'.cell? ⟨g, off + i, none⟩ = some (.slice (some ⟨b1, o1, none⟩) xs.length cc1) ∧ w'.cell? ⟨g2, off2 + i, none⟩ = some (.slice (some ⟨b2, o2, none⟩) xs.length cc2)) (first | go_keep | (go_split_ands; (repeat' apply And.intro) <;> (first | assumption | (refine cB (by assumption) ?_; first | assumption | (simp; assumption)) | (simp; assumption))))
        (first | (go_at_call 20; refine (sameInts_any _ _ _ _ xs ys _ (I1.out.below (by repeat (first | with_reducible exact Below.refl _ _ | with_reducible refine valloc ?_ _ | with_reducible refine vdrew ?_ | with_reducible refine vdrewN ?_ _ | with_reducible refine via (by assumption) ?_ | refine vset ?_ (by first | exact Nat.le_refl _ | (simp; done) | (simp; omega) | omega) _))) (I2.out.below (by repeat (first | with_reducible exact Below.refl _ _ | with_reducible refine valloc ?_ _ | with_reducible refine vdrew ?_ | with_reducible refine vdrewN ?_ _ | with_reducible refine via (by assumption) ?_ | refine vset ?_ (by first | exact Nat.le_refl _ | (simp; done) | (simp; omega) | omega) _))) HL2.out (by omega)).mono ?_; rintro e w3 ⟨rfl, hbw3⟩))
      obtain ⟨q, hq⟩ : ∃ q, decide (xs = ys) = q := ⟨_, rfl⟩
      rw [hq]
      have HQ2 := Lib.hid hq
      clear hq
      cases q
      · have E := Lib.hid (show sameT N S T = false from sameT_bad hlt (by rw [← I3.out, ← I4.out]; exact of_decide_eq_false HQ2.out))
        go_wp2
        go_ret
        exact ⟨ret_bool E.out.symm, (vdrew hb).trans (hbw3.mono hb.size)⟩
      · have E := Lib.hid (show rowTo S i N = rowTo T i N by rw [← I3.out, ← I4.out]; exact of_decide_eq_true HQ2.out)
        go_wp2
        go_roundw
        case rel => exact ⟨i + 1, by omega, by go_num, fun a ha => by
          by_cases e : a = i
          · rw [e]; exact E.out
          · exact HQ.out a (by omega), (vdrew hb).trans (hbw3.mono hb.size)⟩
        case measure => simp [intOf]; omega
    · obtain rfl : N = i := by omega
      have E := Lib.hid (show sameT N S T = true from sameT_good HQ.out)
      go_wp2
      go_ret
      exact ⟨ret_bool E.out.symm, hb⟩
end Go.Proofs.Ytnompncmachgjaa
