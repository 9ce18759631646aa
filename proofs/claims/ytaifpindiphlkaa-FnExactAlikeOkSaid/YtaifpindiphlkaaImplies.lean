/- Contracts of ImpliesOk, of the program and of the reference; for slices of at most 2^40 bounds. -/
import Derived.Test.YtaifpindiphlkaaKE
import Derived.Test.YtaifpindiphlkaaKD
namespace Go.Proofs.Ytaifpindiphlkaa
open Go.RowKit
set_option linter.unusedVariables false
set_option maxRecDepth 10000
set_option linter.unusedSimpArgs false

/-- Is each number of the first table at most the one of the second one? -/
def leT (N : Nat) (S T : Tab) : Bool := (List.range N).all fun i => (List.range N).all fun j => decide (S i j ≤ T i j)
theorem leT_iff (N : Nat) (S T : Tab) : leT N S T = true ↔ ∀ i, i < N → ∀ j, j < N → S i j ≤ T i j := by simp [leT]
theorem leT_bad {N i j : Nat} {S T : Tab} (hi : i < N) (hj : j < N) (h : T i j < S i j) : leT N S T = false := by
  rw [← Bool.not_eq_true, leT_iff]; intro hh; have := hh i hi j hj; omega
theorem leT_good {N : Nat} {S T : Tab} (h : ∀ i, i < N → ∀ j, j < N → S i j ≤ T i j) : leT N S T = true := (leT_iff _ _ _).2 h
theorem leT_eq {N : Nat} {S S' T T' : Tab} (h : ∀ i j, i < N → j < N → S i j = S' i j) (h' : ∀ i j, i < N → j < N → T i j = T' i j) : leT N S T = leT N S' T' := by
  rw [Bool.eq_iff_iff, leT_iff, leT_iff]
  constructor
  · intro hh i hi j hj; rw [← h i j hi hj, ← h' i j hi hj]; exact hh i hi j hj
  · intro hh i hi j hj; rw [h i j hi hj, h' i j hi hj]; exact hh i hi j hj
def impliesOk (n m : Int) (bs cs : List Bd) : Bool := planOk n bs && planOk m cs && decide (n = m) && (!fitsOk n bs || leT n.toNat (closedT n bs) (ent cs))
set_option maxHeartbeats 4000000 in
theorem impliesOk_any (n : Int) (A : Option Addr) (c : Nat) (bs : List Bd) (m : Int) (A' : Option Addr) (c' : Nat) (cs : List Bd) (w : World) (h : BAt w A bs) (h' : BAt w A' cs) (hlen : bs.length ≤ 1099511627776) (hlen' : cs.length ≤ 1099511627776) :
    Calls Try.prog 41 #[.agg #[.int .i64 n, .slice A bs.length c], .agg #[.int .i64 m, .slice A' cs.length c']] w fun e w' => e = .returned (.bool (impliesOk n m bs cs)) ∧ Below w.heap.size w w' := by
  cases hp : planOk n bs
  · have HR := Lib.hid (show impliesOk n m bs cs = false by simp [impliesOk, hp])
    go_enter Try.func41, Try.ntmps41
    go_wp2_with fail
    refine (planOk_any _ _ _ bs _ (h.below (by repeat (first | with_reducible exact Below.refl _ _ | with_reducible refine valloc ?_ _ | with_reducible refine vdrew ?_ | with_reducible refine vdrewN ?_ _ | with_reducible refine via (by assumption) ?_ | refine vset ?_ (by first | exact Nat.le_refl _ | (simp; done) | (simp; omega) | omega) _))) hlen).mono ?_; rintro e w1 ⟨rfl, hbw1⟩
    go_wp2
    go_ret
    refine ⟨ret_bool HR.out.symm, ?_⟩
    repeat (first | with_reducible exact Below.refl _ _ | with_reducible refine valloc ?_ _ | with_reducible refine vdrew ?_ | with_reducible refine vdrewN ?_ _ | with_reducible refine via (by assumption) ?_ | refine vset ?_ (by first | exact Nat.le_refl _ | (simp; done) | (simp; omega) | omega) _)
  cases hq : planOk m cs
  · have HR := Lib.hid (show impliesOk n m bs cs = false by simp [impliesOk, hq])
    go_enter Try.func41, Try.ntmps41
    go_wp2_with fail
    refine (planOk_any _ _ _ bs _ (h.below (by repeat (first | with_reducible exact Below.refl _ _ | with_reducible refine valloc ?_ _ | with_reducible refine vdrew ?_ | with_reducible refine vdrewN ?_ _ | with_reducible refine via (by assumption) ?_ | refine vset ?_ (by first | exact Nat.le_refl _ | (simp; done) | (simp; omega) | omega) _))) hlen).mono ?_; rintro e w1 ⟨rfl, hbw1⟩; obtain ⟨hcw1, hfw1⟩ := bcell hbw1; have hzw1 := hbw1.size; (try simp only [sz] at hzw1); (try simp only [szc] at hzw1); have hzw1_0 : w.heap.size < w1.heap.size := (by omega); have hzw1_1 : w.heap.size + 1 < w1.heap.size := (by omega)
    go_wp2_with fail
    refine (planOk_any _ _ _ cs _ (h'.below (by repeat (first | with_reducible exact Below.refl _ _ | with_reducible refine valloc ?_ _ | with_reducible refine vdrew ?_ | with_reducible refine vdrewN ?_ _ | with_reducible refine via (by assumption) ?_ | refine vset ?_ (by first | exact Nat.le_refl _ | (simp; done) | (simp; omega) | omega) _))) hlen').mono ?_; rintro e w2 ⟨rfl, hbw2⟩
    go_wp2
    go_ret
    refine ⟨ret_bool HR.out.symm, ?_⟩
    repeat (first | with_reducible exact Below.refl _ _ | with_reducible refine valloc ?_ _ | with_reducible refine vdrew ?_ | with_reducible refine vdrewN ?_ _ | with_reducible refine via (by assumption) ?_ | refine vset ?_ (by first | exact Nat.le_refl _ | (simp; done) | (simp; omega) | omega) _)
  by_cases hnm : n = m
  · subst hnm
    cases hfit : fitsOk n bs
    · have HR := Lib.hid (show impliesOk n n bs cs = true by simp [impliesOk, hp, hq, hfit])
      go_enter Try.func41, Try.ntmps41
      go_wp2_with fail
      refine (planOk_any _ _ _ bs _ (h.below (by repeat (first | with_reducible exact Below.refl _ _ | with_reducible refine valloc ?_ _ | with_reducible refine vdrew ?_ | with_reducible refine vdrewN ?_ _ | with_reducible refine via (by assumption) ?_ | refine vset ?_ (by first | exact Nat.le_refl _ | (simp; done) | (simp; omega) | omega) _))) hlen).mono ?_; rintro e w1 ⟨rfl, hbw1⟩; obtain ⟨hcw1, hfw1⟩ := bcell hbw1; have hzw1 := hbw1.size; (try simp only [sz] at hzw1); (try simp only [szc] at hzw1); have hzw1_0 : w.heap.size < w1.heap.size := (by omega); have hzw1_1 : w.heap.size + 1 < w1.heap.size := (by omega)
      go_wp2_with fail
      refine (planOk_any _ _ _ cs _ (h'.below (by repeat (first | with_reducible exact Below.refl _ _ | with_reducible refine valloc ?_ _ | with_reducible refine vdrew ?_ | with_reducible refine vdrewN ?_ _ | with_reducible refine via (by assumption) ?_ | refine vset ?_ (by first | exact Nat.le_refl _ | (simp; done) | (simp; omega) | omega) _))) hlen').mono ?_; rintro e w2 ⟨rfl, hbw2⟩; obtain ⟨hcw2, hfw2⟩ := bcell hbw2; have hzw2 := hbw2.size; (try simp only [sz] at hzw2); (try simp only [szc] at hzw2); have hzw2_0 : w.heap.size < w2.heap.size := (by omega); have hzw2_1 : w.heap.size + 1 < w2.heap.size := (by omega)
      go_wp2_with fail
      refine (closed_no _ _ _ bs _ (h.below (by repeat (first | with_reducible exact Below.refl _ _ | with_reducible refine valloc ?_ _ | with_reducible refine vdrew ?_ | with_reducible refine vdrewN ?_ _ | with_reducible refine via (by assumption) ?_ | refine vset ?_ (by first | exact Nat.le_refl _ | (simp; done) | (simp; omega) | omega) _))) hlen hfit).mono ?_; rintro e w3 ⟨rfl, hbw3⟩
      go_wp2
      go_ret
      refine ⟨ret_bool HR.out.symm, ?_⟩
      repeat (first | with_reducible exact Below.refl _ _ | with_reducible refine valloc ?_ _ | with_reducible refine vdrew ?_ | with_reducible refine vdrewN ?_ _ | with_reducible refine via (by assumption) ?_ | refine vset ?_ (by first | exact Nat.le_refl _ | (simp; done) | (simp; omega) | omega) _)
    · obtain ⟨h1, h6, _, _⟩ := planOk_of hp
      obtain ⟨N, rfl⟩ := Int.eq_ofNat_of_zero_le (show 0 ≤ n by omega)
      have HL := Lib.hid (show impliesOk N N bs cs = leT N (closedT N bs) (ent cs) by simp [impliesOk, hp, hq, hfit])
      have HE := Lib.hid (both_plan hq).1
      have HIN := Lib.hid (show ∀ x ∈ cs, 0 ≤ x.f ∧ x.f < N ∧ 0 ≤ x.t ∧ x.t < N from fun x hx => by have := (planOk_of hq).2.2.2 x hx; omega)
      go_enter Try.func41, Try.ntmps41
      go_wp2_with fail
      refine (planOk_any _ _ _ bs _ (h.below (by repeat (first | with_reducible exact Below.refl _ _ | with_reducible refine valloc ?_ _ | with_reducible refine vdrew ?_ | with_reducible refine vdrewN ?_ _ | with_reducible refine via (by assumption) ?_ | refine vset ?_ (by first | exact Nat.le_refl _ | (simp; done) | (simp; omega) | omega) _))) hlen).mono ?_; rintro e w1 ⟨rfl, hbw1⟩; obtain ⟨hcw1, hfw1⟩ := bcell hbw1; have hzw1 := hbw1.size; (try simp only [sz] at hzw1); (try simp only [szc] at hzw1); have hzw1_0 : w.heap.size < w1.heap.size := (by omega); have hzw1_1 : w.heap.size + 1 < w1.heap.size := (by omega)
      go_wp2_with fail
      refine (planOk_any _ _ _ cs _ (h'.below (by repeat (first | with_reducible exact Below.refl _ _ | with_reducible refine valloc ?_ _ | with_reducible refine vdrew ?_ | with_reducible refine vdrewN ?_ _ | with_reducible refine via (by assumption) ?_ | refine vset ?_ (by first | exact Nat.le_refl _ | (simp; done) | (simp; omega) | omega) _))) hlen').mono ?_; rintro e w2 ⟨rfl, hbw2⟩; obtain ⟨hcw2, hfw2⟩ := bcell hbw2; have hzw2 := hbw2.size; (try simp only [sz] at hzw2); (try simp only [szc] at hzw2); have hzw2_0 : w.heap.size < w2.heap.size := (by omega); have hzw2_1 : w.heap.size + 1 < w2.heap.size := (by omega)
      go_wp2_with fail
      refine (closed_yes _ _ _ bs _ (h.below (by repeat (first | with_reducible exact Below.refl _ _ | with_reducible refine valloc ?_ _ | with_reducible refine vdrew ?_ | with_reducible refine vdrewN ?_ _ | with_reducible refine via (by assumption) ?_ | refine vset ?_ (by first | exact Nat.le_refl _ | (simp; done) | (simp; omega) | omega) _))) hlen hfit).mono ?_; rintro e w3 ⟨g, N', R, hN', hN1, hN6, rfl, hG, hbw3⟩; obtain ⟨hcw3, hfw3⟩ := bcell hbw3; have hzw3 := hbw3.size; (try simp only [sz] at hzw3); (try simp only [szc] at hzw3); have hzw3_0 : w.heap.size < w3.heap.size := (by omega); have hzw3_1 : w.heap.size + 1 < w3.heap.size := (by omega)
      obtain rfl : N = N' := by omega
      have HM := Lib.hid hG.mat
      clear hG
      go_wp2_with fail
      refine (start_any N _ _ cs _ (h'.below (by repeat (first | with_reducible exact Below.refl _ _ | with_reducible refine valloc ?_ _ | with_reducible refine vdrew ?_ | with_reducible refine vdrewN ?_ _ | with_reducible refine via (by assumption) ?_ | refine vset ?_ (by first | exact Nat.le_refl _ | (simp; done) | (simp; omega) | omega) _))) (by omega) hlen' HIN.out).mono ?_; rintro e w4 ⟨g2, R2, rfl, hG2, hbw4⟩
      have HM2 := Lib.hid hG2.mat
      clear hG2
      have HM1 := Lib.hid (HM.out.below hbw4)
      have BB : Below w.heap.size w w4 := (by repeat (first | with_reducible exact Below.refl _ _ | with_reducible refine valloc ?_ _ | with_reducible refine vdrew ?_ | with_reducible refine vdrewN ?_ _ | with_reducible refine via (by assumption) ?_ | refine vset ?_ (by first | exact Nat.le_refl _ | (simp; done) | (simp; omega) | omega) _))
      clear HM
      rw [HE.out] at HM2
      generalize closedT N bs = S at *
      generalize ent cs = T at *
      go_wp2
      go_loopw [39] (fun i W => ∃ ii : Nat, ii ≤ N ∧ i = .int .i64 ii ∧ (∀ a, a < ii → ∀ b, b < N → S a b ≤ T a b) ∧ Below w4.heap.size w4 W) (fun i _ => N - (intOf i).toNat)
      case atStart => exact ⟨0, Nat.zero_le _, rfl, fun a ha => absurd ha (Nat.not_lt_zero _), Below.refl _ _⟩
      case round =>
        obtain ⟨i, hi, rfl, hok, hb⟩ := hrel
        have HOK := Lib.hid hok
        clear hok
        by_cases hlt : i < N
        · obtain ⟨w5, hw5⟩ : ∃ w5 : World, w5 = wr := ⟨_, rfl⟩
          subst hw5
          obtain ⟨g', off', b1, o1, cc1, e', hg1, r1, hbl1, q1⟩ := (HM1.out.below hb).at_ hlt
          cases e'
          obtain ⟨g2', off2', b2, o2, cc2, e', hg2, r2, hbl2, q2⟩ := (HM2.out.below hb).at_ hlt
          cases e'
          have Q1 := Lib.hid q1
          have Q2 := Lib.hid q2
          clear q1 q2
          rw [Nat.zero_add] at r1 r2
          go_wp2
          go_loopw [46] (fun j W => ∃ jj : Nat, jj ≤ N ∧ j = .int .i64 jj ∧ (∀ b, b < jj → S i b ≤ T i b) ∧ Below w5.heap.size w5 W) (fun j _ => N - (intOf j).toNat)
          case atStart => exact ⟨0, Nat.zero_le _, rfl, fun a ha => absurd ha (Nat.not_lt_zero _), Below.refl _ _⟩
          case round =>
            obtain ⟨j, hj, rfl, hok2, hb2⟩ := hrel
            have HOK2 := Lib.hid hok2
            clear hok2
            by_cases hlt2 : j < N
            · have s1 := cBel hb2 hg1 r1
              have s2 := cBel hb2 hg2 r2
              have p1 := cBel hb2 hbl1 (Q1.out j hlt2)
              have p2 := cBel hb2 hbl2 (Q2.out j hlt2)
              by_cases hbad : T i j < S i j
              · have HR := Lib.hid (show impliesOk N N bs cs = false by rw [HL.out]; exact leT_bad hlt hlt2 hbad)
                go_wp2
                go_ret
                exact ⟨ret_bool HR.out.symm, (BB.trans (hb.mono BB.size)).trans (hb2.mono (BB.trans (hb.mono BB.size)).size)⟩
              · have HG := Lib.hid (show S i j ≤ T i j by omega)
                go_wp2
                go_roundw
                case rel => exact ⟨j + 1, by omega, by go_num, fun b hb' => by
                  by_cases e : b = j
                  · rw [e]; exact HG.out
                  · exact HOK2.out b (by omega), hb2⟩
                case measure => simp [intOf]; omega
            · obtain rfl : N = j := by omega
              go_wp2
              go_roundw
              case rel => exact ⟨i + 1, by omega, by go_num, fun a ha => by
                by_cases e : a = i
                · rw [e]; exact HOK2.out
                · exact HOK.out a (by omega), hb.trans (hb2.mono hb.size)⟩
              case measure => simp [intOf]; omega
        · obtain rfl : N = i := by omega
          have HR := Lib.hid (show impliesOk N N bs cs = true by rw [HL.out]; exact leT_good HOK.out)
          go_wp2
          go_ret
          exact ⟨ret_bool HR.out.symm, BB.trans (hb.mono BB.size)⟩
  · have HR := Lib.hid (show impliesOk n m bs cs = false by simp [impliesOk, hnm])
    go_enter Try.func41, Try.ntmps41
    go_wp2_with fail
    refine (planOk_any _ _ _ bs _ (h.below (by repeat (first | with_reducible exact Below.refl _ _ | with_reducible refine valloc ?_ _ | with_reducible refine vdrew ?_ | with_reducible refine vdrewN ?_ _ | with_reducible refine via (by assumption) ?_ | refine vset ?_ (by first | exact Nat.le_refl _ | (simp; done) | (simp; omega) | omega) _))) hlen).mono ?_; rintro e w1 ⟨rfl, hbw1⟩; obtain ⟨hcw1, hfw1⟩ := bcell hbw1; have hzw1 := hbw1.size; (try simp only [sz] at hzw1); (try simp only [szc] at hzw1); have hzw1_0 : w.heap.size < w1.heap.size := (by omega); have hzw1_1 : w.heap.size + 1 < w1.heap.size := (by omega)
    go_wp2_with fail
    refine (planOk_any _ _ _ cs _ (h'.below (by repeat (first | with_reducible exact Below.refl _ _ | with_reducible refine valloc ?_ _ | with_reducible refine vdrew ?_ | with_reducible refine vdrewN ?_ _ | with_reducible refine via (by assumption) ?_ | refine vset ?_ (by first | exact Nat.le_refl _ | (simp; done) | (simp; omega) | omega) _))) hlen').mono ?_; rintro e w2 ⟨rfl, hbw2⟩; obtain ⟨hcw2, hfw2⟩ := bcell hbw2; have hzw2 := hbw2.size; (try simp only [sz] at hzw2); (try simp only [szc] at hzw2); have hzw2_0 : w.heap.size < w2.heap.size := (by omega); have hzw2_1 : w.heap.size + 1 < w2.heap.size := (by omega)
    have hnm' : (n != m) = true := by simpa using hnm
    go_wp2
    go_ret
    refine ⟨ret_bool HR.out.symm, ?_⟩
    repeat (first | with_reducible exact Below.refl _ _ | with_reducible refine valloc ?_ _ | with_reducible refine vdrew ?_ | with_reducible refine vdrewN ?_ _ | with_reducible refine via (by assumption) ?_ | refine vset ?_ (by first | exact Nat.le_refl _ | (simp; done) | (simp; omega) | omega) _)
set_option maxHeartbeats 4000000 in
theorem specImpliesOk_any (n : Int) (A : Option Addr) (c : Nat) (bs : List Bd) (m : Int) (A' : Option Addr) (c' : Nat) (cs : List Bd) (w : World) (h : BAt w A bs) (h' : BAt w A' cs) (hlen : bs.length ≤ 1099511627776) (hlen' : cs.length ≤ 1099511627776) :
    Calls Try.prog 40 #[.agg #[.int .i64 n, .slice A bs.length c], .agg #[.int .i64 m, .slice A' cs.length c']] w fun e w' => e = .returned (.bool (impliesOk n m bs cs)) ∧ Below w.heap.size w w' := by
  cases hp : planOk n bs
  · have HR := Lib.hid (show impliesOk n m bs cs = false by simp [impliesOk, hp])
    go_enter Try.func40, Try.ntmps40
    go_wp2_with fail
    refine (specPlanOk_any _ _ _ bs _ (h.below (by repeat (first | with_reducible exact Below.refl _ _ | with_reducible refine valloc ?_ _ | with_reducible refine vdrew ?_ | with_reducible refine vdrewN ?_ _ | with_reducible refine via (by assumption) ?_ | refine vset ?_ (by first | exact Nat.le_refl _ | (simp; done) | (simp; omega) | omega) _))) hlen).mono ?_; rintro e w1 ⟨rfl, hbw1⟩
    go_wp2
    go_ret
    refine ⟨ret_bool HR.out.symm, ?_⟩
    repeat (first | with_reducible exact Below.refl _ _ | with_reducible refine valloc ?_ _ | with_reducible refine vdrew ?_ | with_reducible refine vdrewN ?_ _ | with_reducible refine via (by assumption) ?_ | refine vset ?_ (by first | exact Nat.le_refl _ | (simp; done) | (simp; omega) | omega) _)
  cases hq : planOk m cs
  · have HR := Lib.hid (show impliesOk n m bs cs = false by simp [impliesOk, hq])
    go_enter Try.func40, Try.ntmps40
    go_wp2_with fail
    refine (specPlanOk_any _ _ _ bs _ (h.below (by repeat (first | with_reducible exact Below.refl _ _ | with_reducible refine valloc ?_ _ | with_reducible refine vdrew ?_ | with_reducible refine vdrewN ?_ _ | with_reducible refine via (by assumption) ?_ | refine vset ?_ (by first | exact Nat.le_refl _ | (simp; done) | (simp; omega) | omega) _))) hlen).mono ?_; rintro e w1 ⟨rfl, hbw1⟩; obtain ⟨hcw1, hfw1⟩ := bcell hbw1; have hzw1 := hbw1.size; (try simp only [sz] at hzw1); (try simp only [szc] at hzw1); have hzw1_0 : w.heap.size < w1.heap.size := (by omega); have hzw1_1 : w.heap.size + 1 < w1.heap.size := (by omega)
    go_wp2_with fail
    refine (specPlanOk_any _ _ _ cs _ (h'.below (by repeat (first | with_reducible exact Below.refl _ _ | with_reducible refine valloc ?_ _ | with_reducible refine vdrew ?_ | with_reducible refine vdrewN ?_ _ | with_reducible refine via (by assumption) ?_ | refine vset ?_ (by first | exact Nat.le_refl _ | (simp; done) | (simp; omega) | omega) _))) hlen').mono ?_; rintro e w2 ⟨rfl, hbw2⟩
    go_wp2
    go_ret
    refine ⟨ret_bool HR.out.symm, ?_⟩
    repeat (first | with_reducible exact Below.refl _ _ | with_reducible refine valloc ?_ _ | with_reducible refine vdrew ?_ | with_reducible refine vdrewN ?_ _ | with_reducible refine via (by assumption) ?_ | refine vset ?_ (by first | exact Nat.le_refl _ | (simp; done) | (simp; omega) | omega) _)
  by_cases hnm : n = m
  · subst hnm
    cases hfit : fitsOk n bs
    · have HR := Lib.hid (show impliesOk n n bs cs = true by simp [impliesOk, hp, hq, hfit])
      go_enter Try.func40, Try.ntmps40
      go_wp2_with fail
      refine (specPlanOk_any _ _ _ bs _ (h.below (by repeat (first | with_reducible exact Below.refl _ _ | with_reducible refine valloc ?_ _ | with_reducible refine vdrew ?_ | with_reducible refine vdrewN ?_ _ | with_reducible refine via (by assumption) ?_ | refine vset ?_ (by first | exact Nat.le_refl _ | (simp; done) | (simp; omega) | omega) _))) hlen).mono ?_; rintro e w1 ⟨rfl, hbw1⟩; obtain ⟨hcw1, hfw1⟩ := bcell hbw1; have hzw1 := hbw1.size; (try simp only [sz] at hzw1); (try simp only [szc] at hzw1); have hzw1_0 : w.heap.size < w1.heap.size := (by omega); have hzw1_1 : w.heap.size + 1 < w1.heap.size := (by omega)
      go_wp2_with fail
      refine (specPlanOk_any _ _ _ cs _ (h'.below (by repeat (first | with_reducible exact Below.refl _ _ | with_reducible refine valloc ?_ _ | with_reducible refine vdrew ?_ | with_reducible refine vdrewN ?_ _ | with_reducible refine via (by assumption) ?_ | refine vset ?_ (by first | exact Nat.le_refl _ | (simp; done) | (simp; omega) | omega) _))) hlen').mono ?_; rintro e w2 ⟨rfl, hbw2⟩; obtain ⟨hcw2, hfw2⟩ := bcell hbw2; have hzw2 := hbw2.size; (try simp only [sz] at hzw2); (try simp only [szc] at hzw2); have hzw2_0 : w.heap.size < w2.heap.size := (by omega); have hzw2_1 : w.heap.size + 1 < w2.heap.size := (by omega)
      go_wp2_with fail
      refine (specFitsOk_any _ _ _ bs _ (h.below (by repeat (first | with_reducible exact Below.refl _ _ | with_reducible refine valloc ?_ _ | with_reducible refine vdrew ?_ | with_reducible refine vdrewN ?_ _ | with_reducible refine via (by assumption) ?_ | refine vset ?_ (by first | exact Nat.le_refl _ | (simp; done) | (simp; omega) | omega) _))) hlen).mono ?_; rintro e w3 ⟨rfl, hbw3⟩
      go_wp2
      go_ret
      refine ⟨ret_bool HR.out.symm, ?_⟩
      repeat (first | with_reducible exact Below.refl _ _ | with_reducible refine valloc ?_ _ | with_reducible refine vdrew ?_ | with_reducible refine vdrewN ?_ _ | with_reducible refine via (by assumption) ?_ | refine vset ?_ (by first | exact Nat.le_refl _ | (simp; done) | (simp; omega) | omega) _)
    · obtain ⟨h1, h6, _, _⟩ := planOk_of hp
      obtain ⟨N, rfl⟩ := Int.eq_ofNat_of_zero_le (show 0 ≤ n by omega)
      have HL := Lib.hid (show impliesOk N N bs cs = leT N (closeS N (ent bs)) (ent cs) by
        rw [show leT N (closeS N (ent bs)) (ent cs) = leT N (closedT N bs) (ent cs) from leT_eq (closed_eq hfit) (fun _ _ _ _ => rfl)]
        simp [impliesOk, hp, hq, hfit])
      go_enter Try.func40, Try.ntmps40
      go_wp2_with fail
      refine (specPlanOk_any _ _ _ bs _ (h.below (by repeat (first | with_reducible exact Below.refl _ _ | with_reducible refine valloc ?_ _ | with_reducible refine vdrew ?_ | with_reducible refine vdrewN ?_ _ | with_reducible refine via (by assumption) ?_ | refine vset ?_ (by first | exact Nat.le_refl _ | (simp; done) | (simp; omega) | omega) _))) hlen).mono ?_; rintro e w1 ⟨rfl, hbw1⟩
      have j0 : w1.cell? ⟨w.heap.size, 0, none⟩ = some (.int .i64 N) := cB hbw1 (by simp)
      obtain ⟨hcw1, hfw1⟩ := bcell hbw1; have hzw1 := hbw1.size; (try simp only [sz] at hzw1); (try simp only [szc] at hzw1); have hzw1_0 : w.heap.size < w1.heap.size := (by omega); have hzw1_1 : w.heap.size + 1 < w1.heap.size := (by omega)
      go_wp2_with fail
      refine (specPlanOk_any _ _ _ cs _ (h'.below (by repeat (first | with_reducible exact Below.refl _ _ | with_reducible refine valloc ?_ _ | with_reducible refine vdrew ?_ | with_reducible refine vdrewN ?_ _ | with_reducible refine via (by assumption) ?_ | refine vset ?_ (by first | exact Nat.le_refl _ | (simp; done) | (simp; omega) | omega) _))) hlen').mono ?_; rintro e w2 ⟨rfl, hbw2⟩; obtain ⟨hcw2, hfw2⟩ := bcell hbw2; have hzw2 := hbw2.size; (try simp only [sz] at hzw2); (try simp only [szc] at hzw2); have hzw2_0 : w.heap.size < w2.heap.size := (by omega); have hzw2_1 : w.heap.size + 1 < w2.heap.size := (by omega)
      go_wp2_with fail
      refine (specFitsOk_any _ _ _ bs _ (h.below (by repeat (first | with_reducible exact Below.refl _ _ | with_reducible refine valloc ?_ _ | with_reducible refine vdrew ?_ | with_reducible refine vdrewN ?_ _ | with_reducible refine via (by assumption) ?_ | refine vset ?_ (by first | exact Nat.le_refl _ | (simp; done) | (simp; omega) | omega) _))) hlen).mono ?_; rintro e w3 ⟨rfl, hbw3⟩; obtain ⟨hcw3, hfw3⟩ := bcell hbw3; have hzw3 := hbw3.size; (try simp only [sz] at hzw3); (try simp only [szc] at hzw3); have hzw3_0 : w.heap.size < w3.heap.size := (by omega); have hzw3_1 : w.heap.size + 1 < w3.heap.size := (by omega)
      go_wp2_with fail
      refine (l2Closed_any N _ _ bs _ (h.below (by repeat (first | with_reducible exact Below.refl _ _ | with_reducible refine valloc ?_ _ | with_reducible refine vdrew ?_ | with_reducible refine vdrewN ?_ _ | with_reducible refine via (by assumption) ?_ | refine vset ?_ (by first | exact Nat.le_refl _ | (simp; done) | (simp; omega) | omega) _))) (by omega) (by omega) hlen).mono ?_; rintro e w4 ⟨A4, c4, rfl, hm4, hbw4⟩; obtain ⟨hcw4, hfw4⟩ := bcell hbw4; have hzw4 := hbw4.size; (try simp only [sz] at hzw4); (try simp only [szc] at hzw4); have hzw4_0 : w.heap.size < w4.heap.size := (by omega); have hzw4_1 : w.heap.size + 1 < w4.heap.size := (by omega)
      have HM := Lib.hid (hm4.mat (Nat.le_refl _))
      clear hm4
      go_wp2_with fail
      refine (l2Table_any N _ _ cs _ (h'.below (by repeat (first | with_reducible exact Below.refl _ _ | with_reducible refine valloc ?_ _ | with_reducible refine vdrew ?_ | with_reducible refine vdrewN ?_ _ | with_reducible refine via (by assumption) ?_ | refine vset ?_ (by first | exact Nat.le_refl _ | (simp; done) | (simp; omega) | omega) _))) (by omega) (by omega) hlen').mono ?_; rintro e w5 ⟨A5, c5, rfl, hm5, hbw5⟩; obtain ⟨hcw5, hfw5⟩ := bcell hbw5; have hzw5 := hbw5.size; (try simp only [sz] at hzw5); (try simp only [szc] at hzw5); have hzw5_0 : w.heap.size < w5.heap.size := (by omega); have hzw5_1 : w.heap.size + 1 < w5.heap.size := (by omega)
      have HM2 := Lib.hid (hm5.mat (Nat.le_refl _))
      clear hm5
      have HM1 := Lib.hid (HM.out.below hbw5)
      have i0 : w5.cell? ⟨w.heap.size, 0, none⟩ = some (.int .i64 N) := by rw [hcw5 _ _ hzw4_0, hcw4 _ _ hzw3_0, hcw3 _ _ hzw2_0, hcw2 _ _ hzw1_0]; exact j0
      have BB : Below w.heap.size w w5 := (by repeat (first | with_reducible exact Below.refl _ _ | with_reducible refine valloc ?_ _ | with_reducible refine vdrew ?_ | with_reducible refine vdrewN ?_ _ | with_reducible refine via (by assumption) ?_ | refine vset ?_ (by first | exact Nat.le_refl _ | (simp; done) | (simp; omega) | omega) _))
      clear HM
      generalize closeS N (ent bs) = S at *
      generalize ent cs = T at *
      go_wp2
      go_loopw [7] (fun i W => ∃ ii : Nat, ii ≤ N ∧ i = .int .i64 ii ∧ (∀ a, a < ii → ∀ b, b < N → S a b ≤ T a b) ∧ W.cell? ⟨w.heap.size, 0, none⟩ = some (.int .i64 N) ∧ Below w5.heap.size w5 W) (fun i _ => N - (intOf i).toNat)
      case atStart => exact ⟨0, Nat.zero_le _, rfl, fun a ha => absurd ha (Nat.not_lt_zero _), i0, Below.refl _ _⟩
      case round =>
        obtain ⟨i, hi, rfl, hok, e0, hb⟩ := hrel
        have HOK := Lib.hid hok
        clear hok
        have hsz := cell_lt e0
        by_cases hlt : i < N
        · obtain ⟨w6, hw6⟩ : ∃ w6 : World, w6 = wr := ⟨_, rfl⟩
          subst hw6
          obtain ⟨g', off', b1, o1, cc1, rfl, hg1, r1, hbl1, q1⟩ := (HM1.out.below hb).at_ hlt
          obtain ⟨g2, off2', b2, o2, cc2, rfl, hg2, r2, hbl2, q2⟩ := (HM2.out.below hb).at_ hlt
          have Q1 := Lib.hid q1
          have Q2 := Lib.hid q2
          clear q1 q2
          go_wp2
          go_loopw [8] (fun j W => ∃ jj : Nat, jj ≤ N ∧ j = .int .i64 jj ∧ (∀ b, b < jj → S i b ≤ T i b) ∧ Below w6.heap.size w6 W) (fun j _ => N - (intOf j).toNat)
          case atStart => exact ⟨0, Nat.zero_le _, rfl, fun a ha => absurd ha (Nat.not_lt_zero _), Below.refl _ _⟩
          case round =>
            obtain ⟨j, hj, rfl, hok2, hb2⟩ := hrel
            have HOK2 := Lib.hid hok2
            clear hok2
            have s0 := cBel hb2 hsz e0
            by_cases hlt2 : j < N
            · have s1 := cBel hb2 hg1 r1
              have s2 := cBel hb2 hg2 r2
              have p1 := cBel hb2 hbl1 (Q1.out j hlt2)
              have p2 := cBel hb2 hbl2 (Q2.out j hlt2)
              by_cases hbad : T i j < S i j
              · have HR := Lib.hid (show impliesOk N N bs cs = false by rw [HL.out]; exact leT_bad hlt hlt2 hbad)
                go_wp2
                go_quiet (fail)
                go_wp2
                go_ret
                exact ⟨ret_bool HR.out.symm, vdrewN ((BB.trans (hb.mono BB.size)).trans (hb2.mono (BB.trans (hb.mono BB.size)).size)) _⟩
              · have HG := Lib.hid (show S i j ≤ T i j by omega)
                go_wp2
                go_quiet (fail)
                go_wp2
                go_roundw
                case rel => exact ⟨j + 1, by omega, by go_num, fun b hb' => by
                  by_cases e : b = j
                  · rw [e]; exact HG.out
                  · exact HOK2.out b (by omega), vdrewN hb2 _⟩
                case measure => simp [intOf]; omega
            · obtain rfl : N = j := by omega
              go_wp2
              go_roundw
              case rel => exact ⟨i + 1, by omega, by go_num, fun a ha => by
                by_cases e : a = i
                · rw [e]; exact HOK2.out
                · exact HOK.out a (by omega), s0, hb.trans (hb2.mono hb.size)⟩
              case measure => simp [intOf]; omega
        · obtain rfl : N = i := by omega
          have HR := Lib.hid (show impliesOk N N bs cs = true by rw [HL.out]; exact leT_good HOK.out)
          go_wp2
          go_ret
          exact ⟨ret_bool HR.out.symm, BB.trans (hb.mono BB.size)⟩
  · have HR := Lib.hid (show impliesOk n m bs cs = false by simp [impliesOk, hnm])
    go_enter Try.func40, Try.ntmps40
    go_wp2_with fail
    refine (specPlanOk_any _ _ _ bs _ (h.below (by repeat (first | with_reducible exact Below.refl _ _ | with_reducible refine valloc ?_ _ | with_reducible refine vdrew ?_ | with_reducible refine vdrewN ?_ _ | with_reducible refine via (by assumption) ?_ | refine vset ?_ (by first | exact Nat.le_refl _ | (simp; done) | (simp; omega) | omega) _))) hlen).mono ?_; rintro e w1 ⟨rfl, hbw1⟩; obtain ⟨hcw1, hfw1⟩ := bcell hbw1; have hzw1 := hbw1.size; (try simp only [sz] at hzw1); (try simp only [szc] at hzw1); have hzw1_0 : w.heap.size < w1.heap.size := (by omega); have hzw1_1 : w.heap.size + 1 < w1.heap.size := (by omega)
    go_wp2_with fail
    refine (specPlanOk_any _ _ _ cs _ (h'.below (by repeat (first | with_reducible exact Below.refl _ _ | with_reducible refine valloc ?_ _ | with_reducible refine vdrew ?_ | with_reducible refine vdrewN ?_ _ | with_reducible refine via (by assumption) ?_ | refine vset ?_ (by first | exact Nat.le_refl _ | (simp; done) | (simp; omega) | omega) _))) hlen').mono ?_; rintro e w2 ⟨rfl, hbw2⟩; obtain ⟨hcw2, hfw2⟩ := bcell hbw2; have hzw2 := hbw2.size; (try simp only [sz] at hzw2); (try simp only [szc] at hzw2); have hzw2_0 : w.heap.size < w2.heap.size := (by omega); have hzw2_1 : w.heap.size + 1 < w2.heap.size := (by omega)
    have hnm' : (n != m) = true := by simpa using hnm
    go_wp2
    go_ret
    refine ⟨ret_bool HR.out.symm, ?_⟩
    repeat (first | with_reducible exact Below.refl _ _ | with_reducible refine valloc ?_ _ | with_reducible refine vdrew ?_ | with_reducible refine vdrewN ?_ _ | with_reducible refine via (by assumption) ?_ | refine vset ?_ (by first | exact Nat.le_refl _ | (simp; done) | (simp; omega) | omega) _)
set_option maxHeartbeats 4000000 in
theorem alikeOk_any (n : Int) (A : Option Addr) (c : Nat) (bs : List Bd) (m : Int) (A' : Option Addr) (c' : Nat) (cs : List Bd) (w : World) (h : BAt w A bs) (h' : BAt w A' cs) (hlen : bs.length ≤ 1099511627776) (hlen' : cs.length ≤ 1099511627776) :
    Calls Try.prog 43 #[.agg #[.int .i64 n, .slice A bs.length c], .agg #[.int .i64 m, .slice A' cs.length c']] w fun e w' => e = .returned (.bool (impliesOk n m bs cs && impliesOk m n cs bs)) ∧ Below w.heap.size w w' := by
  cases hi : impliesOk n m bs cs
  · go_enter Try.func43, Try.ntmps43
    go_wp2_with fail
    refine (impliesOk_any _ _ _ bs _ _ _ cs _ (h.below (by repeat (first | with_reducible exact Below.refl _ _ | with_reducible refine valloc ?_ _ | with_reducible refine vdrew ?_ | with_reducible refine vdrewN ?_ _ | with_reducible refine via (by assumption) ?_ | refine vset ?_ (by first | exact Nat.le_refl _ | (simp; done) | (simp; omega) | omega) _))) (h'.below (by repeat (first | with_reducible exact Below.refl _ _ | with_reducible refine valloc ?_ _ | with_reducible refine vdrew ?_ | with_reducible refine vdrewN ?_ _ | with_reducible refine via (by assumption) ?_ | refine vset ?_ (by first | exact Nat.le_refl _ | (simp; done) | (simp; omega) | omega) _))) hlen hlen').mono ?_; rintro e w1 ⟨rfl, hbw1⟩
    go_wp2
    go_ret
    refine ⟨rfl, ?_⟩
    repeat (first | with_reducible exact Below.refl _ _ | with_reducible refine valloc ?_ _ | with_reducible refine vdrew ?_ | with_reducible refine vdrewN ?_ _ | with_reducible refine via (by assumption) ?_ | refine vset ?_ (by first | exact Nat.le_refl _ | (simp; done) | (simp; omega) | omega) _)
  · go_enter Try.func43, Try.ntmps43
    go_wp2_with fail
    refine (impliesOk_any _ _ _ bs _ _ _ cs _ (h.below (by repeat (first | with_reducible exact Below.refl _ _ | with_reducible refine valloc ?_ _ | with_reducible refine vdrew ?_ | with_reducible refine vdrewN ?_ _ | with_reducible refine via (by assumption) ?_ | refine vset ?_ (by first | exact Nat.le_refl _ | (simp; done) | (simp; omega) | omega) _))) (h'.below (by repeat (first | with_reducible exact Below.refl _ _ | with_reducible refine valloc ?_ _ | with_reducible refine vdrew ?_ | with_reducible refine vdrewN ?_ _ | with_reducible refine via (by assumption) ?_ | refine vset ?_ (by first | exact Nat.le_refl _ | (simp; done) | (simp; omega) | omega) _))) hlen hlen').mono ?_; rintro e w1 ⟨rfl, hbw1⟩; obtain ⟨hcw1, hfw1⟩ := bcell hbw1; have hzw1 := hbw1.size; (try simp only [sz] at hzw1); (try simp only [szc] at hzw1); have hzw1_0 : w.heap.size < w1.heap.size := (by omega); have hzw1_1 : w.heap.size + 1 < w1.heap.size := (by omega)
    go_wp2_with fail
    refine (impliesOk_any _ _ _ cs _ _ _ bs _ (h'.below (by repeat (first | with_reducible exact Below.refl _ _ | with_reducible refine valloc ?_ _ | with_reducible refine vdrew ?_ | with_reducible refine vdrewN ?_ _ | with_reducible refine via (by assumption) ?_ | refine vset ?_ (by first | exact Nat.le_refl _ | (simp; done) | (simp; omega) | omega) _))) (h.below (by repeat (first | with_reducible exact Below.refl _ _ | with_reducible refine valloc ?_ _ | with_reducible refine vdrew ?_ | with_reducible refine vdrewN ?_ _ | with_reducible refine via (by assumption) ?_ | refine vset ?_ (by first | exact Nat.le_refl _ | (simp; done) | (simp; omega) | omega) _))) hlen' hlen).mono ?_; rintro e w2 ⟨rfl, hbw2⟩
    go_wp2
    go_ret
    refine ⟨rfl, ?_⟩
    repeat (first | with_reducible exact Below.refl _ _ | with_reducible refine valloc ?_ _ | with_reducible refine vdrew ?_ | with_reducible refine vdrewN ?_ _ | with_reducible refine via (by assumption) ?_ | refine vset ?_ (by first | exact Nat.le_refl _ | (simp; done) | (simp; omega) | omega) _)
set_option maxHeartbeats 4000000 in
theorem specAlikeOk_any (n : Int) (A : Option Addr) (c : Nat) (bs : List Bd) (m : Int) (A' : Option Addr) (c' : Nat) (cs : List Bd) (w : World) (h : BAt w A bs) (h' : BAt w A' cs) (hlen : bs.length ≤ 1099511627776) (hlen' : cs.length ≤ 1099511627776) :
    Calls Try.prog 42 #[.agg #[.int .i64 n, .slice A bs.length c], .agg #[.int .i64 m, .slice A' cs.length c']] w fun e w' => e = .returned (.bool (impliesOk n m bs cs && impliesOk m n cs bs)) ∧ Below w.heap.size w w' := by
  cases hi : impliesOk n m bs cs
  · go_enter Try.func42, Try.ntmps42
    go_wp2_with fail
    refine (specImpliesOk_any _ _ _ bs _ _ _ cs _ (h.below (by repeat (first | with_reducible exact Below.refl _ _ | with_reducible refine valloc ?_ _ | with_reducible refine vdrew ?_ | with_reducible refine vdrewN ?_ _ | with_reducible refine via (by assumption) ?_ | refine vset ?_ (by first | exact Nat.le_refl _ | (simp; done) | (simp; omega) | omega) _))) (h'.below (by repeat (first | with_reducible exact Below.refl _ _ | with_reducible refine valloc ?_ _ | with_reducible refine vdrew ?_ | with_reducible refine vdrewN ?_ _ | with_reducible refine via (by assumption) ?_ | refine vset ?_ (by first | exact Nat.le_refl _ | (simp; done) | (simp; omega) | omega) _))) hlen hlen').mono ?_; rintro e w1 ⟨rfl, hbw1⟩
    go_wp2
    go_ret
    refine ⟨rfl, ?_⟩
    repeat (first | with_reducible exact Below.refl _ _ | with_reducible refine valloc ?_ _ | with_reducible refine vdrew ?_ | with_reducible refine vdrewN ?_ _ | with_reducible refine via (by assumption) ?_ | refine vset ?_ (by first | exact Nat.le_refl _ | (simp; done) | (simp; omega) | omega) _)
  · go_enter Try.func42, Try.ntmps42
    go_wp2_with fail
    refine (specImpliesOk_any _ _ _ bs _ _ _ cs _ (h.below (by repeat (first | with_reducible exact Below.refl _ _ | with_reducible refine valloc ?_ _ | with_reducible refine vdrew ?_ | with_reducible refine vdrewN ?_ _ | with_reducible refine via (by assumption) ?_ | refine vset ?_ (by first | exact Nat.le_refl _ | (simp; done) | (simp; omega) | omega) _))) (h'.below (by repeat (first | with_reducible exact Below.refl _ _ | with_reducible refine valloc ?_ _ | with_reducible refine vdrew ?_ | with_reducible refine vdrewN ?_ _ | with_reducible refine via (by assumption) ?_ | refine vset ?_ (by first | exact Nat.le_refl _ | (simp; done) | (simp; omega) | omega) _))) hlen hlen').mono ?_; rintro e w1 ⟨rfl, hbw1⟩; obtain ⟨hcw1, hfw1⟩ := bcell hbw1; have hzw1 := hbw1.size; (try simp only [sz] at hzw1); (try simp only [szc] at hzw1); have hzw1_0 : w.heap.size < w1.heap.size := (by omega); have hzw1_1 : w.heap.size + 1 < w1.heap.size := (by omega)
    go_wp2_with fail
    refine (specImpliesOk_any _ _ _ cs _ _ _ bs _ (h'.below (by repeat (first | with_reducible exact Below.refl _ _ | with_reducible refine valloc ?_ _ | with_reducible refine vdrew ?_ | with_reducible refine vdrewN ?_ _ | with_reducible refine via (by assumption) ?_ | refine vset ?_ (by first | exact Nat.le_refl _ | (simp; done) | (simp; omega) | omega) _))) (h.below (by repeat (first | with_reducible exact Below.refl _ _ | with_reducible refine valloc ?_ _ | with_reducible refine vdrew ?_ | with_reducible refine vdrewN ?_ _ | with_reducible refine via (by assumption) ?_ | refine vset ?_ (by first | exact Nat.le_refl _ | (simp; done) | (simp; omega) | omega) _))) hlen' hlen).mono ?_; rintro e w2 ⟨rfl, hbw2⟩
    go_wp2
    go_ret
    refine ⟨rfl, ?_⟩
    repeat (first | with_reducible exact Below.refl _ _ | with_reducible refine valloc ?_ _ | with_reducible refine vdrew ?_ | with_reducible refine vdrewN ?_ _ | with_reducible refine via (by assumption) ?_ | refine vset ?_ (by first | exact Nat.le_refl _ | (simp; done) | (simp; omega) | omega) _)
end Go.Proofs.Ytaifpindiphlkaa
