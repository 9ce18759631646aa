/- Contracts of impl.TableOf and spec.TableOf; for slices of at most 2^40 bounds. -/
import Derived.Test.YtnhadopllbcciaaPlainEq
import Derived.Test.YtnhadopllbcciaaStart
namespace Go.Proofs.Ytnhadopllbcciaa
open Go.RowKit
set_option linter.unusedVariables false
set_option maxRecDepth 10000
set_option linter.unusedSimpArgs false

/-- How many rows the table of a plan has. -/
def tabN (n : Int) (bs : List Bd) : Nat := if planOk n bs = true then n.toNat else 0
/-- A table of the program's own: none, or a Grid. -/
def GridRes (N : Nat) (T : Tab) (w : World) (lo hi : Nat) (A : Option Addr) : Prop := (A = none ∧ N = 0) ∨ ∃ g R C, A = some ⟨g, 0, none⟩ ∧ Grid w lo hi g N R C T
def TabRes (N : Nat) (T : Tab) (w : World) (e : Ending) (w' : World) : Prop := ∃ A c, e = .returned (.slice A N c) ∧ GridRes N T w' w.heap.size w'.heap.size A ∧ Below w.heap.size w w'
theorem tableOf_any (n : Int) (A : Option Addr) (c : Nat) (bs : List Bd) (w : World) (h : BAt w A bs) (hlen : bs.length ≤ 1099511627776) :
    Calls Try.prog 23 #[.agg #[.int .i64 n, .slice A bs.length c]] w (TabRes (tabN n bs) (ent bs) w) := by
  cases hp : planOk n bs
  · have HN := Lib.hid (show tabN n bs = 0 by simp [tabN, hp])
    go_enter Try.func23, Try.ntmps23
    go_wp2_with fail
    refine (planOk_any _ _ _ bs _ (h.below (by repeat (first | with_reducible exact Below.refl _ _ | with_reducible refine valloc ?_ _ | with_reducible refine vdrew ?_ | with_reducible refine vdrewN ?_ _ | with_reducible refine via (by assumption) ?_ | refine vset ?_ (by first | exact Nat.le_refl _ | (simp; done) | (simp; omega) | omega) _))) hlen).mono ?_; rintro e w1 ⟨rfl, hbw1⟩
    go_wp2
    go_ret
    rw [HN.out]
    refine ⟨none, 0, rfl, Or.inl ⟨rfl, rfl⟩, ?_⟩
    repeat (first | with_reducible exact Below.refl _ _ | with_reducible refine valloc ?_ _ | with_reducible refine vdrew ?_ | with_reducible refine vdrewN ?_ _ | with_reducible refine via (by assumption) ?_ | refine vset ?_ (by first | exact Nat.le_refl _ | (simp; done) | (simp; omega) | omega) _)
  · obtain ⟨h1, h6, _, hin⟩ := planOk_of hp
    obtain ⟨N, rfl⟩ := Int.eq_ofNat_of_zero_le (show 0 ≤ n by omega)
    have HN := Lib.hid (show tabN N bs = N by simp [tabN, hp])
    have HE := Lib.hid (both_plan hp).1
    have HIN := Lib.hid (show ∀ x ∈ bs, 0 ≤ x.f ∧ x.f < N ∧ 0 ≤ x.t ∧ x.t < N from fun x hx => by have := hin x hx; omega)
    clear hin
    go_enter Try.func23, Try.ntmps23
    go_wp2_with fail
    refine (planOk_any _ _ _ bs _ (h.below (by repeat (first | with_reducible exact Below.refl _ _ | with_reducible refine valloc ?_ _ | with_reducible refine vdrew ?_ | with_reducible refine vdrewN ?_ _ | with_reducible refine via (by assumption) ?_ | refine vset ?_ (by first | exact Nat.le_refl _ | (simp; done) | (simp; omega) | omega) _))) hlen).mono ?_; rintro e w1 ⟨rfl, hbw1⟩; obtain ⟨hcw1, hfw1⟩ := bcell hbw1; have hzw1 := hbw1.size; (try simp only [sz] at hzw1); (try simp only [szc] at hzw1); have hzw1_0 : w.heap.size < w1.heap.size := (by omega)
    go_wp2_with fail
    refine (start_any N _ _ bs _ (h.below (by repeat (first | with_reducible exact Below.refl _ _ | with_reducible refine valloc ?_ _ | with_reducible refine vdrew ?_ | with_reducible refine vdrewN ?_ _ | with_reducible refine via (by assumption) ?_ | refine vset ?_ (by first | exact Nat.le_refl _ | (simp; done) | (simp; omega) | omega) _))) (by omega) hlen HIN.out).mono ?_; rintro e w2 ⟨g, R, rfl, hG, hbw2⟩
    have HG := Lib.hid hG
    clear hG
    go_wp2
    go_ret
    rw [HN.out]
    refine ⟨some ⟨g, 0, none⟩, N, rfl, Or.inr ⟨g, R, fun _ => N, rfl, ?_⟩, ?_⟩
    · rw [← HE.out]; exact HG.out.wide (by omega) (Nat.le_refl _)
    repeat (first | with_reducible exact Below.refl _ _ | with_reducible refine valloc ?_ _ | with_reducible refine vdrew ?_ | with_reducible refine vdrewN ?_ _ | with_reducible refine via (by assumption) ?_ | refine vset ?_ (by first | exact Nat.le_refl _ | (simp; done) | (simp; omega) | omega) _)
def LocRes (N : Nat) (T : Tab) (w : World) (e : Ending) (w' : World) : Prop := ∃ A c, e = .returned (.slice A N c) ∧ MLoc w' w.heap.size w'.heap.size A N N T ∧ Below w.heap.size w w'
theorem specTableOf_any (n : Int) (A : Option Addr) (c : Nat) (bs : List Bd) (w : World) (h : BAt w A bs) (hlen : bs.length ≤ 1099511627776) :
    Calls Try.prog 21 #[.agg #[.int .i64 n, .slice A bs.length c]] w (LocRes (tabN n bs) (ent bs) w) := by
  cases hp : planOk n bs
  · have HN := Lib.hid (show tabN n bs = 0 by simp [tabN, hp])
    go_enter Try.func21, Try.ntmps21
    go_wp2_with fail
    refine (specPlanOk_any _ _ _ bs _ (h.below (by repeat (first | with_reducible exact Below.refl _ _ | with_reducible refine valloc ?_ _ | with_reducible refine vdrew ?_ | with_reducible refine vdrewN ?_ _ | with_reducible refine via (by assumption) ?_ | refine vset ?_ (by first | exact Nat.le_refl _ | (simp; done) | (simp; omega) | omega) _))) hlen).mono ?_; rintro e w1 ⟨rfl, hbw1⟩
    go_wp2
    go_ret
    rw [HN.out]
    refine ⟨_, _, rfl, fun h0 => absurd h0 (by omega), ?_⟩
    repeat (first | with_reducible exact Below.refl _ _ | with_reducible refine valloc ?_ _ | with_reducible refine vdrew ?_ | with_reducible refine vdrewN ?_ _ | with_reducible refine via (by assumption) ?_ | refine vset ?_ (by first | exact Nat.le_refl _ | (simp; done) | (simp; omega) | omega) _)
  · obtain ⟨h1, h6, _, hin⟩ := planOk_of hp
    obtain ⟨N, rfl⟩ := Int.eq_ofNat_of_zero_le (show 0 ≤ n by omega)
    have HN := Lib.hid (show tabN N bs = N by simp [tabN, hp])
    clear hin
    go_enter Try.func21, Try.ntmps21
    go_wp2_with fail
    refine (specPlanOk_any _ _ _ bs _ (h.below (by repeat (first | with_reducible exact Below.refl _ _ | with_reducible refine valloc ?_ _ | with_reducible refine vdrew ?_ | with_reducible refine vdrewN ?_ _ | with_reducible refine via (by assumption) ?_ | refine vset ?_ (by first | exact Nat.le_refl _ | (simp; done) | (simp; omega) | omega) _))) hlen).mono ?_; rintro e w1 ⟨rfl, hbw1⟩; obtain ⟨hcw1, hfw1⟩ := bcell hbw1; have hzw1 := hbw1.size; (try simp only [sz] at hzw1); (try simp only [szc] at hzw1); have hzw1_0 : w.heap.size < w1.heap.size := (by omega)
    go_wp2_with fail
    refine (l2Table_any N _ _ bs _ (h.below (by repeat (first | with_reducible exact Below.refl _ _ | with_reducible refine valloc ?_ _ | with_reducible refine vdrew ?_ | with_reducible refine vdrewN ?_ _ | with_reducible refine via (by assumption) ?_ | refine vset ?_ (by first | exact Nat.le_refl _ | (simp; done) | (simp; omega) | omega) _))) (by omega) (by omega) hlen).mono ?_; rintro e w2 ⟨A2, c2, rfl, hm, hbw2⟩
    have HM := Lib.hid hm
    clear hm
    go_wp2
    go_ret
    rw [HN.out]
    refine ⟨A2, c2, rfl, HM.out.wide (by omega) (Nat.le_refl _), ?_⟩
    repeat (first | with_reducible exact Below.refl _ _ | with_reducible refine valloc ?_ _ | with_reducible refine vdrew ?_ | with_reducible refine vdrewN ?_ _ | with_reducible refine via (by assumption) ?_ | refine vset ?_ (by first | exact Nat.le_refl _ | (simp; done) | (simp; omega) | omega) _)
end Go.Proofs.Ytnhadopllbcciaa
