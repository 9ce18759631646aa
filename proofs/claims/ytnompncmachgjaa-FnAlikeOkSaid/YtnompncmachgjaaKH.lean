/- Contracts of laws.eqIntSS: two readings of the same table are found the same. Contracts of laws.markIntSS and laws.heldIntSS. Contracts of impl.TableOf and spec.TableOf; for slices of at most 2^40 bounds. Tables of the program's own, none or a Grid: how they stand, how they are marked. Contracts of impl.ClosedOf and spec.ClosedOf; for slices of at most 2^40 bounds. -/
import Derived.Test.YtnompncmachgjaaKE
import Derived.Test.YtnompncmachgjaaKB
import Derived.Deep.RegionHeld3
import Derived.Test.YtnompncmachgjaaKD
namespace Go.Proofs.Ytnompncmachgjaa
open Go.RowKit
set_option linter.unusedVariables false
set_option maxRecDepth 10000
set_option linter.unusedSimpArgs false

theorem rowIAt {w : World} {b o N i : Nat} {T : Tab} (hb : b < w.heap.size) (h : ∀ j, j < N → w.cell? ⟨b, o + j, none⟩ = some (.int .i64 (T i j))) : IAt w (some ⟨b, o, none⟩) (rowTo T i N) := by
  intro _
  refine ⟨b, o, rfl, hb, fun j x hx => ?_⟩
  have hj : j < N := by
    have := (List.getElem?_eq_some_iff.1 hx).1
    rwa [rowTo_length] at this
  rw [rowTo_at T i N j hj] at hx
  cases hx
  exact h j hj
end Go.Proofs.Ytnompncmachgjaa
namespace Go.Proofs.Ytnompncmachgjaa
open Go.RowKit
set_option linter.unusedVariables false
set_option maxRecDepth 10000
set_option linter.unusedSimpArgs false

/-- The marks of a table of rows of N numbers: k, k + 1, and so on. -/
def markT (k : Int) (N : Nat) : Tab := fun i j => k + ((i * N : Nat) : Int) + (j : Int)
theorem rowMark (k : Int) (N i : Nat) : rowTo (markT k N) i N = marks (k + ((i * N : Nat) : Int)) N := rfl
/-- One row's numbers are others; all else stands. -/
theorem Grid.newRow {w w1 : World} {lo hi g N i : Nat} {R C : Nat → Nat} {T : Tab} {ys : List Int} (h : Grid w lo hi g N R C T) (hi' : i < N) (ho : Only (R i) (R i + 1) w w1) (hr : RI w1 (R i) (R i + 1) (some ⟨R i, 0, none⟩) ys) (hl : ys.length = N) {T' : Tab}
    (h1 : ∀ j y, ys[j]? = some y → T' i j = y) (h2 : ∀ a b, a ≠ i → T' a b = T a b) : Grid w1 lo hi g N R C T' := by
  refine ⟨?_, h.glo, h.ghi, ?_, h.rlo, h.rhi, h.rne, h.inj, h.cap⟩
  · obtain ⟨cs, hB, hc⟩ := h.outer
    have hg := h.rne i hi'
    exact ⟨cs, (ho.block g hB.lt (by omega)).trans hB, hc⟩
  · intro a ha
    by_cases e : a = i
    · subst e
      rcases hr with ⟨h0, _⟩ | ⟨g', cs, e', _, _, hB, hF⟩
      · cases h0
      · cases e'
        refine ⟨cs, hB, fun j hj => ?_⟩
        have hy : ys[j]? = some ys[j] := List.getElem?_eq_getElem (by omega)
        rw [hF.2 j ys[j] (by omega) hy, h1 j _ hy]
    · obtain ⟨rs, hB, hc⟩ := h.rows a ha
      have hne : R a ≠ R i := fun e2 => e (h.inj a i ha hi' e2)
      exact ⟨rs, (ho.block (R a) hB.lt (by omega)).trans hB, fun j hj => by rw [hc j hj, h2 a j e]⟩
theorem Grid.rowRI {w : World} {lo hi g N i : Nat} {R C : Nat → Nat} {T : Tab} (h : Grid w lo hi g N R C T) (hi' : i < N) : RI w (R i) (R i + 1) (some ⟨R i, 0, none⟩) (rowTo T i N) := by
  obtain ⟨rs, hB, hc⟩ := h.rows i hi'
  refine Or.inr ⟨R i, rs, rfl, Nat.le_refl _, Nat.lt_succ_self _, hB, ?_, fun j x hj hx => ?_⟩
  · rw [rowTo_length]
    have := (Array.getElem?_eq_some_iff.1 (hc (N - 1) (by omega))).1
    omega
  · rw [rowTo_length] at hj
    rw [rowTo_at T i N j hj] at hx
    cases hx
    exact hc j hj
end Go.Proofs.Ytnompncmachgjaa
namespace Go.Proofs.Ytnompncmachgjaa
open Go.RowKit
set_option linter.unusedVariables false
set_option maxRecDepth 10000
set_option linter.unusedSimpArgs false

/-- How many rows the table of a plan has. -/
def tabN (n : Int) (bs : List Bd) : Nat := if planOk n bs = true then n.toNat else 0
/-- A table of the program's own: none, or a Grid. -/
def GridRes (N : Nat) (T : Tab) (w : World) (lo hi : Nat) (A : Option Addr) : Prop := (A = none ∧ N = 0) ∨ ∃ g R C, A = some ⟨g, 0, none⟩ ∧ Grid w lo hi g N R C T
def TabRes (N : Nat) (T : Tab) (w : World) (e : Ending) (w' : World) : Prop := ∃ A c, e = .returned (.slice A N c) ∧ GridRes N T w' w.heap.size w'.heap.size A ∧ Below w.heap.size w w'
theorem tableOf_any (n : Int) (A : Option Addr) (c : Nat) (bs : List Bd) (w : World) (h : BAt w A bs) (hlen : bs.length ≤ 1099511627776) :
    Calls Try.prog 37 #[.agg #[.int .i64 n, .slice A bs.length c]] w (TabRes (tabN n bs) (ent bs) w) := by
  cases hp : planOk n bs
  · have HN := Lib.hid (show tabN n bs = 0 by simp [tabN, hp])
    go_enter Try.func37, Try.ntmps37
    go_wp2_with fail
    refine (planOk_any _ _ _ bs _ (h.below (by repeat (first | with_reducible exact Below.refl _ _ | with_reducible refine valloc ?_ _ | with_reducible refine vdrew ?_ | with_reducible refine vdrewN ?_ _ | with_reducible refine via (by assumption) ?_ | refine vset ?_ (by first | exact Nat.le_refl _ | (simp; done) | (simp; omega) | omega) _))) hlen).mono ?_; rintro e w1 ⟨rfl, hbw1⟩
    go_wp2
    go_ret
    rw [HN.out]
    refine ⟨none, 0, rfl, Or.inl ⟨rfl, rfl⟩, ?_⟩
    repeat (first | with_reducible exact Below.refl _ _ | with_reducible refine valloc ?_ _ | with_reducible refine vdrew ?_ | with_reducible refine vdrewN ?_ _ | with_reducible refine via (by assumption) ?_ | refine vset ?_ (by first | exact Nat.le_refl _ | (simp; done) | (simp; omega) | omega) _)
  · obtain ⟨h1, h6, _, hin⟩ := planOk_of hp
    obtain ⟨N, rfl⟩ := Int.eq_ofNat_of_zero_le (show 0 ≤ n by omega)
    have HN := Lib.hid (show tabN N bs = N by simp [tabN, hp])
    have HE := Lib.hid (both_plan hp).1
    have HIN := Lib.hid (show ∀ x ∈ bs, 0 ≤ x.f ∧ x.f < N ∧ 0 ≤ x.t ∧ x.t < N from fun x hx => by have := hin x hx; omega)
    clear hin
    go_enter Try.func37, Try.ntmps37
    go_wp2_with fail
    refine (planOk_any _ _ _ bs _ (h.below (by repeat (first | with_reducible exact Below.refl _ _ | with_reducible refine valloc ?_ _ | with_reducible refine vdrew ?_ | with_reducible refine vdrewN ?_ _ | with_reducible refine via (by assumption) ?_ | refine vset ?_ (by first | exact Nat.le_refl _ | (simp; done) | (simp; omega) | omega) _))) hlen).mono ?_; rintro e w1 ⟨rfl, hbw1⟩; obtain ⟨hcw1, hfw1⟩ := bcell hbw1; have hzw1 := hbw1.size; (try simp only [sz] at hzw1); (try simp only [szc] at hzw1); have hzw1_0 : w.heap.size < w1.heap.size := (by omega)
    go_wp2_with fail
    refine (start_any N _ _ bs _ (h.below (by repeat (first | with_reducible exact Below.refl _ _ | with_reducible refine valloc ?_ _ | with_reducible refine vdrew ?_ | with_reducible refine vdrewN ?_ _ | with_reducible refine via (by assumption) ?_ | refine vset ?_ (by first | exact Nat.le_refl _ | (simp; done) | (simp; omega) | omega) _))) (by omega) hlen HIN.out).mono ?_; rintro e w2 ⟨g, R, rfl, hG, hbw2⟩
    have HG := Lib.hid hG
    clear hG
    go_wp2
    go_ret
    rw [HN.out]
    refine ⟨some ⟨g, 0, none⟩, N, rfl, Or.inr ⟨g, R, fun _ => N, rfl, ?_⟩, ?_⟩
    · rw [← HE.out]; exact HG.out.wide (by omega) (Nat.le_refl _)
    repeat (first | with_reducible exact Below.refl _ _ | with_reducible refine valloc ?_ _ | with_reducible refine vdrew ?_ | with_reducible refine vdrewN ?_ _ | with_reducible refine via (by assumption) ?_ | refine vset ?_ (by first | exact Nat.le_refl _ | (simp; done) | (simp; omega) | omega) _)
def LocRes (N : Nat) (T : Tab) (w : World) (e : Ending) (w' : World) : Prop := ∃ A c, e = .returned (.slice A N c) ∧ MLoc w' w.heap.size w'.heap.size A N N T ∧ Below w.heap.size w w'
end Go.Proofs.Ytnompncmachgjaa
namespace Go.Proofs.Ytnompncmachgjaa
open Go.RowKit
set_option linter.unusedVariables false
set_option maxRecDepth 10000
set_option linter.unusedSimpArgs false

theorem tabN_le (n : Int) (bs : List Bd) : tabN n bs ≤ 6 := by
  unfold tabN
  split
  · rename_i h
    have := planOk_of h
    omega
  · omega
theorem GridRes.same {N : Nat} {T : Tab} {w w1 : World} {lo hi : Nat} {A : Option Addr} (h : GridRes N T w lo hi A) (hs : Same lo hi w w1) (hh : hi ≤ w.heap.size) : GridRes N T w1 lo hi A := by
  rcases h with h | ⟨g, R, C, e, hG⟩
  · exact Or.inl h
  · exact Or.inr ⟨g, R, C, e, hG.same hs hh⟩
theorem GridRes.wide {N : Nat} {T : Tab} {w : World} {lo hi lo' hi' : Nat} {A : Option Addr} (h : GridRes N T w lo hi A) (hl : lo' ≤ lo) (hh : hi ≤ hi') : GridRes N T w lo' hi' A := by
  rcases h with h | ⟨g, R, C, e, hG⟩
  · exact Or.inl h
  · exact Or.inr ⟨g, R, C, e, hG.wide hl hh⟩
theorem GridRes.mat {N : Nat} {T : Tab} {w : World} {lo hi : Nat} {A : Option Addr} (h : GridRes N T w lo hi A) (hh : hi ≤ w.heap.size) : MAt w A N N T := by
  rcases h with ⟨_, h⟩ | ⟨g, R, C, rfl, hG⟩
  · intro h0; omega
  · exact hG.mat
end Go.Proofs.Ytnompncmachgjaa
namespace Go.Proofs.Ytnompncmachgjaa
open Go.RowKit
set_option linter.unusedVariables false
set_option maxRecDepth 10000
set_option linter.unusedSimpArgs false

/-- How many rows the closed table of a plan has. -/
def fitN (n : Int) (bs : List Bd) : Nat := if fitsOk n bs = true then n.toNat else 0
theorem fitN_le (n : Int) (bs : List Bd) : fitN n bs ≤ 6 := by
  unfold fitN
  split
  · rename_i h
    simp only [fitsOk, Bool.and_eq_true] at h
    have := planOk_of h.1
    omega
  · omega
def TabBoolRes (N : Nat) (T : Tab) (b : Bool) (w : World) (e : Ending) (w' : World) : Prop := ∃ A c, e = .returned (.tuple #[.slice A N c, .bool b]) ∧ GridRes N T w' w.heap.size w'.heap.size A ∧ Below w.heap.size w w'
def LocBoolRes (N : Nat) (T : Tab) (b : Bool) (w : World) (e : Ending) (w' : World) : Prop := ∃ A c, e = .returned (.tuple #[.slice A N c, .bool b]) ∧ MLoc w' w.heap.size w'.heap.size A N N T ∧ Below w.heap.size w w'
theorem MLoc.eq_ {w : World} {lo hi : Nat} {A : Option Addr} {N M : Nat} {T T' : Tab} (h : MLoc w lo hi A N M T) (he : ∀ i j, i < M → j < N → T i j = T' i j) : MLoc w lo hi A N M T' := by
  intro h0
  obtain ⟨g, off, e, g1, hg, hr⟩ := h h0
  refine ⟨g, off, e, g1, hg, fun i hi => ?_⟩
  obtain ⟨b, o, c, h1, b1, h2, h3⟩ := hr i hi
  exact ⟨b, o, c, h1, b1, h2, fun j hj => by rw [← he i j hi hj]; exact h3 j hj⟩
theorem closedOf_any (n : Int) (A : Option Addr) (c : Nat) (bs : List Bd) (w : World) (h : BAt w A bs) (hlen : bs.length ≤ 1099511627776) :
    Calls Try.prog 34 #[.agg #[.int .i64 n, .slice A bs.length c]] w (TabBoolRes (fitN n bs) (closedT n bs) (fitsOk n bs) w) := by
  cases hfit : fitsOk n bs
  · have HN := Lib.hid (show fitN n bs = 0 by simp [fitN, hfit])
    go_enter Try.func34, Try.ntmps34
    go_wp2_with fail
    refine (closed_no _ _ _ bs _ (h.below (by repeat (first | with_reducible exact Below.refl _ _ | with_reducible refine valloc ?_ _ | with_reducible refine vdrew ?_ | with_reducible refine vdrewN ?_ _ | with_reducible refine via (by assumption) ?_ | refine vset ?_ (by first | exact Nat.le_refl _ | (simp; done) | (simp; omega) | omega) _))) hlen hfit).mono ?_; rintro e w1 ⟨rfl, hbw1⟩
    go_wp2
    go_ret2
    rw [HN.out]
    refine ⟨none, 0, rfl, Or.inl ⟨rfl, rfl⟩, ?_⟩
    repeat (first | with_reducible exact Below.refl _ _ | with_reducible refine valloc ?_ _ | with_reducible refine vdrew ?_ | with_reducible refine vdrewN ?_ _ | with_reducible refine via (by assumption) ?_ | refine vset ?_ (by first | exact Nat.le_refl _ | (simp; done) | (simp; omega) | omega) _)
  · obtain ⟨N, rfl⟩ := Int.eq_ofNat_of_zero_le (show 0 ≤ n by simp only [fitsOk, Bool.and_eq_true] at hfit; have := planOk_of hfit.1; omega)
    have HN := Lib.hid (show fitN N bs = N by simp [fitN, hfit])
    go_enter Try.func34, Try.ntmps34
    go_wp2_with fail
    refine (closed_yes _ _ _ bs _ (h.below (by repeat (first | with_reducible exact Below.refl _ _ | with_reducible refine valloc ?_ _ | with_reducible refine vdrew ?_ | with_reducible refine vdrewN ?_ _ | with_reducible refine via (by assumption) ?_ | refine vset ?_ (by first | exact Nat.le_refl _ | (simp; done) | (simp; omega) | omega) _))) hlen hfit).mono ?_; rintro e w1 ⟨g, N', R, hN', hN1, hN6, rfl, hG, hbw1⟩
    obtain rfl : N = N' := by omega
    have HG := Lib.hid hG
    clear hG
    go_wp2
    go_ret2
    rw [HN.out]
    refine ⟨some ⟨g, 0, none⟩, N, rfl, Or.inr ⟨g, R, fun _ => N, rfl, ?_⟩, ?_⟩
    · exact HG.out.wide (by simp) (Nat.le_refl _)
    repeat (first | with_reducible exact Below.refl _ _ | with_reducible refine valloc ?_ _ | with_reducible refine vdrew ?_ | with_reducible refine vdrewN ?_ _ | with_reducible refine via (by assumption) ?_ | refine vset ?_ (by first | exact Nat.le_refl _ | (simp; done) | (simp; omega) | omega) _)
theorem specClosedOf_any (n : Int) (A : Option Addr) (c : Nat) (bs : List Bd) (w : World) (h : BAt w A bs) (hlen : bs.length ≤ 1099511627776) :
    Calls Try.prog 35 #[.agg #[.int .i64 n, .slice A bs.length c]] w (LocBoolRes (fitN n bs) (closedT n bs) (fitsOk n bs) w) := by
  cases hfit : fitsOk n bs
  · have HN := Lib.hid (show fitN n bs = 0 by simp [fitN, hfit])
    go_enter Try.func35, Try.ntmps35
    go_wp2_with fail
    refine (specFitsOk_any _ _ _ bs _ (h.below (by repeat (first | with_reducible exact Below.refl _ _ | with_reducible refine valloc ?_ _ | with_reducible refine vdrew ?_ | with_reducible refine vdrewN ?_ _ | with_reducible refine via (by assumption) ?_ | refine vset ?_ (by first | exact Nat.le_refl _ | (simp; done) | (simp; omega) | omega) _))) hlen).mono ?_; rintro e w1 ⟨rfl, hbw1⟩
    go_wp2
    go_ret2
    rw [HN.out]
    refine ⟨_, _, rfl, fun h0 => absurd h0 (by omega), ?_⟩
    repeat (first | with_reducible exact Below.refl _ _ | with_reducible refine valloc ?_ _ | with_reducible refine vdrew ?_ | with_reducible refine vdrewN ?_ _ | with_reducible refine via (by assumption) ?_ | refine vset ?_ (by first | exact Nat.le_refl _ | (simp; done) | (simp; omega) | omega) _)
  · obtain ⟨N, rfl⟩ := Int.eq_ofNat_of_zero_le (show 0 ≤ n by simp only [fitsOk, Bool.and_eq_true] at hfit; have := planOk_of hfit.1; omega)
    have h16 : 1 ≤ (N : Int) ∧ (N : Int) ≤ 6 := by simp only [fitsOk, Bool.and_eq_true] at hfit; have := planOk_of hfit.1; omega
    have HN := Lib.hid (show fitN N bs = N by simp [fitN, hfit])
    have HC := Lib.hid (closed_eq hfit)
    go_enter Try.func35, Try.ntmps35
    go_wp2_with fail
    refine (specFitsOk_any _ _ _ bs _ (h.below (by repeat (first | with_reducible exact Below.refl _ _ | with_reducible refine valloc ?_ _ | with_reducible refine vdrew ?_ | with_reducible refine vdrewN ?_ _ | with_reducible refine via (by assumption) ?_ | refine vset ?_ (by first | exact Nat.le_refl _ | (simp; done) | (simp; omega) | omega) _))) hlen).mono ?_; rintro e w1 ⟨rfl, hbw1⟩; obtain ⟨hcw1, hfw1⟩ := bcell hbw1; have hzw1 := hbw1.size; (try simp only [sz] at hzw1); (try simp only [szc] at hzw1); have hzw1_0 : w.heap.size < w1.heap.size := (by omega)
    go_wp2_with fail
    refine (l2Closed_any N _ _ bs _ (h.below (by repeat (first | with_reducible exact Below.refl _ _ | with_reducible refine valloc ?_ _ | with_reducible refine vdrew ?_ | with_reducible refine vdrewN ?_ _ | with_reducible refine via (by assumption) ?_ | refine vset ?_ (by first | exact Nat.le_refl _ | (simp; done) | (simp; omega) | omega) _))) (by omega) (by omega) hlen).mono ?_; rintro e w2 ⟨A2, c2, rfl, hm, hbw2⟩
    have HM := Lib.hid hm
    clear hm
    go_wp2
    go_ret2
    rw [HN.out]
    refine ⟨A2, c2, rfl, (HM.out.wide (by omega) (Nat.le_refl _)).eq_ HC.out, ?_⟩
    repeat (first | with_reducible exact Below.refl _ _ | with_reducible refine valloc ?_ _ | with_reducible refine vdrew ?_ | with_reducible refine vdrewN ?_ _ | with_reducible refine via (by assumption) ?_ | refine vset ?_ (by first | exact Nat.le_refl _ | (simp; done) | (simp; omega) | omega) _)
end Go.Proofs.Ytnompncmachgjaa
