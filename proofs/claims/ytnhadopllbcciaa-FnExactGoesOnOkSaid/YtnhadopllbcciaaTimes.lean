/- Contracts of impl.TimesOk, impl.KeepsOk, spec.TimesOk, spec.KeepsOk and of what they call; for slices of at most 2^40 elements. -/
import Derived.Test.YtnhadopllbcciaaCopy
import Derived.Deep.QuietTactic
import Derived.BigQuiet
namespace Go.Proofs.Ytnhadopllbcciaa
open Go.RowKit
set_option linter.unusedVariables false
set_option maxRecDepth 10000
set_option linter.unusedSimpArgs false

theorem allIn1_any (x lo hi : Int) (p q : Nat) (w : World) (p0 : w.cell? ⟨p, 0, none⟩ = some (.int .i64 lo)) (q0 : w.cell? ⟨q, 0, none⟩ = some (.int .i64 hi)) :
    Calls Try.prog 114 #[.int .i64 x, .pointer (some ⟨p, 0, none⟩), .pointer (some ⟨q, 0, none⟩)] w fun e w' => e = .returned (.bool (!inB x lo hi)) ∧ Below w.heap.size w w' := by
  go_enter Try.func114, Try.ntmps114
  go_wp2_with (go_at_call 108; refine (in_any _ _ _ _).mono ?_; rintro e w1 ⟨rfl, rfl⟩)
  go_ret
  exact ⟨rfl, Below.refl _ _⟩
def allB (xs : List Int) (lo hi : Int) : Bool := !xs.any fun x => !inB x lo hi
theorem allB_iff (xs : List Int) (lo hi : Int) : allB xs lo hi = true ↔ ∀ x ∈ xs, lo ≤ x ∧ x ≤ hi := by
  simp [allB, inB, List.any_eq_false]
theorem allIn_any (A : Option Addr) (c : Nat) (xs : List Int) (lo hi : Int) (w : World) (h : IAt w A xs) (hlen : xs.length ≤ 1099511627776) :
    Calls Try.prog 82 #[.slice A xs.length c, .int .i64 lo, .int .i64 hi] w fun e w' => e = .returned (.bool (allB xs lo hi)) ∧ Below w.heap.size w w' := by
  have HC := Lib.hid (containsI_any 114 #[.pointer (some ⟨w.heap.size, 0, none⟩), .pointer (some ⟨w.heap.size + 1, 0, none⟩)] (fun x => !inB x lo hi) A c xs ((w.alloc (.cells #[.int .i64 lo] 3)).alloc (.cells #[.int .i64 hi] 3))
        (h.below (valloc (valloc (Below.refl _ _) _) _)) hlen (fun _ _ => by go_simp) (fun W x hb _ => by
          have := allIn1_any x lo hi w.heap.size (w.heap.size + 1) W ((hb.cell (by simp; omega)).trans (by go_simp)) ((hb.cell (by simp)).trans (by go_simp))
          exact this))
  clear h
  go_enter Try.func82, Try.ntmps82
  go_wp2_with (go_at_call 113; refine HC.out.mono ?_; rintro e w1 ⟨rfl, hb1⟩)
  go_ret
  refine ⟨rfl, ?_⟩
  repeat (first | with_reducible exact Below.refl _ _ | with_reducible refine valloc ?_ _ | with_reducible refine vdrew ?_ | with_reducible refine vdrewN ?_ _ | with_reducible refine via (by assumption) ?_ | refine vset ?_ (by first | exact Nat.le_refl _ | (simp; done) | (simp; omega) | omega) _)
/-- Is there a time for each point? -/
def timesOk (n : Int) (bs : List Bd) (ts : List Int) : Bool := planOk n bs && ((ts.length : Int) == n) && allB ts (-2000) 2000
theorem timesOk_of {n : Int} {bs : List Bd} {ts : List Int} (h : timesOk n bs ts = true) : planOk n bs = true ∧ (ts.length : Int) = n ∧ ∀ t ∈ ts, -2000 ≤ t ∧ t ≤ 2000 := by
  simp only [timesOk, Bool.and_eq_true, beq_iff_eq, allB_iff] at h
  exact ⟨h.1.1, h.1.2, h.2⟩
/-- Do the times keep the bound? -/
def keeps (ts : List Int) (x : Bd) : Bool := decide (ts.getD x.t.toNat 0 - ts.getD x.f.toNat 0 ≤ x.m)
/-- Do the times keep the plan? -/
def keepsOk (n : Int) (bs : List Bd) (ts : List Int) : Bool := timesOk n bs ts && !bs.any fun x => !keeps ts x
end Go.Proofs.Ytnhadopllbcciaa
