/- Contracts of impl.PlanOk and of what it calls: it answers planOk; for slices of at most 2^40 bounds. -/
import Derived.Test.YtedpaanhnbodfaaContains
namespace Go.Proofs.Ytedpaanhnbodfaa
open Go.RowKit
set_option linter.unusedVariables false
set_option maxRecDepth 10000
set_option linter.unusedSimpArgs false

def inB (n lo hi : Int) : Bool := decide (lo ≤ n) && decide (n ≤ hi)
theorem inB_iff (n lo hi : Int) : inB n lo hi = true ↔ lo ≤ n ∧ n ≤ hi := by simp [inB]
theorem in_any (n lo hi : Int) (w : World) :
    Calls Try.prog 99 #[.int .i64 n, .int .i64 lo, .int .i64 hi] w fun e w' => e = .returned (.bool (inB n lo hi)) ∧ w = w' := by
  by_cases h1 : lo ≤ n <;> by_cases h2 : n ≤ hi <;>
  (go_enter Try.func99, Try.ntmps99
   go_wp2
   go_ret
   exact ⟨by simp [inB, h1, h2], rfl⟩)
theorem has_any (n : Int) (A : Value) (i : Int) (w : World) (h1 : 1 ≤ n) (h2 : n ≤ 6) :
    Calls Try.prog 120 #[.agg #[.int .i64 n, A], .int .i64 i] w fun e w' => e = .returned (.bool (inB i 0 (n-1))) ∧ Below w.heap.size w w' := by
  go_enter Try.func120, Try.ntmps120
  go_wp2_with (go_at_call 99; refine (in_any _ _ _ _).mono ?_; rintro e w' ⟨rfl, rfl⟩)
  go_ret
  refine ⟨rfl, ?_⟩
  repeat (first | with_reducible exact Below.refl _ _ | with_reducible refine valloc ?_ _ | with_reducible refine vdrew ?_ | with_reducible refine vdrewN ?_ _ | with_reducible refine via (by assumption) ?_ | refine vset ?_ (by first | exact Nat.le_refl _ | (simp; done) | (simp; omega) | omega) _)
def okB (n : Int) (x : Bd) : Bool := inB x.f 0 (n-1) && inB x.t 0 (n-1) && inB x.m (-99) 99
theorem boundOk_any (n : Int) (A : Option Addr) (k c : Nat) (x : Bd) (w : World) (h1 : 1 ≤ n) (h2 : n ≤ 6) :
    Calls Try.prog 102 #[.agg #[.int .i64 n, .slice A k c], .agg #[.int .i64 x.f, .int .i64 x.t, .int .i64 x.m]] w fun e w' => e = .returned (.bool (okB n x)) ∧ Below w.heap.size w w' := by
  obtain ⟨f, t, m⟩ := x
  cases hf : inB f 0 (n-1) <;> cases ht : inB t 0 (n-1) <;>
  (go_enter Try.func102, Try.ntmps102
   go_wp2_with (first
       | (go_at_call 120; refine (has_any _ _ _ _ h1 h2).mono ?_; rintro e w1 ⟨rfl, hbw1⟩; obtain ⟨hcw1, hfw1⟩ := bcell hbw1; have hzw1 := hbw1.size; (try simp only [sz] at hzw1); (try simp only [szc] at hzw1); have hzw1_0 : w.heap.size < w1.heap.size := (by omega); have hzw1_1 : w.heap.size + 1 < w1.heap.size := (by omega))
       | (go_at_call 99; refine (in_any _ _ _ _).mono ?_; rintro e w' ⟨rfl, rfl⟩))
   go_ret
   refine ⟨by simp [okB, hf, ht], ?_⟩
   repeat (first | with_reducible exact Below.refl _ _ | with_reducible refine valloc ?_ _ | with_reducible refine vdrew ?_ | with_reducible refine vdrewN ?_ _ | with_reducible refine via (by assumption) ?_ | refine vset ?_ (by first | exact Nat.le_refl _ | (simp; done) | (simp; omega) | omega) _))
theorem planOk1_any (n : Int) (A : Option Addr) (k c : Nat) (x : Bd) (p : Nat) (w : World) (h1 : 1 ≤ n) (h2 : n ≤ 6) (p0 : w.cell? ⟨p, 0, none⟩ = some (.int .i64 n)) (p1 : w.cell? ⟨p, 1, none⟩ = some (.slice A k c)) :
    Calls Try.prog 101 #[.agg #[.int .i64 x.f, .int .i64 x.t, .int .i64 x.m], .pointer (some ⟨p, 0, none⟩)] w fun e w' => e = .returned (.bool (!okB n x)) ∧ Below w.heap.size w w' := by
  have hp := cell_lt p0
  go_enter Try.func101, Try.ntmps101
  go_wp2_with (go_at_call 102; refine (boundOk_any _ _ _ _ _ _ h1 h2).mono ?_; rintro e w1 ⟨rfl, hb1⟩)
  go_ret
  refine ⟨rfl, ?_⟩
  repeat (first | with_reducible exact Below.refl _ _ | with_reducible refine valloc ?_ _ | with_reducible refine vdrew ?_ | with_reducible refine vdrewN ?_ _ | with_reducible refine via (by assumption) ?_ | refine vset ?_ (by first | exact Nat.le_refl _ | (simp; done) | (simp; omega) | omega) _)
/-- Is it a plan? -/
def planOk (n : Int) (bs : List Bd) : Bool := inB n 1 6 && decide (bs.length ≤ 16) && !bs.any fun x => !okB n x
theorem planOk_any (n : Int) (A : Option Addr) (c : Nat) (bs : List Bd) (w : World) (h : BAt w A bs) (hlen : bs.length ≤ 1099511627776) :
    Calls Try.prog 23 #[.agg #[.int .i64 n, .slice A bs.length c]] w fun e w' => e = .returned (.bool (planOk n bs)) ∧ Below w.heap.size w w' := by
  cases hn : inB n 1 6
  · go_enter Try.func23, Try.ntmps23
    go_wp2_with (go_at_call 99; refine (in_any _ _ _ _).mono ?_; rintro e w' ⟨rfl, rfl⟩)
    go_ret
    refine ⟨by simp [planOk, hn], ?_⟩
    repeat (first | with_reducible exact Below.refl _ _ | with_reducible refine valloc ?_ _ | with_reducible refine vdrew ?_ | with_reducible refine vdrewN ?_ _ | with_reducible refine via (by assumption) ?_ | refine vset ?_ (by first | exact Nat.le_refl _ | (simp; done) | (simp; omega) | omega) _)
  · by_cases hl : bs.length ≤ 16
    · have hn' := (inB_iff _ _ _).1 hn
      have HC := Lib.hid (containsB_any 101 #[.pointer (some ⟨w.heap.size, 0, none⟩)] (fun x => !okB n x) A c bs (w.alloc (.cells #[.int .i64 n, .slice A bs.length c] 25))
        (h.below (valloc (Below.refl _ _) _)) hlen (fun _ _ => by go_simp) (fun W x hb _ => by
          have := planOk1_any n A bs.length c x w.heap.size W hn'.1 hn'.2 ((hb.cell (by simp)).trans (by go_simp)) ((hb.cell (by simp)).trans (by go_simp))
          exact this))
      clear h
      go_enter Try.func23, Try.ntmps23
      go_wp2_with (first | (go_at_call 99; refine (in_any _ _ _ _).mono ?_; rintro e w' ⟨rfl, rfl⟩) | (go_at_call 100; refine HC.out.mono ?_; rintro e w1 ⟨rfl, hb1⟩))
      go_ret
      refine ⟨by simp [planOk, hn, hl], ?_⟩
      repeat (first | with_reducible exact Below.refl _ _ | with_reducible refine valloc ?_ _ | with_reducible refine vdrew ?_ | with_reducible refine vdrewN ?_ _ | with_reducible refine via (by assumption) ?_ | refine vset ?_ (by first | exact Nat.le_refl _ | (simp; done) | (simp; omega) | omega) _)
    · go_enter Try.func23, Try.ntmps23
      go_wp2_with (go_at_call 99; refine (in_any _ _ _ _).mono ?_; rintro e w' ⟨rfl, rfl⟩)
      go_ret
      refine ⟨by simp [planOk, hn, hl], ?_⟩
      repeat (first | with_reducible exact Below.refl _ _ | with_reducible refine valloc ?_ _ | with_reducible refine vdrew ?_ | with_reducible refine vdrewN ?_ _ | with_reducible refine via (by assumption) ?_ | refine vset ?_ (by first | exact Nat.le_refl _ | (simp; done) | (simp; omega) | omega) _)
theorem planOk_of {n : Int} {bs : List Bd} (h : planOk n bs = true) : 1 ≤ n ∧ n ≤ 6 ∧ bs.length ≤ 16 ∧ ∀ x ∈ bs, 0 ≤ x.f ∧ x.f < n ∧ 0 ≤ x.t ∧ x.t < n ∧ -99 ≤ x.m ∧ x.m ≤ 99 := by
  simp only [planOk, okB, inB, Bool.and_eq_true, decide_eq_true_eq, Bool.not_eq_true', List.any_eq_false, Bool.not_eq_false] at h
  refine ⟨h.1.1.1, h.1.1.2, h.1.2, fun x hx => ?_⟩
  have := h.2 x hx
  omega
end Go.Proofs.Ytedpaanhnbodfaa
