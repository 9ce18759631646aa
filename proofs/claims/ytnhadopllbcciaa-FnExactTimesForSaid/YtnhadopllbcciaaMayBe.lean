/- Contracts of impl.table.mayBe and of MayBeOk, of the program and of the reference; for slices of at most 2^40 bounds. -/
import Derived.Test.YtnhadopllbcciaaMost2
namespace Go.Proofs.Ytnhadopllbcciaa
open Go.RowKit
set_option linter.unusedVariables false
set_option maxRecDepth 10000
set_option linter.unusedSimpArgs false

/-- May a difference be, by a closed table? -/
def betw (T : Tab) (i j : Nat) (b : Int) : Bool := (decide (T i j = 100000) || decide (b ≤ T i j)) && (decide (T j i = 100000) || decide (wrap64 (-(T j i)) ≤ b))
set_option maxHeartbeats 4000000 in
theorem mayBe_any (A : Option Addr) (N i j cg : Nat) (T : Tab) (b : Int) (w : World) (h : MAt w A N N T) (hi : i < N) (hj : j < N) :
    Calls Try.prog 83 #[.slice A N cg, .int .i64 i, .int .i64 j, .int .i64 b] w fun e w' => e = .returned (.bool (betw T i j b)) ∧ Below w.heap.size w w' := by
  obtain ⟨g, off, b1, o1, cc1, rfl, hg, r1, hbl1, q1⟩ := h.at_ hi
  obtain ⟨g2, off2, b2, o2, cc2, e', hg2, r2, hbl2, q2⟩ := h.at_ hj
  cases e'
  have p1 := q1 j hj
  have p2 := q2 i hi
  clear q1 q2 h
  have HB := Lib.hid (show betw T i j b = ((decide (T i j = 100000) || decide (b ≤ T i j)) && (decide (T j i = 100000) || decide (wrap64 (-(T j i)) ≤ b))) from rfl)
  generalize betw T i j b = res at *
  generalize T i j = x at *
  generalize T j i = y at *
  by_cases h1 : x = 100000 <;> by_cases h2 : b ≤ x <;> by_cases h3 : y = 100000 <;> by_cases h4 : wrap64 (-y) ≤ b
  all_goals
    go_enter Try.func83, Try.ntmps83
    go_wp2
    go_ret
    refine ⟨ret_bool ?_, Below.refl _ _⟩
    rw [HB.out]
    first
      | (simp [h1, h2, h3, h4]; done)
      | (rw [Bool.eq_iff_iff]; simp; omega)
/-- May a second point be so much later than a first one? -/
def mayB (n : Int) (bs : List Bd) (f t b : Int) : Bool := fitsOk n bs && inB f 0 (n-1) && inB t 0 (n-1) && inB b (-2000) 2000 && betw (closedT n bs) f.toNat t.toNat b
end Go.Proofs.Ytnhadopllbcciaa
