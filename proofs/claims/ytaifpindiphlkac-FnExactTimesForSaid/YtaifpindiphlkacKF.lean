/- Contracts of impl.MostOf, impl.LeastOf, spec.MostOf and spec.LeastOf; for slices of at most 2^40 bounds. Contracts of LeastOf and WideOf, of the program and of the reference; for slices of at most 2^40 bounds. Contracts of impl.table.mayBe and of MayBeOk, of the program and of the reference; for slices of at most 2^40 bounds. The contract of spec.MayBeOk; for slices of at most 2^40 bounds. Contracts of TightOk, of the program and of the reference; for slices of at most 2^40 bounds. -/
import Derived.Test.YtaifpindiphlkacKE
import Derived.Test.YtaifpindiphlkacKD
namespace Go.Proofs.Ytaifpindiphlkac
open Go.RowKit
set_option linter.unusedVariables false
set_option maxRecDepth 10000
set_option linter.unusedSimpArgs false

def mostB (n : Int) (bs : List Bd) (f t : Int) : Bool := fitsOk n bs && inB f 0 (n-1) && inB t 0 (n-1) && decide (closedT n bs f.toNat t.toNat ≠ 100000)
def mostV (n : Int) (bs : List Bd) (f t : Int) : Int := if mostB n bs f t = true then closedT n bs f.toNat t.toNat else 0
theorem most_none {n : Int} {bs : List Bd} {f t : Int} (h : mostB n bs f t = false) : mostV n bs f t = 0 ∧ mostB n bs f t = false := ⟨by simp [mostV, h], h⟩
def TwoRes (v : Int) (b : Bool) (w : World) (e : Ending) (w' : World) : Prop := e = .returned (.tuple #[.int .i64 v, .bool b]) ∧ Below w.heap.size w w'
theorem twoRes {v v' : Int} {b b' : Bool} {w w' : World} {e : Ending} (h : v = v' ∧ b = b') (hb : Below w.heap.size w w') (he : e = .returned (.tuple #[.int .i64 v', .bool b'])) : TwoRes v b w e w' := by
  obtain ⟨rfl, rfl⟩ := h; exact ⟨he, hb⟩
theorem fits_plan {n : Int} {bs : List Bd} (h : fitsOk n bs = true) : planOk n bs = true := by simp only [fitsOk, Bool.and_eq_true] at h; exact h.1
end Go.Proofs.Ytaifpindiphlkac
namespace Go.Proofs.Ytaifpindiphlkac
open Go.RowKit
set_option linter.unusedVariables false
set_option maxRecDepth 10000
set_option linter.unusedSimpArgs false

/-- How many numbers a second point may be later than a first one. -/
def wideV (n : Int) (bs : List Bd) (f t : Int) : Int := if mostB n bs f t = true ∧ mostB n bs t f = true then wrap64 (wrap64 (mostV n bs f t - wrap64 (-(mostV n bs t f))) + 1) else 0
end Go.Proofs.Ytaifpindiphlkac
namespace Go.Proofs.Ytaifpindiphlkac
open Go.RowKit
set_option linter.unusedVariables false
set_option maxRecDepth 10000
set_option linter.unusedSimpArgs false

/-- May a difference be, by a closed table? -/
def betw (T : Tab) (i j : Nat) (b : Int) : Bool := (decide (T i j = 100000) || decide (b ≤ T i j)) && (decide (T j i = 100000) || decide (wrap64 (-(T j i)) ≤ b))
set_option maxHeartbeats 4000000 in
theorem mayBe_any (A : Option Addr) (N i j cg : Nat) (T : Tab) (b : Int) (w : World) (h : MAt w A N N T) (hi : i < N) (hj : j < N) :
    Calls Try.prog 58 #[.slice A N cg, .int .i64 i, .int .i64 j, .int .i64 b] w fun e w' => e = .returned (.bool (betw T i j b)) ∧ Below w.heap.size w w' := by
  obtain ⟨g, off, b1, o1, cc1, rfl, hg, r1, hbl1, q1⟩ := h.at_ hi
  obtain ⟨g2, off2, b2, o2, cc2, e', hg2, r2, hbl2, q2⟩ := h.at_ hj
  cases e'
  have p1 := q1 j hj
  have p2 := q2 i hi
  clear q1 q2 h
  have HB := Lib.hid (show betw T i j b = ((decide (T i j = 100000) || decide (b ≤ T i j)) && (decide (T j i = 100000) || decide (wrap64 (-(T j i)) ≤ b))) from rfl)
  generalize betw T i j b = res at *
  generalize T i j = x at *
  generalize T j i = y at *
  by_cases h1 : x = 100000 <;> by_cases h2 : b ≤ x <;> by_cases h3 : y = 100000 <;> by_cases h4 : wrap64 (-y) ≤ b
  all_goals
    go_enter Try.func58, Try.ntmps58
    go_wp2
    go_ret
    refine ⟨ret_bool ?_, Below.refl _ _⟩
    rw [HB.out]
    first
      | (simp [h1, h2, h3, h4]; done)
      | (rw [Bool.eq_iff_iff]; simp; omega)
/-- May a second point be so much later than a first one? -/
def mayB (n : Int) (bs : List Bd) (f t b : Int) : Bool := fitsOk n bs && inB f 0 (n-1) && inB t 0 (n-1) && inB b (-2000) 2000 && betw (closedT n bs) f.toNat t.toNat b
end Go.Proofs.Ytaifpindiphlkac
namespace Go.Proofs.Ytaifpindiphlkac
open Go.RowKit
set_option linter.unusedVariables false
set_option maxRecDepth 10000
set_option linter.unusedSimpArgs false

theorem most_in {N : Nat} {bs : List Bd} {i j : Nat} (hfit : fitsOk N bs = true) (hi : inB i 0 ((N : Int)-1) = true) (hj : inB j 0 ((N : Int)-1) = true) :
    mostB N bs i j = decide (closedT N bs i j ≠ 100000) ∧ (mostB N bs i j = true → mostV N bs i j = closedT N bs i j) := by
  refine ⟨by simp [mostB, hfit, hi, hj], fun h => by simp [mostV, h]⟩
theorem betw_most {N : Nat} {bs : List Bd} {i j : Nat} {b : Int} (hfit : fitsOk N bs = true) (hi : inB i 0 ((N : Int)-1) = true) (hj : inB j 0 ((N : Int)-1) = true) :
    betw (closedT N bs) i j b = ((!mostB N bs i j || decide (b ≤ mostV N bs i j)) && (!mostB N bs j i || decide (wrap64 (-(mostV N bs j i)) ≤ b))) := by
  obtain ⟨a1, a2⟩ := most_in hfit hi hj
  obtain ⟨b1, b2⟩ := most_in hfit hj hi
  unfold betw
  by_cases h1 : closedT N bs i j = 100000 <;> by_cases h2 : closedT N bs j i = 100000
  all_goals
    simp only [h1, h2, ne_eq, not_true_eq_false, not_false_eq_true, decide_true, decide_false] at a1 b1
    simp only [a1, b1, h1, h2, decide_true, decide_false, Bool.true_or, Bool.false_or, Bool.not_true, Bool.not_false, Bool.true_and, Bool.and_true]
    try rw [a2 a1]
    try rw [b2 b1]
end Go.Proofs.Ytaifpindiphlkac
namespace Go.Proofs.Ytaifpindiphlkac
open Go.RowKit
set_option linter.unusedVariables false
set_option maxRecDepth 10000
set_option linter.unusedSimpArgs false

def tightOk (n : Int) (bs : List Bd) (a : Int) : Bool := fitsOk n bs && inB a 0 (bs.length - 1) && match bs[a.toNat]? with | some x => decide (closedT n bs x.f.toNat x.t.toNat = x.m) | none => false
theorem tight_most {n : Int} {bs : List Bd} {k : Nat} {x : Bd} (hx : bs[k]? = some x) (hk : inB k 0 (bs.length - 1) = true) : tightOk n bs k = (mostB n bs x.f x.t && decide (mostV n bs x.f x.t = x.m)) := by
  cases hfit : fitsOk n bs
  · simp [tightOk, mostB, hfit]
  · obtain ⟨h1, h6, _, hin⟩ := planOk_of (fits_plan hfit)
    have hi := hin x (List.mem_of_getElem? hx)
    have i1 : inB x.f 0 (n-1) = true := (inB_iff _ _ _).2 (by omega)
    have i2 : inB x.t 0 (n-1) = true := (inB_iff _ _ _).2 (by omega)
    simp only [tightOk, mostB, mostV, hfit, hk, i1, i2, hx, Int.toNat_natCast, Bool.true_and]
    by_cases h : closedT n bs x.f.toNat x.t.toNat = 100000
    · simp [h]; omega
    · simp [h]
end Go.Proofs.Ytaifpindiphlkac
