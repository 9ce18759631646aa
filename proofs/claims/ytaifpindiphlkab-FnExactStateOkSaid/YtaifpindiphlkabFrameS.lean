/- How a state that comes in is opened. -/
import Derived.Test.YtaifpindiphlkabFrame
namespace Go.Proofs.Ytaifpindiphlkab
open Go.ChangeShapes Go.WideShapes Go.ChangeAt Go.RowKit Go.Deep
open Go.ChangeMaps (open_string shut_string)
open Go.Joins
set_option linter.unusedVariables false
set_option maxRecDepth 10000
set_option linter.unusedSimpArgs false

theorem open_state {H : Type} {enc : TypeId × Value → H} {w : World} {base : Nat} {spare : Nat → Bool} {held : Bool} {r : Reach} {b0 : Nat} {v : Value} {d : DataW H} {p : List MemPlace}
    (hv : Value.okWide Try.prog w r b0 48 v) (h : DataW.Trod enc Try.prog w base spare held 48 v d p) :
    ∃ (n : Int) (A : Option Addr) (c : Nat) (xs : List Int), v = .agg #[.int .i64 n, .slice A xs.length c] ∧ IAt w A xs ∧ xs.length ≤ 9223372036854775807 := by
  obtain ⟨v0, v1, y0, y1, m, rfl, rfl, rfl, h0, h1⟩ := open_agg2 Try.underlying48 (by kernel_rfl) (by kernel_rfl) hv h
  obtain ⟨n, e, _, hw⟩ := DataW.trod_int Try.underlying3 h0
  simp only [List.cons.injEq, and_true] at e
  subst e
  obtain ⟨A, c, xs, rfl, hB, hl⟩ := open_list h1
  exact ⟨n, A, c, xs, rfl, hB, hl⟩
end Go.Proofs.Ytaifpindiphlkab
