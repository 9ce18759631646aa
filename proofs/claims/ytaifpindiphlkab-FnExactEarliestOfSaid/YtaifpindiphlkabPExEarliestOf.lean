/- The law FnExactEarliestOf returns true for every input; no condition. -/
import Derived.Test.YtaifpindiphlkabWExEarliestOf
import Derived.Test.YtaifpindiphlkabFrame
import Derived.Test.YtaifpindiphlkabHead
namespace Go.Proofs.Ytaifpindiphlkab
open Go.ChangeShapes Go.WideShapes Go.ChangeAt Go.RowKit Go.Deep
open Go.ChangeMaps (open_string shut_string)
open Go.Joins
set_option linter.unusedVariables false
set_option maxRecDepth 10000
set_option linter.unusedSimpArgs false

set_option maxRecDepth 100000 in
theorem FnExactEarliestOf_lifted (os : Os) (started : os.Started) (H : Type) (enc : TypeId × Value → H) :
    ReturnsInHanded {} Try.checked os 9 .any (Rows.fnExactEarliestOfSpec.pre6 enc Try.prog Try.f9 Rows.fnExactEarliestOfRow.domain false) (Rows.fnExactEarliestOfSpec.post enc Try.prog Try.f9 false true false false) := by
  refine returnsInHanded_of_change (C := Try.checked) own started (by kernel_rfl) Try.func9
    (ChangeSpec.witness6 (enc := enc) (C := Try.checked) false ⟨#[], #[.agg #[.int .i64 0, .slice none 0 0], .int .i64 0], []⟩ 8 (by kernel_rfl) (by kernel_rfl) (by kernel_rfl) (by kernel_rfl)) ?_
  intro W base args ds gs before hval0 hW hcnd _
  have hval : ∀ (j : Nat) t v, Try.f9.params[j]? = some t → args[j]? = some v → Value.okWide Try.prog W .any base t v := hval0
  have hW' := hW
  obtain ⟨p, q, hA0, hV, rfl, hfz, hnd⟩ := hW
  have hA : DataW.TrodAll enc Try.prog W 0 (fun _ => true) true Try.f9.params.toList args.toList ds p := hA0
  rw [Try.params9] at hA hval
  obtain ⟨v0, vs0, d0, ds0, p0, q0, hargs, rfl, rfl, h0, r0⟩ := trodAll_cons hA
  obtain ⟨v1, vs1, d1, ds1, p1, q1, rfl, rfl, rfl, h1, r1⟩ := trodAll_cons r0
  obtain ⟨rfl, rfl, rfl⟩ := trodAll_nil r1
  obtain rfl : args = #[v0, v1] := by cases args; simp_all
  obtain ⟨rfl, rfl⟩ := trodVars_none hV
  have k0 := h0
  have lt0 : ∀ x ∈ p0, x.block < W.heap.size := by obtain ⟨m, hm⟩ := k0; exact DataW.trod_lt m _ _ _ hm
  obtain ⟨n0, A0, c0, bs0, e0, hB0, hl0⟩ := open_plan (fun _ => rfl) (hval 0 24 v0 rfl rfl) h0
  subst e0
  have k1 := h1
  have lt1 : ∀ x ∈ p1, x.block < W.heap.size := by obtain ⟨m, hm⟩ := k1; exact DataW.trod_lt m _ _ _ hm
  obtain ⟨a1, rfl, rfl, rfl, w1⟩ := open_int Try.underlying3 (hval 1 3 v1 rfl rfl) h1
  clear hA0 hval0
  refine (FnExactEarliestOf_walk n0 A0 c0 bs0 a1 W hB0 hl0).mono fun e W' ⟨he, bel⟩ => ?_
  subst he
  exact ⟨_, rfl, _, _, _, [], _, [], hW', trodAll_mk1 (shut_bool Try.underlying4 _), (trodAll_cons_mk (Below.trod laidOut (by kernel_rfl) (of_decide_eq_true (by kernel_rfl)) k0 bel lt0) (trodAll_cons_mk (shut_int Try.underlying3 w1) trodAll_mk0)), rfl, bel.frame _, fun h => by cases h⟩
theorem FnExactEarliestOf_fn : Try.pinned.checked.prog.funcNamed Rows.fnExactEarliestOfRow.func = some 9 := by kernel_rfl
theorem FnExactEarliestOf_wf : Rows.fnExactEarliestOfRow.wf (OpenSpec.ofChange Rows.fnExactEarliestOfSpec) = true := by kernel_rfl
theorem FnExactEarliestOf_c1 : (Rows.fnExactEarliestOfRow.inPlace == Try.pinned.checked.prog.inPlace 9) = true := by kernel_rfl
theorem FnExactEarliestOf_c2 : (Rows.fnExactEarliestOfRow.unfollowed == Try.pinned.checked.prog.unfollowed 9) = true := by kernel_rfl
theorem FnExactEarliestOf_c3 : (Rows.fnExactEarliestOfRow.recurses == Try.pinned.checked.prog.recurses 9) = true := by kernel_rfl
theorem FnExactEarliestOf_c4 : (Rows.fnExactEarliestOfRow.named == Try.pinned.checked.prog.varsNamed 9) = true := by kernel_rfl
theorem FnExactEarliestOf_c5 : (Rows.fnExactEarliestOfRow.plainKeys == Try.pinned.checked.prog.plainKeys) = true := by kernel_rfl
theorem FnExactEarliestOf_c6 : (Rows.fnExactEarliestOfRow.lifted == Try.pinned.checked.prog.liftsFinal) = true := by rw [fact_lifts]; kernel_rfl
theorem FnExactEarliestOf_c7 : (Try.pinned.checked.prog.make == some Rows.fnExactEarliestOfRow.make) = true := by rw [fact_make]; kernel_rfl
theorem FnExactEarliestOf_inst : Try.f9.isInstance Try.pinned.checked.prog Rows.fnExactEarliestOfRow.origin Rows.fnExactEarliestOfRow.targs := of_decide_eq_true (by kernel_rfl)
theorem FnExactEarliestOf_wrap : Try.f9.isWrapper Try.pinned.checked.prog Rows.fnExactEarliestOfRow.wrapper Rows.fnExactEarliestOfRow.mainSum := by
  unfold Func.isWrapper; first | (rw [if_pos (by decide +kernel)]; kernel_rfl) | (rw [if_neg (by decide +kernel)]; exact ⟨rfl, rfl⟩)
theorem FnExactEarliestOf_closed : joinedFacts Try.pinned.checked.prog 9 Try.f9 Rows.fnExactEarliestOfSpec Rows.fnExactEarliestOfRow = true := by
  unfold joinedFacts
  repeat' (with_reducible refine and2 ?_ ?_)
  all_goals first | with_reducible exact fact_laid | with_reducible exact fact_maps | with_reducible exact fact_stops | with_reducible exact fact_enter | with_reducible exact FnExactEarliestOf_wf | with_reducible exact FnExactEarliestOf_c1 | with_reducible exact FnExactEarliestOf_c2 | with_reducible exact FnExactEarliestOf_c3 | with_reducible exact FnExactEarliestOf_c4 | with_reducible exact FnExactEarliestOf_c5 | with_reducible exact FnExactEarliestOf_c6 | with_reducible exact FnExactEarliestOf_c7 | kernel_rfl
theorem FnExactEarliestOf_over : Rows.fnExactEarliestOfRow.holds Try.pinned (OpenSpec.ofChange Rows.fnExactEarliestOfSpec) :=
  OpenClaim.holds_of_wide 9 Try.f9 rfl rfl rfl rfl rfl rfl rfl ⟨rfl, rfl, rfl, rfl, rfl⟩ rfl rfl rfl rfl rfl FnExactEarliestOf_fn Try.func9 FnExactEarliestOf_closed FnExactEarliestOf_inst FnExactEarliestOf_wrap
    (fun os started H enc _ => FnExactEarliestOf_lifted os started H enc)
theorem FnExactEarliestOf_proved : Rows.FnExactEarliestOfSaid := FnExactEarliestOf_over
#print axioms FnExactEarliestOf_proved
end Go.Proofs.Ytaifpindiphlkab
