/- The law FnExactClosedOf returns true for every input; no condition. -/
import Derived.Test.YtaifpindiphlkabWExClosedOf
import Derived.Test.YtaifpindiphlkabFrame
import Derived.Test.YtaifpindiphlkabHead
namespace Go.Proofs.Ytaifpindiphlkab
open Go.ChangeShapes Go.WideShapes Go.ChangeAt Go.RowKit Go.Deep
open Go.ChangeMaps (open_string shut_string)
open Go.Joins
set_option linter.unusedVariables false
set_option maxRecDepth 10000
set_option linter.unusedSimpArgs false

set_option maxRecDepth 100000 in
theorem FnExactClosedOf_lifted (os : Os) (started : os.Started) (H : Type) (enc : TypeId × Value → H) :
    ReturnsInHanded {} Try.checked os 5 .any (Rows.fnExactClosedOfSpec.pre6 enc Try.prog Try.f5 Rows.fnExactClosedOfRow.domain false) (Rows.fnExactClosedOfSpec.post enc Try.prog Try.f5 false true false false) := by
  refine returnsInHanded_of_change (C := Try.checked) own started (by kernel_rfl) Try.func5
    (ChangeSpec.witness6 (enc := enc) (C := Try.checked) false ⟨#[], #[.agg #[.int .i64 0, .slice none 0 0]], []⟩ 8 (by kernel_rfl) (by kernel_rfl) (by kernel_rfl) (by kernel_rfl)) ?_
  intro W base args ds gs before hval0 hW hcnd _
  have hval : ∀ (j : Nat) t v, Try.f5.params[j]? = some t → args[j]? = some v → Value.okWide Try.prog W .any base t v := hval0
  have hW' := hW
  obtain ⟨p, q, hA0, hV, rfl, hfz, hnd⟩ := hW
  have hA : DataW.TrodAll enc Try.prog W 0 (fun _ => true) true Try.f5.params.toList args.toList ds p := hA0
  rw [Try.params5] at hA hval
  obtain ⟨v0, vs0, d0, ds0, p0, q0, hargs, rfl, rfl, h0, r0⟩ := trodAll_cons hA
  obtain ⟨rfl, rfl, rfl⟩ := trodAll_nil r0
  obtain rfl : args = #[v0] := by cases args; simp_all
  obtain ⟨rfl, rfl⟩ := trodVars_none hV
  have k0 := h0
  have lt0 : ∀ x ∈ p0, x.block < W.heap.size := by obtain ⟨m, hm⟩ := k0; exact DataW.trod_lt m _ _ _ hm
  obtain ⟨n0, A0, c0, bs0, e0, hB0, hl0⟩ := open_plan (fun _ => rfl) (hval 0 24 v0 rfl rfl) h0
  subst e0
  clear hA0 hval0
  refine (FnExactClosedOf_walk n0 A0 c0 bs0 W hB0 hl0).mono fun e W' ⟨he, bel⟩ => ?_
  subst he
  exact ⟨_, rfl, _, _, _, [], _, [], hW', trodAll_mk1 (shut_bool Try.underlying4 _), (trodAll_cons_mk (Below.trod laidOut (by kernel_rfl) (of_decide_eq_true (by kernel_rfl)) k0 bel lt0) trodAll_mk0), rfl, bel.frame _, fun h => by cases h⟩
theorem FnExactClosedOf_fn : Try.pinned.checked.prog.funcNamed Rows.fnExactClosedOfRow.func = some 5 := by kernel_rfl
theorem FnExactClosedOf_wf : Rows.fnExactClosedOfRow.wf (OpenSpec.ofChange Rows.fnExactClosedOfSpec) = true := by kernel_rfl
theorem FnExactClosedOf_c1 : (Rows.fnExactClosedOfRow.inPlace == Try.pinned.checked.prog.inPlace 5) = true := by kernel_rfl
theorem FnExactClosedOf_c2 : (Rows.fnExactClosedOfRow.unfollowed == Try.pinned.checked.prog.unfollowed 5) = true := by kernel_rfl
theorem FnExactClosedOf_c3 : (Rows.fnExactClosedOfRow.recurses == Try.pinned.checked.prog.recurses 5) = true := by kernel_rfl
theorem FnExactClosedOf_c4 : (Rows.fnExactClosedOfRow.named == Try.pinned.checked.prog.varsNamed 5) = true := by kernel_rfl
theorem FnExactClosedOf_c5 : (Rows.fnExactClosedOfRow.plainKeys == Try.pinned.checked.prog.plainKeys) = true := by kernel_rfl
theorem FnExactClosedOf_c6 : (Rows.fnExactClosedOfRow.lifted == Try.pinned.checked.prog.liftsFinal) = true := by rw [fact_lifts]; kernel_rfl
theorem FnExactClosedOf_c7 : (Try.pinned.checked.prog.make == some Rows.fnExactClosedOfRow.make) = true := by rw [fact_make]; kernel_rfl
theorem FnExactClosedOf_inst : Try.f5.isInstance Try.pinned.checked.prog Rows.fnExactClosedOfRow.origin Rows.fnExactClosedOfRow.targs := of_decide_eq_true (by kernel_rfl)
theorem FnExactClosedOf_wrap : Try.f5.isWrapper Try.pinned.checked.prog Rows.fnExactClosedOfRow.wrapper Rows.fnExactClosedOfRow.mainSum := by
  unfold Func.isWrapper; first | (rw [if_pos (by decide +kernel)]; kernel_rfl) | (rw [if_neg (by decide +kernel)]; exact ⟨rfl, rfl⟩)
theorem FnExactClosedOf_closed : joinedFacts Try.pinned.checked.prog 5 Try.f5 Rows.fnExactClosedOfSpec Rows.fnExactClosedOfRow = true := by
  unfold joinedFacts
  repeat' (with_reducible refine and2 ?_ ?_)
  all_goals first | with_reducible exact fact_laid | with_reducible exact fact_maps | with_reducible exact fact_stops | with_reducible exact fact_enter | with_reducible exact FnExactClosedOf_wf | with_reducible exact FnExactClosedOf_c1 | with_reducible exact FnExactClosedOf_c2 | with_reducible exact FnExactClosedOf_c3 | with_reducible exact FnExactClosedOf_c4 | with_reducible exact FnExactClosedOf_c5 | with_reducible exact FnExactClosedOf_c6 | with_reducible exact FnExactClosedOf_c7 | kernel_rfl
theorem FnExactClosedOf_over : Rows.fnExactClosedOfRow.holds Try.pinned (OpenSpec.ofChange Rows.fnExactClosedOfSpec) :=
  OpenClaim.holds_of_wide 5 Try.f5 rfl rfl rfl rfl rfl rfl rfl ⟨rfl, rfl, rfl, rfl, rfl⟩ rfl rfl rfl rfl rfl FnExactClosedOf_fn Try.func5 FnExactClosedOf_closed FnExactClosedOf_inst FnExactClosedOf_wrap
    (fun os started H enc _ => FnExactClosedOf_lifted os started H enc)
theorem FnExactClosedOf_proved : Rows.FnExactClosedOfSaid := FnExactClosedOf_over
#print axioms FnExactClosedOf_proved
end Go.Proofs.Ytaifpindiphlkab
