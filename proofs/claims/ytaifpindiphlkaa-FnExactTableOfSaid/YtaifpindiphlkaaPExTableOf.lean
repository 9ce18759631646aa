/- The law FnExactTableOf returns true for every input; no condition. -/
import Derived.Test.YtaifpindiphlkaaWExTableOf
import Derived.Test.YtaifpindiphlkaaFrame
import Derived.Test.YtaifpindiphlkaaHead
namespace Go.Proofs.Ytaifpindiphlkaa
open Go.ChangeShapes Go.WideShapes Go.ChangeAt Go.RowKit Go.Deep
open Go.ChangeMaps (open_string shut_string)
open Go.Joins
set_option linter.unusedVariables false
set_option maxRecDepth 10000
set_option linter.unusedSimpArgs false

set_option maxRecDepth 100000 in
theorem FnExactTableOf_lifted (os : Os) (started : os.Started) (H : Type) (enc : TypeId × Value → H) :
    ReturnsInHanded {} Try.checked os 8 .any (Rows.fnExactTableOfSpec.pre6 enc Try.prog Try.f8 Rows.fnExactTableOfRow.domain false) (Rows.fnExactTableOfSpec.post enc Try.prog Try.f8 false true false false) := by
  refine returnsInHanded_of_change (C := Try.checked) own started (by kernel_rfl) Try.func8
    (ChangeSpec.witness6 (enc := enc) (C := Try.checked) false ⟨#[], #[.agg #[.int .i64 0, .slice none 0 0]], []⟩ 8 (by kernel_rfl) (by kernel_rfl) (by kernel_rfl) (by kernel_rfl)) ?_
  intro W base args ds gs before hval0 hW hcnd _
  have hval : ∀ (j : Nat) t v, Try.f8.params[j]? = some t → args[j]? = some v → Value.okWide Try.prog W .any base t v := hval0
  have hW' := hW
  obtain ⟨p, q, hA0, hV, rfl, hfz, hnd⟩ := hW
  have hA : DataW.TrodAll enc Try.prog W 0 (fun _ => true) true Try.f8.params.toList args.toList ds p := hA0
  rw [Try.params8] at hA hval
  obtain ⟨v0, vs0, d0, ds0, p0, q0, hargs, rfl, rfl, h0, r0⟩ := trodAll_cons hA
  obtain ⟨rfl, rfl, rfl⟩ := trodAll_nil r0
  obtain rfl : args = #[v0] := by cases args; simp_all
  obtain ⟨rfl, rfl⟩ := trodVars_none hV
  have k0 := h0
  have lt0 : ∀ x ∈ p0, x.block < W.heap.size := by obtain ⟨m, hm⟩ := k0; exact DataW.trod_lt m _ _ _ hm
  obtain ⟨n0, A0, c0, bs0, e0, hB0, hl0⟩ := open_plan (fun _ => rfl) (hval 0 47 v0 rfl rfl) h0
  subst e0
  clear hA0 hval0
  refine (FnExactTableOf_walk n0 A0 c0 bs0 W hB0 hl0).mono fun e W' ⟨he, bel⟩ => ?_
  subst he
  exact ⟨_, rfl, _, _, _, [], _, [], hW', trodAll_mk1 (shut_bool Try.underlying4 _), (trodAll_cons_mk (Below.trod laidOut (by kernel_rfl) (of_decide_eq_true (by kernel_rfl)) k0 bel lt0) trodAll_mk0), rfl, bel.frame _, fun h => by cases h⟩
theorem FnExactTableOf_fn : Try.pinned.checked.prog.funcNamed Rows.fnExactTableOfRow.func = some 8 := by kernel_rfl
theorem FnExactTableOf_wf : Rows.fnExactTableOfRow.wf (OpenSpec.ofChange Rows.fnExactTableOfSpec) = true := by kernel_rfl
theorem FnExactTableOf_c1 : (Rows.fnExactTableOfRow.inPlace == Try.pinned.checked.prog.inPlace 8) = true := by kernel_rfl
theorem FnExactTableOf_c2 : (Rows.fnExactTableOfRow.unfollowed == Try.pinned.checked.prog.unfollowed 8) = true := by kernel_rfl
theorem FnExactTableOf_c3 : (Rows.fnExactTableOfRow.recurses == Try.pinned.checked.prog.recurses 8) = true := by kernel_rfl
theorem FnExactTableOf_c4 : (Rows.fnExactTableOfRow.named == Try.pinned.checked.prog.varsNamed 8) = true := by kernel_rfl
theorem FnExactTableOf_c5 : (Rows.fnExactTableOfRow.plainKeys == Try.pinned.checked.prog.plainKeys) = true := by kernel_rfl
theorem FnExactTableOf_c6 : (Rows.fnExactTableOfRow.lifted == Try.pinned.checked.prog.liftsFinal) = true := by rw [fact_lifts]; kernel_rfl
theorem FnExactTableOf_c7 : (Try.pinned.checked.prog.make == some Rows.fnExactTableOfRow.make) = true := by rw [fact_make]; kernel_rfl
theorem FnExactTableOf_inst : Try.f8.isInstance Try.pinned.checked.prog Rows.fnExactTableOfRow.origin Rows.fnExactTableOfRow.targs := of_decide_eq_true (by kernel_rfl)
theorem FnExactTableOf_wrap : Try.f8.isWrapper Try.pinned.checked.prog Rows.fnExactTableOfRow.wrapper Rows.fnExactTableOfRow.mainSum := by
  unfold Func.isWrapper; first | (rw [if_pos (by decide +kernel)]; kernel_rfl) | (rw [if_neg (by decide +kernel)]; exact ⟨rfl, rfl⟩)
theorem FnExactTableOf_closed : joinedFacts Try.pinned.checked.prog 8 Try.f8 Rows.fnExactTableOfSpec Rows.fnExactTableOfRow = true := by
  unfold joinedFacts
  repeat' (with_reducible refine and2 ?_ ?_)
  all_goals first | with_reducible exact fact_laid | with_reducible exact fact_maps | with_reducible exact fact_stops | with_reducible exact fact_enter | with_reducible exact FnExactTableOf_wf | with_reducible exact FnExactTableOf_c1 | with_reducible exact FnExactTableOf_c2 | with_reducible exact FnExactTableOf_c3 | with_reducible exact FnExactTableOf_c4 | with_reducible exact FnExactTableOf_c5 | with_reducible exact FnExactTableOf_c6 | with_reducible exact FnExactTableOf_c7 | kernel_rfl
theorem FnExactTableOf_over : Rows.fnExactTableOfRow.holds Try.pinned (OpenSpec.ofChange Rows.fnExactTableOfSpec) :=
  OpenClaim.holds_of_wide 8 Try.f8 rfl rfl rfl rfl rfl rfl rfl ⟨rfl, rfl, rfl, rfl, rfl⟩ rfl rfl rfl rfl rfl FnExactTableOf_fn Try.func8 FnExactTableOf_closed FnExactTableOf_inst FnExactTableOf_wrap
    (fun os started H enc _ => FnExactTableOf_lifted os started H enc)
theorem FnExactTableOf_proved : Rows.FnExactTableOfSaid := FnExactTableOf_over
#print axioms FnExactTableOf_proved
end Go.Proofs.Ytaifpindiphlkaa
