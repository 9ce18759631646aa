/- The law FnPlanOk returns true for every input; no condition. -/
import Derived.Test.YtaifpindiphlkaaWPlanOk
import Derived.Test.YtaifpindiphlkaaFrameB
import Derived.Test.YtaifpindiphlkaaHead
import Derived.Test.YtaifpindiphlkaaFrame
namespace Go.Proofs.Ytaifpindiphlkaa
open Go.ChangeShapes Go.WideShapes Go.ChangeAt Go.RowKit Go.Deep
open Go.ChangeMaps (open_string shut_string)
open Go.Joins
set_option linter.unusedVariables false
set_option maxRecDepth 10000
set_option linter.unusedSimpArgs false

set_option maxRecDepth 100000 in
theorem FnPlanOk_lifted (os : Os) (started : os.Started) (H : Type) (enc : TypeId × Value → H) :
    ReturnsInHanded {} Try.checked os 3 .any (Rows.fnPlanOkSpec.pre6 enc Try.prog Try.f3 Rows.fnPlanOkRow.domain false) (Rows.fnPlanOkSpec.post enc Try.prog Try.f3 false true false false) := by
  refine returnsInHanded_of_change (C := Try.checked) own started (by kernel_rfl) Try.func3
    (ChangeSpec.witness6 (enc := enc) (C := Try.checked) false ⟨#[], #[.slice none 0 0], []⟩ 8 (by kernel_rfl) (by kernel_rfl) (by kernel_rfl) (by kernel_rfl)) ?_
  intro W base args ds gs before hval0 hW hcnd _
  have hval : ∀ (j : Nat) t v, Try.f3.params[j]? = some t → args[j]? = some v → Value.okWide Try.prog W .any base t v := hval0
  have hW' := hW
  obtain ⟨p, q, hA0, hV, rfl, hfz, hnd⟩ := hW
  have hA : DataW.TrodAll enc Try.prog W 0 (fun _ => true) true Try.f3.params.toList args.toList ds p := hA0
  rw [Try.params3] at hA hval
  obtain ⟨v0, vs0, d0, ds0, p0, q0, hargs, rfl, rfl, h0, r0⟩ := trodAll_cons hA
  obtain ⟨rfl, rfl, rfl⟩ := trodAll_nil r0
  obtain rfl : args = #[v0] := by cases args; simp_all
  obtain ⟨rfl, rfl⟩ := trodVars_none hV
  have k0 := h0
  have lt0 : ∀ x ∈ p0, x.block < W.heap.size := by obtain ⟨m, hm⟩ := k0; exact DataW.trod_lt m _ _ _ hm
  obtain ⟨A0, c0, xs0, e0, hB0, hl0⟩ := open_bytes_arg (hval 0 22 v0 rfl rfl) h0
  subst e0
  clear hA0 hval0
  refine (FnPlanOk_walk A0 c0 xs0 W hB0 hl0).mono fun e W' ⟨he, bel⟩ => ?_
  subst he
  exact ⟨_, rfl, _, _, _, [], _, [], hW', trodAll_mk1 (shut_bool Try.underlying4 _), (trodAll_cons_mk (Below.trod laidOut (by kernel_rfl) (of_decide_eq_true (by kernel_rfl)) k0 bel lt0) trodAll_mk0), rfl, bel.frame _, fun h => by cases h⟩
theorem FnPlanOk_fn : Try.pinned.checked.prog.funcNamed Rows.fnPlanOkRow.func = some 3 := by kernel_rfl
theorem FnPlanOk_wf : Rows.fnPlanOkRow.wf (OpenSpec.ofChange Rows.fnPlanOkSpec) = true := by kernel_rfl
theorem FnPlanOk_c1 : (Rows.fnPlanOkRow.inPlace == Try.pinned.checked.prog.inPlace 3) = true := by kernel_rfl
theorem FnPlanOk_c2 : (Rows.fnPlanOkRow.unfollowed == Try.pinned.checked.prog.unfollowed 3) = true := by kernel_rfl
theorem FnPlanOk_c3 : (Rows.fnPlanOkRow.recurses == Try.pinned.checked.prog.recurses 3) = true := by kernel_rfl
theorem FnPlanOk_c4 : (Rows.fnPlanOkRow.named == Try.pinned.checked.prog.varsNamed 3) = true := by kernel_rfl
theorem FnPlanOk_c5 : (Rows.fnPlanOkRow.plainKeys == Try.pinned.checked.prog.plainKeys) = true := by kernel_rfl
theorem FnPlanOk_c6 : (Rows.fnPlanOkRow.lifted == Try.pinned.checked.prog.liftsFinal) = true := by rw [fact_lifts]; kernel_rfl
theorem FnPlanOk_c7 : (Try.pinned.checked.prog.make == some Rows.fnPlanOkRow.make) = true := by rw [fact_make]; kernel_rfl
theorem FnPlanOk_inst : Try.f3.isInstance Try.pinned.checked.prog Rows.fnPlanOkRow.origin Rows.fnPlanOkRow.targs := of_decide_eq_true (by kernel_rfl)
theorem FnPlanOk_wrap : Try.f3.isWrapper Try.pinned.checked.prog Rows.fnPlanOkRow.wrapper Rows.fnPlanOkRow.mainSum := by
  unfold Func.isWrapper; first | (rw [if_pos (by decide +kernel)]; kernel_rfl) | (rw [if_neg (by decide +kernel)]; exact ⟨rfl, rfl⟩)
theorem FnPlanOk_closed : joinedFacts Try.pinned.checked.prog 3 Try.f3 Rows.fnPlanOkSpec Rows.fnPlanOkRow = true := by
  unfold joinedFacts
  repeat' (with_reducible refine and2 ?_ ?_)
  all_goals first | with_reducible exact fact_laid | with_reducible exact fact_maps | with_reducible exact fact_stops | with_reducible exact fact_enter | with_reducible exact FnPlanOk_wf | with_reducible exact FnPlanOk_c1 | with_reducible exact FnPlanOk_c2 | with_reducible exact FnPlanOk_c3 | with_reducible exact FnPlanOk_c4 | with_reducible exact FnPlanOk_c5 | with_reducible exact FnPlanOk_c6 | with_reducible exact FnPlanOk_c7 | kernel_rfl
theorem FnPlanOk_over : Rows.fnPlanOkRow.holds Try.pinned (OpenSpec.ofChange Rows.fnPlanOkSpec) :=
  OpenClaim.holds_of_wide 3 Try.f3 rfl rfl rfl rfl rfl rfl rfl ⟨rfl, rfl, rfl, rfl, rfl⟩ rfl rfl rfl rfl rfl FnPlanOk_fn Try.func3 FnPlanOk_closed FnPlanOk_inst FnPlanOk_wrap
    (fun os started H enc _ => FnPlanOk_lifted os started H enc)
theorem FnPlanOk_proved : Rows.FnPlanOkSaid := FnPlanOk_over
#print axioms FnPlanOk_proved
end Go.Proofs.Ytaifpindiphlkaa
