/- The law FnTimesFor returns true for every input; no condition. -/
import Derived.Test.YtnompncmachgjaaWTimesFor
import Derived.Test.YtnompncmachgjaaFrameB
import Derived.Test.YtnompncmachgjaaHead
import Derived.Test.YtnompncmachgjaaFrame
namespace Go.Proofs.Ytnompncmachgjaa
open Go.ChangeShapes Go.WideShapes Go.ChangeAt Go.RowKit Go.Deep
open Go.ChangeMaps (open_string shut_string)
open Go.Joins
set_option linter.unusedVariables false
set_option maxRecDepth 10000
set_option linter.unusedSimpArgs false

set_option maxRecDepth 100000 in
theorem FnTimesFor_lifted (os : Os) (started : os.Started) (H : Type) (enc : TypeId × Value → H) :
    ReturnsInHanded {} Try.checked os 3 .any (Rows.fnTimesForSpec.pre6 enc Try.prog Try.f3 Rows.fnTimesForRow.domain false) (Rows.fnTimesForSpec.post enc Try.prog Try.f3 false true false false) := by
  refine returnsInHanded_of_change (C := Try.checked) own started (by kernel_rfl) Try.func3
    (ChangeSpec.witness6 (enc := enc) (C := Try.checked) false ⟨#[], #[.slice none 0 0], []⟩ 8 (by kernel_rfl) (by kernel_rfl) (by kernel_rfl) (by kernel_rfl)) ?_
  intro W base args ds gs before hval0 hW hcnd _
  have hval : ∀ (j : Nat) t v, Try.f3.params[j]? = some t → args[j]? = some v → Value.okWide Try.prog W .any base t v := hval0
  have hW' := hW
  obtain ⟨p, q, hA0, hV, rfl, hfz, hnd⟩ := hW
  have hA : DataW.TrodAll enc Try.prog W 0 (fun _ => true) true Try.f3.params.toList args.toList ds p := hA0
  rw [Try.params3] at hA hval
  obtain ⟨v0, vs0, d0, ds0, p0, q0, hargs, rfl, rfl, h0, r0⟩ := trodAll_cons hA
  obtain ⟨rfl, rfl, rfl⟩ := trodAll_nil r0
  obtain rfl : args = #[v0] := by cases args; simp_all
  obtain ⟨rfl, rfl⟩ := trodVars_none hV
  have k0 := h0
  have lt0 : ∀ x ∈ p0, x.block < W.heap.size := by obtain ⟨m, hm⟩ := k0; exact DataW.trod_lt m _ _ _ hm
  obtain ⟨A0, c0, xs0, e0, hB0, hl0⟩ := open_bytes_arg (hval 0 22 v0 rfl rfl) h0
  subst e0
  clear hA0 hval0
  refine (FnTimesFor_walk A0 c0 xs0 W hB0 hl0).mono fun e W' ⟨he, bel⟩ => ?_
  subst he
  exact ⟨_, rfl, _, _, _, [], _, [], hW', trodAll_mk1 (shut_bool Try.underlying4 _), (trodAll_cons_mk (Below.trod laidOut (by kernel_rfl) (of_decide_eq_true (by kernel_rfl)) k0 bel lt0) trodAll_mk0), rfl, bel.frame _, fun h => by cases h⟩
theorem FnTimesFor_fn : Try.pinned.checked.prog.funcNamed Rows.fnTimesForRow.func = some 3 := by kernel_rfl
theorem FnTimesFor_wf : Rows.fnTimesForRow.wf (OpenSpec.ofChange Rows.fnTimesForSpec) = true := by kernel_rfl
theorem FnTimesFor_c1 : (Rows.fnTimesForRow.inPlace == Try.pinned.checked.prog.inPlace 3) = true := by kernel_rfl
theorem FnTimesFor_c2 : (Rows.fnTimesForRow.unfollowed == Try.pinned.checked.prog.unfollowed 3) = true := by kernel_rfl
theorem FnTimesFor_c3 : (Rows.fnTimesForRow.recurses == Try.pinned.checked.prog.recurses 3) = true := by kernel_rfl
theorem FnTimesFor_c4 : (Rows.fnTimesForRow.named == Try.pinned.checked.prog.varsNamed 3) = true := by kernel_rfl
theorem FnTimesFor_c5 : (Rows.fnTimesForRow.plainKeys == Try.pinned.checked.prog.plainKeys) = true := by kernel_rfl
theorem FnTimesFor_c6 : (Rows.fnTimesForRow.lifted == Try.pinned.checked.prog.liftsFinal) = true := by rw [fact_lifts]; kernel_rfl
theorem FnTimesFor_c7 : (Try.pinned.checked.prog.make == some Rows.fnTimesForRow.make) = true := by rw [fact_make]; kernel_rfl
theorem FnTimesFor_inst : Try.f3.isInstance Try.pinned.checked.prog Rows.fnTimesForRow.origin Rows.fnTimesForRow.targs := of_decide_eq_true (by kernel_rfl)
theorem FnTimesFor_wrap : Try.f3.isWrapper Try.pinned.checked.prog Rows.fnTimesForRow.wrapper Rows.fnTimesForRow.mainSum := by
  unfold Func.isWrapper; first | (rw [if_pos (by decide +kernel)]; kernel_rfl) | (rw [if_neg (by decide +kernel)]; exact ⟨rfl, rfl⟩)
theorem FnTimesFor_closed : joinedFacts Try.pinned.checked.prog 3 Try.f3 Rows.fnTimesForSpec Rows.fnTimesForRow = true := by
  unfold joinedFacts
  repeat' (with_reducible refine and2 ?_ ?_)
  all_goals first | with_reducible exact fact_laid | with_reducible exact fact_maps | with_reducible exact fact_stops | with_reducible exact fact_enter | with_reducible exact FnTimesFor_wf | with_reducible exact FnTimesFor_c1 | with_reducible exact FnTimesFor_c2 | with_reducible exact FnTimesFor_c3 | with_reducible exact FnTimesFor_c4 | with_reducible exact FnTimesFor_c5 | with_reducible exact FnTimesFor_c6 | with_reducible exact FnTimesFor_c7 | kernel_rfl
theorem FnTimesFor_over : Rows.fnTimesForRow.holds Try.pinned (OpenSpec.ofChange Rows.fnTimesForSpec) :=
  OpenClaim.holds_of_wide 3 Try.f3 rfl rfl rfl rfl rfl rfl rfl ⟨rfl, rfl, rfl, rfl, rfl⟩ rfl rfl rfl rfl rfl FnTimesFor_fn Try.func3 FnTimesFor_closed FnTimesFor_inst FnTimesFor_wrap
    (fun os started H enc _ => FnTimesFor_lifted os started H enc)
theorem FnTimesFor_proved : Rows.FnTimesForSaid := FnTimesFor_over
#print axioms FnTimesFor_proved
end Go.Proofs.Ytnompncmachgjaa
