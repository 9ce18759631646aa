/- The law FnBrokenOf returns true for every input; no condition. -/
import Derived.Test.YtaifpindiphlkaaWBrokenOf
import Derived.Test.YtaifpindiphlkaaFrameB
import Derived.Test.YtaifpindiphlkaaHead
import Derived.Test.YtaifpindiphlkaaFrame
namespace Go.Proofs.Ytaifpindiphlkaa
open Go.ChangeShapes Go.WideShapes Go.ChangeAt Go.RowKit Go.Deep
open Go.ChangeMaps (open_string shut_string)
open Go.Joins
set_option linter.unusedVariables false
set_option maxRecDepth 10000
set_option linter.unusedSimpArgs false

set_option maxRecDepth 100000 in
theorem FnBrokenOf_lifted (os : Os) (started : os.Started) (H : Type) (enc : TypeId × Value → H) :
    ReturnsInHanded {} Try.checked os 7 .any (Rows.fnBrokenOfSpec.pre6 enc Try.prog Try.f7 Rows.fnBrokenOfRow.domain false) (Rows.fnBrokenOfSpec.post enc Try.prog Try.f7 false true false false) := by
  refine returnsInHanded_of_change (C := Try.checked) own started (by kernel_rfl) Try.func7
    (ChangeSpec.witness6 (enc := enc) (C := Try.checked) false ⟨#[], #[.slice none 0 0], []⟩ 8 (by kernel_rfl) (by kernel_rfl) (by kernel_rfl) (by kernel_rfl)) ?_
  intro W base args ds gs before hval0 hW hcnd _
  have hval : ∀ (j : Nat) t v, Try.f7.params[j]? = some t → args[j]? = some v → Value.okWide Try.prog W .any base t v := hval0
  have hW' := hW
  obtain ⟨p, q, hA0, hV, rfl, hfz, hnd⟩ := hW
  have hA : DataW.TrodAll enc Try.prog W 0 (fun _ => true) true Try.f7.params.toList args.toList ds p := hA0
  rw [Try.params7] at hA hval
  obtain ⟨v0, vs0, d0, ds0, p0, q0, hargs, rfl, rfl, h0, r0⟩ := trodAll_cons hA
  obtain ⟨rfl, rfl, rfl⟩ := trodAll_nil r0
  obtain rfl : args = #[v0] := by cases args; simp_all
  obtain ⟨rfl, rfl⟩ := trodVars_none hV
  have k0 := h0
  have lt0 : ∀ x ∈ p0, x.block < W.heap.size := by obtain ⟨m, hm⟩ := k0; exact DataW.trod_lt m _ _ _ hm
  obtain ⟨A0, c0, xs0, e0, hB0, hl0⟩ := open_bytes_arg (hval 0 22 v0 rfl rfl) h0
  subst e0
  clear hA0 hval0
  refine (FnBrokenOf_walk A0 c0 xs0 W hB0 hl0).mono fun e W' ⟨he, bel⟩ => ?_
  subst he
  exact ⟨_, rfl, _, _, _, [], _, [], hW', trodAll_mk1 (shut_bool Try.underlying4 _), (trodAll_cons_mk (Below.trod laidOut (by kernel_rfl) (of_decide_eq_true (by kernel_rfl)) k0 bel lt0) trodAll_mk0), rfl, bel.frame _, fun h => by cases h⟩
theorem FnBrokenOf_fn : Try.pinned.checked.prog.funcNamed Rows.fnBrokenOfRow.func = some 7 := by kernel_rfl
theorem FnBrokenOf_wf : Rows.fnBrokenOfRow.wf (OpenSpec.ofChange Rows.fnBrokenOfSpec) = true := by kernel_rfl
theorem FnBrokenOf_c1 : (Rows.fnBrokenOfRow.inPlace == Try.pinned.checked.prog.inPlace 7) = true := by kernel_rfl
theorem FnBrokenOf_c2 : (Rows.fnBrokenOfRow.unfollowed == Try.pinned.checked.prog.unfollowed 7) = true := by kernel_rfl
theorem FnBrokenOf_c3 : (Rows.fnBrokenOfRow.recurses == Try.pinned.checked.prog.recurses 7) = true := by kernel_rfl
theorem FnBrokenOf_c4 : (Rows.fnBrokenOfRow.named == Try.pinned.checked.prog.varsNamed 7) = true := by kernel_rfl
theorem FnBrokenOf_c5 : (Rows.fnBrokenOfRow.plainKeys == Try.pinned.checked.prog.plainKeys) = true := by kernel_rfl
theorem FnBrokenOf_c6 : (Rows.fnBrokenOfRow.lifted == Try.pinned.checked.prog.liftsFinal) = true := by rw [fact_lifts]; kernel_rfl
theorem FnBrokenOf_c7 : (Try.pinned.checked.prog.make == some Rows.fnBrokenOfRow.make) = true := by rw [fact_make]; kernel_rfl
theorem FnBrokenOf_inst : Try.f7.isInstance Try.pinned.checked.prog Rows.fnBrokenOfRow.origin Rows.fnBrokenOfRow.targs := of_decide_eq_true (by kernel_rfl)
theorem FnBrokenOf_wrap : Try.f7.isWrapper Try.pinned.checked.prog Rows.fnBrokenOfRow.wrapper Rows.fnBrokenOfRow.mainSum := by
  unfold Func.isWrapper; first | (rw [if_pos (by decide +kernel)]; kernel_rfl) | (rw [if_neg (by decide +kernel)]; exact ⟨rfl, rfl⟩)
theorem FnBrokenOf_closed : joinedFacts Try.pinned.checked.prog 7 Try.f7 Rows.fnBrokenOfSpec Rows.fnBrokenOfRow = true := by
  unfold joinedFacts
  repeat' (with_reducible refine and2 ?_ ?_)
  all_goals first | with_reducible exact fact_laid | with_reducible exact fact_maps | with_reducible exact fact_stops | with_reducible exact fact_enter | with_reducible exact FnBrokenOf_wf | with_reducible exact FnBrokenOf_c1 | with_reducible exact FnBrokenOf_c2 | with_reducible exact FnBrokenOf_c3 | with_reducible exact FnBrokenOf_c4 | with_reducible exact FnBrokenOf_c5 | with_reducible exact FnBrokenOf_c6 | with_reducible exact FnBrokenOf_c7 | kernel_rfl
theorem FnBrokenOf_over : Rows.fnBrokenOfRow.holds Try.pinned (OpenSpec.ofChange Rows.fnBrokenOfSpec) :=
  OpenClaim.holds_of_wide 7 Try.f7 rfl rfl rfl rfl rfl rfl rfl ⟨rfl, rfl, rfl, rfl, rfl⟩ rfl rfl rfl rfl rfl FnBrokenOf_fn Try.func7 FnBrokenOf_closed FnBrokenOf_inst FnBrokenOf_wrap
    (fun os started H enc _ => FnBrokenOf_lifted os started H enc)
theorem FnBrokenOf_proved : Rows.FnBrokenOfSaid := FnBrokenOf_over
#print axioms FnBrokenOf_proved
end Go.Proofs.Ytaifpindiphlkaa
