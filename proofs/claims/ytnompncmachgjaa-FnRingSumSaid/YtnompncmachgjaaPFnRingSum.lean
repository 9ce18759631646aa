/- The law FnRingSum returns true for every input; no condition. -/
import Derived.Test.YtnompncmachgjaaWRingSum
import Derived.Test.YtnompncmachgjaaFrameB
import Derived.Test.YtnompncmachgjaaHead
import Derived.Test.YtnompncmachgjaaFrame
namespace Go.Proofs.Ytnompncmachgjaa
open Go.ChangeShapes Go.WideShapes Go.ChangeAt Go.RowKit Go.Deep
open Go.ChangeMaps (open_string shut_string)
open Go.Joins
set_option linter.unusedVariables false
set_option maxRecDepth 10000
set_option linter.unusedSimpArgs false

set_option maxRecDepth 100000 in
theorem FnRingSum_lifted (os : Os) (started : os.Started) (H : Type) (enc : TypeId × Value → H) :
    ReturnsInHanded {} Try.checked os 11 .any (Rows.fnRingSumSpec.pre6 enc Try.prog Try.f11 Rows.fnRingSumRow.domain false) (Rows.fnRingSumSpec.post enc Try.prog Try.f11 false true false false) := by
  refine returnsInHanded_of_change (C := Try.checked) own started (by kernel_rfl) Try.func11
    (ChangeSpec.witness6 (enc := enc) (C := Try.checked) false ⟨#[], #[.slice none 0 0], []⟩ 8 (by kernel_rfl) (by kernel_rfl) (by kernel_rfl) (by kernel_rfl)) ?_
  intro W base args ds gs before hval0 hW hcnd _
  have hval : ∀ (j : Nat) t v, Try.f11.params[j]? = some t → args[j]? = some v → Value.okWide Try.prog W .any base t v := hval0
  have hW' := hW
  obtain ⟨p, q, hA0, hV, rfl, hfz, hnd⟩ := hW
  have hA : DataW.TrodAll enc Try.prog W 0 (fun _ => true) true Try.f11.params.toList args.toList ds p := hA0
  rw [Try.params11] at hA hval
  obtain ⟨v0, vs0, d0, ds0, p0, q0, hargs, rfl, rfl, h0, r0⟩ := trodAll_cons hA
  obtain ⟨rfl, rfl, rfl⟩ := trodAll_nil r0
  obtain rfl : args = #[v0] := by cases args; simp_all
  obtain ⟨rfl, rfl⟩ := trodVars_none hV
  have k0 := h0
  have lt0 : ∀ x ∈ p0, x.block < W.heap.size := by obtain ⟨m, hm⟩ := k0; exact DataW.trod_lt m _ _ _ hm
  obtain ⟨A0, c0, xs0, e0, hB0, hl0⟩ := open_bytes_arg (hval 0 22 v0 rfl rfl) h0
  subst e0
  clear hA0 hval0
  refine (FnRingSum_walk A0 c0 xs0 W hB0 hl0).mono fun e W' ⟨he, bel⟩ => ?_
  subst he
  exact ⟨_, rfl, _, _, _, [], _, [], hW', trodAll_mk1 (shut_bool Try.underlying4 _), (trodAll_cons_mk (Below.trod laidOut (by kernel_rfl) (of_decide_eq_true (by kernel_rfl)) k0 bel lt0) trodAll_mk0), rfl, bel.frame _, fun h => by cases h⟩
theorem FnRingSum_fn : Try.pinned.checked.prog.funcNamed Rows.fnRingSumRow.func = some 11 := by kernel_rfl
theorem FnRingSum_wf : Rows.fnRingSumRow.wf (OpenSpec.ofChange Rows.fnRingSumSpec) = true := by kernel_rfl
theorem FnRingSum_c1 : (Rows.fnRingSumRow.inPlace == Try.pinned.checked.prog.inPlace 11) = true := by kernel_rfl
theorem FnRingSum_c2 : (Rows.fnRingSumRow.unfollowed == Try.pinned.checked.prog.unfollowed 11) = true := by kernel_rfl
theorem FnRingSum_c3 : (Rows.fnRingSumRow.recurses == Try.pinned.checked.prog.recurses 11) = true := by kernel_rfl
theorem FnRingSum_c4 : (Rows.fnRingSumRow.named == Try.pinned.checked.prog.varsNamed 11) = true := by kernel_rfl
theorem FnRingSum_c5 : (Rows.fnRingSumRow.plainKeys == Try.pinned.checked.prog.plainKeys) = true := by kernel_rfl
theorem FnRingSum_c6 : (Rows.fnRingSumRow.lifted == Try.pinned.checked.prog.liftsFinal) = true := by rw [fact_lifts]; kernel_rfl
theorem FnRingSum_c7 : (Try.pinned.checked.prog.make == some Rows.fnRingSumRow.make) = true := by rw [fact_make]; kernel_rfl
theorem FnRingSum_inst : Try.f11.isInstance Try.pinned.checked.prog Rows.fnRingSumRow.origin Rows.fnRingSumRow.targs := of_decide_eq_true (by kernel_rfl)
theorem FnRingSum_wrap : Try.f11.isWrapper Try.pinned.checked.prog Rows.fnRingSumRow.wrapper Rows.fnRingSumRow.mainSum := by
  unfold Func.isWrapper; first | (rw [if_pos (by decide +kernel)]; kernel_rfl) | (rw [if_neg (by decide +kernel)]; exact ⟨rfl, rfl⟩)
theorem FnRingSum_closed : joinedFacts Try.pinned.checked.prog 11 Try.f11 Rows.fnRingSumSpec Rows.fnRingSumRow = true := by
  unfold joinedFacts
  repeat' (with_reducible refine and2 ?_ ?_)
  all_goals first | with_reducible exact fact_laid | with_reducible exact fact_maps | with_reducible exact fact_stops | with_reducible exact fact_enter | with_reducible exact FnRingSum_wf | with_reducible exact FnRingSum_c1 | with_reducible exact FnRingSum_c2 | with_reducible exact FnRingSum_c3 | with_reducible exact FnRingSum_c4 | with_reducible exact FnRingSum_c5 | with_reducible exact FnRingSum_c6 | with_reducible exact FnRingSum_c7 | kernel_rfl
theorem FnRingSum_over : Rows.fnRingSumRow.holds Try.pinned (OpenSpec.ofChange Rows.fnRingSumSpec) :=
  OpenClaim.holds_of_wide 11 Try.f11 rfl rfl rfl rfl rfl rfl rfl ⟨rfl, rfl, rfl, rfl, rfl⟩ rfl rfl rfl rfl rfl FnRingSum_fn Try.func11 FnRingSum_closed FnRingSum_inst FnRingSum_wrap
    (fun os started H enc _ => FnRingSum_lifted os started H enc)
theorem FnRingSum_proved : Rows.FnRingSumSaid := FnRingSum_over
#print axioms FnRingSum_proved
end Go.Proofs.Ytnompncmachgjaa
