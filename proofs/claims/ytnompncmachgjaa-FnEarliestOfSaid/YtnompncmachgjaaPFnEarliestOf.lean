/- The law FnEarliestOf returns true for every input; no condition. -/
import Derived.Test.YtnompncmachgjaaWEarliestOf
import Derived.Test.YtnompncmachgjaaFrameB
import Derived.Test.YtnompncmachgjaaHead
import Derived.Test.YtnompncmachgjaaFrame
namespace Go.Proofs.Ytnompncmachgjaa
open Go.ChangeShapes Go.WideShapes Go.ChangeAt Go.RowKit Go.Deep
open Go.ChangeMaps (open_string shut_string)
open Go.Joins
set_option linter.unusedVariables false
set_option maxRecDepth 10000
set_option linter.unusedSimpArgs false

set_option maxRecDepth 100000 in
theorem FnEarliestOf_lifted (os : Os) (started : os.Started) (H : Type) (enc : TypeId × Value → H) :
    ReturnsInHanded {} Try.checked os 14 .any (Rows.fnEarliestOfSpec.pre6 enc Try.prog Try.f14 Rows.fnEarliestOfRow.domain false) (Rows.fnEarliestOfSpec.post enc Try.prog Try.f14 false true false false) := by
  refine returnsInHanded_of_change (C := Try.checked) own started (by kernel_rfl) Try.func14
    (ChangeSpec.witness6 (enc := enc) (C := Try.checked) false ⟨#[], #[.slice none 0 0, .slice none 0 0], []⟩ 8 (by kernel_rfl) (by kernel_rfl) (by kernel_rfl) (by kernel_rfl)) ?_
  intro W base args ds gs before hval0 hW hcnd _
  have hval : ∀ (j : Nat) t v, Try.f14.params[j]? = some t → args[j]? = some v → Value.okWide Try.prog W .any base t v := hval0
  have hW' := hW
  obtain ⟨p, q, hA0, hV, rfl, hfz, hnd⟩ := hW
  have hA : DataW.TrodAll enc Try.prog W 0 (fun _ => true) true Try.f14.params.toList args.toList ds p := hA0
  rw [Try.params14] at hA hval
  obtain ⟨v0, vs0, d0, ds0, p0, q0, hargs, rfl, rfl, h0, r0⟩ := trodAll_cons hA
  obtain ⟨v1, vs1, d1, ds1, p1, q1, rfl, rfl, rfl, h1, r1⟩ := trodAll_cons r0
  obtain ⟨rfl, rfl, rfl⟩ := trodAll_nil r1
  obtain rfl : args = #[v0, v1] := by cases args; simp_all
  obtain ⟨rfl, rfl⟩ := trodVars_none hV
  have k0 := h0
  have lt0 : ∀ x ∈ p0, x.block < W.heap.size := by obtain ⟨m, hm⟩ := k0; exact DataW.trod_lt m _ _ _ hm
  obtain ⟨A0, c0, xs0, e0, hB0, hl0⟩ := open_bytes_arg (hval 0 22 v0 rfl rfl) h0
  subst e0
  have k1 := h1
  have lt1 : ∀ x ∈ p1, x.block < W.heap.size := by obtain ⟨m, hm⟩ := k1; exact DataW.trod_lt m _ _ _ hm
  obtain ⟨A1, c1, xs1, e1, hB1, hl1⟩ := open_bytes_arg (hval 1 22 v1 rfl rfl) h1
  subst e1
  clear hA0 hval0
  refine (FnEarliestOf_walk A0 c0 xs0 A1 c1 xs1 W hB0 hl0 hB1 hl1).mono fun e W' ⟨he, bel⟩ => ?_
  subst he
  exact ⟨_, rfl, _, _, _, [], _, [], hW', trodAll_mk1 (shut_bool Try.underlying4 _), (trodAll_cons_mk (Below.trod laidOut (by kernel_rfl) (of_decide_eq_true (by kernel_rfl)) k0 bel lt0) (trodAll_cons_mk (Below.trod laidOut (by kernel_rfl) (of_decide_eq_true (by kernel_rfl)) k1 bel lt1) trodAll_mk0)), rfl, bel.frame _, fun h => by cases h⟩
theorem FnEarliestOf_fn : Try.pinned.checked.prog.funcNamed Rows.fnEarliestOfRow.func = some 14 := by kernel_rfl
theorem FnEarliestOf_wf : Rows.fnEarliestOfRow.wf (OpenSpec.ofChange Rows.fnEarliestOfSpec) = true := by kernel_rfl
theorem FnEarliestOf_c1 : (Rows.fnEarliestOfRow.inPlace == Try.pinned.checked.prog.inPlace 14) = true := by kernel_rfl
theorem FnEarliestOf_c2 : (Rows.fnEarliestOfRow.unfollowed == Try.pinned.checked.prog.unfollowed 14) = true := by kernel_rfl
theorem FnEarliestOf_c3 : (Rows.fnEarliestOfRow.recurses == Try.pinned.checked.prog.recurses 14) = true := by kernel_rfl
theorem FnEarliestOf_c4 : (Rows.fnEarliestOfRow.named == Try.pinned.checked.prog.varsNamed 14) = true := by kernel_rfl
theorem FnEarliestOf_c5 : (Rows.fnEarliestOfRow.plainKeys == Try.pinned.checked.prog.plainKeys) = true := by kernel_rfl
theorem FnEarliestOf_c6 : (Rows.fnEarliestOfRow.lifted == Try.pinned.checked.prog.liftsFinal) = true := by rw [fact_lifts]; kernel_rfl
theorem FnEarliestOf_c7 : (Try.pinned.checked.prog.make == some Rows.fnEarliestOfRow.make) = true := by rw [fact_make]; kernel_rfl
theorem FnEarliestOf_inst : Try.f14.isInstance Try.pinned.checked.prog Rows.fnEarliestOfRow.origin Rows.fnEarliestOfRow.targs := of_decide_eq_true (by kernel_rfl)
theorem FnEarliestOf_wrap : Try.f14.isWrapper Try.pinned.checked.prog Rows.fnEarliestOfRow.wrapper Rows.fnEarliestOfRow.mainSum := by
  unfold Func.isWrapper; first | (rw [if_pos (by decide +kernel)]; kernel_rfl) | (rw [if_neg (by decide +kernel)]; exact ⟨rfl, rfl⟩)
theorem FnEarliestOf_closed : joinedFacts Try.pinned.checked.prog 14 Try.f14 Rows.fnEarliestOfSpec Rows.fnEarliestOfRow = true := by
  unfold joinedFacts
  repeat' (with_reducible refine and2 ?_ ?_)
  all_goals first | with_reducible exact fact_laid | with_reducible exact fact_maps | with_reducible exact fact_stops | with_reducible exact fact_enter | with_reducible exact FnEarliestOf_wf | with_reducible exact FnEarliestOf_c1 | with_reducible exact FnEarliestOf_c2 | with_reducible exact FnEarliestOf_c3 | with_reducible exact FnEarliestOf_c4 | with_reducible exact FnEarliestOf_c5 | with_reducible exact FnEarliestOf_c6 | with_reducible exact FnEarliestOf_c7 | kernel_rfl
theorem FnEarliestOf_over : Rows.fnEarliestOfRow.holds Try.pinned (OpenSpec.ofChange Rows.fnEarliestOfSpec) :=
  OpenClaim.holds_of_wide 14 Try.f14 rfl rfl rfl rfl rfl rfl rfl ⟨rfl, rfl, rfl, rfl, rfl⟩ rfl rfl rfl rfl rfl FnEarliestOf_fn Try.func14 FnEarliestOf_closed FnEarliestOf_inst FnEarliestOf_wrap
    (fun os started H enc _ => FnEarliestOf_lifted os started H enc)
theorem FnEarliestOf_proved : Rows.FnEarliestOfSaid := FnEarliestOf_over
#print axioms FnEarliestOf_proved
end Go.Proofs.Ytnompncmachgjaa
