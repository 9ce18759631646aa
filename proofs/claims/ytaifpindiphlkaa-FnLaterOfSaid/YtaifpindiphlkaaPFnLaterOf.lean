/- The law FnLaterOf returns true for every input; no condition. -/
import Derived.Test.YtaifpindiphlkaaWLaterOf
import Derived.Test.YtaifpindiphlkaaFrameB
import Derived.Test.YtaifpindiphlkaaHead
import Derived.Test.YtaifpindiphlkaaFrame
namespace Go.Proofs.Ytaifpindiphlkaa
open Go.ChangeShapes Go.WideShapes Go.ChangeAt Go.RowKit Go.Deep
open Go.ChangeMaps (open_string shut_string)
open Go.Joins
set_option linter.unusedVariables false
set_option maxRecDepth 10000
set_option linter.unusedSimpArgs false

set_option maxRecDepth 100000 in
theorem FnLaterOf_lifted (os : Os) (started : os.Started) (H : Type) (enc : TypeId × Value → H) :
    ReturnsInHanded {} Try.checked os 5 .any (Rows.fnLaterOfSpec.pre6 enc Try.prog Try.f5 Rows.fnLaterOfRow.domain false) (Rows.fnLaterOfSpec.post enc Try.prog Try.f5 false true false false) := by
  refine returnsInHanded_of_change (C := Try.checked) own started (by kernel_rfl) Try.func5
    (ChangeSpec.witness6 (enc := enc) (C := Try.checked) false ⟨#[], #[.slice none 0 0], []⟩ 8 (by kernel_rfl) (by kernel_rfl) (by kernel_rfl) (by kernel_rfl)) ?_
  intro W base args ds gs before hval0 hW hcnd _
  have hval : ∀ (j : Nat) t v, Try.f5.params[j]? = some t → args[j]? = some v → Value.okWide Try.prog W .any base t v := hval0
  have hW' := hW
  obtain ⟨p, q, hA0, hV, rfl, hfz, hnd⟩ := hW
  have hA : DataW.TrodAll enc Try.prog W 0 (fun _ => true) true Try.f5.params.toList args.toList ds p := hA0
  rw [Try.params5] at hA hval
  obtain ⟨v0, vs0, d0, ds0, p0, q0, hargs, rfl, rfl, h0, r0⟩ := trodAll_cons hA
  obtain ⟨rfl, rfl, rfl⟩ := trodAll_nil r0
  obtain rfl : args = #[v0] := by cases args; simp_all
  obtain ⟨rfl, rfl⟩ := trodVars_none hV
  have k0 := h0
  have lt0 : ∀ x ∈ p0, x.block < W.heap.size := by obtain ⟨m, hm⟩ := k0; exact DataW.trod_lt m _ _ _ hm
  obtain ⟨A0, c0, xs0, e0, hB0, hl0⟩ := open_bytes_arg (hval 0 22 v0 rfl rfl) h0
  subst e0
  clear hA0 hval0
  refine (FnLaterOf_walk A0 c0 xs0 W hB0 hl0).mono fun e W' ⟨he, bel⟩ => ?_
  subst he
  exact ⟨_, rfl, _, _, _, [], _, [], hW', trodAll_mk1 (shut_bool Try.underlying4 _), (trodAll_cons_mk (Below.trod laidOut (by kernel_rfl) (of_decide_eq_true (by kernel_rfl)) k0 bel lt0) trodAll_mk0), rfl, bel.frame _, fun h => by cases h⟩
theorem FnLaterOf_fn : Try.pinned.checked.prog.funcNamed Rows.fnLaterOfRow.func = some 5 := by kernel_rfl
theorem FnLaterOf_wf : Rows.fnLaterOfRow.wf (OpenSpec.ofChange Rows.fnLaterOfSpec) = true := by kernel_rfl
theorem FnLaterOf_c1 : (Rows.fnLaterOfRow.inPlace == Try.pinned.checked.prog.inPlace 5) = true := by kernel_rfl
theorem FnLaterOf_c2 : (Rows.fnLaterOfRow.unfollowed == Try.pinned.checked.prog.unfollowed 5) = true := by kernel_rfl
theorem FnLaterOf_c3 : (Rows.fnLaterOfRow.recurses == Try.pinned.checked.prog.recurses 5) = true := by kernel_rfl
theorem FnLaterOf_c4 : (Rows.fnLaterOfRow.named == Try.pinned.checked.prog.varsNamed 5) = true := by kernel_rfl
theorem FnLaterOf_c5 : (Rows.fnLaterOfRow.plainKeys == Try.pinned.checked.prog.plainKeys) = true := by kernel_rfl
theorem FnLaterOf_c6 : (Rows.fnLaterOfRow.lifted == Try.pinned.checked.prog.liftsFinal) = true := by rw [fact_lifts]; kernel_rfl
theorem FnLaterOf_c7 : (Try.pinned.checked.prog.make == some Rows.fnLaterOfRow.make) = true := by rw [fact_make]; kernel_rfl
theorem FnLaterOf_inst : Try.f5.isInstance Try.pinned.checked.prog Rows.fnLaterOfRow.origin Rows.fnLaterOfRow.targs := of_decide_eq_true (by kernel_rfl)
theorem FnLaterOf_wrap : Try.f5.isWrapper Try.pinned.checked.prog Rows.fnLaterOfRow.wrapper Rows.fnLaterOfRow.mainSum := by
  unfold Func.isWrapper; first | (rw [if_pos (by decide +kernel)]; kernel_rfl) | (rw [if_neg (by decide +kernel)]; exact ⟨rfl, rfl⟩)
theorem FnLaterOf_closed : joinedFacts Try.pinned.checked.prog 5 Try.f5 Rows.fnLaterOfSpec Rows.fnLaterOfRow = true := by
  unfold joinedFacts
  repeat' (with_reducible refine and2 ?_ ?_)
  all_goals first | with_reducible exact fact_laid | with_reducible exact fact_maps | with_reducible exact fact_stops | with_reducible exact fact_enter | with_reducible exact FnLaterOf_wf | with_reducible exact FnLaterOf_c1 | with_reducible exact FnLaterOf_c2 | with_reducible exact FnLaterOf_c3 | with_reducible exact FnLaterOf_c4 | with_reducible exact FnLaterOf_c5 | with_reducible exact FnLaterOf_c6 | with_reducible exact FnLaterOf_c7 | kernel_rfl
theorem FnLaterOf_over : Rows.fnLaterOfRow.holds Try.pinned (OpenSpec.ofChange Rows.fnLaterOfSpec) :=
  OpenClaim.holds_of_wide 5 Try.f5 rfl rfl rfl rfl rfl rfl rfl ⟨rfl, rfl, rfl, rfl, rfl⟩ rfl rfl rfl rfl rfl FnLaterOf_fn Try.func5 FnLaterOf_closed FnLaterOf_inst FnLaterOf_wrap
    (fun os started H enc _ => FnLaterOf_lifted os started H enc)
theorem FnLaterOf_proved : Rows.FnLaterOfSaid := FnLaterOf_over
#print axioms FnLaterOf_proved
end Go.Proofs.Ytaifpindiphlkaa
