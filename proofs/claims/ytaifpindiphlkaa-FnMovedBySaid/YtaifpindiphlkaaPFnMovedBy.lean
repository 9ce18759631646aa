/- The law FnMovedBy returns true for every input; no condition. -/
import Derived.Test.YtaifpindiphlkaaWMovedBy
import Derived.Test.YtaifpindiphlkaaFrameB
import Derived.Test.YtaifpindiphlkaaHead
import Derived.Test.YtaifpindiphlkaaFrame
namespace Go.Proofs.Ytaifpindiphlkaa
open Go.ChangeShapes Go.WideShapes Go.ChangeAt Go.RowKit Go.Deep
open Go.ChangeMaps (open_string shut_string)
open Go.Joins
set_option linter.unusedVariables false
set_option maxRecDepth 10000
set_option linter.unusedSimpArgs false

set_option maxRecDepth 100000 in
theorem FnMovedBy_lifted (os : Os) (started : os.Started) (H : Type) (enc : TypeId × Value → H) :
    ReturnsInHanded {} Try.checked os 6 .any (Rows.fnMovedBySpec.pre6 enc Try.prog Try.f6 Rows.fnMovedByRow.domain false) (Rows.fnMovedBySpec.post enc Try.prog Try.f6 false true false false) := by
  refine returnsInHanded_of_change (C := Try.checked) own started (by kernel_rfl) Try.func6
    (ChangeSpec.witness6 (enc := enc) (C := Try.checked) false ⟨#[], #[.slice none 0 0], []⟩ 8 (by kernel_rfl) (by kernel_rfl) (by kernel_rfl) (by kernel_rfl)) ?_
  intro W base args ds gs before hval0 hW hcnd _
  have hval : ∀ (j : Nat) t v, Try.f6.params[j]? = some t → args[j]? = some v → Value.okWide Try.prog W .any base t v := hval0
  have hW' := hW
  obtain ⟨p, q, hA0, hV, rfl, hfz, hnd⟩ := hW
  have hA : DataW.TrodAll enc Try.prog W 0 (fun _ => true) true Try.f6.params.toList args.toList ds p := hA0
  rw [Try.params6] at hA hval
  obtain ⟨v0, vs0, d0, ds0, p0, q0, hargs, rfl, rfl, h0, r0⟩ := trodAll_cons hA
  obtain ⟨rfl, rfl, rfl⟩ := trodAll_nil r0
  obtain rfl : args = #[v0] := by cases args; simp_all
  obtain ⟨rfl, rfl⟩ := trodVars_none hV
  have k0 := h0
  have lt0 : ∀ x ∈ p0, x.block < W.heap.size := by obtain ⟨m, hm⟩ := k0; exact DataW.trod_lt m _ _ _ hm
  obtain ⟨A0, c0, xs0, e0, hB0, hl0⟩ := open_bytes_arg (hval 0 22 v0 rfl rfl) h0
  subst e0
  clear hA0 hval0
  refine (FnMovedBy_walk A0 c0 xs0 W hB0 hl0).mono fun e W' ⟨he, bel⟩ => ?_
  subst he
  exact ⟨_, rfl, _, _, _, [], _, [], hW', trodAll_mk1 (shut_bool Try.underlying4 _), (trodAll_cons_mk (Below.trod laidOut (by kernel_rfl) (of_decide_eq_true (by kernel_rfl)) k0 bel lt0) trodAll_mk0), rfl, bel.frame _, fun h => by cases h⟩
theorem FnMovedBy_fn : Try.pinned.checked.prog.funcNamed Rows.fnMovedByRow.func = some 6 := by kernel_rfl
theorem FnMovedBy_wf : Rows.fnMovedByRow.wf (OpenSpec.ofChange Rows.fnMovedBySpec) = true := by kernel_rfl
theorem FnMovedBy_c1 : (Rows.fnMovedByRow.inPlace == Try.pinned.checked.prog.inPlace 6) = true := by kernel_rfl
theorem FnMovedBy_c2 : (Rows.fnMovedByRow.unfollowed == Try.pinned.checked.prog.unfollowed 6) = true := by kernel_rfl
theorem FnMovedBy_c3 : (Rows.fnMovedByRow.recurses == Try.pinned.checked.prog.recurses 6) = true := by kernel_rfl
theorem FnMovedBy_c4 : (Rows.fnMovedByRow.named == Try.pinned.checked.prog.varsNamed 6) = true := by kernel_rfl
theorem FnMovedBy_c5 : (Rows.fnMovedByRow.plainKeys == Try.pinned.checked.prog.plainKeys) = true := by kernel_rfl
theorem FnMovedBy_c6 : (Rows.fnMovedByRow.lifted == Try.pinned.checked.prog.liftsFinal) = true := by rw [fact_lifts]; kernel_rfl
theorem FnMovedBy_c7 : (Try.pinned.checked.prog.make == some Rows.fnMovedByRow.make) = true := by rw [fact_make]; kernel_rfl
theorem FnMovedBy_inst : Try.f6.isInstance Try.pinned.checked.prog Rows.fnMovedByRow.origin Rows.fnMovedByRow.targs := of_decide_eq_true (by kernel_rfl)
theorem FnMovedBy_wrap : Try.f6.isWrapper Try.pinned.checked.prog Rows.fnMovedByRow.wrapper Rows.fnMovedByRow.mainSum := by
  unfold Func.isWrapper; first | (rw [if_pos (by decide +kernel)]; kernel_rfl) | (rw [if_neg (by decide +kernel)]; exact ⟨rfl, rfl⟩)
theorem FnMovedBy_closed : joinedFacts Try.pinned.checked.prog 6 Try.f6 Rows.fnMovedBySpec Rows.fnMovedByRow = true := by
  unfold joinedFacts
  repeat' (with_reducible refine and2 ?_ ?_)
  all_goals first | with_reducible exact fact_laid | with_reducible exact fact_maps | with_reducible exact fact_stops | with_reducible exact fact_enter | with_reducible exact FnMovedBy_wf | with_reducible exact FnMovedBy_c1 | with_reducible exact FnMovedBy_c2 | with_reducible exact FnMovedBy_c3 | with_reducible exact FnMovedBy_c4 | with_reducible exact FnMovedBy_c5 | with_reducible exact FnMovedBy_c6 | with_reducible exact FnMovedBy_c7 | kernel_rfl
theorem FnMovedBy_over : Rows.fnMovedByRow.holds Try.pinned (OpenSpec.ofChange Rows.fnMovedBySpec) :=
  OpenClaim.holds_of_wide 6 Try.f6 rfl rfl rfl rfl rfl rfl rfl ⟨rfl, rfl, rfl, rfl, rfl⟩ rfl rfl rfl rfl rfl FnMovedBy_fn Try.func6 FnMovedBy_closed FnMovedBy_inst FnMovedBy_wrap
    (fun os started H enc _ => FnMovedBy_lifted os started H enc)
theorem FnMovedBy_proved : Rows.FnMovedBySaid := FnMovedBy_over
#print axioms FnMovedBy_proved
end Go.Proofs.Ytaifpindiphlkaa
