/- The law FnTimesOk returns true for every input; no condition. -/
import Derived.Test.YtaifpindiphlkaaWTimesOk
import Derived.Test.YtaifpindiphlkaaFrameB
import Derived.Test.YtaifpindiphlkaaHead
import Derived.Test.YtaifpindiphlkaaFrame
namespace Go.Proofs.Ytaifpindiphlkaa
open Go.ChangeShapes Go.WideShapes Go.ChangeAt Go.RowKit Go.Deep
open Go.ChangeMaps (open_string shut_string)
open Go.Joins
set_option linter.unusedVariables false
set_option maxRecDepth 10000
set_option linter.unusedSimpArgs false

set_option maxRecDepth 100000 in
theorem FnTimesOk_lifted (os : Os) (started : os.Started) (H : Type) (enc : TypeId × Value → H) :
    ReturnsInHanded {} Try.checked os 4 .any (Rows.fnTimesOkSpec.pre6 enc Try.prog Try.f4 Rows.fnTimesOkRow.domain false) (Rows.fnTimesOkSpec.post enc Try.prog Try.f4 false true false false) := by
  refine returnsInHanded_of_change (C := Try.checked) own started (by kernel_rfl) Try.func4
    (ChangeSpec.witness6 (enc := enc) (C := Try.checked) false ⟨#[], #[.slice none 0 0], []⟩ 8 (by kernel_rfl) (by kernel_rfl) (by kernel_rfl) (by kernel_rfl)) ?_
  intro W base args ds gs before hval0 hW hcnd _
  have hval : ∀ (j : Nat) t v, Try.f4.params[j]? = some t → args[j]? = some v → Value.okWide Try.prog W .any base t v := hval0
  have hW' := hW
  obtain ⟨p, q, hA0, hV, rfl, hfz, hnd⟩ := hW
  have hA : DataW.TrodAll enc Try.prog W 0 (fun _ => true) true Try.f4.params.toList args.toList ds p := hA0
  rw [Try.params4] at hA hval
  obtain ⟨v0, vs0, d0, ds0, p0, q0, hargs, rfl, rfl, h0, r0⟩ := trodAll_cons hA
  obtain ⟨rfl, rfl, rfl⟩ := trodAll_nil r0
  obtain rfl : args = #[v0] := by cases args; simp_all
  obtain ⟨rfl, rfl⟩ := trodVars_none hV
  have k0 := h0
  have lt0 : ∀ x ∈ p0, x.block < W.heap.size := by obtain ⟨m, hm⟩ := k0; exact DataW.trod_lt m _ _ _ hm
  obtain ⟨A0, c0, xs0, e0, hB0, hl0⟩ := open_bytes_arg (hval 0 22 v0 rfl rfl) h0
  subst e0
  clear hA0 hval0
  refine (FnTimesOk_walk A0 c0 xs0 W hB0 hl0).mono fun e W' ⟨he, bel⟩ => ?_
  subst he
  exact ⟨_, rfl, _, _, _, [], _, [], hW', trodAll_mk1 (shut_bool Try.underlying4 _), (trodAll_cons_mk (Below.trod laidOut (by kernel_rfl) (of_decide_eq_true (by kernel_rfl)) k0 bel lt0) trodAll_mk0), rfl, bel.frame _, fun h => by cases h⟩
theorem FnTimesOk_fn : Try.pinned.checked.prog.funcNamed Rows.fnTimesOkRow.func = some 4 := by kernel_rfl
theorem FnTimesOk_wf : Rows.fnTimesOkRow.wf (OpenSpec.ofChange Rows.fnTimesOkSpec) = true := by kernel_rfl
theorem FnTimesOk_c1 : (Rows.fnTimesOkRow.inPlace == Try.pinned.checked.prog.inPlace 4) = true := by kernel_rfl
theorem FnTimesOk_c2 : (Rows.fnTimesOkRow.unfollowed == Try.pinned.checked.prog.unfollowed 4) = true := by kernel_rfl
theorem FnTimesOk_c3 : (Rows.fnTimesOkRow.recurses == Try.pinned.checked.prog.recurses 4) = true := by kernel_rfl
theorem FnTimesOk_c4 : (Rows.fnTimesOkRow.named == Try.pinned.checked.prog.varsNamed 4) = true := by kernel_rfl
theorem FnTimesOk_c5 : (Rows.fnTimesOkRow.plainKeys == Try.pinned.checked.prog.plainKeys) = true := by kernel_rfl
theorem FnTimesOk_c6 : (Rows.fnTimesOkRow.lifted == Try.pinned.checked.prog.liftsFinal) = true := by rw [fact_lifts]; kernel_rfl
theorem FnTimesOk_c7 : (Try.pinned.checked.prog.make == some Rows.fnTimesOkRow.make) = true := by rw [fact_make]; kernel_rfl
theorem FnTimesOk_inst : Try.f4.isInstance Try.pinned.checked.prog Rows.fnTimesOkRow.origin Rows.fnTimesOkRow.targs := of_decide_eq_true (by kernel_rfl)
theorem FnTimesOk_wrap : Try.f4.isWrapper Try.pinned.checked.prog Rows.fnTimesOkRow.wrapper Rows.fnTimesOkRow.mainSum := by
  unfold Func.isWrapper; first | (rw [if_pos (by decide +kernel)]; kernel_rfl) | (rw [if_neg (by decide +kernel)]; exact ⟨rfl, rfl⟩)
theorem FnTimesOk_closed : joinedFacts Try.pinned.checked.prog 4 Try.f4 Rows.fnTimesOkSpec Rows.fnTimesOkRow = true := by
  unfold joinedFacts
  repeat' (with_reducible refine and2 ?_ ?_)
  all_goals first | with_reducible exact fact_laid | with_reducible exact fact_maps | with_reducible exact fact_stops | with_reducible exact fact_enter | with_reducible exact FnTimesOk_wf | with_reducible exact FnTimesOk_c1 | with_reducible exact FnTimesOk_c2 | with_reducible exact FnTimesOk_c3 | with_reducible exact FnTimesOk_c4 | with_reducible exact FnTimesOk_c5 | with_reducible exact FnTimesOk_c6 | with_reducible exact FnTimesOk_c7 | kernel_rfl
theorem FnTimesOk_over : Rows.fnTimesOkRow.holds Try.pinned (OpenSpec.ofChange Rows.fnTimesOkSpec) :=
  OpenClaim.holds_of_wide 4 Try.f4 rfl rfl rfl rfl rfl rfl rfl ⟨rfl, rfl, rfl, rfl, rfl⟩ rfl rfl rfl rfl rfl FnTimesOk_fn Try.func4 FnTimesOk_closed FnTimesOk_inst FnTimesOk_wrap
    (fun os started H enc _ => FnTimesOk_lifted os started H enc)
theorem FnTimesOk_proved : Rows.FnTimesOkSaid := FnTimesOk_over
#print axioms FnTimesOk_proved
end Go.Proofs.Ytaifpindiphlkaa
