/- The law FnExactTimesFor returns true for every input; no condition. -/
import Derived.Test.YtaifpindiphlkacWExTimesFor
import Derived.Test.YtaifpindiphlkacFrame
import Derived.Test.YtaifpindiphlkacHead
namespace Go.Proofs.Ytaifpindiphlkac
open Go.ChangeShapes Go.WideShapes Go.ChangeAt Go.RowKit Go.Deep
open Go.ChangeMaps (open_string shut_string)
open Go.Joins
set_option linter.unusedVariables false
set_option maxRecDepth 10000
set_option linter.unusedSimpArgs false

set_option maxRecDepth 100000 in
theorem FnExactTimesFor_lifted (os : Os) (started : os.Started) (H : Type) (enc : TypeId × Value → H) :
    ReturnsInHanded {} Try.checked os 6 .any (Rows.fnExactTimesForSpec.pre6 enc Try.prog Try.f6 Rows.fnExactTimesForRow.domain false) (Rows.fnExactTimesForSpec.post enc Try.prog Try.f6 false true false false) := by
  refine returnsInHanded_of_change (C := Try.checked) own started (by kernel_rfl) Try.func6
    (ChangeSpec.witness6 (enc := enc) (C := Try.checked) false ⟨#[], #[.agg #[.int .i64 0, .slice none 0 0]], []⟩ 8 (by kernel_rfl) (by kernel_rfl) (by kernel_rfl) (by kernel_rfl)) ?_
  intro W base args ds gs before hval0 hW hcnd _
  have hval : ∀ (j : Nat) t v, Try.f6.params[j]? = some t → args[j]? = some v → Value.okWide Try.prog W .any base t v := hval0
  have hW' := hW
  obtain ⟨p, q, hA0, hV, rfl, hfz, hnd⟩ := hW
  have hA : DataW.TrodAll enc Try.prog W 0 (fun _ => true) true Try.f6.params.toList args.toList ds p := hA0
  rw [Try.params6] at hA hval
  obtain ⟨v0, vs0, d0, ds0, p0, q0, hargs, rfl, rfl, h0, r0⟩ := trodAll_cons hA
  obtain ⟨rfl, rfl, rfl⟩ := trodAll_nil r0
  obtain rfl : args = #[v0] := by cases args; simp_all
  obtain ⟨rfl, rfl⟩ := trodVars_none hV
  have k0 := h0
  have lt0 : ∀ x ∈ p0, x.block < W.heap.size := by obtain ⟨m, hm⟩ := k0; exact DataW.trod_lt m _ _ _ hm
  obtain ⟨n0, A0, c0, bs0, e0, hB0, hl0⟩ := open_plan (fun _ => rfl) (hval 0 24 v0 rfl rfl) h0
  subst e0
  clear hA0 hval0
  refine (FnExactTimesFor_walk n0 A0 c0 bs0 W hB0 hl0).mono fun e W' ⟨he, bel⟩ => ?_
  subst he
  exact ⟨_, rfl, _, _, _, [], _, [], hW', trodAll_mk1 (shut_bool Try.underlying4 _), (trodAll_cons_mk (Below.trod laidOut (by kernel_rfl) (of_decide_eq_true (by kernel_rfl)) k0 bel lt0) trodAll_mk0), rfl, bel.frame _, fun h => by cases h⟩
theorem FnExactTimesFor_fn : Try.pinned.checked.prog.funcNamed Rows.fnExactTimesForRow.func = some 6 := by kernel_rfl
theorem FnExactTimesFor_wf : Rows.fnExactTimesForRow.wf (OpenSpec.ofChange Rows.fnExactTimesForSpec) = true := by kernel_rfl
theorem FnExactTimesFor_c1 : (Rows.fnExactTimesForRow.inPlace == Try.pinned.checked.prog.inPlace 6) = true := by kernel_rfl
theorem FnExactTimesFor_c2 : (Rows.fnExactTimesForRow.unfollowed == Try.pinned.checked.prog.unfollowed 6) = true := by kernel_rfl
theorem FnExactTimesFor_c3 : (Rows.fnExactTimesForRow.recurses == Try.pinned.checked.prog.recurses 6) = true := by kernel_rfl
theorem FnExactTimesFor_c4 : (Rows.fnExactTimesForRow.named == Try.pinned.checked.prog.varsNamed 6) = true := by kernel_rfl
theorem FnExactTimesFor_c5 : (Rows.fnExactTimesForRow.plainKeys == Try.pinned.checked.prog.plainKeys) = true := by kernel_rfl
theorem FnExactTimesFor_c6 : (Rows.fnExactTimesForRow.lifted == Try.pinned.checked.prog.liftsFinal) = true := by rw [fact_lifts]; kernel_rfl
theorem FnExactTimesFor_c7 : (Try.pinned.checked.prog.make == some Rows.fnExactTimesForRow.make) = true := by rw [fact_make]; kernel_rfl
theorem FnExactTimesFor_inst : Try.f6.isInstance Try.pinned.checked.prog Rows.fnExactTimesForRow.origin Rows.fnExactTimesForRow.targs := of_decide_eq_true (by kernel_rfl)
theorem FnExactTimesFor_wrap : Try.f6.isWrapper Try.pinned.checked.prog Rows.fnExactTimesForRow.wrapper Rows.fnExactTimesForRow.mainSum := by
  unfold Func.isWrapper; first | (rw [if_pos (by decide +kernel)]; kernel_rfl) | (rw [if_neg (by decide +kernel)]; exact ⟨rfl, rfl⟩)
theorem FnExactTimesFor_closed : joinedFacts Try.pinned.checked.prog 6 Try.f6 Rows.fnExactTimesForSpec Rows.fnExactTimesForRow = true := by
  unfold joinedFacts
  repeat' (with_reducible refine and2 ?_ ?_)
  all_goals first | with_reducible exact fact_laid | with_reducible exact fact_maps | with_reducible exact fact_stops | with_reducible exact fact_enter | with_reducible exact FnExactTimesFor_wf | with_reducible exact FnExactTimesFor_c1 | with_reducible exact FnExactTimesFor_c2 | with_reducible exact FnExactTimesFor_c3 | with_reducible exact FnExactTimesFor_c4 | with_reducible exact FnExactTimesFor_c5 | with_reducible exact FnExactTimesFor_c6 | with_reducible exact FnExactTimesFor_c7 | kernel_rfl
theorem FnExactTimesFor_over : Rows.fnExactTimesForRow.holds Try.pinned (OpenSpec.ofChange Rows.fnExactTimesForSpec) :=
  OpenClaim.holds_of_wide 6 Try.f6 rfl rfl rfl rfl rfl rfl rfl ⟨rfl, rfl, rfl, rfl, rfl⟩ rfl rfl rfl rfl rfl FnExactTimesFor_fn Try.func6 FnExactTimesFor_closed FnExactTimesFor_inst FnExactTimesFor_wrap
    (fun os started H enc _ => FnExactTimesFor_lifted os started H enc)
theorem FnExactTimesFor_proved : Rows.FnExactTimesForSaid := FnExactTimesFor_over
#print axioms FnExactTimesFor_proved
end Go.Proofs.Ytaifpindiphlkac
