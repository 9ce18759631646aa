/- The law FnExactStateOk returns true for every input; no condition. -/
import Derived.Test.YtaifpindiphlkabWExStateOk
import Derived.Test.YtaifpindiphlkabFrame
import Derived.Test.YtaifpindiphlkabHead
import Derived.Test.YtaifpindiphlkabFrameS
namespace Go.Proofs.Ytaifpindiphlkab
open Go.ChangeShapes Go.WideShapes Go.ChangeAt Go.RowKit Go.Deep
open Go.ChangeMaps (open_string shut_string)
open Go.Joins
set_option linter.unusedVariables false
set_option maxRecDepth 10000
set_option linter.unusedSimpArgs false

set_option maxRecDepth 100000 in
theorem FnExactStateOk_lifted (os : Os) (started : os.Started) (H : Type) (enc : TypeId × Value → H) :
    ReturnsInHanded {} Try.checked os 6 .any (Rows.fnExactStateOkSpec.pre6 enc Try.prog Try.f6 Rows.fnExactStateOkRow.domain false) (Rows.fnExactStateOkSpec.post enc Try.prog Try.f6 false true false false) := by
  refine returnsInHanded_of_change (C := Try.checked) own started (by kernel_rfl) Try.func6
    (ChangeSpec.witness6 (enc := enc) (C := Try.checked) false ⟨#[], #[.agg #[.int .i64 0, .slice none 0 0], .agg #[.int .i64 0, .slice none 0 0]], []⟩ 8 (by kernel_rfl) (by kernel_rfl) (by kernel_rfl) (by kernel_rfl)) ?_
  intro W base args ds gs before hval0 hW hcnd _
  have hval : ∀ (j : Nat) t v, Try.f6.params[j]? = some t → args[j]? = some v → Value.okWide Try.prog W .any base t v := hval0
  have hW' := hW
  obtain ⟨p, q, hA0, hV, rfl, hfz, hnd⟩ := hW
  have hA : DataW.TrodAll enc Try.prog W 0 (fun _ => true) true Try.f6.params.toList args.toList ds p := hA0
  rw [Try.params6] at hA hval
  obtain ⟨v0, vs0, d0, ds0, p0, q0, hargs, rfl, rfl, h0, r0⟩ := trodAll_cons hA
  obtain ⟨v1, vs1, d1, ds1, p1, q1, rfl, rfl, rfl, h1, r1⟩ := trodAll_cons r0
  obtain ⟨rfl, rfl, rfl⟩ := trodAll_nil r1
  obtain rfl : args = #[v0, v1] := by cases args; simp_all
  obtain ⟨rfl, rfl⟩ := trodVars_none hV
  have k0 := h0
  have lt0 : ∀ x ∈ p0, x.block < W.heap.size := by obtain ⟨m, hm⟩ := k0; exact DataW.trod_lt m _ _ _ hm
  obtain ⟨n0, A0, c0, bs0, e0, hB0, hl0⟩ := open_plan (fun _ => rfl) (hval 0 24 v0 rfl rfl) h0
  subst e0
  have k1 := h1
  have lt1 : ∀ x ∈ p1, x.block < W.heap.size := by obtain ⟨m, hm⟩ := k1; exact DataW.trod_lt m _ _ _ hm
  obtain ⟨n1, A1, c1, xs1, e1, hB1, hl1⟩ := open_state (hval 1 48 v1 rfl rfl) h1
  subst e1
  clear hA0 hval0
  refine (FnExactStateOk_walk n0 A0 c0 bs0 n1 A1 c1 xs1 W hB0 hl0 hB1 hl1).mono fun e W' ⟨he, bel⟩ => ?_
  subst he
  exact ⟨_, rfl, _, _, _, [], _, [], hW', trodAll_mk1 (shut_bool Try.underlying4 _), (trodAll_cons_mk (Below.trod laidOut (by kernel_rfl) (of_decide_eq_true (by kernel_rfl)) k0 bel lt0) (trodAll_cons_mk (Below.trod laidOut (by kernel_rfl) (of_decide_eq_true (by kernel_rfl)) k1 bel lt1) trodAll_mk0)), rfl, bel.frame _, fun h => by cases h⟩
theorem FnExactStateOk_fn : Try.pinned.checked.prog.funcNamed Rows.fnExactStateOkRow.func = some 6 := by kernel_rfl
theorem FnExactStateOk_wf : Rows.fnExactStateOkRow.wf (OpenSpec.ofChange Rows.fnExactStateOkSpec) = true := by kernel_rfl
theorem FnExactStateOk_c1 : (Rows.fnExactStateOkRow.inPlace == Try.pinned.checked.prog.inPlace 6) = true := by kernel_rfl
theorem FnExactStateOk_c2 : (Rows.fnExactStateOkRow.unfollowed == Try.pinned.checked.prog.unfollowed 6) = true := by kernel_rfl
theorem FnExactStateOk_c3 : (Rows.fnExactStateOkRow.recurses == Try.pinned.checked.prog.recurses 6) = true := by kernel_rfl
theorem FnExactStateOk_c4 : (Rows.fnExactStateOkRow.named == Try.pinned.checked.prog.varsNamed 6) = true := by kernel_rfl
theorem FnExactStateOk_c5 : (Rows.fnExactStateOkRow.plainKeys == Try.pinned.checked.prog.plainKeys) = true := by kernel_rfl
theorem FnExactStateOk_c6 : (Rows.fnExactStateOkRow.lifted == Try.pinned.checked.prog.liftsFinal) = true := by rw [fact_lifts]; kernel_rfl
theorem FnExactStateOk_c7 : (Try.pinned.checked.prog.make == some Rows.fnExactStateOkRow.make) = true := by rw [fact_make]; kernel_rfl
theorem FnExactStateOk_inst : Try.f6.isInstance Try.pinned.checked.prog Rows.fnExactStateOkRow.origin Rows.fnExactStateOkRow.targs := of_decide_eq_true (by kernel_rfl)
theorem FnExactStateOk_wrap : Try.f6.isWrapper Try.pinned.checked.prog Rows.fnExactStateOkRow.wrapper Rows.fnExactStateOkRow.mainSum := by
  unfold Func.isWrapper; first | (rw [if_pos (by decide +kernel)]; kernel_rfl) | (rw [if_neg (by decide +kernel)]; exact ⟨rfl, rfl⟩)
theorem FnExactStateOk_closed : joinedFacts Try.pinned.checked.prog 6 Try.f6 Rows.fnExactStateOkSpec Rows.fnExactStateOkRow = true := by
  unfold joinedFacts
  repeat' (with_reducible refine and2 ?_ ?_)
  all_goals first | with_reducible exact fact_laid | with_reducible exact fact_maps | with_reducible exact fact_stops | with_reducible exact fact_enter | with_reducible exact FnExactStateOk_wf | with_reducible exact FnExactStateOk_c1 | with_reducible exact FnExactStateOk_c2 | with_reducible exact FnExactStateOk_c3 | with_reducible exact FnExactStateOk_c4 | with_reducible exact FnExactStateOk_c5 | with_reducible exact FnExactStateOk_c6 | with_reducible exact FnExactStateOk_c7 | kernel_rfl
theorem FnExactStateOk_over : Rows.fnExactStateOkRow.holds Try.pinned (OpenSpec.ofChange Rows.fnExactStateOkSpec) :=
  OpenClaim.holds_of_wide 6 Try.f6 rfl rfl rfl rfl rfl rfl rfl ⟨rfl, rfl, rfl, rfl, rfl⟩ rfl rfl rfl rfl rfl FnExactStateOk_fn Try.func6 FnExactStateOk_closed FnExactStateOk_inst FnExactStateOk_wrap
    (fun os started H enc _ => FnExactStateOk_lifted os started H enc)
theorem FnExactStateOk_proved : Rows.FnExactStateOkSaid := FnExactStateOk_over
#print axioms FnExactStateOk_proved
end Go.Proofs.Ytaifpindiphlkab
