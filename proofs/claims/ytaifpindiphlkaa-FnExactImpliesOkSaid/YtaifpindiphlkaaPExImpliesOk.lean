/- The law FnExactImpliesOk returns true for every input; no condition. -/
import Derived.Test.YtaifpindiphlkaaWExImpliesOk
import Derived.Test.YtaifpindiphlkaaFrame
import Derived.Test.YtaifpindiphlkaaHead
namespace Go.Proofs.Ytaifpindiphlkaa
open Go.ChangeShapes Go.WideShapes Go.ChangeAt Go.RowKit Go.Deep
open Go.ChangeMaps (open_string shut_string)
open Go.Joins
set_option linter.unusedVariables false
set_option maxRecDepth 10000
set_option linter.unusedSimpArgs false

set_option maxRecDepth 100000 in
theorem FnExactImpliesOk_lifted (os : Os) (started : os.Started) (H : Type) (enc : TypeId × Value → H) :
    ReturnsInHanded {} Try.checked os 9 .any (Rows.fnExactImpliesOkSpec.pre6 enc Try.prog Try.f9 Rows.fnExactImpliesOkRow.domain false) (Rows.fnExactImpliesOkSpec.post enc Try.prog Try.f9 false true false false) := by
  refine returnsInHanded_of_change (C := Try.checked) own started (by kernel_rfl) Try.func9
    (ChangeSpec.witness6 (enc := enc) (C := Try.checked) false ⟨#[], #[.agg #[.int .i64 0, .slice none 0 0], .agg #[.int .i64 0, .slice none 0 0]], []⟩ 8 (by kernel_rfl) (by kernel_rfl) (by kernel_rfl) (by kernel_rfl)) ?_
  intro W base args ds gs before hval0 hW hcnd _
  have hval : ∀ (j : Nat) t v, Try.f9.params[j]? = some t → args[j]? = some v → Value.okWide Try.prog W .any base t v := hval0
  have hW' := hW
  obtain ⟨p, q, hA0, hV, rfl, hfz, hnd⟩ := hW
  have hA : DataW.TrodAll enc Try.prog W 0 (fun _ => true) true Try.f9.params.toList args.toList ds p := hA0
  rw [Try.params9] at hA hval
  obtain ⟨v0, vs0, d0, ds0, p0, q0, hargs, rfl, rfl, h0, r0⟩ := trodAll_cons hA
  obtain ⟨v1, vs1, d1, ds1, p1, q1, rfl, rfl, rfl, h1, r1⟩ := trodAll_cons r0
  obtain ⟨rfl, rfl, rfl⟩ := trodAll_nil r1
  obtain rfl : args = #[v0, v1] := by cases args; simp_all
  obtain ⟨rfl, rfl⟩ := trodVars_none hV
  have k0 := h0
  have lt0 : ∀ x ∈ p0, x.block < W.heap.size := by obtain ⟨m, hm⟩ := k0; exact DataW.trod_lt m _ _ _ hm
  obtain ⟨n0, A0, c0, bs0, e0, hB0, hl0⟩ := open_plan (fun _ => rfl) (hval 0 47 v0 rfl rfl) h0
  subst e0
  have k1 := h1
  have lt1 : ∀ x ∈ p1, x.block < W.heap.size := by obtain ⟨m, hm⟩ := k1; exact DataW.trod_lt m _ _ _ hm
  obtain ⟨n1, A1, c1, bs1, e1, hB1, hl1⟩ := open_plan (fun _ => rfl) (hval 1 47 v1 rfl rfl) h1
  subst e1
  clear hA0 hval0
  refine (FnExactImpliesOk_walk n0 A0 c0 bs0 n1 A1 c1 bs1 W hB0 hl0 hB1 hl1).mono fun e W' ⟨he, bel⟩ => ?_
  subst he
  exact ⟨_, rfl, _, _, _, [], _, [], hW', trodAll_mk1 (shut_bool Try.underlying4 _), (trodAll_cons_mk (Below.trod laidOut (by kernel_rfl) (of_decide_eq_true (by kernel_rfl)) k0 bel lt0) (trodAll_cons_mk (Below.trod laidOut (by kernel_rfl) (of_decide_eq_true (by kernel_rfl)) k1 bel lt1) trodAll_mk0)), rfl, bel.frame _, fun h => by cases h⟩
theorem FnExactImpliesOk_fn : Try.pinned.checked.prog.funcNamed Rows.fnExactImpliesOkRow.func = some 9 := by kernel_rfl
theorem FnExactImpliesOk_wf : Rows.fnExactImpliesOkRow.wf (OpenSpec.ofChange Rows.fnExactImpliesOkSpec) = true := by kernel_rfl
theorem FnExactImpliesOk_c1 : (Rows.fnExactImpliesOkRow.inPlace == Try.pinned.checked.prog.inPlace 9) = true := by kernel_rfl
theorem FnExactImpliesOk_c2 : (Rows.fnExactImpliesOkRow.unfollowed == Try.pinned.checked.prog.unfollowed 9) = true := by kernel_rfl
theorem FnExactImpliesOk_c3 : (Rows.fnExactImpliesOkRow.recurses == Try.pinned.checked.prog.recurses 9) = true := by kernel_rfl
theorem FnExactImpliesOk_c4 : (Rows.fnExactImpliesOkRow.named == Try.pinned.checked.prog.varsNamed 9) = true := by kernel_rfl
theorem FnExactImpliesOk_c5 : (Rows.fnExactImpliesOkRow.plainKeys == Try.pinned.checked.prog.plainKeys) = true := by kernel_rfl
theorem FnExactImpliesOk_c6 : (Rows.fnExactImpliesOkRow.lifted == Try.pinned.checked.prog.liftsFinal) = true := by rw [fact_lifts]; kernel_rfl
theorem FnExactImpliesOk_c7 : (Try.pinned.checked.prog.make == some Rows.fnExactImpliesOkRow.make) = true := by rw [fact_make]; kernel_rfl
theorem FnExactImpliesOk_inst : Try.f9.isInstance Try.pinned.checked.prog Rows.fnExactImpliesOkRow.origin Rows.fnExactImpliesOkRow.targs := of_decide_eq_true (by kernel_rfl)
theorem FnExactImpliesOk_wrap : Try.f9.isWrapper Try.pinned.checked.prog Rows.fnExactImpliesOkRow.wrapper Rows.fnExactImpliesOkRow.mainSum := by
  unfold Func.isWrapper; first | (rw [if_pos (by decide +kernel)]; kernel_rfl) | (rw [if_neg (by decide +kernel)]; exact ⟨rfl, rfl⟩)
theorem FnExactImpliesOk_closed : joinedFacts Try.pinned.checked.prog 9 Try.f9 Rows.fnExactImpliesOkSpec Rows.fnExactImpliesOkRow = true := by
  unfold joinedFacts
  repeat' (with_reducible refine and2 ?_ ?_)
  all_goals first | with_reducible exact fact_laid | with_reducible exact fact_maps | with_reducible exact fact_stops | with_reducible exact fact_enter | with_reducible exact FnExactImpliesOk_wf | with_reducible exact FnExactImpliesOk_c1 | with_reducible exact FnExactImpliesOk_c2 | with_reducible exact FnExactImpliesOk_c3 | with_reducible exact FnExactImpliesOk_c4 | with_reducible exact FnExactImpliesOk_c5 | with_reducible exact FnExactImpliesOk_c6 | with_reducible exact FnExactImpliesOk_c7 | kernel_rfl
theorem FnExactImpliesOk_over : Rows.fnExactImpliesOkRow.holds Try.pinned (OpenSpec.ofChange Rows.fnExactImpliesOkSpec) :=
  OpenClaim.holds_of_wide 9 Try.f9 rfl rfl rfl rfl rfl rfl rfl ⟨rfl, rfl, rfl, rfl, rfl⟩ rfl rfl rfl rfl rfl FnExactImpliesOk_fn Try.func9 FnExactImpliesOk_closed FnExactImpliesOk_inst FnExactImpliesOk_wrap
    (fun os started H enc _ => FnExactImpliesOk_lifted os started H enc)
theorem FnExactImpliesOk_proved : Rows.FnExactImpliesOkSaid := FnExactImpliesOk_over
#print axioms FnExactImpliesOk_proved
end Go.Proofs.Ytaifpindiphlkaa
