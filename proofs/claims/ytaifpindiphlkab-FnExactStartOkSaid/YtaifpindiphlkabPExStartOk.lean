/- The law FnExactStartOk returns true for every input; no condition. -/
import Derived.Test.YtaifpindiphlkabWExStartOk
import Derived.Test.YtaifpindiphlkabFrame
import Derived.Test.YtaifpindiphlkabHead
namespace Go.Proofs.Ytaifpindiphlkab
open Go.ChangeShapes Go.WideShapes Go.ChangeAt Go.RowKit Go.Deep
open Go.ChangeMaps (open_string shut_string)
open Go.Joins
set_option linter.unusedVariables false
set_option maxRecDepth 10000
set_option linter.unusedSimpArgs false

set_option maxRecDepth 100000 in
theorem FnExactStartOk_lifted (os : Os) (started : os.Started) (H : Type) (enc : TypeId × Value → H) :
    ReturnsInHanded {} Try.checked os 3 .any (Rows.fnExactStartOkSpec.pre6 enc Try.prog Try.f3 Rows.fnExactStartOkRow.domain false) (Rows.fnExactStartOkSpec.post enc Try.prog Try.f3 false true false false) := by
  refine returnsInHanded_of_change (C := Try.checked) own started (by kernel_rfl) Try.func3
    (ChangeSpec.witness6 (enc := enc) (C := Try.checked) false ⟨#[], #[.agg #[.int .i64 0, .slice none 0 0], .slice none 0 0], []⟩ 8 (by kernel_rfl) (by kernel_rfl) (by kernel_rfl) (by kernel_rfl)) ?_
  intro W base args ds gs before hval0 hW hcnd _
  have hval : ∀ (j : Nat) t v, Try.f3.params[j]? = some t → args[j]? = some v → Value.okWide Try.prog W .any base t v := hval0
  have hW' := hW
  obtain ⟨p, q, hA0, hV, rfl, hfz, hnd⟩ := hW
  have hA : DataW.TrodAll enc Try.prog W 0 (fun _ => true) true Try.f3.params.toList args.toList ds p := hA0
  rw [Try.params3] at hA hval
  obtain ⟨v0, vs0, d0, ds0, p0, q0, hargs, rfl, rfl, h0, r0⟩ := trodAll_cons hA
  obtain ⟨v1, vs1, d1, ds1, p1, q1, rfl, rfl, rfl, h1, r1⟩ := trodAll_cons r0
  obtain ⟨rfl, rfl, rfl⟩ := trodAll_nil r1
  obtain rfl : args = #[v0, v1] := by cases args; simp_all
  obtain ⟨rfl, rfl⟩ := trodVars_none hV
  have k0 := h0
  have lt0 : ∀ x ∈ p0, x.block < W.heap.size := by obtain ⟨m, hm⟩ := k0; exact DataW.trod_lt m _ _ _ hm
  obtain ⟨n0, A0, c0, bs0, e0, hB0, hl0⟩ := open_plan (fun _ => rfl) (hval 0 24 v0 rfl rfl) h0
  subst e0
  have k1 := h1
  have lt1 : ∀ x ∈ p1, x.block < W.heap.size := by obtain ⟨m, hm⟩ := k1; exact DataW.trod_lt m _ _ _ hm
  obtain ⟨A1, c1, xs1, e1, hB1, hl1⟩ := open_list_arg (hval 1 25 v1 rfl rfl) h1
  subst e1
  clear hA0 hval0
  refine (FnExactStartOk_walk n0 A0 c0 bs0 A1 c1 xs1 W hB0 hl0 hB1 hl1).mono fun e W' ⟨he, bel⟩ => ?_
  subst he
  exact ⟨_, rfl, _, _, _, [], _, [], hW', trodAll_mk1 (shut_bool Try.underlying4 _), (trodAll_cons_mk (Below.trod laidOut (by kernel_rfl) (of_decide_eq_true (by kernel_rfl)) k0 bel lt0) (trodAll_cons_mk (Below.trod laidOut (by kernel_rfl) (of_decide_eq_true (by kernel_rfl)) k1 bel lt1) trodAll_mk0)), rfl, bel.frame _, fun h => by cases h⟩
theorem FnExactStartOk_fn : Try.pinned.checked.prog.funcNamed Rows.fnExactStartOkRow.func = some 3 := by kernel_rfl
theorem FnExactStartOk_wf : Rows.fnExactStartOkRow.wf (OpenSpec.ofChange Rows.fnExactStartOkSpec) = true := by kernel_rfl
theorem FnExactStartOk_c1 : (Rows.fnExactStartOkRow.inPlace == Try.pinned.checked.prog.inPlace 3) = true := by kernel_rfl
theorem FnExactStartOk_c2 : (Rows.fnExactStartOkRow.unfollowed == Try.pinned.checked.prog.unfollowed 3) = true := by kernel_rfl
theorem FnExactStartOk_c3 : (Rows.fnExactStartOkRow.recurses == Try.pinned.checked.prog.recurses 3) = true := by kernel_rfl
theorem FnExactStartOk_c4 : (Rows.fnExactStartOkRow.named == Try.pinned.checked.prog.varsNamed 3) = true := by kernel_rfl
theorem FnExactStartOk_c5 : (Rows.fnExactStartOkRow.plainKeys == Try.pinned.checked.prog.plainKeys) = true := by kernel_rfl
theorem FnExactStartOk_c6 : (Rows.fnExactStartOkRow.lifted == Try.pinned.checked.prog.liftsFinal) = true := by rw [fact_lifts]; kernel_rfl
theorem FnExactStartOk_c7 : (Try.pinned.checked.prog.make == some Rows.fnExactStartOkRow.make) = true := by rw [fact_make]; kernel_rfl
theorem FnExactStartOk_inst : Try.f3.isInstance Try.pinned.checked.prog Rows.fnExactStartOkRow.origin Rows.fnExactStartOkRow.targs := of_decide_eq_true (by kernel_rfl)
theorem FnExactStartOk_wrap : Try.f3.isWrapper Try.pinned.checked.prog Rows.fnExactStartOkRow.wrapper Rows.fnExactStartOkRow.mainSum := by
  unfold Func.isWrapper; first | (rw [if_pos (by decide +kernel)]; kernel_rfl) | (rw [if_neg (by decide +kernel)]; exact ⟨rfl, rfl⟩)
theorem FnExactStartOk_closed : joinedFacts Try.pinned.checked.prog 3 Try.f3 Rows.fnExactStartOkSpec Rows.fnExactStartOkRow = true := by
  unfold joinedFacts
  repeat' (with_reducible refine and2 ?_ ?_)
  all_goals first | with_reducible exact fact_laid | with_reducible exact fact_maps | with_reducible exact fact_stops | with_reducible exact fact_enter | with_reducible exact FnExactStartOk_wf | with_reducible exact FnExactStartOk_c1 | with_reducible exact FnExactStartOk_c2 | with_reducible exact FnExactStartOk_c3 | with_reducible exact FnExactStartOk_c4 | with_reducible exact FnExactStartOk_c5 | with_reducible exact FnExactStartOk_c6 | with_reducible exact FnExactStartOk_c7 | kernel_rfl
theorem FnExactStartOk_over : Rows.fnExactStartOkRow.holds Try.pinned (OpenSpec.ofChange Rows.fnExactStartOkSpec) :=
  OpenClaim.holds_of_wide 3 Try.f3 rfl rfl rfl rfl rfl rfl rfl ⟨rfl, rfl, rfl, rfl, rfl⟩ rfl rfl rfl rfl rfl FnExactStartOk_fn Try.func3 FnExactStartOk_closed FnExactStartOk_inst FnExactStartOk_wrap
    (fun os started H enc _ => FnExactStartOk_lifted os started H enc)
theorem FnExactStartOk_proved : Rows.FnExactStartOkSaid := FnExactStartOk_over
#print axioms FnExactStartOk_proved
end Go.Proofs.Ytaifpindiphlkab
