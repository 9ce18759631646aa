/- The law FnExactDeadlineOf returns true for every input; no condition. -/
import Derived.Test.YtaifpindiphlkacWExDeadlineOf
import Derived.Test.YtaifpindiphlkacFrame
import Derived.Test.YtaifpindiphlkacHead
import Derived.Test.YtaifpindiphlkacFrameS
namespace Go.Proofs.Ytaifpindiphlkac
open Go.ChangeShapes Go.WideShapes Go.ChangeAt Go.RowKit Go.Deep
open Go.ChangeMaps (open_string shut_string)
open Go.Joins
set_option linter.unusedVariables false
set_option maxRecDepth 10000
set_option linter.unusedSimpArgs false

set_option maxRecDepth 100000 in
theorem FnExactDeadlineOf_lifted (os : Os) (started : os.Started) (H : Type) (enc : TypeId × Value → H) :
    ReturnsInHanded {} Try.checked os 5 .any (Rows.fnExactDeadlineOfSpec.pre6 enc Try.prog Try.f5 Rows.fnExactDeadlineOfRow.domain false) (Rows.fnExactDeadlineOfSpec.post enc Try.prog Try.f5 false true false false) := by
  refine returnsInHanded_of_change (C := Try.checked) own started (by kernel_rfl) Try.func5
    (ChangeSpec.witness6 (enc := enc) (C := Try.checked) false ⟨#[], #[.agg #[.int .i64 0, .slice none 0 0], .agg #[.int .i64 0, .slice none 0 0]], []⟩ 8 (by kernel_rfl) (by kernel_rfl) (by kernel_rfl) (by kernel_rfl)) ?_
  intro W base args ds gs before hval0 hW hcnd _
  have hval : ∀ (j : Nat) t v, Try.f5.params[j]? = some t → args[j]? = some v → Value.okWide Try.prog W .any base t v := hval0
  have hW' := hW
  obtain ⟨p, q, hA0, hV, rfl, hfz, hnd⟩ := hW
  have hA : DataW.TrodAll enc Try.prog W 0 (fun _ => true) true Try.f5.params.toList args.toList ds p := hA0
  rw [Try.params5] at hA hval
  obtain ⟨v0, vs0, d0, ds0, p0, q0, hargs, rfl, rfl, h0, r0⟩ := trodAll_cons hA
  obtain ⟨v1, vs1, d1, ds1, p1, q1, rfl, rfl, rfl, h1, r1⟩ := trodAll_cons r0
  obtain ⟨rfl, rfl, rfl⟩ := trodAll_nil r1
  obtain rfl : args = #[v0, v1] := by cases args; simp_all
  obtain ⟨rfl, rfl⟩ := trodVars_none hV
  have k0 := h0
  have lt0 : ∀ x ∈ p0, x.block < W.heap.size := by obtain ⟨m, hm⟩ := k0; exact DataW.trod_lt m _ _ _ hm
  obtain ⟨n0, A0, c0, bs0, e0, hB0, hl0⟩ := open_plan (fun _ => rfl) (hval 0 24 v0 rfl rfl) h0
  subst e0
  have k1 := h1
  have lt1 : ∀ x ∈ p1, x.block < W.heap.size := by obtain ⟨m, hm⟩ := k1; exact DataW.trod_lt m _ _ _ hm
  obtain ⟨n1, A1, c1, xs1, e1, hB1, hl1⟩ := open_state (hval 1 27 v1 rfl rfl) h1
  subst e1
  clear hA0 hval0
  refine (FnExactDeadlineOf_walk n0 A0 c0 bs0 n1 A1 c1 xs1 W hB0 hl0 hB1 hl1).mono fun e W' ⟨he, bel⟩ => ?_
  subst he
  exact ⟨_, rfl, _, _, _, [], _, [], hW', trodAll_mk1 (shut_bool Try.underlying4 _), (trodAll_cons_mk (Below.trod laidOut (by kernel_rfl) (of_decide_eq_true (by kernel_rfl)) k0 bel lt0) (trodAll_cons_mk (Below.trod laidOut (by kernel_rfl) (of_decide_eq_true (by kernel_rfl)) k1 bel lt1) trodAll_mk0)), rfl, bel.frame _, fun h => by cases h⟩
theorem FnExactDeadlineOf_fn : Try.pinned.checked.prog.funcNamed Rows.fnExactDeadlineOfRow.func = some 5 := by kernel_rfl
theorem FnExactDeadlineOf_wf : Rows.fnExactDeadlineOfRow.wf (OpenSpec.ofChange Rows.fnExactDeadlineOfSpec) = true := by kernel_rfl
theorem FnExactDeadlineOf_c1 : (Rows.fnExactDeadlineOfRow.inPlace == Try.pinned.checked.prog.inPlace 5) = true := by kernel_rfl
theorem FnExactDeadlineOf_c2 : (Rows.fnExactDeadlineOfRow.unfollowed == Try.pinned.checked.prog.unfollowed 5) = true := by kernel_rfl
theorem FnExactDeadlineOf_c3 : (Rows.fnExactDeadlineOfRow.recurses == Try.pinned.checked.prog.recurses 5) = true := by kernel_rfl
theorem FnExactDeadlineOf_c4 : (Rows.fnExactDeadlineOfRow.named == Try.pinned.checked.prog.varsNamed 5) = true := by kernel_rfl
theorem FnExactDeadlineOf_c5 : (Rows.fnExactDeadlineOfRow.plainKeys == Try.pinned.checked.prog.plainKeys) = true := by kernel_rfl
theorem FnExactDeadlineOf_c6 : (Rows.fnExactDeadlineOfRow.lifted == Try.pinned.checked.prog.liftsFinal) = true := by rw [fact_lifts]; kernel_rfl
theorem FnExactDeadlineOf_c7 : (Try.pinned.checked.prog.make == some Rows.fnExactDeadlineOfRow.make) = true := by rw [fact_make]; kernel_rfl
theorem FnExactDeadlineOf_inst : Try.f5.isInstance Try.pinned.checked.prog Rows.fnExactDeadlineOfRow.origin Rows.fnExactDeadlineOfRow.targs := of_decide_eq_true (by kernel_rfl)
theorem FnExactDeadlineOf_wrap : Try.f5.isWrapper Try.pinned.checked.prog Rows.fnExactDeadlineOfRow.wrapper Rows.fnExactDeadlineOfRow.mainSum := by
  unfold Func.isWrapper; first | (rw [if_pos (by decide +kernel)]; kernel_rfl) | (rw [if_neg (by decide +kernel)]; exact ⟨rfl, rfl⟩)
theorem FnExactDeadlineOf_closed : joinedFacts Try.pinned.checked.prog 5 Try.f5 Rows.fnExactDeadlineOfSpec Rows.fnExactDeadlineOfRow = true := by
  unfold joinedFacts
  repeat' (with_reducible refine and2 ?_ ?_)
  all_goals first | with_reducible exact fact_laid | with_reducible exact fact_maps | with_reducible exact fact_stops | with_reducible exact fact_enter | with_reducible exact FnExactDeadlineOf_wf | with_reducible exact FnExactDeadlineOf_c1 | with_reducible exact FnExactDeadlineOf_c2 | with_reducible exact FnExactDeadlineOf_c3 | with_reducible exact FnExactDeadlineOf_c4 | with_reducible exact FnExactDeadlineOf_c5 | with_reducible exact FnExactDeadlineOf_c6 | with_reducible exact FnExactDeadlineOf_c7 | kernel_rfl
theorem FnExactDeadlineOf_over : Rows.fnExactDeadlineOfRow.holds Try.pinned (OpenSpec.ofChange Rows.fnExactDeadlineOfSpec) :=
  OpenClaim.holds_of_wide 5 Try.f5 rfl rfl rfl rfl rfl rfl rfl ⟨rfl, rfl, rfl, rfl, rfl⟩ rfl rfl rfl rfl rfl FnExactDeadlineOf_fn Try.func5 FnExactDeadlineOf_closed FnExactDeadlineOf_inst FnExactDeadlineOf_wrap
    (fun os started H enc _ => FnExactDeadlineOf_lifted os started H enc)
theorem FnExactDeadlineOf_proved : Rows.FnExactDeadlineOfSaid := FnExactDeadlineOf_over
#print axioms FnExactDeadlineOf_proved
end Go.Proofs.Ytaifpindiphlkac
