/- The law FnExactFromPoint returns true for every input; no condition. -/
import Derived.Test.YtaifpindiphlkabWExFromPoint
import Derived.Test.YtaifpindiphlkabFrame
import Derived.Test.YtaifpindiphlkabHead
namespace Go.Proofs.Ytaifpindiphlkab
open Go.ChangeShapes Go.WideShapes Go.ChangeAt Go.RowKit Go.Deep
open Go.ChangeMaps (open_string shut_string)
open Go.Joins
set_option linter.unusedVariables false
set_option maxRecDepth 10000
set_option linter.unusedSimpArgs false

set_option maxRecDepth 100000 in
theorem FnExactFromPoint_lifted (os : Os) (started : os.Started) (H : Type) (enc : TypeId × Value → H) :
    ReturnsInHanded {} Try.checked os 4 .any (Rows.fnExactFromPointSpec.pre6 enc Try.prog Try.f4 Rows.fnExactFromPointRow.domain false) (Rows.fnExactFromPointSpec.post enc Try.prog Try.f4 false true false false) := by
  refine returnsInHanded_of_change (C := Try.checked) own started (by kernel_rfl) Try.func4
    (ChangeSpec.witness6 (enc := enc) (C := Try.checked) false ⟨#[], #[.agg #[.int .i64 0, .slice none 0 0], .int .i64 0], []⟩ 8 (by kernel_rfl) (by kernel_rfl) (by kernel_rfl) (by kernel_rfl)) ?_
  intro W base args ds gs before hval0 hW hcnd _
  have hval : ∀ (j : Nat) t v, Try.f4.params[j]? = some t → args[j]? = some v → Value.okWide Try.prog W .any base t v := hval0
  have hW' := hW
  obtain ⟨p, q, hA0, hV, rfl, hfz, hnd⟩ := hW
  have hA : DataW.TrodAll enc Try.prog W 0 (fun _ => true) true Try.f4.params.toList args.toList ds p := hA0
  rw [Try.params4] at hA hval
  obtain ⟨v0, vs0, d0, ds0, p0, q0, hargs, rfl, rfl, h0, r0⟩ := trodAll_cons hA
  obtain ⟨v1, vs1, d1, ds1, p1, q1, rfl, rfl, rfl, h1, r1⟩ := trodAll_cons r0
  obtain ⟨rfl, rfl, rfl⟩ := trodAll_nil r1
  obtain rfl : args = #[v0, v1] := by cases args; simp_all
  obtain ⟨rfl, rfl⟩ := trodVars_none hV
  have k0 := h0
  have lt0 : ∀ x ∈ p0, x.block < W.heap.size := by obtain ⟨m, hm⟩ := k0; exact DataW.trod_lt m _ _ _ hm
  obtain ⟨n0, A0, c0, bs0, e0, hB0, hl0⟩ := open_plan (fun _ => rfl) (hval 0 24 v0 rfl rfl) h0
  subst e0
  have k1 := h1
  have lt1 : ∀ x ∈ p1, x.block < W.heap.size := by obtain ⟨m, hm⟩ := k1; exact DataW.trod_lt m _ _ _ hm
  obtain ⟨a1, rfl, rfl, rfl, w1⟩ := open_int Try.underlying3 (hval 1 3 v1 rfl rfl) h1
  clear hA0 hval0
  refine (FnExactFromPoint_walk n0 A0 c0 bs0 a1 W hB0 hl0).mono fun e W' ⟨he, bel⟩ => ?_
  subst he
  exact ⟨_, rfl, _, _, _, [], _, [], hW', trodAll_mk1 (shut_bool Try.underlying4 _), (trodAll_cons_mk (Below.trod laidOut (by kernel_rfl) (of_decide_eq_true (by kernel_rfl)) k0 bel lt0) (trodAll_cons_mk (shut_int Try.underlying3 w1) trodAll_mk0)), rfl, bel.frame _, fun h => by cases h⟩
theorem FnExactFromPoint_fn : Try.pinned.checked.prog.funcNamed Rows.fnExactFromPointRow.func = some 4 := by kernel_rfl
theorem FnExactFromPoint_wf : Rows.fnExactFromPointRow.wf (OpenSpec.ofChange Rows.fnExactFromPointSpec) = true := by kernel_rfl
theorem FnExactFromPoint_c1 : (Rows.fnExactFromPointRow.inPlace == Try.pinned.checked.prog.inPlace 4) = true := by kernel_rfl
theorem FnExactFromPoint_c2 : (Rows.fnExactFromPointRow.unfollowed == Try.pinned.checked.prog.unfollowed 4) = true := by kernel_rfl
theorem FnExactFromPoint_c3 : (Rows.fnExactFromPointRow.recurses == Try.pinned.checked.prog.recurses 4) = true := by kernel_rfl
theorem FnExactFromPoint_c4 : (Rows.fnExactFromPointRow.named == Try.pinned.checked.prog.varsNamed 4) = true := by kernel_rfl
theorem FnExactFromPoint_c5 : (Rows.fnExactFromPointRow.plainKeys == Try.pinned.checked.prog.plainKeys) = true := by kernel_rfl
theorem FnExactFromPoint_c6 : (Rows.fnExactFromPointRow.lifted == Try.pinned.checked.prog.liftsFinal) = true := by rw [fact_lifts]; kernel_rfl
theorem FnExactFromPoint_c7 : (Try.pinned.checked.prog.make == some Rows.fnExactFromPointRow.make) = true := by rw [fact_make]; kernel_rfl
theorem FnExactFromPoint_inst : Try.f4.isInstance Try.pinned.checked.prog Rows.fnExactFromPointRow.origin Rows.fnExactFromPointRow.targs := of_decide_eq_true (by kernel_rfl)
theorem FnExactFromPoint_wrap : Try.f4.isWrapper Try.pinned.checked.prog Rows.fnExactFromPointRow.wrapper Rows.fnExactFromPointRow.mainSum := by
  unfold Func.isWrapper; first | (rw [if_pos (by decide +kernel)]; kernel_rfl) | (rw [if_neg (by decide +kernel)]; exact ⟨rfl, rfl⟩)
theorem FnExactFromPoint_closed : joinedFacts Try.pinned.checked.prog 4 Try.f4 Rows.fnExactFromPointSpec Rows.fnExactFromPointRow = true := by
  unfold joinedFacts
  repeat' (with_reducible refine and2 ?_ ?_)
  all_goals first | with_reducible exact fact_laid | with_reducible exact fact_maps | with_reducible exact fact_stops | with_reducible exact fact_enter | with_reducible exact FnExactFromPoint_wf | with_reducible exact FnExactFromPoint_c1 | with_reducible exact FnExactFromPoint_c2 | with_reducible exact FnExactFromPoint_c3 | with_reducible exact FnExactFromPoint_c4 | with_reducible exact FnExactFromPoint_c5 | with_reducible exact FnExactFromPoint_c6 | with_reducible exact FnExactFromPoint_c7 | kernel_rfl
theorem FnExactFromPoint_over : Rows.fnExactFromPointRow.holds Try.pinned (OpenSpec.ofChange Rows.fnExactFromPointSpec) :=
  OpenClaim.holds_of_wide 4 Try.f4 rfl rfl rfl rfl rfl rfl rfl ⟨rfl, rfl, rfl, rfl, rfl⟩ rfl rfl rfl rfl rfl FnExactFromPoint_fn Try.func4 FnExactFromPoint_closed FnExactFromPoint_inst FnExactFromPoint_wrap
    (fun os started H enc _ => FnExactFromPoint_lifted os started H enc)
theorem FnExactFromPoint_proved : Rows.FnExactFromPointSaid := FnExactFromPoint_over
#print axioms FnExactFromPoint_proved
end Go.Proofs.Ytaifpindiphlkab
