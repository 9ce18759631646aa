/- The law FnExactEndedFrom returns true for every input; no condition. -/
import Derived.Test.YtaifpindiphlkacWExEndedFrom
import Derived.Test.YtaifpindiphlkacFrame
import Derived.Test.YtaifpindiphlkacHead
namespace Go.Proofs.Ytaifpindiphlkac
open Go.ChangeShapes Go.WideShapes Go.ChangeAt Go.RowKit Go.Deep
open Go.ChangeMaps (open_string shut_string)
open Go.Joins
set_option linter.unusedVariables false
set_option maxRecDepth 10000
set_option linter.unusedSimpArgs false

set_option maxRecDepth 100000 in
theorem FnExactEndedFrom_lifted (os : Os) (started : os.Started) (H : Type) (enc : TypeId × Value → H) :
    ReturnsInHanded {} Try.checked os 7 .any (Rows.fnExactEndedFromSpec.pre6 enc Try.prog Try.f7 Rows.fnExactEndedFromRow.domain false) (Rows.fnExactEndedFromSpec.post enc Try.prog Try.f7 false true false false) := by
  refine returnsInHanded_of_change (C := Try.checked) own started (by kernel_rfl) Try.func7
    (ChangeSpec.witness6 (enc := enc) (C := Try.checked) false ⟨#[], #[.agg #[.int .i64 0, .slice none 0 0], .slice none 0 0], []⟩ 8 (by kernel_rfl) (by kernel_rfl) (by kernel_rfl) (by kernel_rfl)) ?_
  intro W base args ds gs before hval0 hW hcnd _
  have hval : ∀ (j : Nat) t v, Try.f7.params[j]? = some t → args[j]? = some v → Value.okWide Try.prog W .any base t v := hval0
  have hW' := hW
  obtain ⟨p, q, hA0, hV, rfl, hfz, hnd⟩ := hW
  have hA : DataW.TrodAll enc Try.prog W 0 (fun _ => true) true Try.f7.params.toList args.toList ds p := hA0
  rw [Try.params7] at hA hval
  obtain ⟨v0, vs0, d0, ds0, p0, q0, hargs, rfl, rfl, h0, r0⟩ := trodAll_cons hA
  obtain ⟨v1, vs1, d1, ds1, p1, q1, rfl, rfl, rfl, h1, r1⟩ := trodAll_cons r0
  obtain ⟨rfl, rfl, rfl⟩ := trodAll_nil r1
  obtain rfl : args = #[v0, v1] := by cases args; simp_all
  obtain ⟨rfl, rfl⟩ := trodVars_none hV
  have k0 := h0
  have lt0 : ∀ x ∈ p0, x.block < W.heap.size := by obtain ⟨m, hm⟩ := k0; exact DataW.trod_lt m _ _ _ hm
  obtain ⟨n0, A0, c0, bs0, e0, hB0, hl0⟩ := open_plan (fun _ => rfl) (hval 0 24 v0 rfl rfl) h0
  subst e0
  have k1 := h1
  have lt1 : ∀ x ∈ p1, x.block < W.heap.size := by obtain ⟨m, hm⟩ := k1; exact DataW.trod_lt m _ _ _ hm
  obtain ⟨A1, c1, xs1, e1, hB1, hl1⟩ := open_list_arg (hval 1 25 v1 rfl rfl) h1
  subst e1
  clear hA0 hval0
  refine (FnExactEndedFrom_walk n0 A0 c0 bs0 A1 c1 xs1 W hB0 hl0 hB1 hl1).mono fun e W' ⟨he, bel⟩ => ?_
  subst he
  exact ⟨_, rfl, _, _, _, [], _, [], hW', trodAll_mk1 (shut_bool Try.underlying4 _), (trodAll_cons_mk (Below.trod laidOut (by kernel_rfl) (of_decide_eq_true (by kernel_rfl)) k0 bel lt0) (trodAll_cons_mk (Below.trod laidOut (by kernel_rfl) (of_decide_eq_true (by kernel_rfl)) k1 bel lt1) trodAll_mk0)), rfl, bel.frame _, fun h => by cases h⟩
theorem FnExactEndedFrom_fn : Try.pinned.checked.prog.funcNamed Rows.fnExactEndedFromRow.func = some 7 := by kernel_rfl
theorem FnExactEndedFrom_wf : Rows.fnExactEndedFromRow.wf (OpenSpec.ofChange Rows.fnExactEndedFromSpec) = true := by kernel_rfl
theorem FnExactEndedFrom_c1 : (Rows.fnExactEndedFromRow.inPlace == Try.pinned.checked.prog.inPlace 7) = true := by kernel_rfl
theorem FnExactEndedFrom_c2 : (Rows.fnExactEndedFromRow.unfollowed == Try.pinned.checked.prog.unfollowed 7) = true := by kernel_rfl
theorem FnExactEndedFrom_c3 : (Rows.fnExactEndedFromRow.recurses == Try.pinned.checked.prog.recurses 7) = true := by kernel_rfl
theorem FnExactEndedFrom_c4 : (Rows.fnExactEndedFromRow.named == Try.pinned.checked.prog.varsNamed 7) = true := by kernel_rfl
theorem FnExactEndedFrom_c5 : (Rows.fnExactEndedFromRow.plainKeys == Try.pinned.checked.prog.plainKeys) = true := by kernel_rfl
theorem FnExactEndedFrom_c6 : (Rows.fnExactEndedFromRow.lifted == Try.pinned.checked.prog.liftsFinal) = true := by rw [fact_lifts]; kernel_rfl
theorem FnExactEndedFrom_c7 : (Try.pinned.checked.prog.make == some Rows.fnExactEndedFromRow.make) = true := by rw [fact_make]; kernel_rfl
theorem FnExactEndedFrom_inst : Try.f7.isInstance Try.pinned.checked.prog Rows.fnExactEndedFromRow.origin Rows.fnExactEndedFromRow.targs := of_decide_eq_true (by kernel_rfl)
theorem FnExactEndedFrom_wrap : Try.f7.isWrapper Try.pinned.checked.prog Rows.fnExactEndedFromRow.wrapper Rows.fnExactEndedFromRow.mainSum := by
  unfold Func.isWrapper; first | (rw [if_pos (by decide +kernel)]; kernel_rfl) | (rw [if_neg (by decide +kernel)]; exact ⟨rfl, rfl⟩)
theorem FnExactEndedFrom_closed : joinedFacts Try.pinned.checked.prog 7 Try.f7 Rows.fnExactEndedFromSpec Rows.fnExactEndedFromRow = true := by
  unfold joinedFacts
  repeat' (with_reducible refine and2 ?_ ?_)
  all_goals first | with_reducible exact fact_laid | with_reducible exact fact_maps | with_reducible exact fact_stops | with_reducible exact fact_enter | with_reducible exact FnExactEndedFrom_wf | with_reducible exact FnExactEndedFrom_c1 | with_reducible exact FnExactEndedFrom_c2 | with_reducible exact FnExactEndedFrom_c3 | with_reducible exact FnExactEndedFrom_c4 | with_reducible exact FnExactEndedFrom_c5 | with_reducible exact FnExactEndedFrom_c6 | with_reducible exact FnExactEndedFrom_c7 | kernel_rfl
theorem FnExactEndedFrom_over : Rows.fnExactEndedFromRow.holds Try.pinned (OpenSpec.ofChange Rows.fnExactEndedFromSpec) :=
  OpenClaim.holds_of_wide 7 Try.f7 rfl rfl rfl rfl rfl rfl rfl ⟨rfl, rfl, rfl, rfl, rfl⟩ rfl rfl rfl rfl rfl FnExactEndedFrom_fn Try.func7 FnExactEndedFrom_closed FnExactEndedFrom_inst FnExactEndedFrom_wrap
    (fun os started H enc _ => FnExactEndedFrom_lifted os started H enc)
theorem FnExactEndedFrom_proved : Rows.FnExactEndedFromSaid := FnExactEndedFrom_over
#print axioms FnExactEndedFrom_proved
end Go.Proofs.Ytaifpindiphlkac
