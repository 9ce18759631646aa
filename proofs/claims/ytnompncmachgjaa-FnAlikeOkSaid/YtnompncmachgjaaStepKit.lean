/- Words for regions that draw their order and append: each new world has a name. No condition. -/
import Derived.Test.YtnompncmachgjaaKJ
import Derived.Test.YtnompncmachgjaaKI
import Derived.Deep.RegionHeld3
import Derived.Deep.CutRange
import Derived.Deep.Cut
namespace Go.Proofs.Ytnompncmachgjaa
open Go.RowKit
set_option linter.unusedVariables false
set_option maxRecDepth 10000
set_option linter.unusedSimpArgs false

theorem name_h {P : Program} {md : Region.Mode} {ops : Array Oper} {Q : Exit → Act → World → Prop} {S : World → Prop} {fuel : Nat} {listed : Array Bool} {a : Act} {w : World} (h : ∀ w', w' = w → wpAnyH P md ops Q S fuel listed a w') : wpAnyH P md ops Q S fuel listed a w := h w rfl
theorem name_k {K : Act → World → Prop} {a : Act} {w : World} (h : ∀ w', w' = w → K a w') : K a w := h w rfl
theorem name_c {P : Program} {c : Code} {Q : Exit → Act → World → Prop} {a : Act} {w : World} (h : ∀ w', w' = w → c.wp P Q a w') : c.wp P Q a w := h w rfl
section
variable {base k g : Nat} {w w' : World} {v : Value} {bs : List Bd} {xs : List Int} {t : TypeId} {cs : Array Value} {o : Obj}
theorem OwnB.allocE (h : OwnB w base v bs) (e : w' = w.alloc o) : OwnB w' base v bs := by subst e; exact h.alloc o
theorem OwnL.allocE (h : OwnL w base v xs) (e : w' = w.alloc o) : OwnL w' base v xs := by subst e; exact h.alloc o
theorem Blk.allocE (h : Blk w k t cs) (e : w' = w.alloc o) : Blk w' k t cs := by subst e; exact h.alloc o
theorem Below.allocE {w0 : World} (h : Below base w0 w) (hb : base ≤ w.heap.size) (e : w' = w.alloc o) : Below base w0 w' := by subst e; exact h.alloc hb o
theorem OwnB.emptyE (e : w' = w.alloc (.cells #[] 43)) (hb : base ≤ w.heap.size) : OwnB w' base (.slice (some ⟨w.heap.size, 0, none⟩) 0 0) [] := by subst e; exact OwnB.empty w base _ rfl hb
theorem OwnL.emptyE (e : w' = w.alloc (.cells #[] 3)) (hb : base ≤ w.heap.size) : OwnL w' base (.slice (some ⟨w.heap.size, 0, none⟩) 0 0) [] := by subst e; exact OwnL.empty w base _ rfl hb
theorem Blk.drewE (h : Blk w k t cs) (e : w' = w.drew) : Blk w' k t cs := by subst e; exact h
theorem Blk.newE (e : w' = w.alloc (.cells cs t)) : Blk w' w.heap.size t cs := by subst e; exact Blk.new _ _ _
theorem sizeE (e : w' = w.alloc o) : w.heap.size < w'.heap.size := by subst e; rw [sz]; omega
theorem Blk.bat1 {f t' m : Int} (h : Blk w g 43 #[.int .i64 f, .int .i64 t', .int .i64 m]) : BAt w (some ⟨g, 0, none⟩) [⟨f, t', m⟩] := by
  intro _
  refine ⟨g, 0, rfl, h.lt, fun i x hx => ?_⟩
  match i, hx with
  | 0, hx => simp at hx; subst hx; exact ⟨h.cell 0, h.cell 1, h.cell 2⟩
  | i + 1, hx => simp at hx
theorem Blk.iat1 {x : Int} (h : Blk w g 3 #[.int .i64 x]) : IAt w (some ⟨g, 0, none⟩) [x] := by
  intro _
  refine ⟨g, 0, rfl, h.lt, fun i y hy => ?_⟩
  match i, hy with
  | 0, hy => simp at hy; subst hy; exact h.cell 0
  | i + 1, hy => simp at hy
theorem grownB (hown : OwnB w base v bs) (hg : w.grownBy w' v.ownBlock) (hbase : base ≤ w.heap.size) : Below base w w' := by
  refine (Below.refl base w).grown hg hbase (fun k hk => ?_)
  rcases hown.2 with ⟨rfl, _⟩ | ⟨g', cap, cur, rfl, hb', _⟩
  · cases hk
  · simp only [Value.ownBlock, Option.some.injEq] at hk; omega
theorem grownL (hown : OwnL w base v xs) (hg : w.grownBy w' v.ownBlock) (hbase : base ≤ w.heap.size) : Below base w w' := by
  refine (Below.refl base w).grown hg hbase (fun k hk => ?_)
  rcases hown.2 with ⟨rfl, _⟩ | ⟨g', cap, cur, rfl, hb', _⟩
  · cases hk
  · simp only [Value.ownBlock, Option.some.injEq] at hk; omega
theorem Blk.grown (h : Blk w k t cs) (hg : w.grownBy w' v.ownBlock) (hne : some k ≠ v.ownBlock) : Blk w' k t cs := (hg.block k h.lt hne).trans h
theorem Blk.grownT (h : Blk w k 25 cs) (hown : OwnB w base v bs) (hg : w.grownBy w' v.ownBlock) : Blk w' k 25 cs := by
  refine h.grown hg ?_
  rcases hown.2 with ⟨rfl, _⟩ | ⟨g', cap, cur, rfl, hb', hh, _⟩
  · simp [Value.ownBlock]
  · intro e
    have e2 : k = g' := by simpa [Value.ownBlock] using e
    subst e2
    unfold Blk at h
    rw [h] at hh
    injection hh with hh
    injection hh with _ hh
    exact absurd hh (by decide)
end
/-- append of some bounds, in a region that draws its order. -/
theorem step_pushG {ops : Array Oper} {o : Oper} {a : Act} {K : Act → World → Prop} {Q : Exit → Act → World → Prop} {E : Prop} {w : World} (hgd : o.guard = none) (s x : Operand)
    (ho : o.op = .call { callee := .builtin .append, args := #[s, x], argTypes := #[23, 23] }) (base : Nat) (v : Value) (bs : List Bd) (hs : a.eval s = v) (hown : OwnB w base v bs)
    (A : Option Addr) (c m : Nat) (ys : List Bd) (hm : m = ys.length) (hx : a.eval x = .slice A m c) (hc : BAt w A ys) (h0 : A = none → c = 0) (hlen : bs.length + ys.length ≤ 1000000) (hbase : base ≤ w.heap.size)
    (h : ∀ v' w', OwnB w' base v' (bs ++ ys) → w.grownBy w' v.ownBlock → K (a.put o.dst v') w') :
    if Region.wanted o (yielded ops a.tmps) = true then Oper.wp Try.prog o a w K Q else E := by
  have hw : Region.wanted o (yielded ops a.tmps) = true := by simp [Region.wanted, hgd]
  rw [if_pos hw]
  subst hm
  obtain ⟨i0, hi, hz0, hz1, hz2⟩ := info_parts Try.infoBound
  cases A with
  | none =>
    have hy : ys = [] := by
      cases ys with
      | nil => rfl
      | cons y ys =>
        obtain ⟨b, off, e, _⟩ := hc (by simp)
        cases e
    subst hy
    obtain rfl := h0 rfl
    have hrun := run_append_owned_none (P := Try.prog) (w := w) base 23 o.type 43 i0 3 Try.underlying23 hi v bs.length _ hown
    unfold Oper.wp
    have hx' : a.eval x = .slice none 0 0 := hx
    simp [execOp, ho, resolve, invoke, builtin, hs, hx', hrun, Result.andThen]
    refine h v w ?_ ⟨rfl, rfl, rfl, Nat.le_refl _, fun _ _ _ => rfl⟩
    rw [List.append_nil]; exact hown
  | some ad =>
    refine wp_append_own w s x 23 ho base 43 i0 (.agg #[.int .i64 0, .int .i64 0, .int .i64 0]) 3 24 Try.underlying23 hi hz0 hz1 hz2 rfl (by decide) v bs.length _ hs hown ad ys.length c (flat ys) hx (flat_len ys) ?_ ?_ ?_ ?_ hbase ?_
    · intro j u hj
      obtain ⟨i, y, hy, h3⟩ := flat_inv ys j u hj
      obtain ⟨b, off, e, _, hcc⟩ := hc (by have := (List.getElem?_eq_some_iff.1 hy).1; omega)
      cases e
      obtain ⟨q0, q1, q2⟩ := hcc i y hy
      have ea : ∀ j, (⟨b, off, none⟩ : Addr).add j = ⟨b, off + j, none⟩ := by
        intro j; unfold Addr.add; split <;> simp_all
      rw [ea]
      rcases h3 with ⟨rfl, rfl⟩ | ⟨rfl, rfl⟩ | ⟨rfl, rfl⟩
      · exact q0
      · exact q1
      · exact q2
    · intro u hu
      obtain ⟨j, hj⟩ := List.getElem?_of_mem hu
      obtain ⟨i, y, hy, h3⟩ := flat_inv ys j u hj
      rcases h3 with ⟨_, rfl⟩ | ⟨_, rfl⟩ | ⟨_, rfl⟩ <;> rfl
    · unfold maxLen; omega
    · omega
    · intro v' w' hown' hg _
      refine h v' w' ?_ hg
      unfold OwnB
      rw [List.length_append, flat_append]
      exact hown'
/-- append of some numbers, in a region that draws its order. -/
theorem step_pushI {ops : Array Oper} {o : Oper} {a : Act} {K : Act → World → Prop} {Q : Exit → Act → World → Prop} {E : Prop} {w : World} (hgd : o.guard = none) (s x : Operand)
    (ho : o.op = .call { callee := .builtin .append, args := #[s, x], argTypes := #[27, 27] }) (base : Nat) (v : Value) (xs : List Int) (hs : a.eval s = v) (hown : OwnL w base v xs)
    (A : Option Addr) (c m : Nat) (ys : List Int) (hm : m = ys.length) (hx : a.eval x = .slice A m c) (hc : IAt w A ys) (h0 : A = none → c = 0) (hlen : xs.length + ys.length ≤ 1000000) (hbase : base ≤ w.heap.size)
    (h : ∀ v' w', OwnL w' base v' (xs ++ ys) → w.grownBy w' v.ownBlock → K (a.put o.dst v') w') :
    if Region.wanted o (yielded ops a.tmps) = true then Oper.wp Try.prog o a w K Q else E := by
  have hw : Region.wanted o (yielded ops a.tmps) = true := by simp [Region.wanted, hgd]
  rw [if_pos hw]
  subst hm
  obtain ⟨i0, hi, hz0, hz1, hz2⟩ := info_parts Try.infoInt
  cases A with
  | none =>
    have hy : ys = [] := by
      cases ys with
      | nil => rfl
      | cons y ys =>
        obtain ⟨b, off, e, _⟩ := hc (by simp)
        cases e
    subst hy
    obtain rfl := h0 rfl
    have hrun := run_append_owned_none (P := Try.prog) (w := w) base 27 o.type 3 i0 1 Try.underlying27 hi v xs.length _ hown
    unfold Oper.wp
    have hx' : a.eval x = .slice none 0 0 := hx
    simp [execOp, ho, resolve, invoke, builtin, hs, hx', hrun, Result.andThen]
    refine h v w ?_ ⟨rfl, rfl, rfl, Nat.le_refl _, fun _ _ _ => rfl⟩
    rw [List.append_nil]; exact hown
  | some ad =>
    refine wp_append_own w s x 27 ho base 3 i0 (.int .i64 0) 1 8 Try.underlying27 hi hz0 hz1 hz2 rfl (by decide) v xs.length _ hs hown ad ys.length c (ys.map fun y => .int .i64 y) hx (by simp) ?_ ?_ ?_ ?_ hbase ?_
    · intro j u hj
      rw [List.getElem?_map] at hj
      cases hy : ys[j]? with
      | none => rw [hy] at hj; cases hj
      | some y =>
        rw [hy] at hj
        cases hj
        obtain ⟨b, off, e, _, hcc⟩ := hc (by have := (List.getElem?_eq_some_iff.1 hy).1; omega)
        cases e
        have q := hcc j y hy
        by_cases e0 : j = 0
        · subst e0; simpa [Addr.add] using q
        · simpa [Addr.add, e0] using q
    · intro u hu
      obtain ⟨y, _, rfl⟩ := List.mem_map.1 hu
      rfl
    · unfold maxLen; omega
    · omega
    · intro v' w' hown' hg _
      refine h v' w' ?_ hg
      unfold OwnL
      rw [List.length_append, List.map_append]
      exact hown'
theorem Blk.two {w : World} {g : Nat} {t : TypeId} {a b : Value} (h : Blk w g t #[a, b]) : w.cell? ⟨g, 0, none⟩ = some a ∧ w.cell? ⟨g, 1, none⟩ = some b ∧ w.frozen? ⟨g, 0, none⟩ = false ∧ w.frozen? ⟨g, 1, none⟩ = false := ⟨h.cell 0, h.cell 1, h.frozen 0, h.frozen 1⟩
/-- The new plan comes into its box. -/
theorem storeE {w0 w w' : World} {X base : Nat} {v a b : Value} {n : Int} {L : List Bd} (e : w' = (w.setCell ⟨X, 0, none⟩ (.int .i64 n)).setCell ⟨X, 1, none⟩ v) (hX : Blk w X 25 #[a, b]) (ho : OwnB w base v L) (hR : Below base w0 w) (hb : base ≤ X) : OwnB w' base v L ∧ Blk w' X 25 #[.int .i64 n, v] ∧ Below base w0 w' := by
  subst e
  refine ⟨(ho.box hX).box (hX.set_ 0 _), by simpa using (hX.set_ 0 (.int .i64 n)).set_ 1 v, (hR.setCell (by exact hb) _).setCell (by exact hb) _⟩
end Go.Proofs.Ytnompncmachgjaa
