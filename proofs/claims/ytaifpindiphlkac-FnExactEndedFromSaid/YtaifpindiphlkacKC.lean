/- Contracts of impl and spec LaterOf, MovedBy, BrokenOf; for slices of at most 2^40 elements. Contracts of impl and spec MovedBy, BrokenOf; for slices of at most 2^40 elements. Contracts of impl and spec BrokenOf; for slices of at most 2^40 elements. -/
import Derived.Test.YtaifpindiphlkacKB
import Derived.OwnWalk
import Derived.Laws.AppendOwn
import Derived.WalkLawsBesides
import Derived.Deep.RegionHeld3
import Derived.Deep.AppendLies
import Derived.Deep.QuietTactic
import Derived.BigQuiet
namespace Go.Proofs.Ytaifpindiphlkac
open Go.RowKit
set_option linter.unusedVariables false
set_option maxRecDepth 10000
set_option linter.unusedSimpArgs false

/-- v is a slice of the call's own, in a block from base on, that holds the numbers xs. -/
def OwnL (w : World) (base : Nat) (v : Value) (xs : List Int) : Prop := w.ownsRow base 3 1 v xs.length (xs.map fun x => .int .i64 x)
theorem OwnL.nil (w : World) (base : Nat) : OwnL w base (.slice none 0 0) [] := World.ownsRow_nil _ _ _ _
theorem OwnL.empty (w : World) (base g : Nat) (hg : g = w.heap.size) (hb : base ≤ g) : OwnL (w.alloc (.cells #[] 3)) base (.slice (some ⟨g, 0, none⟩) 0 0) [] := by
  subst hg
  exact ⟨rfl, .inr ⟨w.heap.size, 0, #[], rfl, hb, heap_alloc_new w _, Nat.le_refl _, Nat.zero_le _, rfl, rfl⟩⟩
theorem OwnL.alloc {w : World} {base : Nat} {v : Value} {xs : List Int} (h : OwnL w base v xs) (o : Obj) : OwnL (w.alloc o) base v xs := World.ownsRow.alloc h o
theorem OwnL.drewN {w : World} {base : Nat} {v : Value} {xs : List Int} (h : OwnL w base v xs) (n : Nat) : OwnL (w.drewN n) base v xs := h
theorem OwnL.drew {w : World} {base : Nat} {v : Value} {xs : List Int} (h : OwnL w base v xs) : OwnL w.drew base v xs := h
theorem OwnL.below {w w1 : World} {base : Nat} {v : Value} {xs : List Int} (h : OwnL w base v xs) (hb : Below w.heap.size w w1) : OwnL w1 base v xs := by
  obtain ⟨h1, h2⟩ := h
  refine ⟨h1, ?_⟩
  rcases h2 with h2 | ⟨g, cap, cur, hv, hg, hh, r⟩
  · exact Or.inl h2
  · refine Or.inr ⟨g, cap, cur, hv, hg, ?_, r⟩
    rw [hb.block g (by
      rcases Nat.lt_or_ge g w.heap.size with hlt | hge
      · exact hlt
      · rw [Array.getElem?_eq_none hge] at hh; cases hh)]
    exact hh
/-- As a row of the call's own. -/
theorem OwnL.ri {w : World} {base : Nat} {v : Value} {xs : List Int} (h : OwnL w base v xs) : ∃ G c, v = .slice G xs.length c ∧ RI w base w.heap.size G xs := by
  obtain ⟨h1, ⟨rfl, h0⟩ | ⟨g, cap, cur, rfl, hg, hh, hn, hc, hs, ht⟩⟩ := h
  · have : xs = [] := List.eq_nil_of_length_eq_zero h0
    subst this
    exact ⟨none, 0, rfl, .inl ⟨rfl, rfl⟩⟩
  · have hlt : g < w.heap.size := by
      rcases Nat.lt_or_ge g w.heap.size with hlt | hge
      · exact hlt
      · rw [Array.getElem?_eq_none hge] at hh; cases hh
    refine ⟨some ⟨g, 0, none⟩, cap, rfl, .inr ⟨g, cur, rfl, hg, hlt, hh, by rw [hs]; omega, fun i x hi hx => ?_⟩⟩
    rw [Nat.mul_one] at ht
    have : (cur.toList.take xs.length)[i]? = some (.int .i64 x) := by rw [ht, List.getElem?_map, hx]; rfl
    rw [List.getElem?_take_of_lt hi] at this
    simpa using this
/-- What is handed back is a row of the call's own (or nil) that holds the numbers xs. -/
def ListRes (xs : List Int) (w : World) (e : Ending) (w' : World) : Prop :=
  ∃ G c, e = .returned (.slice G xs.length c) ∧ RI w' w.heap.size w'.heap.size G xs ∧ Below w.heap.size w w'
/-- The same with a bool. -/
def ListBoolRes (xs : List Int) (b : Bool) (w : World) (e : Ending) (w' : World) : Prop :=
  ∃ G c, e = .returned (.tuple #[.slice G xs.length c, .bool b]) ∧ RI w' w.heap.size w'.heap.size G xs ∧ Below w.heap.size w w'
theorem OwnL.res {w w' : World} {base : Nat} {v : Value} {xs : List Int} (h : OwnL w' base v xs) (hb : w.heap.size ≤ base) (hbel : Below w.heap.size w w') : ListRes xs w (.returned v) w' := by
  obtain ⟨G, c, rfl, hr⟩ := h.ri
  exact ⟨G, c, rfl, hr.wide hb (Nat.le_refl _), hbel⟩
theorem OwnL.resB {w w' : World} {base : Nat} {v : Value} {xs : List Int} (h : OwnL w' base v xs) (hb : w.heap.size ≤ base) (hbel : Below w.heap.size w w') (b : Bool) : ListBoolRes xs b w (.returned (.tuple #[v, .bool b])) w' := by
  obtain ⟨G, c, rfl, hr⟩ := h.ri
  exact ⟨G, c, rfl, hr.wide hb (Nat.le_refl _), hbel⟩
/-- append of one number. -/
theorem wpList_push {ops : Array Oper} {rest : List Oper} {o : Oper} {a : Act} {Q : Exit → Act → World → Prop} {w : World} (hgd : o.guard = none) (s x : Operand)
    (ho : o.op = .call { callee := .builtin .append, args := #[s, x], argTypes := #[25, 25] }) (base : Nat) (v : Value) (xs : List Int) (hs : a.eval s = v) (hown : OwnL w base v xs)
    (g : Nat) (y : Int) (hx : a.eval x = .slice (some ⟨g, 0, none⟩) 1 1) (hc : w.cell? ⟨g, 0, none⟩ = some (.int .i64 y)) (hlen : xs.length ≤ 1099511627776) (hbase : base ≤ w.heap.size)
    (h : ∀ v' w', OwnL w' base v' (xs ++ [y]) → Below base w w' → wpList Try.prog ops Q rest (a.put o.dst v') w') : wpList Try.prog ops Q (o :: rest) a w := by
  obtain ⟨i0, hi, hz0, hz1, hz2⟩ := info_parts Try.infoInt
  refine wpList_append_own _ hgd s x 25 ho base 3 i0 (.int .i64 0) 1 8 Try.underlying25 hi hz0 hz1 hz2 rfl (by decide) v xs.length _ hs hown ⟨g, 0, none⟩ 1 1 [.int .i64 y] hx rfl ?_ ?_ ?_ ?_ hbase ?_
  · intro j u hj
    match j, hj with
    | 0, hj => simp at hj; subst hj; simpa [Addr.add] using hc
  · intro u hu; simp at hu; subst hu; rfl
  · unfold maxLen; omega
  · omega
  · intro v' w' hown' hg _
    refine h v' w' ?_ ?_
    · unfold OwnL
      rw [List.length_append, List.map_append]
      exact hown'
    · refine (Below.refl base w).grown hg hbase (fun k hk => ?_)
      rcases hown.2 with ⟨rfl, _⟩ | ⟨g', cap, cur, rfl, hb', _⟩
      · cases hk
      · simp only [Value.ownBlock, Option.some.injEq] at hk; omega

/-- The same in a region that draws its order. -/
theorem step_push {ops : Array Oper} {o : Oper} {a : Act} {K : Act → World → Prop} {Q : Exit → Act → World → Prop} {E : Prop} {w : World} (hgd : o.guard = none) (s x : Operand)
    (ho : o.op = .call { callee := .builtin .append, args := #[s, x], argTypes := #[25, 25] }) (base : Nat) (v : Value) (xs : List Int) (hs : a.eval s = v) (hown : OwnL w base v xs)
    (g : Nat) (y : Int) (hx : a.eval x = .slice (some ⟨g, 0, none⟩) 1 1) (hc : w.cell? ⟨g, 0, none⟩ = some (.int .i64 y)) (hlen : xs.length ≤ 1099511627776) (hbase : base ≤ w.heap.size)
    (h : ∀ v' w', OwnL w' base v' (xs ++ [y]) → Below base w w' → K (a.put o.dst v') w') :
    if Region.wanted o (yielded ops a.tmps) = true then Oper.wp Try.prog o a w K Q else E := by
  have hw : Region.wanted o (yielded ops a.tmps) = true := by simp [Region.wanted, hgd]
  rw [if_pos hw]
  obtain ⟨i0, hi, hz0, hz1, hz2⟩ := info_parts Try.infoInt
  refine wp_append_own w s x 25 ho base 3 i0 (.int .i64 0) 1 8 Try.underlying25 hi hz0 hz1 hz2 rfl (by decide) v xs.length _ hs hown ⟨g, 0, none⟩ 1 1 [.int .i64 y] hx rfl ?_ ?_ ?_ ?_ hbase ?_
  · intro j u hj
    match j, hj with
    | 0, hj => simp at hj; subst hj; simpa [Addr.add] using hc
  · intro u hu; simp at hu; subst hu; rfl
  · unfold maxLen; omega
  · omega
  · intro v' w' hown' hg _
    refine h v' w' ?_ ?_
    · unfold OwnL
      rw [List.length_append, List.map_append]
      exact hown'
    · refine (Below.refl base w).grown hg hbase (fun k hk => ?_)
      rcases hown.2 with ⟨rfl, _⟩ | ⟨g', cap, cur, rfl, hb', _⟩
      · cases hk
      · simp only [Value.ownBlock, Option.some.injEq] at hk; omega

/-- The greater ones of two rows. -/
def maxes (a b : List Int) : List Int := List.zipWith (fun x y => if x < y then y else x) a b
def laterOf (n : Int) (bs : List Bd) (a b : List Int) : List Int := if timesOk n bs a = true ∧ timesOk n bs b = true then maxes a b else []
theorem laterOf_len (n : Int) (bs : List Bd) (a b : List Int) : (laterOf n bs a b).length ≤ a.length := by unfold laterOf; split <;> simp [maxes]; omega
theorem maxes_snoc {a b : List Int} {k : Nat} {x y : Int} (hx : a[k]? = some x) (hy : b[k]? = some y) : maxes (a.take (k + 1)) (b.take (k + 1)) = maxes (a.take k) (b.take k) ++ [if x < y then y else x] := by
  obtain ⟨ha, hva⟩ := List.getElem?_eq_some_iff.1 hx
  obtain ⟨hb, hvb⟩ := List.getElem?_eq_some_iff.1 hy
  unfold maxes
  rw [List.take_succ_eq_append_getElem ha, List.take_succ_eq_append_getElem hb, List.zipWith_append (by simp; omega), hva, hvb]
  rfl
theorem maxes_len (a b : List Int) (k : Nat) : (maxes (a.take k) (b.take k)).length ≤ k := by simp [maxes]; omega
end Go.Proofs.Ytaifpindiphlkac
namespace Go.Proofs.Ytaifpindiphlkac
open Go.RowKit
set_option linter.unusedVariables false
set_option maxRecDepth 10000
set_option linter.unusedSimpArgs false

def shift (ts : List Int) (d : Int) : List Int := ts.map fun t => t + d
theorem shift_length (ts : List Int) (d : Int) : (shift ts d).length = ts.length := by simp [shift]
theorem shift_snoc {ts : List Int} {d t : Int} {k : Nat} (h : ts[k]? = some t) : shift (ts.take (k + 1)) d = shift (ts.take k) d ++ [t + d] := by
  obtain ⟨hl, hv⟩ := List.getElem?_eq_some_iff.1 h
  unfold shift
  rw [List.take_succ_eq_append_getElem hl, List.map_append, hv]; rfl
def movedOk (n : Int) (bs : List Bd) (ts : List Int) (d : Int) : Bool := timesOk n bs ts && inB d (-2000) 2000 && timesOk n bs (shift ts d)
def movedL (n : Int) (bs : List Bd) (ts : List Int) (d : Int) : List Int := if movedOk n bs ts d = true then shift ts d else []
theorem movedL_len (n : Int) (bs : List Bd) (ts : List Int) (d : Int) : (movedL n bs ts d).length ≤ ts.length := by unfold movedL; split <;> simp [shift]
end Go.Proofs.Ytaifpindiphlkac
namespace Go.Proofs.Ytaifpindiphlkac
open Go.RowKit
set_option linter.unusedVariables false
set_option maxRecDepth 10000
set_option linter.unusedSimpArgs false

/-- The places below k of all bounds that the times do not keep. -/
def brokenTo (bs : List Bd) (ts : List Int) (k : Nat) : List Int := ((List.range k).filter fun i => !keeps ts (bs.getD i ⟨0, 0, 0⟩)).map fun (i : Nat) => (i : Int)
def brokenOf (n : Int) (bs : List Bd) (ts : List Int) : List Int := if timesOk n bs ts = true then brokenTo bs ts bs.length else []
theorem brokenTo_len (bs : List Bd) (ts : List Int) (k : Nat) : (brokenTo bs ts k).length ≤ k := by
  unfold brokenTo
  rw [List.length_map]
  exact Nat.le_trans (List.length_filter_le _ _) (by simp)
theorem brokenOf_len (n : Int) (bs : List Bd) (ts : List Int) : (brokenOf n bs ts).length ≤ bs.length := by
  unfold brokenOf; split
  · exact brokenTo_len _ _ _
  · simp
theorem brokenTo_hit {bs : List Bd} {ts : List Int} {k : Nat} {x : Bd} (hx : bs[k]? = some x) (h : keeps ts x = false) : brokenTo bs ts (k + 1) = brokenTo bs ts k ++ [(k : Int)] := by
  unfold brokenTo
  rw [List.range_succ, List.filter_append, List.map_append]
  have : bs.getD k ⟨0, 0, 0⟩ = x := by rw [List.getD_eq_getElem?_getD, hx]; rfl
  simp only [List.filter_cons, List.filter_nil, this, h]; rfl
theorem brokenTo_miss {bs : List Bd} {ts : List Int} {k : Nat} {x : Bd} (hx : bs[k]? = some x) (h : keeps ts x = true) : brokenTo bs ts (k + 1) = brokenTo bs ts k := by
  unfold brokenTo
  rw [List.range_succ, List.filter_append, List.map_append]
  have : bs.getD k ⟨0, 0, 0⟩ = x := by rw [List.getD_eq_getElem?_getD, hx]; rfl
  simp only [List.filter_cons, List.filter_nil, this, h]; simp
end Go.Proofs.Ytaifpindiphlkac
