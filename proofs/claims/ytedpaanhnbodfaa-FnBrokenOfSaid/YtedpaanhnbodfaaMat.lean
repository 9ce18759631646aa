/- Tables that the reference builds by append: how they read, and how they grow. No condition but that they are short. -/
import Derived.Test.YtedpaanhnbodfaaGrid
import Derived.Test.YtedpaanhnbodfaaLists
namespace Go.Proofs.Ytedpaanhnbodfaa
open Go.RowKit
set_option linter.unusedVariables false
set_option maxRecDepth 10000
set_option linter.unusedSimpArgs false

/-- The slice at A reads, in world w, as the first N rows of the table T. -/
def MAt (w : World) (A : Option Addr) (N M : Nat) (T : Tab) : Prop :=
  0 < M → ∃ g off, A = some ⟨g, off, none⟩ ∧ g < w.heap.size ∧ ∀ i, i < M → ∃ b o c, w.cell? ⟨g, off + i, none⟩ = some (.slice (some ⟨b, o, none⟩) N c) ∧ b < w.heap.size ∧ ∀ j, j < N → w.cell? ⟨b, o + j, none⟩ = some (.int .i64 (T i j))
theorem MAt.below {w w1 : World} {A : Option Addr} {N M : Nat} {T : Tab} (h : MAt w A N M T) (hb : Below w.heap.size w w1) : MAt w1 A N M T := by
  intro h0
  obtain ⟨g, off, e, hg, hr⟩ := h h0
  refine ⟨g, off, e, Nat.lt_of_lt_of_le hg hb.size, fun i hi => ?_⟩
  obtain ⟨b, o, c, h1, h2, h3⟩ := hr i hi
  exact ⟨b, o, c, cB hb h1, Nat.lt_of_lt_of_le h2 hb.size, fun j hj => cB hb (h3 j hj)⟩
theorem MAt.at_ {w : World} {A : Option Addr} {N M : Nat} {T : Tab} (h : MAt w A N M T) {i : Nat} (hi : i < M) : ∃ g off b o c, A = some ⟨g, off, none⟩ ∧ g < w.heap.size ∧ w.cell? ⟨g, off + i, none⟩ = some (.slice (some ⟨b, o, none⟩) N c) ∧ b < w.heap.size ∧ ∀ j, j < N → w.cell? ⟨b, o + j, none⟩ = some (.int .i64 (T i j)) := by
  obtain ⟨g, off, e, hg, hr⟩ := h (by omega)
  obtain ⟨b, o, c, h1, h2, h3⟩ := hr i hi
  exact ⟨g, off, b, o, c, e, hg, h1, h2, h3⟩
theorem Grid.mat {w : World} {lo hi g N : Nat} {R C : Nat → Nat} {T : Tab} (h : Grid w lo hi g N R C T) : MAt w (some ⟨g, 0, none⟩) N N T := by
  intro _
  refine ⟨g, 0, rfl, h.lt, fun i hi => ⟨R i, 0, C i, by rw [Nat.zero_add]; exact h.row hi, h.rlt hi, fun j hj => by rw [Nat.zero_add]; exact h.cell hi hj⟩⟩
/-- val is a row of the call's own that holds f 0, f 1, up to N numbers. -/
def RowOk (w : World) (lo : Nat) (val : Value) (N : Nat) (f : Nat → Int) : Prop := ∃ G c rs, val = .slice (some ⟨G, 0, none⟩) N c ∧ lo ≤ G ∧ Blk w G 3 rs ∧ ∀ j, j < N → rs[j]? = some (.int .i64 (f j))
theorem RowOk.below {w w1 : World} {lo N B : Nat} {val : Value} {f : Nat → Int} (h : RowOk w lo val N f) (hb : Below B w w1) (hB : w.heap.size ≤ B) : RowOk w1 lo val N f := by
  obtain ⟨G, c, rs, e, h1, h2, h3⟩ := h
  exact ⟨G, c, rs, e, h1, h2.below hb (Nat.lt_of_lt_of_le h2.lt hB), h3⟩
theorem RowOk.map_ {w w1 : World} {lo N : Nat} {val : Value} {f : Nat → Int} (h : RowOk w lo val N f) (hk : ∀ k rs, Blk w k 3 rs → Blk w1 k 3 rs) : RowOk w1 lo val N f := by
  obtain ⟨G, c, rs, e, h1, h2, h3⟩ := h
  exact ⟨G, c, rs, e, h1, hk _ _ h2, h3⟩
theorem RowOk.alloc {w : World} {lo N : Nat} {val : Value} {f : Nat → Int} (h : RowOk w lo val N f) (o : Obj) : RowOk (w.alloc o) lo val N f := h.map_ fun _ _ hk => hk.alloc o
theorem RowOk.low {w : World} {lo lo' N : Nat} {val : Value} {f : Nat → Int} (h : RowOk w lo val N f) (hl : lo' ≤ lo) : RowOk w lo' val N f := by
  obtain ⟨G, c, rs, e, h1, h2, h3⟩ := h
  exact ⟨G, c, rs, e, by omega, h2, h3⟩
/-- v is a slice of the call's own, in a block from base on, that holds the values vals (slices of ints). -/
def OwnM (w : World) (base : Nat) (v : Value) (vals : List Value) : Prop := w.ownsRow base 30 1 v vals.length vals
theorem OwnM.empty (w : World) (base g : Nat) (hg : g = w.heap.size) (hb : base ≤ g) : OwnM (w.alloc (.cells #[] 30)) base (.slice (some ⟨g, 0, none⟩) 0 0) [] := by
  subst hg
  exact ⟨rfl, .inr ⟨w.heap.size, 0, #[], rfl, hb, heap_alloc_new w _, Nat.le_refl _, Nat.zero_le _, rfl, rfl⟩⟩
theorem OwnM.alloc {w : World} {base : Nat} {v : Value} {vals : List Value} (h : OwnM w base v vals) (o : Obj) : OwnM (w.alloc o) base v vals := World.ownsRow.alloc h o
theorem OwnM.keep {w w1 : World} {base : Nat} {v : Value} {vals : List Value} (h : OwnM w base v vals) (hb : ∀ k, base ≤ k → k < w.heap.size → w1.heap[k]? = w.heap[k]?) : OwnM w1 base v vals := by
  obtain ⟨h1, h2⟩ := h
  refine ⟨h1, ?_⟩
  rcases h2 with h2 | ⟨g, cap, cur, hv, hg, hh, r⟩
  · exact Or.inl h2
  · refine Or.inr ⟨g, cap, cur, hv, hg, ?_, r⟩
    rw [hb g hg (by
      rcases Nat.lt_or_ge g w.heap.size with hlt | hge
      · exact hlt
      · rw [Array.getElem?_eq_none hge] at hh; cases hh)]
    exact hh
theorem OwnM.below {w w1 : World} {base B : Nat} {v : Value} {vals : List Value} (h : OwnM w base v vals) (hb : Below B w w1) (hB : w.heap.size ≤ B) : OwnM w1 base v vals := h.keep fun k _ hk => hb.block k (by omega)
/-- Read as a table. -/
theorem OwnM.mat {w : World} {base N : Nat} {v : Value} {vals : List Value} {T : Tab} (h : OwnM w base v vals) (hr : ∀ i val, vals[i]? = some val → RowOk w base val N (T i)) : ∃ A c, v = .slice A vals.length c ∧ MAt w A N vals.length T := by
  obtain ⟨h1, ⟨rfl, h0⟩ | ⟨g, cap, cur, rfl, hg, hh, hn, hc, hs, ht⟩⟩ := h
  · exact ⟨none, 0, by rw [h0], fun hp => absurd hp (by omega)⟩
  · refine ⟨some ⟨g, 0, none⟩, cap, rfl, fun _ => ?_⟩
    have hlt : g < w.heap.size := by
      rcases Nat.lt_or_ge g w.heap.size with hlt | hge
      · exact hlt
      · rw [Array.getElem?_eq_none hge] at hh; cases hh
    refine ⟨g, 0, rfl, hlt, fun i hi => ?_⟩
    obtain ⟨G, c, rs, e, _, hB, hF⟩ := hr i vals[i] (List.getElem?_eq_getElem hi)
    refine ⟨G, 0, c, ?_, hB.lt, fun j hj => by rw [Nat.zero_add]; exact (hB.cell j).trans (hF j hj)⟩
    rw [Nat.zero_add, cell_of_row w g i cur _ (0, 0) hh]
    rw [Nat.mul_one] at ht
    have : (cur.toList.take vals.length)[i]? = vals[i]? := by rw [ht]
    rw [List.getElem?_take_of_lt hi, List.getElem?_eq_getElem hi, e] at this
    simpa using this
/-- The same reading, of blocks from lo up to hi alone. -/
def MLoc (w : World) (lo hi : Nat) (A : Option Addr) (N M : Nat) (T : Tab) : Prop :=
  0 < M → ∃ g off, A = some ⟨g, off, none⟩ ∧ lo ≤ g ∧ g < hi ∧ ∀ i, i < M → ∃ b o c, w.cell? ⟨g, off + i, none⟩ = some (.slice (some ⟨b, o, none⟩) N c) ∧ lo ≤ b ∧ b < hi ∧ ∀ j, j < N → w.cell? ⟨b, o + j, none⟩ = some (.int .i64 (T i j))
theorem MLoc.mat {w : World} {lo hi : Nat} {A : Option Addr} {N M : Nat} {T : Tab} (h : MLoc w lo hi A N M T) (hh : hi ≤ w.heap.size) : MAt w A N M T := by
  intro h0
  obtain ⟨g, off, e, _, hg, hr⟩ := h h0
  refine ⟨g, off, e, by omega, fun i hi => ?_⟩
  obtain ⟨b, o, c, h1, _, h2, h3⟩ := hr i hi
  exact ⟨b, o, c, h1, by omega, h3⟩
theorem MLoc.wide {w : World} {lo hi lo' hi' : Nat} {A : Option Addr} {N M : Nat} {T : Tab} (h : MLoc w lo hi A N M T) (hl : lo' ≤ lo) (hh : hi ≤ hi') : MLoc w lo' hi' A N M T := by
  intro h0
  obtain ⟨g, off, e, g1, hg, hr⟩ := h h0
  refine ⟨g, off, e, by omega, by omega, fun i hi => ?_⟩
  obtain ⟨b, o, c, h1, b1, h2, h3⟩ := hr i hi
  exact ⟨b, o, c, h1, by omega, by omega, h3⟩
theorem MLoc.same {w w1 : World} {lo hi : Nat} {A : Option Addr} {N M : Nat} {T : Tab} (h : MLoc w lo hi A N M T) (hs : Same lo hi w w1) (hh : hi ≤ w.heap.size) : MLoc w1 lo hi A N M T := by
  obtain ⟨_, h2⟩ := hs.out hh
  intro h0
  obtain ⟨g, off, e, g1, hg, hr⟩ := h h0
  refine ⟨g, off, e, g1, hg, fun i hi => ?_⟩
  obtain ⟨b, o, c, q1, b1, q2, q3⟩ := hr i hi
  exact ⟨b, o, c, (World.cell?_of_block (a := ⟨g, off + i, none⟩) (h2 g g1 hg)).trans q1, b1, q2, fun j hj => (World.cell?_of_block (a := ⟨b, o + j, none⟩) (h2 b b1 q2)).trans (q3 j hj)⟩
theorem Grid.loc {w : World} {lo hi g N : Nat} {R C : Nat → Nat} {T : Tab} (h : Grid w lo hi g N R C T) : MLoc w lo hi (some ⟨g, 0, none⟩) N N T := by
  intro _
  refine ⟨g, 0, rfl, h.glo, h.ghi, fun i hi' => ⟨R i, 0, C i, by rw [Nat.zero_add]; exact h.row hi', h.rlo i hi', h.rhi i hi', fun j hj => by rw [Nat.zero_add]; exact h.cell hi' hj⟩⟩
theorem OwnM.loc {w : World} {base N : Nat} {v : Value} {vals : List Value} {T : Tab} (h : OwnM w base v vals) (hr : ∀ i val, vals[i]? = some val → RowOk w base val N (T i)) : ∃ A c, v = .slice A vals.length c ∧ MLoc w base w.heap.size A N vals.length T := by
  obtain ⟨h1, ⟨rfl, h0⟩ | ⟨g, cap, cur, rfl, hg, hh, hn, hc, hs, ht⟩⟩ := h
  · exact ⟨none, 0, by rw [h0], fun hp => absurd hp (by omega)⟩
  · refine ⟨some ⟨g, 0, none⟩, cap, rfl, fun _ => ?_⟩
    have hlt : g < w.heap.size := by
      rcases Nat.lt_or_ge g w.heap.size with hlt | hge
      · exact hlt
      · rw [Array.getElem?_eq_none hge] at hh; cases hh
    refine ⟨g, 0, rfl, hg, hlt, fun i hi => ?_⟩
    obtain ⟨G, c, rs, e, hG, hB, hF⟩ := hr i vals[i] (List.getElem?_eq_getElem hi)
    refine ⟨G, 0, c, ?_, hG, hB.lt, fun j hj => by rw [Nat.zero_add]; exact (hB.cell j).trans (hF j hj)⟩
    rw [Nat.zero_add, cell_of_row w g i cur _ (0, 0) hh]
    rw [Nat.mul_one] at ht
    have : (cur.toList.take vals.length)[i]? = vals[i]? := by rw [ht]
    rw [List.getElem?_take_of_lt hi, List.getElem?_eq_getElem hi, e] at this
    simpa using this
/-- append of one row; rows of ints elsewhere are as they were. -/
theorem wpList_pushM {ops : Array Oper} {rest : List Oper} {o : Oper} {a : Act} {Q : Exit → Act → World → Prop} {w : World} (hgd : o.guard = none) (s x : Operand)
    (ho : o.op = .call { callee := .builtin .append, args := #[s, x], argTypes := #[56, 56] }) (base : Nat) (v : Value) (vals : List Value) (hs : a.eval s = v) (hown : OwnM w base v vals)
    (g : Nat) (y : Value) (hy : y.oneCell' = true) (hx : a.eval x = .slice (some ⟨g, 0, none⟩) 1 1) (hc : w.cell? ⟨g, 0, none⟩ = some y) (hlen : vals.length ≤ 1099511627776) (hbase : base ≤ w.heap.size)
    (h : ∀ v' w', OwnM w' base v' (vals ++ [y]) → Below base w w' → (∀ k rs, Blk w k 3 rs → Blk w' k 3 rs) → wpList Try.prog ops Q rest (a.put o.dst v') w') : wpList Try.prog ops Q (o :: rest) a w := by
  obtain ⟨i0, hi, hz0, hz1, hz2⟩ := info_parts (show (Try.prog.info? 30).map (fun i => (i.zero, i.size, i.bytes)) = some (some (.slice none 0 0), 1, 24) by kernel_rfl)
  refine wpList_append_own _ hgd s x 56 ho base 30 i0 (.slice none 0 0) 1 24 Try.underlying56 hi hz0 hz1 hz2 rfl (by decide) v vals.length _ hs hown ⟨g, 0, none⟩ 1 1 [y] hx rfl ?_ ?_ ?_ ?_ hbase ?_
  · intro j u hj
    match j, hj with
    | 0, hj => simp at hj; subst hj; simpa [Addr.add] using hc
  · intro u hu; simp at hu; subst hu; exact hy
  · unfold maxLen; omega
  · omega
  · intro v' w' hown' hg _
    refine h v' w' ?_ ?_ ?_
    · unfold OwnM
      rw [List.length_append]
      exact hown'
    · refine (Below.refl base w).grown hg hbase (fun k hk => ?_)
      rcases hown.2 with ⟨rfl, _⟩ | ⟨g', cap, cur, rfl, hb', _⟩
      · cases hk
      · simp only [Value.ownBlock, Option.some.injEq] at hk; omega
    · intro k rs hk
      refine (hg.block k hk.lt ?_).trans hk
      rcases hown.2 with ⟨rfl, _⟩ | ⟨g', cap, cur, rfl, hb', hh, _⟩
      · simp [Value.ownBlock]
      · intro e
        have e2 : k = g' := by simpa [Value.ownBlock] using e
        subst e2
        unfold Blk at hk
        rw [hk] at hh
        injection hh with hh
        injection hh with _ hh
        exact absurd hh (by decide)
end Go.Proofs.Ytedpaanhnbodfaa
