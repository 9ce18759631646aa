/- Tables that the reference builds by append: how they read, and how they grow. No condition but that they are short. The contract of spec.l2Table: the table of a plan, as the reference makes it; for plans of at most a thousand points and slices of at most 2^40 bounds. The contract of spec.l2Closed: the closed table of a plan, as the reference makes it; for plans of 1 to 1000 points and slices of at most 2^40 bounds. The contracts of spec.l2Fits and spec.FitsOk; for slices of at most 2^40 bounds. Plain law: the program's closing in place and the reference's closing round by round agree on whether a plan fits, and on the closed table if it fits. No program in sight. -/
import Derived.Test.YtaifpindiphlkaaKD
import Derived.Test.YtaifpindiphlkaaKC
import Derived.Deep.QuietTactic
import Derived.BigQuiet
import Derived.Test.YtaifpindiphlkaaKA
namespace Go.Proofs.Ytaifpindiphlkaa
open Go.RowKit
set_option linter.unusedVariables false
set_option maxRecDepth 10000
set_option linter.unusedSimpArgs false

/-- The slice at A reads, in world w, as the first N rows of the table T. -/
def MAt (w : World) (A : Option Addr) (N M : Nat) (T : Tab) : Prop :=
  0 < M → ∃ g off, A = some ⟨g, off, none⟩ ∧ g < w.heap.size ∧ ∀ i, i < M → ∃ b o c, w.cell? ⟨g, off + i, none⟩ = some (.slice (some ⟨b, o, none⟩) N c) ∧ b < w.heap.size ∧ ∀ j, j < N → w.cell? ⟨b, o + j, none⟩ = some (.int .i64 (T i j))
theorem MAt.below {w w1 : World} {A : Option Addr} {N M : Nat} {T : Tab} (h : MAt w A N M T) (hb : Below w.heap.size w w1) : MAt w1 A N M T := by
  intro h0
  obtain ⟨g, off, e, hg, hr⟩ := h h0
  refine ⟨g, off, e, Nat.lt_of_lt_of_le hg hb.size, fun i hi => ?_⟩
  obtain ⟨b, o, c, h1, h2, h3⟩ := hr i hi
  exact ⟨b, o, c, cB hb h1, Nat.lt_of_lt_of_le h2 hb.size, fun j hj => cB hb (h3 j hj)⟩
theorem MAt.at_ {w : World} {A : Option Addr} {N M : Nat} {T : Tab} (h : MAt w A N M T) {i : Nat} (hi : i < M) : ∃ g off b o c, A = some ⟨g, off, none⟩ ∧ g < w.heap.size ∧ w.cell? ⟨g, off + i, none⟩ = some (.slice (some ⟨b, o, none⟩) N c) ∧ b < w.heap.size ∧ ∀ j, j < N → w.cell? ⟨b, o + j, none⟩ = some (.int .i64 (T i j)) := by
  obtain ⟨g, off, e, hg, hr⟩ := h (by omega)
  obtain ⟨b, o, c, h1, h2, h3⟩ := hr i hi
  exact ⟨g, off, b, o, c, e, hg, h1, h2, h3⟩
theorem Grid.mat {w : World} {lo hi g N : Nat} {R C : Nat → Nat} {T : Tab} (h : Grid w lo hi g N R C T) : MAt w (some ⟨g, 0, none⟩) N N T := by
  intro _
  refine ⟨g, 0, rfl, h.lt, fun i hi => ⟨R i, 0, C i, by rw [Nat.zero_add]; exact h.row hi, h.rlt hi, fun j hj => by rw [Nat.zero_add]; exact h.cell hi hj⟩⟩
/-- val is a row of the call's own that holds f 0, f 1, up to N numbers. -/
def RowOk (w : World) (lo : Nat) (val : Value) (N : Nat) (f : Nat → Int) : Prop := ∃ G c rs, val = .slice (some ⟨G, 0, none⟩) N c ∧ lo ≤ G ∧ Blk w G 3 rs ∧ ∀ j, j < N → rs[j]? = some (.int .i64 (f j))
theorem RowOk.below {w w1 : World} {lo N B : Nat} {val : Value} {f : Nat → Int} (h : RowOk w lo val N f) (hb : Below B w w1) (hB : w.heap.size ≤ B) : RowOk w1 lo val N f := by
  obtain ⟨G, c, rs, e, h1, h2, h3⟩ := h
  exact ⟨G, c, rs, e, h1, h2.below hb (Nat.lt_of_lt_of_le h2.lt hB), h3⟩
theorem RowOk.map_ {w w1 : World} {lo N : Nat} {val : Value} {f : Nat → Int} (h : RowOk w lo val N f) (hk : ∀ k rs, Blk w k 3 rs → Blk w1 k 3 rs) : RowOk w1 lo val N f := by
  obtain ⟨G, c, rs, e, h1, h2, h3⟩ := h
  exact ⟨G, c, rs, e, h1, hk _ _ h2, h3⟩
theorem RowOk.alloc {w : World} {lo N : Nat} {val : Value} {f : Nat → Int} (h : RowOk w lo val N f) (o : Obj) : RowOk (w.alloc o) lo val N f := h.map_ fun _ _ hk => hk.alloc o
theorem RowOk.low {w : World} {lo lo' N : Nat} {val : Value} {f : Nat → Int} (h : RowOk w lo val N f) (hl : lo' ≤ lo) : RowOk w lo' val N f := by
  obtain ⟨G, c, rs, e, h1, h2, h3⟩ := h
  exact ⟨G, c, rs, e, by omega, h2, h3⟩
/-- v is a slice of the call's own, in a block from base on, that holds the values vals (slices of ints). -/
def OwnM (w : World) (base : Nat) (v : Value) (vals : List Value) : Prop := w.ownsRow base 30 1 v vals.length vals
theorem OwnM.empty (w : World) (base g : Nat) (hg : g = w.heap.size) (hb : base ≤ g) : OwnM (w.alloc (.cells #[] 30)) base (.slice (some ⟨g, 0, none⟩) 0 0) [] := by
  subst hg
  exact ⟨rfl, .inr ⟨w.heap.size, 0, #[], rfl, hb, heap_alloc_new w _, Nat.le_refl _, Nat.zero_le _, rfl, rfl⟩⟩
theorem OwnM.alloc {w : World} {base : Nat} {v : Value} {vals : List Value} (h : OwnM w base v vals) (o : Obj) : OwnM (w.alloc o) base v vals := World.ownsRow.alloc h o
theorem OwnM.keep {w w1 : World} {base : Nat} {v : Value} {vals : List Value} (h : OwnM w base v vals) (hb : ∀ k, base ≤ k → k < w.heap.size → w1.heap[k]? = w.heap[k]?) : OwnM w1 base v vals := by
  obtain ⟨h1, h2⟩ := h
  refine ⟨h1, ?_⟩
  rcases h2 with h2 | ⟨g, cap, cur, hv, hg, hh, r⟩
  · exact Or.inl h2
  · refine Or.inr ⟨g, cap, cur, hv, hg, ?_, r⟩
    rw [hb g hg (by
      rcases Nat.lt_or_ge g w.heap.size with hlt | hge
      · exact hlt
      · rw [Array.getElem?_eq_none hge] at hh; cases hh)]
    exact hh
theorem OwnM.below {w w1 : World} {base B : Nat} {v : Value} {vals : List Value} (h : OwnM w base v vals) (hb : Below B w w1) (hB : w.heap.size ≤ B) : OwnM w1 base v vals := h.keep fun k _ hk => hb.block k (by omega)
/-- Read as a table. -/
theorem OwnM.mat {w : World} {base N : Nat} {v : Value} {vals : List Value} {T : Tab} (h : OwnM w base v vals) (hr : ∀ i val, vals[i]? = some val → RowOk w base val N (T i)) : ∃ A c, v = .slice A vals.length c ∧ MAt w A N vals.length T := by
  obtain ⟨h1, ⟨rfl, h0⟩ | ⟨g, cap, cur, rfl, hg, hh, hn, hc, hs, ht⟩⟩ := h
  · exact ⟨none, 0, by rw [h0], fun hp => absurd hp (by omega)⟩
  · refine ⟨some ⟨g, 0, none⟩, cap, rfl, fun _ => ?_⟩
    have hlt : g < w.heap.size := by
      rcases Nat.lt_or_ge g w.heap.size with hlt | hge
      · exact hlt
      · rw [Array.getElem?_eq_none hge] at hh; cases hh
    refine ⟨g, 0, rfl, hlt, fun i hi => ?_⟩
    obtain ⟨G, c, rs, e, _, hB, hF⟩ := hr i vals[i] (List.getElem?_eq_getElem hi)
    refine ⟨G, 0, c, ?_, hB.lt, fun j hj => by rw [Nat.zero_add]; exact (hB.cell j).trans (hF j hj)⟩
    rw [Nat.zero_add, cell_of_row w g i cur _ (0, 0) hh]
    rw [Nat.mul_one] at ht
    have : (cur.toList.take vals.length)[i]? = vals[i]? := by rw [ht]
    rw [List.getElem?_take_of_lt hi, List.getElem?_eq_getElem hi, e] at this
    simpa using this
/-- The same reading, of blocks from lo up to hi alone. -/
def MLoc (w : World) (lo hi : Nat) (A : Option Addr) (N M : Nat) (T : Tab) : Prop :=
  0 < M → ∃ g off, A = some ⟨g, off, none⟩ ∧ lo ≤ g ∧ g < hi ∧ ∀ i, i < M → ∃ b o c, w.cell? ⟨g, off + i, none⟩ = some (.slice (some ⟨b, o, none⟩) N c) ∧ lo ≤ b ∧ b < hi ∧ ∀ j, j < N → w.cell? ⟨b, o + j, none⟩ = some (.int .i64 (T i j))
theorem MLoc.mat {w : World} {lo hi : Nat} {A : Option Addr} {N M : Nat} {T : Tab} (h : MLoc w lo hi A N M T) (hh : hi ≤ w.heap.size) : MAt w A N M T := by
  intro h0
  obtain ⟨g, off, e, _, hg, hr⟩ := h h0
  refine ⟨g, off, e, by omega, fun i hi => ?_⟩
  obtain ⟨b, o, c, h1, _, h2, h3⟩ := hr i hi
  exact ⟨b, o, c, h1, by omega, h3⟩
theorem MLoc.wide {w : World} {lo hi lo' hi' : Nat} {A : Option Addr} {N M : Nat} {T : Tab} (h : MLoc w lo hi A N M T) (hl : lo' ≤ lo) (hh : hi ≤ hi') : MLoc w lo' hi' A N M T := by
  intro h0
  obtain ⟨g, off, e, g1, hg, hr⟩ := h h0
  refine ⟨g, off, e, by omega, by omega, fun i hi => ?_⟩
  obtain ⟨b, o, c, h1, b1, h2, h3⟩ := hr i hi
  exact ⟨b, o, c, h1, by omega, by omega, h3⟩
theorem MLoc.same {w w1 : World} {lo hi : Nat} {A : Option Addr} {N M : Nat} {T : Tab} (h : MLoc w lo hi A N M T) (hs : Same lo hi w w1) (hh : hi ≤ w.heap.size) : MLoc w1 lo hi A N M T := by
  obtain ⟨_, h2⟩ := hs.out hh
  intro h0
  obtain ⟨g, off, e, g1, hg, hr⟩ := h h0
  refine ⟨g, off, e, g1, hg, fun i hi => ?_⟩
  obtain ⟨b, o, c, q1, b1, q2, q3⟩ := hr i hi
  exact ⟨b, o, c, (World.cell?_of_block (a := ⟨g, off + i, none⟩) (h2 g g1 hg)).trans q1, b1, q2, fun j hj => (World.cell?_of_block (a := ⟨b, o + j, none⟩) (h2 b b1 q2)).trans (q3 j hj)⟩
theorem Grid.loc {w : World} {lo hi g N : Nat} {R C : Nat → Nat} {T : Tab} (h : Grid w lo hi g N R C T) : MLoc w lo hi (some ⟨g, 0, none⟩) N N T := by
  intro _
  refine ⟨g, 0, rfl, h.glo, h.ghi, fun i hi' => ⟨R i, 0, C i, by rw [Nat.zero_add]; exact h.row hi', h.rlo i hi', h.rhi i hi', fun j hj => by rw [Nat.zero_add]; exact h.cell hi' hj⟩⟩
theorem OwnM.loc {w : World} {base N : Nat} {v : Value} {vals : List Value} {T : Tab} (h : OwnM w base v vals) (hr : ∀ i val, vals[i]? = some val → RowOk w base val N (T i)) : ∃ A c, v = .slice A vals.length c ∧ MLoc w base w.heap.size A N vals.length T := by
  obtain ⟨h1, ⟨rfl, h0⟩ | ⟨g, cap, cur, rfl, hg, hh, hn, hc, hs, ht⟩⟩ := h
  · exact ⟨none, 0, by rw [h0], fun hp => absurd hp (by omega)⟩
  · refine ⟨some ⟨g, 0, none⟩, cap, rfl, fun _ => ?_⟩
    have hlt : g < w.heap.size := by
      rcases Nat.lt_or_ge g w.heap.size with hlt | hge
      · exact hlt
      · rw [Array.getElem?_eq_none hge] at hh; cases hh
    refine ⟨g, 0, rfl, hg, hlt, fun i hi => ?_⟩
    obtain ⟨G, c, rs, e, hG, hB, hF⟩ := hr i vals[i] (List.getElem?_eq_getElem hi)
    refine ⟨G, 0, c, ?_, hG, hB.lt, fun j hj => by rw [Nat.zero_add]; exact (hB.cell j).trans (hF j hj)⟩
    rw [Nat.zero_add, cell_of_row w g i cur _ (0, 0) hh]
    rw [Nat.mul_one] at ht
    have : (cur.toList.take vals.length)[i]? = vals[i]? := by rw [ht]
    rw [List.getElem?_take_of_lt hi, List.getElem?_eq_getElem hi, e] at this
    simpa using this
/-- append of one row; rows of ints elsewhere are as they were. -/
theorem wpList_pushM {ops : Array Oper} {rest : List Oper} {o : Oper} {a : Act} {Q : Exit → Act → World → Prop} {w : World} (hgd : o.guard = none) (s x : Operand)
    (ho : o.op = .call { callee := .builtin .append, args := #[s, x], argTypes := #[49, 49] }) (base : Nat) (v : Value) (vals : List Value) (hs : a.eval s = v) (hown : OwnM w base v vals)
    (g : Nat) (y : Value) (hy : y.oneCell' = true) (hx : a.eval x = .slice (some ⟨g, 0, none⟩) 1 1) (hc : w.cell? ⟨g, 0, none⟩ = some y) (hlen : vals.length ≤ 1099511627776) (hbase : base ≤ w.heap.size)
    (h : ∀ v' w', OwnM w' base v' (vals ++ [y]) → Below base w w' → (∀ k rs, Blk w k 3 rs → Blk w' k 3 rs) → wpList Try.prog ops Q rest (a.put o.dst v') w') : wpList Try.prog ops Q (o :: rest) a w := by
  obtain ⟨i0, hi, hz0, hz1, hz2⟩ := info_parts (show (Try.prog.info? 30).map (fun i => (i.zero, i.size, i.bytes)) = some (some (.slice none 0 0), 1, 24) by kernel_rfl)
  refine wpList_append_own _ hgd s x 49 ho base 30 i0 (.slice none 0 0) 1 24 Try.underlying49 hi hz0 hz1 hz2 rfl (by decide) v vals.length _ hs hown ⟨g, 0, none⟩ 1 1 [y] hx rfl ?_ ?_ ?_ ?_ hbase ?_
  · intro j u hj
    match j, hj with
    | 0, hj => simp at hj; subst hj; simpa [Addr.add] using hc
  · intro u hu; simp at hu; subst hu; exact hy
  · unfold maxLen; omega
  · omega
  · intro v' w' hown' hg _
    refine h v' w' ?_ ?_ ?_
    · unfold OwnM
      rw [List.length_append]
      exact hown'
    · refine (Below.refl base w).grown hg hbase (fun k hk => ?_)
      rcases hown.2 with ⟨rfl, _⟩ | ⟨g', cap, cur, rfl, hb', _⟩
      · cases hk
      · simp only [Value.ownBlock, Option.some.injEq] at hk; omega
    · intro k rs hk
      refine (hg.block k hk.lt ?_).trans hk
      rcases hown.2 with ⟨rfl, _⟩ | ⟨g', cap, cur, rfl, hb', hh, _⟩
      · simp [Value.ownBlock]
      · intro e
        have e2 : k = g' := by simpa [Value.ownBlock] using e
        subst e2
        unfold Blk at hk
        rw [hk] at hh
        injection hh with hh
        injection hh with _ hh
        exact absurd hh (by decide)
end Go.Proofs.Ytaifpindiphlkaa
namespace Go.Proofs.Ytaifpindiphlkaa
open Go.RowKit
set_option linter.unusedVariables false
set_option maxRecDepth 10000
set_option linter.unusedSimpArgs false

/-- One bound's part in one number of the table. -/
def entB (i j : Nat) (n : Int) (x : Bd) : Int := if x.f = (i : Int) ∧ x.t = (j : Int) then mn n x.m else n
/-- One number of the table of some bounds. -/
def ent (bs : List Bd) : Tab := fun i j => bs.foldl (entB i j) (tab0 i j)
theorem ent_zero (bs : List Bd) (i j : Nat) : ent (bs.take 0) i j = tab0 i j := rfl
theorem entB_hit {i j : Nat} {n : Int} {x : Bd} (h1 : x.f = (i : Int)) (h2 : x.t = (j : Int)) : entB i j n x = mn n x.m := by simp [entB, h1, h2]
theorem entB_miss1 {i j : Nat} {n : Int} {x : Bd} (h1 : ¬ x.f = (i : Int)) : entB i j n x = n := by simp [entB, h1]
theorem entB_miss2 {i j : Nat} {n : Int} {x : Bd} (h1 : ¬ x.t = (j : Int)) : entB i j n x = n := by simp [entB, h1]
theorem ent_snoc (bs : List Bd) (i j k : Nat) (x : Bd) (h : bs[k]? = some x) : ent (bs.take (k + 1)) i j = entB i j (ent (bs.take k) i j) x := by
  obtain ⟨hl, hv⟩ := List.getElem?_eq_some_iff.1 h
  unfold ent
  rw [List.take_succ_eq_append_getElem hl, List.foldl_append, hv]; rfl
/-- The first k numbers of row i. -/
def rowTo (T : Tab) (i k : Nat) : List Int := (List.range k).map (T i)
theorem rowTo_length (T : Tab) (i k : Nat) : (rowTo T i k).length = k := by simp [rowTo]
theorem rowTo_snoc (T : Tab) (i k : Nat) : rowTo T i (k + 1) = rowTo T i k ++ [T i k] := by unfold rowTo; rw [List.range_succ, List.map_append]; rfl
theorem rowTo_at (T : Tab) (i k j : Nat) (h : j < k) : (rowTo T i k)[j]? = some (T i j) := by simp [rowTo, h]
theorem OwnL.rowOk {w : World} {base N i : Nat} {v : Value} {T : Tab} (h : OwnL w base v (rowTo T i N)) (hN : 1 ≤ N) : RowOk w base v N (T i) := by
  obtain ⟨h1, ⟨rfl, h0⟩ | ⟨g, cap, cur, rfl, hg, hh, hn, hc, hs, ht⟩⟩ := h
  · rw [rowTo_length] at h0; omega
  · rw [rowTo_length, Nat.mul_one] at ht
    refine ⟨g, cap, cur, by rw [rowTo_length], hg, hh, fun j hj => ?_⟩
    have h2 : (cur.toList.take N)[j]? = some (.int .i64 (T i j)) := by rw [ht, List.getElem?_map, rowTo_at T i N j hj]; rfl
    rw [List.getElem?_take_of_lt hj] at h2
    simpa using h2
/-- A new table, by reading alone. -/
def NewMat (N : Nat) (T : Tab) (w : World) (e : Ending) (w' : World) : Prop := ∃ A c, e = .returned (.slice A N c) ∧ MLoc w' w.heap.size w'.heap.size A N N T ∧ Below w.heap.size w w'
set_option maxHeartbeats 4000000 in
theorem l2Table_any (N : Nat) (A : Option Addr) (c : Nat) (bs : List Bd) (w : World) (h : BAt w A bs) (hN1 : 1 ≤ N) (hN : N ≤ 1000) (hlen : bs.length ≤ 1099511627776) :
    Calls Try.prog 58 #[.agg #[.int .i64 N, .slice A bs.length c]] w (NewMat N (ent bs) w) := by
  go_enter Try.func58, Try.ntmps58
  go_wp2
  go_loopw [3, 4] (fun out i W => ∃ (ii : Nat) (vals : List Value), ii ≤ N ∧ i = .int .i64 ii ∧ vals.length = ii ∧ OwnM W (w.heap.size + 1) out vals ∧ (∀ a val, vals[a]? = some val → RowOk W (w.heap.size + 1) val N (ent bs a)) ∧ Below w.heap.size w W ∧ w.heap.size < W.heap.size ∧ W.cell? ⟨w.heap.size, 0, none⟩ = some (.int .i64 N) ∧ W.cell? ⟨w.heap.size, 1, none⟩ = some (.slice A bs.length c)) (fun _ i _ => N - (intOf i).toNat)
  case atStart => exact ⟨0, [], Nat.zero_le _, rfl, rfl, OwnM.empty (w.alloc _) _ _ (by simp) (Nat.le_refl _), fun a val hv => by simp at hv, valloc (valloc (Below.refl _ _) _) _, by simp; omega, by simp, by simp⟩
  case round =>
    obtain ⟨i, vals, hi, rfl, hvl, hown, hrows, hb, hz, e0, e1⟩ := hrel
    have HO := Lib.hid hown
    have HR := Lib.hid hrows
    have HV := Lib.hid hvl
    have hvl' : vals.length ≤ 1000 := by omega
    clear hown hrows hvl
    by_cases hlt : i < N
    · obtain ⟨w1, hw1⟩ : ∃ w1 : World, w1 = wr := ⟨_, rfl⟩
      subst hw1
      go_wp2
      go_loopw [5, 6] (fun row j W => ∃ jj : Nat, jj ≤ N ∧ j = .int .i64 jj ∧ OwnL W w1.heap.size row (rowTo (ent bs) i jj) ∧ Below w1.heap.size w1 W) (fun _ j _ => N - (intOf j).toNat)
      case atStart => exact ⟨0, Nat.zero_le _, rfl, OwnL.empty w1 _ _ rfl (Nat.le_refl _), (Below.refl _ _).alloc (Nat.le_refl _) _⟩
      case round =>
        obtain ⟨j, hj, rfl, hown, hb2⟩ := hrel
        have HO2 := Lib.hid hown
        have f0 := cBel hb2 hz e0
        have f1 := cBel hb2 hz e1
        have hz2 := hb2.size
        have hrl : (rowTo (ent bs) i j).length ≤ 1000 := by rw [rowTo_length]; omega
        clear hown
        by_cases hlt2 : j < N
        · have HB := Lib.hid ((h.below hb).below hb2)
          obtain ⟨w2, hw2⟩ : ∃ w2 : World, w2 = wr := ⟨_, rfl⟩
          subst hw2
          have HS := Lib.hid (rowTo_snoc (ent bs) i j)
          have HT : Hid ((((i : Int) == (j : Int)) = true → tab0 i j = 0) ∧ (((i : Int) == (j : Int)) = false → tab0 i j = 100000)) := by
            refine ⟨fun hh => ?_, fun hh => ?_⟩
            · have := beq_iff_eq.1 hh; simp [tab0]; omega
            · have := beq_eq_false_iff_ne.1 hh; simp [tab0]; omega
          cases hij : ((i : Int) == (j : Int))
          all_goals
            have HIJ := Lib.hid hij
            go_wp2
            clear hij
            go_loop [7, 8] (fun n kx => ∃ k : Nat, k ≤ bs.length ∧ kx = .int .i64 k ∧ n = .int .i64 (ent (bs.take k) i j)) (fun _ kx => bs.length - (intOf kx).toNat)
            case atStart => exact ⟨0, Nat.zero_le _, rfl, by rw [ent_zero]; first | rw [HT.out.1 HIJ.out] | rw [HT.out.2 HIJ.out]⟩
            case round =>
              obtain ⟨k, hk, rfl, rfl⟩ := hrel
              by_cases hlt3 : k < bs.length
              · obtain ⟨b, off, x, rfl, hbl, hx, hxm, c0, c1, c2⟩ := HB.out.at_ hlt3
                have EB := Lib.hid (ent_snoc bs i j k x hx)
                clear hx
                generalize ent (bs.take k) i j = nk at *
                by_cases h1 : x.f = (i : Int)
                · have h1' : (x.f == (i : Int)) = true := by simp [h1]
                  by_cases h2 : x.t = (j : Int)
                  · have h2' : (x.t == (j : Int)) = true := by simp [h2]
                    have EE := Lib.hid (entB_hit (n := nk) h1 h2)
                    clear h1 h2
                    go_wp2
                    go_round
                    case rel => exact ⟨k + 1, by omega, by go_num, by rw [EB.out, EE.out]; rfl⟩
                    case measure => simp [intOf]; omega
                  · have h2' : (x.t == (j : Int)) = false := by simp [h2]
                    have EE := Lib.hid (entB_miss2 (i := i) (n := nk) h2)
                    clear h1 h2
                    go_wp2
                    go_round
                    case rel => exact ⟨k + 1, by omega, by go_num, by rw [EB.out, EE.out]⟩
                    case measure => simp [intOf]; omega
                · have h1' : (x.f == (i : Int)) = false := by simp [h1]
                  have EE := Lib.hid (entB_miss1 (j := j) (n := nk) h1)
                  clear h1
                  go_wp2
                  go_round
                  case rel => exact ⟨k + 1, by omega, by go_num, by rw [EB.out, EE.out]⟩
                  case measure => simp [intOf]; omega
              · obtain rfl : k = bs.length := by omega
                rw [List.take_length]
                have HE := Lib.hid HO2.out
                go_wp2_with (at_builtin; refine wpList_push rfl _ _ rfl w1.heap.size _ _ rfl (HE.out.alloc _) w2.heap.size (ent bs i j) rfl (by simp) (by omega) (by simp; omega) ?_; intro v1 w3 hown3 hb3)
                go_roundw
                case rel => exact ⟨j + 1, by omega, by go_num, by rw [HS.out]; exact hown3, (hb2.alloc hb2.size _).trans hb3⟩
                case measure => simp [intOf]; omega
        · obtain rfl : N = j := by omega
          rw [rowTo_length] at hrl
          have RO := Lib.hid (HO2.out.rowOk hN1)
          obtain ⟨G, cg, rfl, _⟩ := HO2.out.ri
          have hbig : Below w.heap.size w wr := hb.trans (hb2.mono hb.size)
          have OM := Lib.hid (HO.out.below hb2 (Nat.le_refl _))
          have HR2 := Lib.hid (fun a val hv => (HR.out a val hv).below hb2 (Nat.le_refl _))
          have hz3 : w.heap.size + 1 ≤ wr.heap.size := by omega
          rw [rowTo_length] at HO2 RO ⊢
          obtain ⟨w2, hw2⟩ : ∃ w2 : World, w2 = wr := ⟨_, rfl⟩
          subst hw2
          go_wp2_with (at_builtin; refine wpList_pushM rfl _ _ rfl (w.heap.size + 1) _ vals rfl (OM.out.alloc _) w2.heap.size _ rfl rfl (by simp; rfl) (by omega) (by simp; omega) ?_; intro v1 w3 hown3 hb3 hk3)
          have hb4 := (hbig.alloc hbig.size (.cells #[.slice G N cg] 30)).trans (hb3.mono (Nat.le_succ _))
          have hz4 := hb4.size
          have hz5 : w2.heap.size + 1 ≤ w3.heap.size := by have := hb3.size; simp at this; omega
          go_roundw
          case rel =>
            refine ⟨i + 1, vals ++ [_], by omega, by go_num, by rw [List.length_append, HV.out]; rfl, hown3, ?_, hb4, by omega, cBel hb3 (Nat.lt_succ_self _) (cA f0 _), cBel hb3 (Nat.lt_succ_self _) (cA f1 _)⟩
            intro a val hv
            rcases Nat.lt_or_ge a vals.length with hl | hl
            · rw [List.getElem?_append_left hl] at hv
              exact ((HR2.out a val hv).alloc _).map_ hk3
            · rw [List.getElem?_append_right hl] at hv
              obtain ⟨e1, rfl⟩ : a - vals.length = 0 ∧ _ = val := by
                rcases hq : a - vals.length with _ | q
                · rw [hq] at hv; simpa using hv
                · rw [hq] at hv; simp at hv
              obtain rfl : a = i := by rw [← HV.out]; omega
              exact ((RO.out.low (show w.heap.size + 1 ≤ _ by omega)).alloc _).map_ hk3
          case measure => simp [intOf]; omega
    · obtain rfl : N = i := by omega
      have HM := Lib.hid (HO.out.loc HR.out)
      rw [HV.out] at HM
      obtain ⟨G, cg, rfl, _⟩ := HM.out
      go_wp2
      go_ret
      obtain ⟨G', cg', e', hm'⟩ := HM.out
      cases e'
      exact ⟨G, cg, rfl, hm'.wide (Nat.le_succ _) (Nat.le_refl _), hb⟩
end Go.Proofs.Ytaifpindiphlkaa
namespace Go.Proofs.Ytaifpindiphlkaa
open Go.RowKit
set_option linter.unusedVariables false
set_option maxRecDepth 10000
set_option linter.unusedSimpArgs false

/-- One round of the reference: every number from the same table. -/
def roundK (T : Tab) (k : Nat) : Tab := fun i j => if T i k < 100000 ∧ T k j < 100000 then mn (T i j) (wrap64 (T i k + T k j)) else T i j
def closeS (N : Nat) (T : Tab) : Tab := (List.range N).foldl roundK T
set_option maxHeartbeats 8000000 in
theorem l2Closed_any (N : Nat) (A : Option Addr) (c : Nat) (bs : List Bd) (w : World) (h : BAt w A bs) (hN1 : 1 ≤ N) (hN : N ≤ 1000) (hlen : bs.length ≤ 1099511627776) :
    Calls Try.prog 67 #[.agg #[.int .i64 N, .slice A bs.length c]] w (NewMat N (closeS N (ent bs)) w) := by
  go_enter Try.func67, Try.ntmps67
  go_wp2_with fail
  refine (l2Table_any N _ _ bs _ (h.below (by repeat (first | with_reducible exact Below.refl _ _ | with_reducible refine valloc ?_ _ | with_reducible refine vdrew ?_ | with_reducible refine vdrewN ?_ _ | with_reducible refine via (by assumption) ?_ | refine vset ?_ (by first | exact Nat.le_refl _ | (simp; done) | (simp; omega) | omega) _))) hN1 hN hlen).mono ?_; rintro e w1 ⟨A1, c1, rfl, hm1, hbw1⟩
  have i0 : w1.cell? ⟨w.heap.size, 0, none⟩ = some (.int .i64 N) := cB hbw1 (by simp)
  have i1 : w1.cell? ⟨w.heap.size, 1, none⟩ = some (.slice A bs.length c) := cB hbw1 (by simp)
  obtain ⟨hcw1, hfw1⟩ := bcell hbw1; have hzw1 := hbw1.size; (try simp only [sz] at hzw1); (try simp only [szc] at hzw1); have hzw1_0 : w.heap.size < w1.heap.size := (by omega)
  have HM1 := Lib.hid (hm1.wide (lo' := w.heap.size) (by simp only [sz]; omega) (Nat.le_refl _))
  clear hm1
  go_wp2
  go_loopw [3, 4] (fun now k W => ∃ (kk : Nat) (A' : Option Addr) (c' : Nat), kk ≤ N ∧ k = .int .i64 kk ∧ now = .slice A' N c' ∧ MLoc W w.heap.size W.heap.size A' N N ((List.range kk).foldl roundK (ent bs)) ∧ Below w.heap.size w W ∧ w.heap.size < W.heap.size ∧ W.cell? ⟨w.heap.size, 0, none⟩ = some (.int .i64 N) ∧ W.cell? ⟨w.heap.size, 1, none⟩ = some (.slice A bs.length c)) (fun _ k _ => N - (intOf k).toNat)
  case atStart => exact ⟨0, A1, c1, Nat.zero_le _, rfl, rfl, HM1.out, (by repeat (first | with_reducible exact Below.refl _ _ | with_reducible refine valloc ?_ _ | with_reducible refine vdrew ?_ | with_reducible refine vdrewN ?_ _ | with_reducible refine via (by assumption) ?_ | refine vset ?_ (by first | exact Nat.le_refl _ | (simp; done) | (simp; omega) | omega) _)), by omega, i0, i1⟩
  case round =>
    obtain ⟨k, A', c', hk, rfl, rfl, hm, hb, hz, e0, e1⟩ := hrel
    have HM := Lib.hid (hm.mat (Nat.le_refl _))
    have HMR := Lib.hid hm
    clear hm
    by_cases hlt : k < N
    · have EK := Lib.hid (range_fold roundK (ent bs) k)
      generalize hTk : (List.range k).foldl roundK (ent bs) = T at *
      clear hTk
      obtain ⟨w2, hw2⟩ : ∃ w2 : World, w2 = wr := ⟨_, rfl⟩
      subst hw2
      go_wp2
      go_loopw [5, 6] (fun next i W => ∃ (ii : Nat) (vals : List Value), ii ≤ N ∧ i = .int .i64 ii ∧ vals.length = ii ∧ OwnM W w2.heap.size next vals ∧ (∀ a val, vals[a]? = some val → RowOk W w2.heap.size val N (roundK T k a)) ∧ Below w2.heap.size w2 W) (fun _ i _ => N - (intOf i).toNat)
      case atStart => exact ⟨0, [], Nat.zero_le _, rfl, rfl, OwnM.empty w2 _ _ rfl (Nat.le_refl _), fun a val hv => by simp at hv, (Below.refl _ _).alloc (Nat.le_refl _) _⟩
      case round =>
        obtain ⟨i, vals, hi, rfl, hvl, hown, hrows, hb2⟩ := hrel
        have HO := Lib.hid hown
        have HR := Lib.hid hrows
        have HV := Lib.hid hvl
        have hvl' : vals.length ≤ 1000 := by omega
        have f0 := cBel hb2 hz e0
        have f1 := cBel hb2 hz e1
        have hz2 := hb2.size
        clear hown hrows hvl
        by_cases hlt2 : i < N
        · obtain ⟨w3, hw3⟩ : ∃ w3 : World, w3 = wr := ⟨_, rfl⟩
          subst hw3
          go_wp2
          go_loopw [7, 8] (fun row j W => ∃ jj : Nat, jj ≤ N ∧ j = .int .i64 jj ∧ OwnL W w3.heap.size row (rowTo (roundK T k) i jj) ∧ Below w3.heap.size w3 W) (fun _ j _ => N - (intOf j).toNat)
          case atStart => exact ⟨0, Nat.zero_le _, rfl, OwnL.empty w3 _ _ rfl (Nat.le_refl _), (Below.refl _ _).alloc (Nat.le_refl _) _⟩
          case round =>
            obtain ⟨j, hj, rfl, hown, hb3⟩ := hrel
            have HO2 := Lib.hid hown
            have g0 := cBel hb3 (by omega) f0
            have g1 := cBel hb3 (by omega) f1
            have hz3 := hb3.size
            have hrl : (rowTo (roundK T k) i j).length ≤ 1000 := by rw [rowTo_length]; omega
            clear hown
            by_cases hlt3 : j < N
            · obtain ⟨g, off, b, o, cc, rfl, hg, r1, hbl, q1⟩ := ((HM.out.below hb2).below hb3).at_ hlt2
              obtain ⟨g', off', b', o', cc', e', hg', r2, hbl', q2⟩ := ((HM.out.below hb2).below hb3).at_ hlt
              cases e'
              have p1 := q1 j hlt3
              have p2 := q1 k hlt
              have p3 := q2 j hlt3
              clear q1 q2
              have HS := Lib.hid (rowTo_snoc (roundK T k) i j)
              have HK := Lib.hid (show roundK T k i j = if T i k < 100000 ∧ T k j < 100000 then mn (T i j) (wrap64 (T i k + T k j)) else T i j from rfl)
              generalize roundK T k i j = R at *
              generalize T i k = x at *
              generalize T k j = y at *
              generalize T i j = z at *
              have HE := Lib.hid HO2.out
              obtain ⟨w4, hw4⟩ : ∃ w4 : World, w4 = wr := ⟨_, rfl⟩
              subst hw4
              by_cases h1 : x < 100000
              · by_cases h2 : y < 100000
                · have HK2 := Lib.hid (HK.out.trans (if_pos ⟨h1, h2⟩))
                  have hwr : IntKind.i64.wrap (x + y) = wrap64 (x + y) := IntWalk.i64_left _
                  generalize wrap64 (x + y) = sm at *
                  by_cases h3 : sm < z
                  · skip
                    have HK3 := Lib.hid (HK2.out.trans (if_pos h3))
                    go_wp2
                    go_quiet (fail)
                    have F : OwnL (w4.drewN nq) w3.heap.size u7 (rowTo (roundK T k) i j) ∧ Below w3.heap.size w3 (w4.drewN nq) := ⟨HE.out.drewN _, vdrewN hb3 _⟩
                    clear g0 g1 r1 r2 p1 p2 p3 hg hbl hg' hbl'
                    generalize w4.drewN nq = w6 at F ⊢
                    obtain ⟨F1, F2⟩ := F
                    have F3 := F2.size
                    go_wp2_with (at_builtin; refine wpList_push rfl _ _ rfl w3.heap.size _ _ rfl (F1.alloc _) w6.heap.size sm rfl (by simp) (by omega) (by simp; omega) ?_; intro v1 w5 hown5 hb5)
                    go_roundw
                    case rel => exact ⟨j + 1, by omega, by go_num, by rw [HS.out, HK3.out]; exact hown5, (F2.alloc F2.size _).trans hb5⟩
                    case measure => simp [intOf]; omega
                  · skip
                    have HK3 := Lib.hid (HK2.out.trans (if_neg h3))
                    go_wp2
                    go_quiet (fail)
                    have F : OwnL (w4.drewN nq) w3.heap.size u7 (rowTo (roundK T k) i j) ∧ Below w3.heap.size w3 (w4.drewN nq) := ⟨HE.out.drewN _, vdrewN hb3 _⟩
                    clear g0 g1 r1 r2 p1 p2 p3 hg hbl hg' hbl'
                    generalize w4.drewN nq = w6 at F ⊢
                    obtain ⟨F1, F2⟩ := F
                    have F3 := F2.size
                    go_wp2_with (at_builtin; refine wpList_push rfl _ _ rfl w3.heap.size _ _ rfl (F1.alloc _) w6.heap.size z rfl (by simp) (by omega) (by simp; omega) ?_; intro v1 w5 hown5 hb5)
                    go_roundw
                    case rel => exact ⟨j + 1, by omega, by go_num, by rw [HS.out, HK3.out]; exact hown5, (F2.alloc F2.size _).trans hb5⟩
                    case measure => simp [intOf]; omega
                · have HK2 := Lib.hid (HK.out.trans (if_neg (fun hh => h2 hh.2)))
                  go_wp2_with (at_builtin; refine wpList_push rfl _ _ rfl w3.heap.size _ _ rfl (HE.out.alloc _) w4.heap.size (z) rfl (by simp) (by omega) (by simp; omega) ?_; intro v1 w5 hown5 hb5)
                  go_roundw
                  case rel => exact ⟨j + 1, by omega, by go_num, by rw [HS.out, HK2.out]; exact hown5, (hb3.alloc hb3.size _).trans hb5⟩
                  case measure => simp [intOf]; omega
              · have HK2 := Lib.hid (HK.out.trans (if_neg (fun hh => h1 hh.1)))
                go_wp2_with (at_builtin; refine wpList_push rfl _ _ rfl w3.heap.size _ _ rfl (HE.out.alloc _) w4.heap.size (z) rfl (by simp) (by omega) (by simp; omega) ?_; intro v1 w5 hown5 hb5)
                go_roundw
                case rel => exact ⟨j + 1, by omega, by go_num, by rw [HS.out, HK2.out]; exact hown5, (hb3.alloc hb3.size _).trans hb5⟩
                case measure => simp [intOf]; omega
            · obtain rfl : N = j := by omega
              rw [rowTo_length] at hrl
              have RO := Lib.hid (HO2.out.rowOk hN1)
              obtain ⟨G, cg, rfl, _⟩ := HO2.out.ri
              have hbig : Below w2.heap.size w2 wr := hb2.trans (hb3.mono hb2.size)
              have OM := Lib.hid (HO.out.below hb3 (Nat.le_refl _))
              have HR2 := Lib.hid (fun a val hv => (HR.out a val hv).below hb3 (Nat.le_refl _))
              rw [rowTo_length] at HO2 RO ⊢
              obtain ⟨w4, hw4⟩ : ∃ w4 : World, w4 = wr := ⟨_, rfl⟩
              subst hw4
              go_wp2_with (at_builtin; refine wpList_pushM rfl _ _ rfl w2.heap.size _ vals rfl (OM.out.alloc _) w4.heap.size _ rfl rfl (by simp; rfl) (by omega) (by simp; omega) ?_; intro v1 w5 hown5 hb5 hk5)
              have hb6 := (hbig.alloc hbig.size (.cells #[.slice G N cg] 30)).trans hb5
              go_roundw
              case rel =>
                refine ⟨i + 1, vals ++ [_], by omega, by go_num, by rw [List.length_append, HV.out]; rfl, hown5, ?_, hb6⟩
                intro a val hv
                rcases Nat.lt_or_ge a vals.length with hl | hl
                · rw [List.getElem?_append_left hl] at hv
                  exact ((HR2.out a val hv).alloc _).map_ hk5
                · rw [List.getElem?_append_right hl] at hv
                  obtain ⟨e1, rfl⟩ : a - vals.length = 0 ∧ _ = val := by
                    rcases hq : a - vals.length with _ | q
                    · rw [hq] at hv; simpa using hv
                    · rw [hq] at hv; simp at hv
                  obtain rfl : a = i := by rw [← HV.out]; omega
                  exact ((RO.out.low (show w2.heap.size ≤ _ by omega)).alloc _).map_ hk5
              case measure => simp [intOf]; omega
        · obtain rfl : N = i := by omega
          have HM2 := Lib.hid (HO.out.loc HR.out)
          rw [HV.out] at HM2
          have hzz : w.heap.size < wr.heap.size := by omega
          have hbb : Below w.heap.size w wr := hb.trans (hb2.mono hb.size)
          have HRes : Hid (∃ G cg, u5 = .slice G N cg ∧ MLoc wr w2.heap.size wr.heap.size G N N (roundK T k)) := HM2
          have hlo := hb.size
          clear hz2 hvl' HO HR HV HM HMR HM2 hb hb2 e0 e1 hz h
          obtain ⟨G, cg, rfl, hm'⟩ := HRes.out
          clear HRes
          have HM3 := Lib.hid hm'
          clear hm'
          clear i0 i1 HM1 hN1 hlen hi
          set_option maxRecDepth 4000 in
          go_wp2
          go_roundw
          case rel =>
            exact ⟨k + 1, G, cg, by omega, by go_num, rfl, by rw [EK.out]; exact HM3.out.wide hlo (Nat.le_refl _), hbb, by omega, f0, f1⟩
          case measure => simp [intOf]; omega
    · obtain rfl : N = k := by omega
      go_wp2
      go_ret
      exact ⟨A', c', rfl, HMR.out, hb⟩
end Go.Proofs.Ytaifpindiphlkaa
namespace Go.Proofs.Ytaifpindiphlkaa
open Go.RowKit
set_option linter.unusedVariables false
set_option maxRecDepth 10000
set_option linter.unusedSimpArgs false

/-- Does the plan fit, as the reference finds it? -/
def fitsS (n : Int) (bs : List Bd) : Bool := planOk n bs && diagOk n.toNat (closeS n.toNat (ent bs))
set_option maxHeartbeats 4000000 in
theorem l2Fits_any (N : Nat) (A : Option Addr) (c : Nat) (T : Tab) (w : World) (h : MAt w A N N T) (hN : N ≤ 1000) :
    Calls Try.prog 76 #[.slice A N c] w fun e w' => e = .returned (.bool (diagOk N T)) ∧ Below w.heap.size w w' := by
  have H0 := Lib.hid h
  clear h
  go_enter Try.func76, Try.ntmps76
  go_wp2
  go_loopw [3] (fun k W => ∃ kk : Nat, kk ≤ N ∧ k = .int .i64 kk ∧ (∀ i, i < kk → 0 ≤ T i i) ∧ Below w.heap.size w W) (fun k _ => N - (intOf k).toNat)
  case atStart => exact ⟨0, Nat.zero_le _, rfl, fun i hi => absurd hi (by omega), Below.refl _ _⟩
  case round =>
    obtain ⟨k, hk, rfl, hok, hb⟩ := hrel
    have HOK := Lib.hid hok
    clear hok
    by_cases hlt : k < N
    · obtain ⟨g, off, b, o, cc, rfl, hg, r1, hbl, q1⟩ := (H0.out.below hb).at_ hlt
      have p1 := q1 k hlt
      clear q1
      by_cases hneg : T k k < 0
      · have HD := Lib.hid (diagOk_bad hlt hneg)
        go_wp2
        go_ret
        exact ⟨ret_bool HD.out.symm, hb⟩
      · have HD := Lib.hid (show 0 ≤ T k k by omega)
        go_wp2
        go_roundw
        case rel => exact ⟨k + 1, by omega, by go_num, fun i hi => by
          by_cases e : i = k
          · rw [e]; exact HD.out
          · exact HOK.out i (by omega), hb⟩
        case measure => simp [intOf]; omega
    · obtain rfl : N = k := by omega
      have HD := Lib.hid (diagOk_good HOK.out)
      go_wp2
      go_ret
      exact ⟨ret_bool HD.out.symm, hb⟩
theorem specFits_any (n : Int) (A : Option Addr) (c : Nat) (bs : List Bd) (w : World) (h : BAt w A bs) (hlen : bs.length ≤ 1099511627776) :
    Calls Try.prog 66 #[.agg #[.int .i64 n, .slice A bs.length c]] w fun e w' => e = .returned (.bool (fitsS n bs)) ∧ Below w.heap.size w w' := by
  cases hp : planOk n bs
  · have HF := Lib.hid (show fitsS n bs = false by simp [fitsS, hp])
    go_enter Try.func66, Try.ntmps66
    go_wp2_with fail
    refine (specPlanOk_any _ _ _ bs _ (h.below (by repeat (first | with_reducible exact Below.refl _ _ | with_reducible refine valloc ?_ _ | with_reducible refine vdrew ?_ | with_reducible refine vdrewN ?_ _ | with_reducible refine via (by assumption) ?_ | refine vset ?_ (by first | exact Nat.le_refl _ | (simp; done) | (simp; omega) | omega) _))) hlen).mono ?_; rintro e w1 ⟨rfl, hbw1⟩
    go_wp2
    go_ret
    refine ⟨ret_bool HF.out.symm, ?_⟩
    repeat (first | with_reducible exact Below.refl _ _ | with_reducible refine valloc ?_ _ | with_reducible refine vdrew ?_ | with_reducible refine vdrewN ?_ _ | with_reducible refine via (by assumption) ?_ | refine vset ?_ (by first | exact Nat.le_refl _ | (simp; done) | (simp; omega) | omega) _)
  · obtain ⟨h1, h6, _, _⟩ := planOk_of hp
    obtain ⟨N, rfl⟩ := Int.eq_ofNat_of_zero_le (show 0 ≤ n by omega)
    have HF := Lib.hid (show fitsS N bs = diagOk N (closeS N (ent bs)) by simp [fitsS, hp])
    go_enter Try.func66, Try.ntmps66
    go_wp2_with fail
    refine (specPlanOk_any _ _ _ bs _ (h.below (by repeat (first | with_reducible exact Below.refl _ _ | with_reducible refine valloc ?_ _ | with_reducible refine vdrew ?_ | with_reducible refine vdrewN ?_ _ | with_reducible refine via (by assumption) ?_ | refine vset ?_ (by first | exact Nat.le_refl _ | (simp; done) | (simp; omega) | omega) _))) hlen).mono ?_; rintro e w1 ⟨rfl, hbw1⟩; obtain ⟨hcw1, hfw1⟩ := bcell hbw1; have hzw1 := hbw1.size; (try simp only [sz] at hzw1); (try simp only [szc] at hzw1); have hzw1_0 : w.heap.size < w1.heap.size := (by omega)
    go_wp2_with fail
    refine (l2Closed_any N _ _ bs _ (h.below (by repeat (first | with_reducible exact Below.refl _ _ | with_reducible refine valloc ?_ _ | with_reducible refine vdrew ?_ | with_reducible refine vdrewN ?_ _ | with_reducible refine via (by assumption) ?_ | refine vset ?_ (by first | exact Nat.le_refl _ | (simp; done) | (simp; omega) | omega) _))) (by omega) (by omega) hlen).mono ?_; rintro e w2 ⟨A2, c2, rfl, hm2, hbw2⟩
    go_wp2_with fail
    refine (l2Fits_any N _ _ _ _ ((hm2.mat (Nat.le_refl _)).below (by repeat (first | with_reducible exact Below.refl _ _ | with_reducible refine valloc ?_ _ | with_reducible refine vdrew ?_ | with_reducible refine vdrewN ?_ _ | with_reducible refine via (by assumption) ?_ | refine vset ?_ (by first | exact Nat.le_refl _ | (simp; done) | (simp; omega) | omega) _))) (by omega)).mono ?_; rintro e w3 ⟨rfl, hbw3⟩
    go_wp2
    go_ret
    refine ⟨ret_bool HF.out.symm, ?_⟩
    repeat (first | with_reducible exact Below.refl _ _ | with_reducible refine valloc ?_ _ | with_reducible refine vdrew ?_ | with_reducible refine vdrewN ?_ _ | with_reducible refine via (by assumption) ?_ | refine vset ?_ (by first | exact Nat.le_refl _ | (simp; done) | (simp; omega) | omega) _)
end Go.Proofs.Ytaifpindiphlkaa
namespace Go.Proofs.Ytaifpindiphlkaa
open Go.RowKit
set_option linter.unusedVariables false
set_option maxRecDepth 10000
set_option linter.unusedSimpArgs false

theorem fold_put (i j : Nat) : ∀ (bs : List Bd) (T : Tab), (∀ x ∈ bs, 0 ≤ x.f ∧ 0 ≤ x.t) → (bs.foldl putB T) i j = bs.foldl (entB i j) (T i j)
  | [], T, _ => rfl
  | x :: bs, T, h => by
    rw [List.foldl_cons, List.foldl_cons, fold_put i j bs _ (fun y hy => h y (List.mem_cons_of_mem _ hy))]
    have hx := h x List.mem_cons_self
    congr 1
    by_cases e : i = x.f.toNat ∧ j = x.t.toNat
    · rw [entB_hit (by omega) (by omega), putB, e.1, e.2, upd_same]
    · rw [putB, upd_other _ _ e]
      unfold entB
      rw [if_neg (by omega)]
theorem startT_eq {bs : List Bd} (h : ∀ x ∈ bs, 0 ≤ x.f ∧ 0 ≤ x.t) : startT bs = ent bs := by
  funext i j
  exact fold_put i j bs tab0 h
/-- What the round leaves where the pivot is 0. -/
theorem roundK_row {T : Tab} {k j : Nat} (h0 : T k k = 0) (hb : -4611686018427387904 ≤ T k j ∧ T k j ≤ 100000) : roundK T k k j = T k j := by
  unfold roundK
  split
  · rw [h0, Int.zero_add, IntWalk.wrap64_in _ (by omega)]
    unfold mn; split <;> omega
  · rfl
theorem roundK_col {T : Tab} {k i : Nat} (h0 : T k k = 0) (hb : -4611686018427387904 ≤ T i k ∧ T i k ≤ 100000) : roundK T k i k = T i k := by
  unfold roundK
  split
  · rw [h0, Int.add_zero, IntWalk.wrap64_in _ (by omega)]
    unfold mn; split <;> omega
  · rfl
section
variable {N k : Nat} {A : Tab} (hk : k < N) (h0 : A k k = 0) (hb : ∀ i j, i < N → j < N → -4611686018427387904 ≤ A i j ∧ A i j ≤ 100000)
include hk h0 hb
theorem relax_row (i : Nat) (hi : i < N) (U : Tab) (hU : ∀ a b, a < N → b < N → U a b = if a < i then roundK A k a b else A a b) :
    ∀ j, j ≤ N → ∀ a b, a < N → b < N → ((List.range j).foldl (relax k i) U) a b = if a < i ∨ (a = i ∧ b < j) then roundK A k a b else A a b
  | 0, _, a, b, ha, hb' => by
    rw [show (List.range 0).foldl (relax k i) U = U from rfl, hU a b ha hb']
    by_cases e : a < i
    · rw [if_pos e, if_pos (Or.inl e)]
    · rw [if_neg e, if_neg (by omega)]
  | j + 1, hj, a, b, ha, hb' => by
    rw [range_fold]
    have ih := relax_row i hi U hU j (by omega)
    generalize (List.range j).foldl (relax k i) U = V at *
    have e1 : V i k = A i k := by
      rw [ih i k hi hk]; split
      · exact roundK_col h0 (hb i k hi hk)
      · rfl
    have e2 : V k j = A k j := by
      rw [ih k j hk (by omega)]; split
      · exact roundK_row h0 (hb k j hk (by omega))
      · rfl
    have e3 : V i j = A i j := by rw [ih i j hi (by omega), if_neg (by omega)]
    by_cases e : a = i ∧ b = j
    · obtain ⟨rfl, rfl⟩ := e
      rw [if_pos (by omega)]
      unfold relax roundK
      have l1 := (hb a k hi hk).2
      have l2 := (hb k b hk (by omega)).2
      rw [e1, e2, e3]
      by_cases c : A a k < 100000 ∧ A k b < 100000
      · rw [if_pos c, if_pos (by omega), upd_same]
      · rw [if_neg c, if_neg (by omega), e3]
    · have e4 : (relax k i V j) a b = V a b := by
        unfold relax; split
        · exact upd_other _ _ e
        · rfl
      rw [e4, ih a b ha hb']
      by_cases c : a < i ∨ (a = i ∧ b < j)
      · rw [if_pos c, if_pos (by omega)]
      · rw [if_neg c, if_neg (by omega)]
theorem relax_rows : ∀ i, i ≤ N → ∀ a b, a < N → b < N → ((List.range i).foldl (relaxI N k) A) a b = if a < i then roundK A k a b else A a b
  | 0, _, a, b, _, _ => by rw [if_neg (by omega)]; rfl
  | i + 1, hi, a, b, ha, hb' => by
    rw [range_fold]
    have ih := relax_rows i (by omega)
    generalize (List.range i).foldl (relaxI N k) A = U at *
    rw [relaxI, relax_row hk h0 hb i (by omega) U ih N (Nat.le_refl _) a b ha hb']
    by_cases c : a < i + 1
    · rw [if_pos c, if_pos (by omega)]
    · rw [if_neg c, if_neg (by omega)]
theorem relaxK_eq (a b : Nat) (ha : a < N) (hb' : b < N) : relaxK N A k a b = roundK A k a b := by
  rw [relaxK, relax_rows hk h0 hb N (Nat.le_refl _) a b ha hb', if_pos ha]
end
theorem roundK_le (T : Tab) (k i j : Nat) : roundK T k i j ≤ T i j := by
  unfold roundK; split
  · exact mn_le _ _
  · exact Int.le_refl _
theorem relax_le (k i : Nat) (T : Tab) (j a b : Nat) : relax k i T j a b ≤ T a b := by
  unfold relax; split
  · by_cases e : a = i ∧ b = j
    · rw [e.1, e.2, upd_same]; exact mn_le _ _
    · rw [upd_other _ _ e]; exact Int.le_refl _
  · exact Int.le_refl _
theorem fold_le (f : Tab → Nat → Tab) (hf : ∀ T j a b, f T j a b ≤ T a b) (l : List Nat) (T : Tab) (a b : Nat) : l.foldl f T a b ≤ T a b := by
  induction l generalizing T with
  | nil => exact Int.le_refl _
  | cons x l ih => exact Int.le_trans (ih _) (hf T x a b)
theorem relaxK_le (N : Nat) (T : Tab) (k a b : Nat) : relaxK N T k a b ≤ T a b :=
  fold_le _ (fun T j a b => fold_le _ (fun T j a b => relax_le _ _ T j a b) _ T a b) _ T a b
/-- The state of both closings after some rounds. -/
def Both (N : Nat) (M : Int) (A B : Tab) : Prop :=
  ((∀ i j, i < N → j < N → A i j = B i j) ∧ (∀ i, i < N → A i i = 0) ∧ ∀ i j, i < N → j < N → -M ≤ A i j ∧ A i j ≤ 100000) ∨ ((∃ i, i < N ∧ A i i < 0) ∧ ∃ i, i < N ∧ B i i < 0)
theorem both_step {N k : Nat} {M : Int} {A B : Tab} (hk : k < N) (hM : 0 ≤ M) (hM2 : M ≤ 2305843009213693952) (h : Both N M A B) : Both N (2 * M) (relaxK N A k) (roundK B k) := by
  rcases h with ⟨h1, h2, h3⟩ | ⟨⟨i, hi, hA⟩, i', hi', hB⟩
  · have hE : ∀ a b, a < N → b < N → relaxK N A k a b = roundK A k a b := relaxK_eq hk (h2 k hk) (fun i j hi hj => by have := h3 i j hi hj; omega)
    have hS : ∀ a b, a < N → b < N → roundK A k a b = roundK B k a b := fun a b ha hb => by
      unfold roundK
      rw [h1 a b ha hb, h1 a k ha hk, h1 k b hk hb]
    by_cases hd : ∀ i, i < N → 0 ≤ roundK A k i i
    · left
      refine ⟨fun a b ha hb => (hE a b ha hb).trans (hS a b ha hb), fun i hi => ?_, fun i j hi hj => ?_⟩
      · rw [hE i i hi hi]
        have := hd i hi
        have := roundK_le A k i i
        have := h2 i hi
        omega
      · rw [hE i j hi hj]
        have l1 := roundK_le A k i j
        have l2 := h3 i j hi hj
        have l3 := h3 i k hi hk
        have l4 := h3 k j hk hj
        refine ⟨?_, by omega⟩
        unfold roundK
        split
        · rw [IntWalk.wrap64_in _ (by omega)]
          unfold mn; split <;> omega
        · omega
    · right
      simp only [Classical.not_forall] at hd
      obtain ⟨i, hi, hn⟩ := hd
      exact ⟨⟨i, hi, by rw [hE i i hi hi]; omega⟩, i, hi, by rw [← hS i i hi hi]; omega⟩
  · right
    exact ⟨⟨i, hi, Int.lt_of_le_of_lt (relaxK_le N A k i i) hA⟩, i', hi', Int.lt_of_le_of_lt (roundK_le B k i' i') hB⟩
theorem both_all {N : Nat} {T : Tab} (h : Both N 100000 T T) : ∀ k, k ≤ N → k ≤ 6 → Both N (100000 * 2 ^ k) ((List.range k).foldl (relaxK N) T) ((List.range k).foldl roundK T)
  | 0, _, _ => by simpa using h
  | k + 1, h1, h2 => by
    rw [range_fold, range_fold]
    have hp : (0 : Int) ≤ 100000 * 2 ^ k ∧ (100000 : Int) * 2 ^ k ≤ 2305843009213693952 := by
      match k, h2 with
      | 0, _ => decide
      | 1, _ => decide
      | 2, _ => decide
      | 3, _ => decide
      | 4, _ => decide
      | 5, _ => decide
      | k + 6, h2 => omega
    have := both_step (k := k) (by omega) hp.1 hp.2 (both_all h k (by omega) (by omega))
    rw [show (100000 : Int) * 2 ^ (k + 1) = 2 * (100000 * 2 ^ k) by rw [Int.pow_succ]; omega]
    exact this
theorem ent_step {i j : Nat} {bs : List Bd} {z : Int} (h : ∀ x ∈ bs, -100000 ≤ x.m) (hz : -100000 ≤ z) : -100000 ≤ bs.foldl (entB i j) z ∧ bs.foldl (entB i j) z ≤ z := by
  induction bs generalizing z with
  | nil => exact ⟨hz, Int.le_refl _⟩
  | cons x bs ih =>
    rw [List.foldl_cons]
    have hx := h x List.mem_cons_self
    have h2 : -100000 ≤ entB i j z x ∧ entB i j z x ≤ z := by
      unfold entB; split
      · unfold mn; split <;> omega
      · omega
    have := ih (z := entB i j z x) (fun y hy => h y (List.mem_cons_of_mem _ hy)) h2.1
    exact ⟨this.1, by omega⟩
theorem both_start {N : Nat} {bs : List Bd} (h : ∀ x ∈ bs, -100000 ≤ x.m) : Both N 100000 (ent bs) (ent bs) := by
  have hl : ∀ i j, -100000 ≤ ent bs i j ∧ ent bs i j ≤ tab0 i j := fun i j => ent_step h (by unfold tab0; split <;> omega)
  by_cases hd : ∀ i, i < N → 0 ≤ ent bs i i
  · left
    refine ⟨fun _ _ _ _ => rfl, fun i hi => ?_, fun i j hi hj => ?_⟩
    · have := hl i i; have := hd i hi; simp [tab0] at *; omega
    · have := hl i j; unfold tab0 at this; split at this <;> omega
  · right
    simp only [Classical.not_forall] at hd
    obtain ⟨i, hi, hn⟩ := hd
    exact ⟨⟨i, hi, by omega⟩, i, hi, by omega⟩
theorem both_plan {N : Nat} {bs : List Bd} (hp : planOk N bs = true) : startT bs = ent bs ∧ Both N (100000 * 2 ^ N) (closeT N (startT bs)) (closeS N (ent bs)) := by
  obtain ⟨h1, h6, _, hin⟩ := planOk_of hp
  have e := startT_eq (bs := bs) (fun x hx => by have := hin x hx; omega)
  refine ⟨e, ?_⟩
  rw [e]
  exact both_all (both_start (fun x hx => by have := hin x hx; omega)) N (Nat.le_refl _) (by omega)
theorem fits_eq (n : Int) (bs : List Bd) : fitsS n bs = fitsOk n bs := by
  unfold fitsS fitsOk closedT
  cases hp : planOk n bs
  · rfl
  · obtain ⟨h1, h6, _, _⟩ := planOk_of hp
    obtain ⟨N, rfl⟩ := Int.eq_ofNat_of_zero_le (show 0 ≤ n by omega)
    rw [Bool.true_and, Bool.true_and, Int.toNat_natCast]
    obtain ⟨e, ⟨h1, h2, h3⟩ | ⟨⟨i, hi, hA⟩, i', hi', hB⟩⟩ := both_plan hp
    · rw [diagOk_good (T := closeS N (ent bs)) (fun i hi => by rw [← h1 i i hi hi, h2 i hi]; exact Int.le_refl _), diagOk_good (T := closeT N (startT bs)) (fun i hi => by rw [h2 i hi]; exact Int.le_refl _)]
    · rw [diagOk_bad (T := closeT N (startT bs)) hi hA, diagOk_bad (T := closeS N (ent bs)) hi' hB]
/-- If the plan fits, both closed tables are the same. -/
theorem closed_eq {N : Nat} {bs : List Bd} (hf : fitsOk N bs = true) (i j : Nat) (hi : i < N) (hj : j < N) : closeS N (ent bs) i j = closedT N bs i j := by
  have hp : planOk N bs = true := by simp only [fitsOk, Bool.and_eq_true] at hf; exact hf.1
  have hd : diagOk N (closedT N bs) = true := by simp only [fitsOk, Bool.and_eq_true] at hf; exact hf.2
  unfold closedT at *
  rw [Int.toNat_natCast] at *
  obtain ⟨e, ⟨h1, h2, h3⟩ | ⟨⟨i', hi', hA⟩, _⟩⟩ := both_plan hp
  · exact (h1 i j hi hj).symm
  · rw [diagOk_bad hi' hA] at hd; cases hd
theorem closed_bound {N : Nat} {bs : List Bd} (hf : fitsOk N bs = true) (i j : Nat) (hi : i < N) (hj : j < N) : -6400000 ≤ closedT N bs i j ∧ closedT N bs i j ≤ 100000 := by
  have hp : planOk N bs = true := by simp only [fitsOk, Bool.and_eq_true] at hf; exact hf.1
  have hd : diagOk N (closedT N bs) = true := by simp only [fitsOk, Bool.and_eq_true] at hf; exact hf.2
  obtain ⟨_, h6, _, _⟩ := planOk_of hp
  unfold closedT at *
  rw [Int.toNat_natCast] at *
  obtain ⟨e, ⟨h1, h2, h3⟩ | ⟨⟨i', hi', hA⟩, _⟩⟩ := both_plan hp
  · have := h3 i j hi hj
    have hN : (100000 : Int) * 2 ^ N ≤ 6400000 := by
      have hN6 : N = 0 ∨ N = 1 ∨ N = 2 ∨ N = 3 ∨ N = 4 ∨ N = 5 ∨ N = 6 := by omega
      clear this h1 h2 h3 e hd hf hp
      rcases hN6 with e | e | e | e | e | e | e <;> (rw [e]; decide)
    exact ⟨Int.le_trans (Int.neg_le_neg hN) this.1, this.2⟩
  · rw [diagOk_bad hi' hA] at hd; cases hd
/-- spec.FitsOk tells what impl.FitsOk tells. -/
theorem specFitsOk_any (n : Int) (A : Option Addr) (c : Nat) (bs : List Bd) (w : World) (h : BAt w A bs) (hlen : bs.length ≤ 1099511627776) :
    Calls Try.prog 66 #[.agg #[.int .i64 n, .slice A bs.length c]] w fun e w' => e = .returned (.bool (fitsOk n bs)) ∧ Below w.heap.size w w' := by
  rw [← fits_eq]; exact specFits_any n A c bs w h hlen
end Go.Proofs.Ytaifpindiphlkaa
