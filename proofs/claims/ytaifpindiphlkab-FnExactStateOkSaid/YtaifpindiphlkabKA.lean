/- Words for memory: what a slice of bounds or of ints reads as, and how readings are kept; no condition. Contracts of the two instances of slices.IndexFunc and slices.ContainsFunc that the program uses, for a test that answers by a Bool function; for slices of at most 2^40 elements. Contracts of impl.PlanOk and of what it calls: it answers planOk; for slices of at most 2^40 bounds. Contracts of spec.l1In and spec.PlanOk: the latter answers planOk; for slices of at most 2^40 bounds. Contracts of the laws' helpers that copy, count and compare plans. -/
import Derived.Test.YtaifpindiphlkabRows
import Derived.WalkKit
import Derived.ProofKit
import Derived.Lib.Hide
import Derived.Deep.Draws
import Derived.Laws.OwnMore
import Derived.Laws.Rows
import Derived.Laws.MakeOwn
import Derived.Laws.ResultCell
import Derived.StillTailTactics
namespace Go.Proofs.Ytaifpindiphlkab
open Go.RowKit
set_option linter.unusedVariables false
set_option maxRecDepth 10000
set_option linter.unusedSimpArgs false

theorem sz (w : World) (o : Obj) : (w.alloc o).heap.size = w.heap.size + 1 := by simp
theorem bcell {W w1 : World} (hb : Below W.heap.size W w1) : (∀ b o, b < W.heap.size → w1.cell? ⟨b, o, none⟩ = W.cell? ⟨b, o, none⟩) ∧ (∀ b o, b < W.heap.size → w1.frozen? ⟨b, o, none⟩ = W.frozen? ⟨b, o, none⟩) :=
  ⟨fun b o h => hb.cell (p := ⟨b, o, none⟩) h, fun b o h => hb.frozen (p := ⟨b, o, none⟩) h⟩
theorem szc (w : World) (p : Addr) (v : Value) : (w.setCell p v).heap.size = w.heap.size := by simp [World.setCell]
theorem cell_lt {w : World} {b o : Nat} {v : Value} (h : w.cell? ⟨b, o, none⟩ = some v) : b < w.heap.size := by
  rcases Nat.lt_or_ge b w.heap.size with hlt | hge
  · exact hlt
  · simp [World.cell?, Array.getElem?_eq_none hge] at h
theorem ltA {w : World} {b : Nat} (h : b < w.heap.size) (o : Obj) : b < (w.alloc o).heap.size := by rw [sz]; omega
theorem cA {w : World} {b o : Nat} {v : Value} (h : w.cell? ⟨b, o, none⟩ = some v) (ob : Obj) : (w.alloc ob).cell? ⟨b, o, none⟩ = some v := by
  have hl := cell_lt h
  rw [World.cell?_alloc_lt w ob _ hl]; exact h
theorem ltB {w w1 : World} (hb : Below w.heap.size w w1) {b : Nat} (h : b < w.heap.size) : b < w1.heap.size := Nat.lt_of_lt_of_le h hb.size
theorem cB {w w1 : World} (hb : Below w.heap.size w w1) {b o : Nat} {v : Value} (h : w.cell? ⟨b, o, none⟩ = some v) : w1.cell? ⟨b, o, none⟩ = some v := (hb.cell (p := ⟨b, o, none⟩) (cell_lt h)).trans h
theorem cBel {B : Nat} {w w1 : World} (hb : Below B w w1) {b o : Nat} {v : Value} (hlt : b < B) (h : w.cell? ⟨b, o, none⟩ = some v) : w1.cell? ⟨b, o, none⟩ = some v := (hb.cell (p := ⟨b, o, none⟩) hlt).trans h
theorem cD {w : World} {b o : Nat} {v : Value} (h : w.cell? ⟨b, o, none⟩ = some v) : w.drew.cell? ⟨b, o, none⟩ = some v := h
theorem cS {w : World} {b o B O : Nat} {v u : Value} (h : w.cell? ⟨b, o, none⟩ = some v) (hne : B ≠ b) : (w.setCell ⟨B, O, none⟩ u).cell? ⟨b, o, none⟩ = some v :=
  (World.cell?_setCell_other w ⟨B, O, none⟩ ⟨b, o, none⟩ u (fun e => hne (congrArg Addr.block e))).trans h
theorem leA (w : World) (o : Obj) : w.heap.size ≤ (w.alloc o).heap.size := by rw [sz]; omega
theorem ret_int {k : IntKind} {a b : Int} (h : a = b) : Ending.returned (.int k a) = .returned (.int k b) := by rw [h]
theorem ret_bool {a b : Bool} (h : a = b) : Ending.returned (.bool a) = .returned (.bool b) := by rw [h]
section
variable {w W w1 : World}
theorem via (hb : Below W.heap.size W w1) (h : Below w.heap.size w W) : Below w.heap.size w w1 := h.trans (hb.mono h.size)
theorem valloc (h : Below w.heap.size w W) (o : Obj) : Below w.heap.size w (W.alloc o) := h.alloc h.size o
theorem vdrew (h : Below w.heap.size w W) : Below w.heap.size w W.drew := h.drew
theorem vdrewN (h : Below w.heap.size w W) (n : Nat) : Below w.heap.size w (W.drewN n) := ⟨h.os, h.tape, h.output, h.size, h.block⟩
theorem vset (h : Below w.heap.size w W) {p : Addr} (hp : w.heap.size ≤ p.block) (u : Value) : Below w.heap.size w (W.setCell p u) := h.setCell hp u
end

/-- Block g holds just the cells cs of element type t, none frozen. -/
def Blk (w : World) (g : Nat) (t : TypeId) (cs : Array Value) : Prop := w.heap[g]? = some (.cells cs t (0, 0))
section
variable {w w' : World} {g : Nat} {t : TypeId} {cs : Array Value}
theorem Blk.lt (h : Blk w g t cs) : g < w.heap.size := by
  rcases Nat.lt_or_ge g w.heap.size with hlt | hge
  · exact hlt
  · unfold Blk at h; rw [Array.getElem?_eq_none hge] at h; cases h
theorem Blk.cell (h : Blk w g t cs) (i : Nat) : w.cell? ⟨g, i, none⟩ = cs[i]? := cell_of_row w g i cs t (0, 0) h
theorem Blk.frozen (h : Blk w g t cs) (i : Nat) : w.frozen? ⟨g, i, none⟩ = false := by
  unfold Blk at h
  simp [World.frozen?, h]
theorem Blk.new (w : World) (t : TypeId) (cs : Array Value) : Blk (w.alloc (.cells cs t)) w.heap.size t cs := heap_alloc_new w _
theorem Blk.new' {w : World} {g : Nat} (hg : g = w.heap.size) (t : TypeId) (cs : Array Value) : Blk (w.alloc (.cells cs t)) g t cs := by subst hg; exact heap_alloc_new w _
theorem Blk.drew (h : Blk w g t cs) : Blk w.drew g t cs := h
theorem Blk.drewN (h : Blk w g t cs) (n : Nat) : Blk (w.drewN n) g t cs := h
theorem Blk.alloc (h : Blk w g t cs) (o : Obj) : Blk (w.alloc o) g t cs := (Below.heap_alloc w o g h.lt).trans h
theorem Blk.set_ (h : Blk w g t cs) (i : Nat) (u : Value) : Blk (w.setCell ⟨g, i, none⟩ u) g t (cs.setIfInBounds i u) := by
  unfold Blk at h ⊢
  simp [World.setCell, Array.getElem?_modify, h]
theorem Blk.far (h : Blk w g t cs) {p : Addr} (hp : g ≠ p.block) (u : Value) : Blk (w.setCell p u) g t cs := (Below.heap_setCell w p u g hp).trans h
theorem Blk.below {B : Nat} (h : Blk w g t cs) (hb : Below B w w') (hg : g < B) : Blk w' g t cs := (hb.block g hg).trans h
theorem Blk.below' (h : Blk w g t cs) (hb : Below w.heap.size w w') : Blk w' g t cs := h.below hb h.lt
end

/-- A bound: from, to, most. -/
structure Bd where
  f : Int
  t : Int
  m : Int

/-- The slice at A reads, in world w, as the bounds bs. -/
def BAt (w : World) (A : Option Addr) (bs : List Bd) : Prop :=
  0 < bs.length → ∃ b off, A = some ⟨b, off, none⟩ ∧ b < w.heap.size ∧ ∀ i x, bs[i]? = some x → w.cell? ⟨b, off + i * 3, none⟩ = some (.int .i64 x.f) ∧ w.cell? ⟨b, off + i * 3 + 1, none⟩ = some (.int .i64 x.t) ∧ w.cell? ⟨b, off + i * 3 + 2, none⟩ = some (.int .i64 x.m)
/-- The slice at A reads, in world w, as the numbers xs. -/
def IAt (w : World) (A : Option Addr) (xs : List Int) : Prop :=
  0 < xs.length → ∃ b off, A = some ⟨b, off, none⟩ ∧ b < w.heap.size ∧ ∀ i x, xs[i]? = some x → w.cell? ⟨b, off + i, none⟩ = some (.int .i64 x)
section
variable {w w1 : World} {A : Option Addr} {bs : List Bd} {xs : List Int}
theorem BAt.below (h : BAt w A bs) (hb : Below w.heap.size w w1) : BAt w1 A bs := by
  intro hl
  obtain ⟨b, off, e, hlt, hc⟩ := h hl
  refine ⟨b, off, e, Nat.lt_of_lt_of_le hlt hb.size, fun i x hx => ?_⟩
  obtain ⟨c0, c1, c2⟩ := hc i x hx
  exact ⟨(hb.cell (p := ⟨b, off + i * 3, none⟩) hlt).trans c0, (hb.cell (p := ⟨b, off + i * 3 + 1, none⟩) hlt).trans c1, (hb.cell (p := ⟨b, off + i * 3 + 2, none⟩) hlt).trans c2⟩
theorem BAt.at_ (h : BAt w A bs) {k : Nat} (hk : k < bs.length) : ∃ b off x, A = some ⟨b, off, none⟩ ∧ b < w.heap.size ∧ bs[k]? = some x ∧ x ∈ bs ∧ w.cell? ⟨b, off + k * 3, none⟩ = some (.int .i64 x.f) ∧ w.cell? ⟨b, off + k * 3 + 1, none⟩ = some (.int .i64 x.t) ∧ w.cell? ⟨b, off + k * 3 + 2, none⟩ = some (.int .i64 x.m) := by
  obtain ⟨b, off, e, hlt, hc⟩ := h (by omega)
  have hx : bs[k]? = some bs[k] := List.getElem?_eq_getElem hk
  exact ⟨b, off, bs[k], e, hlt, hx, List.getElem_mem hk, hc k _ hx⟩
theorem IAt.at_ (h : IAt w A xs) {k : Nat} (hk : k < xs.length) : ∃ b off x, A = some ⟨b, off, none⟩ ∧ b < w.heap.size ∧ xs[k]? = some x ∧ x ∈ xs ∧ w.cell? ⟨b, off + k, none⟩ = some (.int .i64 x) := by
  obtain ⟨b, off, e, hlt, hc⟩ := h (by omega)
  have hx : xs[k]? = some xs[k] := List.getElem?_eq_getElem hk
  exact ⟨b, off, xs[k], e, hlt, hx, List.getElem_mem hk, hc k _ hx⟩
theorem IAt.below (h : IAt w A xs) (hb : Below w.heap.size w w1) : IAt w1 A xs := by
  intro hl
  obtain ⟨b, off, e, hlt, hc⟩ := h hl
  exact ⟨b, off, e, Nat.lt_of_lt_of_le hlt hb.size, fun i x hx => (hb.cell (p := ⟨b, off + i, none⟩) hlt).trans (hc i x hx)⟩
end
/-- The blocks from lo up to hi are as they were. -/
structure Same (lo hi : Nat) (w w' : World) : Prop where
  out : hi ≤ w.heap.size → (hi ≤ w'.heap.size ∧ ∀ k, lo ≤ k → k < hi → w'.heap[k]? = w.heap[k]?)
/-- Of the blocks that were there at most those from lo up to hi have turned. -/
structure Only (lo hi : Nat) (w w' : World) : Prop where
  os : w'.os = w.os
  tape : w'.tape = w.tape
  output : w'.output = w.output
  size : w.heap.size ≤ w'.heap.size
  block : ∀ k, k < w.heap.size → (k < lo ∨ hi ≤ k) → w'.heap[k]? = w.heap[k]?
section
variable {lo hi lo' hi' : Nat} {w W w1 : World}
theorem Same.refl (lo hi : Nat) (w : World) : Same lo hi w w := ⟨fun h => ⟨h, fun _ _ _ => rfl⟩⟩
theorem Same.alloc (h : Same lo hi w W) (o : Obj) : Same lo hi w (W.alloc o) := ⟨fun hh => by
  obtain ⟨h1, h2⟩ := h.out hh
  exact ⟨by rw [sz]; omega, fun k hk hk' => (Below.heap_alloc W o k (by omega)).trans (h2 k hk hk')⟩⟩
theorem Same.drew (h : Same lo hi w W) : Same lo hi w W.drew := ⟨h.out⟩
theorem Same.drewN (h : Same lo hi w W) (n : Nat) : Same lo hi w (W.drewN n) := ⟨h.out⟩
theorem Same.below (hb : Below W.heap.size W w1) (h : Same lo hi w W) : Same lo hi w w1 := ⟨fun hh => by
  obtain ⟨h1, h2⟩ := h.out hh
  exact ⟨Nat.le_trans h1 hb.size, fun k hk hk' => (hb.block k (by omega)).trans (h2 k hk hk')⟩⟩
theorem Same.only (ho : Only lo' hi' W w1) (hd : hi ≤ lo' ∨ hi' ≤ lo) (h : Same lo hi w W) : Same lo hi w w1 := ⟨fun hh => by
  obtain ⟨h1, h2⟩ := h.out hh
  exact ⟨Nat.le_trans h1 ho.size, fun k hk hk' => (ho.block k (by omega) (by omega)).trans (h2 k hk hk')⟩⟩
theorem Same.set_ (h : Same lo hi w W) {p : Addr} (hp : p.block < lo ∨ hi ≤ p.block) (u : Value) : Same lo hi w (W.setCell p u) := ⟨fun hh => by
  obtain ⟨h1, h2⟩ := h.out hh
  exact ⟨by rw [szc]; exact h1, fun k hk hk' => (Below.heap_setCell W p u k (by omega)).trans (h2 k hk hk')⟩⟩
theorem viaOnly (ho : Only lo hi W w1) (hl : w.heap.size ≤ lo) (h : Below w.heap.size w W) : Below w.heap.size w w1 :=
  h.trans ⟨ho.os, ho.tape, ho.output, ho.size, fun k hk => ho.block k (Nat.lt_of_lt_of_le hk h.size) (by omega)⟩
theorem Only.cell (ho : Only lo hi W w1) {b o : Nat} {v : Value} (h : W.cell? ⟨b, o, none⟩ = some v) (hd : b < lo ∨ hi ≤ b) : w1.cell? ⟨b, o, none⟩ = some v :=
  (World.cell?_of_block (w := W) (a := ⟨b, o, none⟩) (ho.block b (cell_lt h) hd)).trans h
theorem Only.refl (lo hi : Nat) (w : World) : Only lo hi w w := ⟨rfl, rfl, rfl, Nat.le_refl _, fun _ _ _ => rfl⟩
theorem Only.set_ (h : Only lo hi w W) {p : Addr} (hp : lo ≤ p.block) (hp' : p.block < hi) (u : Value) : Only lo hi w (W.setCell p u) :=
  ⟨h.os, h.tape, h.output, by rw [szc]; exact h.size, fun k hk hd => (Below.heap_setCell W p u k (by omega)).trans (h.block k hk hd)⟩
theorem Only.alloc (h : Only lo hi w W) (o : Obj) : Only lo hi w (W.alloc o) :=
  ⟨h.os, h.tape, h.output, by rw [sz]; have := h.size; omega, fun k hk hd => (Below.heap_alloc W o k (Nat.lt_of_lt_of_le hk h.size)).trans (h.block k hk hd)⟩
theorem Only.drew (h : Only lo hi w W) : Only lo hi w W.drew := ⟨h.os, h.tape, h.output, h.size, h.block⟩
theorem Only.drewN (h : Only lo hi w W) (n : Nat) : Only lo hi w (W.drewN n) := ⟨h.os, h.tape, h.output, h.size, h.block⟩
theorem Only.below (hb : Below W.heap.size W w1) (h : Only lo hi w W) : Only lo hi w w1 :=
  ⟨hb.os.trans h.os, hb.tape.trans h.tape, hb.output.trans h.output, Nat.le_trans h.size hb.size, fun k hk hd => (hb.block k (Nat.lt_of_lt_of_le hk h.size)).trans (h.block k hk hd)⟩
theorem Only.only (hb : Only lo' hi' W w1) (hl : lo ≤ lo') (hh : hi' ≤ hi) (h : Only lo hi w W) : Only lo hi w w1 :=
  ⟨hb.os.trans h.os, hb.tape.trans h.tape, hb.output.trans h.output, Nat.le_trans h.size hb.size, fun k hk hd => (hb.block k (Nat.lt_of_lt_of_le hk h.size) (by omega)).trans (h.block k hk hd)⟩
end

/-- The first cells of the row cs are the numbers xs. -/
def FillI (xs : List Int) (k : Nat) (cs : Array Value) : Prop := xs.length ≤ cs.size ∧ ∀ i x, i < k → xs[i]? = some x → cs[i]? = some (.int .i64 x)
/-- The first cells of the row cs are the bounds bs. -/
def FillB (bs : List Bd) (k : Nat) (cs : Array Value) : Prop :=
  bs.length * 3 ≤ cs.size ∧ ∀ i x, i < k → bs[i]? = some x → cs[i * 3]? = some (.int .i64 x.f) ∧ cs[i * 3 + 1]? = some (.int .i64 x.t) ∧ cs[i * 3 + 2]? = some (.int .i64 x.m)
/-- The slice at A reads as the numbers xs; it is nil, or a row of the call's own in a block from lo up to hi. -/
def RI (w : World) (lo hi : Nat) (A : Option Addr) (xs : List Int) : Prop :=
  (A = none ∧ xs = []) ∨ ∃ g cs, A = some ⟨g, 0, none⟩ ∧ lo ≤ g ∧ g < hi ∧ Blk w g 3 cs ∧ FillI xs xs.length cs
/-- The same for bounds. -/
def RB (w : World) (lo hi : Nat) (A : Option Addr) (bs : List Bd) : Prop :=
  (A = none ∧ bs = []) ∨ ∃ g cs, A = some ⟨g, 0, none⟩ ∧ lo ≤ g ∧ g < hi ∧ Blk w g 69 cs ∧ FillB bs bs.length cs
section
variable {lo hi lo' hi' : Nat} {w w1 : World} {A : Option Addr} {xs : List Int} {bs : List Bd}
theorem RI.iat (h : RI w lo hi A xs) : IAt w A xs := by
  rcases h with ⟨_, rfl⟩ | ⟨g, cs, rfl, _, _, hB, hF⟩
  · intro h0; exact absurd h0 (by simp)
  · intro _
    refine ⟨g, 0, rfl, hB.lt, fun i x hx => ?_⟩
    have hi : i < xs.length := (List.getElem?_eq_some_iff.1 hx).1
    simp only [Nat.zero_add]
    exact (hB.cell _).trans (hF.2 i x hi hx)
theorem RB.bat (h : RB w lo hi A bs) : BAt w A bs := by
  rcases h with ⟨_, rfl⟩ | ⟨g, cs, rfl, _, _, hB, hF⟩
  · intro h0; exact absurd h0 (by simp)
  · intro _
    refine ⟨g, 0, rfl, hB.lt, fun i x hx => ?_⟩
    have hi : i < bs.length := (List.getElem?_eq_some_iff.1 hx).1
    obtain ⟨a0, a1, a2⟩ := hF.2 i x hi hx
    simp only [Nat.zero_add]
    exact ⟨(hB.cell _).trans a0, (hB.cell _).trans a1, (hB.cell _).trans a2⟩
theorem RI.same (h : RI w lo hi A xs) (hs : Same lo hi w w1) (hh : hi ≤ w.heap.size) : RI w1 lo hi A xs := by
  rcases h with h | ⟨g, cs, e, h1, h2, hB, hF⟩
  · exact .inl h
  · exact .inr ⟨g, cs, e, h1, h2, ((hs.out hh).2 g h1 h2).trans hB, hF⟩
theorem RB.same (h : RB w lo hi A bs) (hs : Same lo hi w w1) (hh : hi ≤ w.heap.size) : RB w1 lo hi A bs := by
  rcases h with h | ⟨g, cs, e, h1, h2, hB, hF⟩
  · exact .inl h
  · exact .inr ⟨g, cs, e, h1, h2, ((hs.out hh).2 g h1 h2).trans hB, hF⟩
theorem RI.wide (h : RI w lo hi A xs) (hl : lo' ≤ lo) (hh : hi ≤ hi') : RI w lo' hi' A xs := by
  rcases h with h | ⟨g, cs, e, h1, h2, hB, hF⟩
  · exact .inl h
  · exact .inr ⟨g, cs, e, by omega, by omega, hB, hF⟩
theorem RB.wide (h : RB w lo hi A bs) (hl : lo' ≤ lo) (hh : hi ≤ hi') : RB w lo' hi' A bs := by
  rcases h with h | ⟨g, cs, e, h1, h2, hB, hF⟩
  · exact .inl h
  · exact .inr ⟨g, cs, e, by omega, by omega, hB, hF⟩
theorem FillI.zero (xs : List Int) {cs : Array Value} (h : xs.length ≤ cs.size) : FillI xs 0 cs := ⟨h, fun i x hi => absurd hi (Nat.not_lt_zero _)⟩
theorem FillI.room {k : Nat} {cs : Array Value} (h : FillI xs k cs) {j : Nat} (hk : j < xs.length) : ∃ u0, cs[j]? = some u0 := by
  have := h.1
  exact ⟨_, Array.getElem?_eq_getElem (by omega)⟩
theorem FillI.step {k : Nat} {cs : Array Value} {x : Int} (h : FillI xs k cs) (hx : xs[k]? = some x) : FillI xs (k + 1) (cs.setIfInBounds k (.int .i64 x)) := by
  have hk : k < xs.length := (List.getElem?_eq_some_iff.1 hx).1
  refine ⟨by simpa using h.1, fun i y hi hy => ?_⟩
  have hs := h.1
  simp only [Array.getElem?_setIfInBounds]
  by_cases e : i = k
  · subst e
    rw [hx] at hy
    injection hy with hy
    subst hy
    simp; omega
  · rw [if_neg (by omega)]
    exact h.2 i y (by omega) hy
theorem FillB.zero (bs : List Bd) {cs : Array Value} (h : bs.length * 3 ≤ cs.size) : FillB bs 0 cs := ⟨h, fun i x hi => absurd hi (Nat.not_lt_zero _)⟩
theorem FillB.room {k : Nat} {cs : Array Value} (h : FillB bs k cs) {j : Nat} (hk : j < bs.length) : ∃ u0 u1 u2, cs[j * 3]? = some u0 ∧ cs[j * 3 + 1]? = some u1 ∧ cs[j * 3 + 2]? = some u2 := by
  have := h.1
  exact ⟨_, _, _, Array.getElem?_eq_getElem (by omega), Array.getElem?_eq_getElem (by omega), Array.getElem?_eq_getElem (by omega)⟩
theorem FillB.step {k : Nat} {cs : Array Value} {x : Bd} (h : FillB bs k cs) (hx : bs[k]? = some x) :
    FillB bs (k + 1) (((cs.setIfInBounds (k * 3) (.int .i64 x.f)).setIfInBounds (k * 3 + 1) (.int .i64 x.t)).setIfInBounds (k * 3 + 2) (.int .i64 x.m)) := by
  have hk : k < bs.length := (List.getElem?_eq_some_iff.1 hx).1
  refine ⟨by simpa using h.1, fun i y hi hy => ?_⟩
  have hs := h.1
  simp only [Array.getElem?_setIfInBounds]
  by_cases e : i = k
  · subst e
    rw [hx] at hy
    injection hy with hy
    subst hy
    refine ⟨?_, ?_, ?_⟩ <;> simp <;> omega
  · obtain ⟨a0, a1, a2⟩ := h.2 i y (by omega) hy
    refine ⟨?_, ?_, ?_⟩
    · rw [if_neg (by omega), if_neg (by omega), if_neg (by omega)]; exact a0
    · rw [if_neg (by omega), if_neg (by omega), if_neg (by omega)]; exact a1
    · rw [if_neg (by omega), if_neg (by omega), if_neg (by omega)]; exact a2
end
end Go.Proofs.Ytaifpindiphlkab
namespace Go.Proofs.Ytaifpindiphlkab
open Go.RowKit
set_option linter.unusedVariables false
set_option maxRecDepth 10000
set_option linter.unusedSimpArgs false

def idxOf {α : Type} (q : α → Bool) (l : List α) : Int := match l.findIdx? q with | some i => i | none => -1
theorem idxOf_ge {α : Type} (q : α → Bool) (l : List α) : decide (0 ≤ idxOf q l) = l.any q := by
  unfold idxOf
  cases h : l.findIdx? q with
  | none => 
    simp [List.findIdx?_eq_none_iff] at h ⊢
    exact h
  | some i =>
    have := List.findIdx?_eq_some_iff_getElem.1 h
    obtain ⟨hl, hq, _⟩ := this
    simp
    exact ⟨_, List.getElem_mem hl, hq⟩
theorem idxOf_at {α : Type} (q : α → Bool) (l : List α) (k : Nat) (x : α) (hk : l[k]? = some x) (hq : q x = true) (hn : ∀ y ∈ l.take k, q y = false) : idxOf q l = k := by
  unfold idxOf
  have hl : k < l.length := (List.getElem?_eq_some_iff.1 hk).1
  have : l.findIdx? q = some k := by
    rw [List.findIdx?_eq_some_iff_getElem]
    refine ⟨hl, ?_, ?_⟩
    · have := (List.getElem?_eq_some_iff.1 hk).2
      rw [this]; exact hq
    · intro j hj
      simp [hn l[j] (by rw [List.mem_take_iff_getElem]; exact ⟨j, by omega, rfl⟩)]
  rw [this]
theorem idxOf_none {α : Type} (q : α → Bool) (l : List α) (hn : ∀ y ∈ l, q y = false) : idxOf q l = -1 := by
  unfold idxOf
  rw [List.findIdx?_eq_none_iff.2 hn]

theorem snoc_false {α : Type} {q : α → Bool} {l : List α} {k : Nat} {x : α} (hx : l[k]? = some x) (hn : ∀ y ∈ l.take k, q y = false) (hq : q x = false) : ∀ y ∈ l.take (k + 1), q y = false := by
  intro y hy
  have hl : k < l.length := (List.getElem?_eq_some_iff.1 hx).1
  have hv := (List.getElem?_eq_some_iff.1 hx).2
  rw [List.take_succ_eq_append_getElem hl, List.mem_append] at hy
  rcases hy with hy | hy
  · exact hn y hy
  · simp at hy; subst hy; rw [hv]; exact hq
theorem indexB_any (F : Nat) (caps : Array Value) (q : Bd → Bool) (A : Option Addr) (c : Nat) (bs : List Bd) (w : World) (h : BAt w A bs) (hlen : bs.length ≤ 1099511627776)
    (hF : ∀ args W, (callFunc F args).run Try.prog W = .ok (.enter F args) W)
    (hcl : ∀ W x, Below w.heap.size w W → x ∈ bs → Calls Try.prog F (#[.agg #[.int .i64 x.f, .int .i64 x.t, .int .i64 x.m]] ++ caps) W fun e w' => e = .returned (.bool (q x)) ∧ Below W.heap.size W w') :
    Calls Try.prog 80 #[.slice A bs.length c, .func (.func F) #[] caps] w fun e w' => e = .returned (.int .i64 (idxOf q bs)) ∧ Below w.heap.size w w' := by
  have HC := Lib.hid hcl
  clear hcl
  go_enter Try.func80, Try.ntmps80
  go_wp2
  go_loopw [8] (fun i W => ∃ k : Nat, k ≤ bs.length ∧ i = .int .i64 k ∧ (∀ y ∈ bs.take k, q y = false) ∧ Below w.heap.size w W) (fun i _ => bs.length - (intOf i).toNat)
  case atStart => exact ⟨0, Nat.zero_le _, rfl, by simp, Below.refl _ _⟩
  case round =>
    obtain ⟨k, hk, rfl, hn, hb⟩ := hrel
    by_cases hlt : k < bs.length
    · obtain ⟨b, off, rfl, hbl, hcells⟩ := h (by omega)
      obtain ⟨x, hx⟩ : ∃ x, bs[k]? = some x := ⟨_, List.getElem?_eq_getElem hlt⟩
      obtain ⟨c0, c1, c2⟩ := hcells k x hx
      have d0 := (hb.cell (p := ⟨b, off + k * 3, none⟩) hbl).trans c0
      have d1 := (hb.cell (p := ⟨b, off + k * 3 + 1, none⟩) hbl).trans c1
      have d2 := (hb.cell (p := ⟨b, off + k * 3 + 2, none⟩) hbl).trans c2
      have HX := Lib.hid hx
      have HN := Lib.hid hn
      clear hx hn c0 c1 c2 hcells
      go_wp2_with fail
      refine (HC.out _ x hb (List.mem_of_getElem? HX.out)).mono ?_
      rintro e w1 ⟨rfl, hb1⟩
      cases hq : q x
      · have HQ := Lib.hid hq
        clear hq
        go_wp2
        go_roundw
        case rel => exact ⟨k + 1, by omega, by go_num, snoc_false HX.out HN.out HQ.out, via hb1 hb⟩
        case measure => simp [intOf]; omega
      · have HQ := Lib.hid hq
        clear hq
        go_wp2
        go_ret
        exact ⟨ret_int (idxOf_at q bs k x HX.out HQ.out HN.out).symm, via hb1 hb⟩
    · have HN := Lib.hid hn
      clear hn
      go_wp2
      go_ret
      exact ⟨ret_int (idxOf_none q bs (by have := HN.out; rwa [List.take_of_length_le (by omega)] at this)).symm, hb⟩
theorem containsB_any (F : Nat) (caps : Array Value) (q : Bd → Bool) (A : Option Addr) (c : Nat) (bs : List Bd) (w : World) (h : BAt w A bs) (hlen : bs.length ≤ 1099511627776)
    (hF : ∀ args W, (callFunc F args).run Try.prog W = .ok (.enter F args) W)
    (hcl : ∀ W x, Below w.heap.size w W → x ∈ bs → Calls Try.prog F (#[.agg #[.int .i64 x.f, .int .i64 x.t, .int .i64 x.m]] ++ caps) W fun e w' => e = .returned (.bool (q x)) ∧ Below W.heap.size W w') :
    Calls Try.prog 76 #[.slice A bs.length c, .func (.func F) #[] caps] w fun e w' => e = .returned (.bool (bs.any q)) ∧ Below w.heap.size w w' := by
  have HC := Lib.hid (indexB_any F caps q A c bs w h hlen hF hcl)
  clear hcl h hF
  rw [← idxOf_ge]
  go_enter Try.func76, Try.ntmps76
  go_wp2_with fail
  refine HC.out.mono ?_
  rintro e w1 ⟨rfl, hb1⟩
  go_wp2
  go_ret
  exact ⟨rfl, hb1⟩
theorem indexI_any (F : Nat) (caps : Array Value) (q : Int → Bool) (A : Option Addr) (c : Nat) (bs : List Int) (w : World) (h : IAt w A bs) (hlen : bs.length ≤ 1099511627776)
    (hF : ∀ args W, (callFunc F args).run Try.prog W = .ok (.enter F args) W)
    (hcl : ∀ W x, Below w.heap.size w W → x ∈ bs → Calls Try.prog F (#[.int .i64 x] ++ caps) W fun e w' => e = .returned (.bool (q x)) ∧ Below W.heap.size W w') :
    Calls Try.prog 79 #[.slice A bs.length c, .func (.func F) #[] caps] w fun e w' => e = .returned (.int .i64 (idxOf q bs)) ∧ Below w.heap.size w w' := by
  have HC := Lib.hid hcl
  clear hcl
  go_enter Try.func79, Try.ntmps79
  go_wp2
  go_loopw [8] (fun i W => ∃ k : Nat, k ≤ bs.length ∧ i = .int .i64 k ∧ (∀ y ∈ bs.take k, q y = false) ∧ Below w.heap.size w W) (fun i _ => bs.length - (intOf i).toNat)
  case atStart => exact ⟨0, Nat.zero_le _, rfl, by simp, Below.refl _ _⟩
  case round =>
    obtain ⟨k, hk, rfl, hn, hb⟩ := hrel
    by_cases hlt : k < bs.length
    · obtain ⟨b, off, rfl, hbl, hcells⟩ := h (by omega)
      obtain ⟨x, hx⟩ : ∃ x, bs[k]? = some x := ⟨_, List.getElem?_eq_getElem hlt⟩
      have d0 := (hb.cell (p := ⟨b, off + k, none⟩) hbl).trans (hcells k x hx)
      have HX := Lib.hid hx
      have HN := Lib.hid hn
      clear hx hn hcells
      go_wp2_with fail
      refine (HC.out _ x hb (List.mem_of_getElem? HX.out)).mono ?_
      rintro e w1 ⟨rfl, hb1⟩
      cases hq : q x
      · have HQ := Lib.hid hq
        clear hq
        go_wp2
        go_roundw
        case rel => exact ⟨k + 1, by omega, by go_num, snoc_false HX.out HN.out HQ.out, via hb1 hb⟩
        case measure => simp [intOf]; omega
      · have HQ := Lib.hid hq
        clear hq
        go_wp2
        go_ret
        exact ⟨ret_int (idxOf_at q bs k x HX.out HQ.out HN.out).symm, via hb1 hb⟩
    · have HN := Lib.hid hn
      clear hn
      go_wp2
      go_ret
      exact ⟨ret_int (idxOf_none q bs (by have := HN.out; rwa [List.take_of_length_le (by omega)] at this)).symm, hb⟩
theorem containsI_any (F : Nat) (caps : Array Value) (q : Int → Bool) (A : Option Addr) (c : Nat) (bs : List Int) (w : World) (h : IAt w A bs) (hlen : bs.length ≤ 1099511627776)
    (hF : ∀ args W, (callFunc F args).run Try.prog W = .ok (.enter F args) W)
    (hcl : ∀ W x, Below w.heap.size w W → x ∈ bs → Calls Try.prog F (#[.int .i64 x] ++ caps) W fun e w' => e = .returned (.bool (q x)) ∧ Below W.heap.size W w') :
    Calls Try.prog 72 #[.slice A bs.length c, .func (.func F) #[] caps] w fun e w' => e = .returned (.bool (bs.any q)) ∧ Below w.heap.size w w' := by
  have HC := Lib.hid (indexI_any F caps q A c bs w h hlen hF hcl)
  clear hcl h hF
  rw [← idxOf_ge]
  go_enter Try.func72, Try.ntmps72
  go_wp2_with fail
  refine HC.out.mono ?_
  rintro e w1 ⟨rfl, hb1⟩
  go_wp2
  go_ret
  exact ⟨rfl, hb1⟩
end Go.Proofs.Ytaifpindiphlkab
namespace Go.Proofs.Ytaifpindiphlkab
open Go.RowKit
set_option linter.unusedVariables false
set_option maxRecDepth 10000
set_option linter.unusedSimpArgs false

def inB (n lo hi : Int) : Bool := decide (lo ≤ n) && decide (n ≤ hi)
theorem inB_iff (n lo hi : Int) : inB n lo hi = true ↔ lo ≤ n ∧ n ≤ hi := by simp [inB]
theorem in_any (n lo hi : Int) (w : World) :
    Calls Try.prog 74 #[.int .i64 n, .int .i64 lo, .int .i64 hi] w fun e w' => e = .returned (.bool (inB n lo hi)) ∧ w = w' := by
  by_cases h1 : lo ≤ n <;> by_cases h2 : n ≤ hi <;>
  (go_enter Try.func74, Try.ntmps74
   go_wp2
   go_ret
   exact ⟨by simp [inB, h1, h2], rfl⟩)
theorem has_any (n : Int) (A : Value) (i : Int) (w : World) (h1 : 1 ≤ n) (h2 : n ≤ 6) :
    Calls Try.prog 52 #[.agg #[.int .i64 n, A], .int .i64 i] w fun e w' => e = .returned (.bool (inB i 0 (n-1))) ∧ Below w.heap.size w w' := by
  go_enter Try.func52, Try.ntmps52
  go_wp2_with (go_at_call 74; refine (in_any _ _ _ _).mono ?_; rintro e w' ⟨rfl, rfl⟩)
  go_ret
  refine ⟨rfl, ?_⟩
  repeat (first | with_reducible exact Below.refl _ _ | with_reducible refine valloc ?_ _ | with_reducible refine vdrew ?_ | with_reducible refine vdrewN ?_ _ | with_reducible refine via (by assumption) ?_ | refine vset ?_ (by first | exact Nat.le_refl _ | (simp; done) | (simp; omega) | omega) _)
def okB (n : Int) (x : Bd) : Bool := inB x.f 0 (n-1) && inB x.t 0 (n-1) && inB x.m (-99) 99
theorem boundOk_any (n : Int) (A : Option Addr) (k c : Nat) (x : Bd) (w : World) (h1 : 1 ≤ n) (h2 : n ≤ 6) :
    Calls Try.prog 78 #[.agg #[.int .i64 n, .slice A k c], .agg #[.int .i64 x.f, .int .i64 x.t, .int .i64 x.m]] w fun e w' => e = .returned (.bool (okB n x)) ∧ Below w.heap.size w w' := by
  obtain ⟨f, t, m⟩ := x
  cases hf : inB f 0 (n-1) <;> cases ht : inB t 0 (n-1) <;>
  (go_enter Try.func78, Try.ntmps78
   go_wp2_with (first
       | (go_at_call 52; refine (has_any _ _ _ _ h1 h2).mono ?_; rintro e w1 ⟨rfl, hbw1⟩; obtain ⟨hcw1, hfw1⟩ := bcell hbw1; have hzw1 := hbw1.size; (try simp only [sz] at hzw1); (try simp only [szc] at hzw1); have hzw1_0 : w.heap.size < w1.heap.size := (by omega); have hzw1_1 : w.heap.size + 1 < w1.heap.size := (by omega))
       | (go_at_call 74; refine (in_any _ _ _ _).mono ?_; rintro e w' ⟨rfl, rfl⟩))
   go_ret
   refine ⟨by simp [okB, hf, ht], ?_⟩
   repeat (first | with_reducible exact Below.refl _ _ | with_reducible refine valloc ?_ _ | with_reducible refine vdrew ?_ | with_reducible refine vdrewN ?_ _ | with_reducible refine via (by assumption) ?_ | refine vset ?_ (by first | exact Nat.le_refl _ | (simp; done) | (simp; omega) | omega) _))
theorem planOk1_any (n : Int) (A : Option Addr) (k c : Nat) (x : Bd) (p : Nat) (w : World) (h1 : 1 ≤ n) (h2 : n ≤ 6) (p0 : w.cell? ⟨p, 0, none⟩ = some (.int .i64 n)) (p1 : w.cell? ⟨p, 1, none⟩ = some (.slice A k c)) :
    Calls Try.prog 77 #[.agg #[.int .i64 x.f, .int .i64 x.t, .int .i64 x.m], .pointer (some ⟨p, 0, none⟩)] w fun e w' => e = .returned (.bool (!okB n x)) ∧ Below w.heap.size w w' := by
  have hp := cell_lt p0
  go_enter Try.func77, Try.ntmps77
  go_wp2_with (go_at_call 78; refine (boundOk_any _ _ _ _ _ _ h1 h2).mono ?_; rintro e w1 ⟨rfl, hb1⟩)
  go_ret
  refine ⟨rfl, ?_⟩
  repeat (first | with_reducible exact Below.refl _ _ | with_reducible refine valloc ?_ _ | with_reducible refine vdrew ?_ | with_reducible refine vdrewN ?_ _ | with_reducible refine via (by assumption) ?_ | refine vset ?_ (by first | exact Nat.le_refl _ | (simp; done) | (simp; omega) | omega) _)
/-- Is it a plan? -/
def planOk (n : Int) (bs : List Bd) : Bool := inB n 1 6 && decide (bs.length ≤ 16) && !bs.any fun x => !okB n x
theorem planOk_any (n : Int) (A : Option Addr) (c : Nat) (bs : List Bd) (w : World) (h : BAt w A bs) (hlen : bs.length ≤ 1099511627776) :
    Calls Try.prog 71 #[.agg #[.int .i64 n, .slice A bs.length c]] w fun e w' => e = .returned (.bool (planOk n bs)) ∧ Below w.heap.size w w' := by
  cases hn : inB n 1 6
  · go_enter Try.func71, Try.ntmps71
    go_wp2_with (go_at_call 74; refine (in_any _ _ _ _).mono ?_; rintro e w' ⟨rfl, rfl⟩)
    go_ret
    refine ⟨by simp [planOk, hn], ?_⟩
    repeat (first | with_reducible exact Below.refl _ _ | with_reducible refine valloc ?_ _ | with_reducible refine vdrew ?_ | with_reducible refine vdrewN ?_ _ | with_reducible refine via (by assumption) ?_ | refine vset ?_ (by first | exact Nat.le_refl _ | (simp; done) | (simp; omega) | omega) _)
  · by_cases hl : bs.length ≤ 16
    · have hn' := (inB_iff _ _ _).1 hn
      have HC := Lib.hid (containsB_any 77 #[.pointer (some ⟨w.heap.size, 0, none⟩)] (fun x => !okB n x) A c bs (w.alloc (.cells #[.int .i64 n, .slice A bs.length c] 30))
        (h.below (valloc (Below.refl _ _) _)) hlen (fun _ _ => by go_simp) (fun W x hb _ => by
          have := planOk1_any n A bs.length c x w.heap.size W hn'.1 hn'.2 ((hb.cell (by simp)).trans (by go_simp)) ((hb.cell (by simp)).trans (by go_simp))
          exact this))
      clear h
      go_enter Try.func71, Try.ntmps71
      go_wp2_with (first | (go_at_call 74; refine (in_any _ _ _ _).mono ?_; rintro e w' ⟨rfl, rfl⟩) | (go_at_call 76; refine HC.out.mono ?_; rintro e w1 ⟨rfl, hb1⟩))
      go_ret
      refine ⟨by simp [planOk, hn, hl], ?_⟩
      repeat (first | with_reducible exact Below.refl _ _ | with_reducible refine valloc ?_ _ | with_reducible refine vdrew ?_ | with_reducible refine vdrewN ?_ _ | with_reducible refine via (by assumption) ?_ | refine vset ?_ (by first | exact Nat.le_refl _ | (simp; done) | (simp; omega) | omega) _)
    · go_enter Try.func71, Try.ntmps71
      go_wp2_with (go_at_call 74; refine (in_any _ _ _ _).mono ?_; rintro e w' ⟨rfl, rfl⟩)
      go_ret
      refine ⟨by simp [planOk, hn, hl], ?_⟩
      repeat (first | with_reducible exact Below.refl _ _ | with_reducible refine valloc ?_ _ | with_reducible refine vdrew ?_ | with_reducible refine vdrewN ?_ _ | with_reducible refine via (by assumption) ?_ | refine vset ?_ (by first | exact Nat.le_refl _ | (simp; done) | (simp; omega) | omega) _)
theorem planOk_of {n : Int} {bs : List Bd} (h : planOk n bs = true) : 1 ≤ n ∧ n ≤ 6 ∧ bs.length ≤ 16 ∧ ∀ x ∈ bs, 0 ≤ x.f ∧ x.f < n ∧ 0 ≤ x.t ∧ x.t < n ∧ -99 ≤ x.m ∧ x.m ≤ 99 := by
  simp only [planOk, okB, inB, Bool.and_eq_true, decide_eq_true_eq, Bool.not_eq_true', List.any_eq_false, Bool.not_eq_false] at h
  refine ⟨h.1.1.1, h.1.1.2, h.1.2, fun x hx => ?_⟩
  have := h.2 x hx
  omega
end Go.Proofs.Ytaifpindiphlkab
namespace Go.Proofs.Ytaifpindiphlkab
open Go.RowKit
set_option linter.unusedVariables false
set_option maxRecDepth 10000
set_option linter.unusedSimpArgs false

theorem l1In_any (n lo hi : Int) (w : World) :
    Calls Try.prog 46 #[.int .i64 n, .int .i64 lo, .int .i64 hi] w fun e w' => e = .returned (.bool (inB n lo hi)) ∧ w = w' := by
  by_cases h1 : lo ≤ n <;> by_cases h2 : n ≤ hi <;>
  (go_enter Try.func46, Try.ntmps46
   go_wp2
   go_ret
   exact ⟨by simp [inB, h1, h2], rfl⟩)
theorem any_of {α : Type} {q : α → Bool} {l : List α} {k : Nat} {x : α} (hx : l[k]? = some x) (hq : q x = true) : l.any q = true :=
  List.any_eq_true.2 ⟨x, List.mem_of_getElem? hx, hq⟩
theorem any_none {α : Type} {q : α → Bool} {l : List α} {k : Nat} (hk : l.length ≤ k) (hn : ∀ y ∈ l.take k, q y = false) : l.any q = false := by
  rw [List.take_of_length_le hk] at hn
  simpa [List.any_eq_false] using hn
def okW (N1 : Int) (x : Bd) : Bool := inB x.f 0 N1 && inB x.t 0 N1 && inB x.m (-99) 99
def specPlan (n : Int) (bs : List Bd) : Bool := !(bs.any fun x => !okW (wrap64 (n-1)) x) && inB n 1 6 && decide (bs.length ≤ 16)
theorem specPlan_eq (n : Int) (bs : List Bd) : specPlan n bs = planOk n bs := by
  cases hn : inB n 1 6
  · simp [specPlan, planOk, hn]
  · have h := (inB_iff _ _ _).1 hn
    have hw : wrap64 (n - 1) = n - 1 := IntWalk.wrap64_in _ ⟨by omega, by omega⟩
    have he : (fun x => !okW (wrap64 (n-1)) x) = fun x => !okB n x := by funext x; rw [hw]; rfl
    simp only [specPlan, planOk, hn, he]
    cases bs.any fun x => !okB n x <;> cases decide (bs.length ≤ 16) <;> rfl
theorem specPlan_bad {n : Int} {bs : List Bd} {k : Nat} {x : Bd} (hx : bs[k]? = some x) (h : okW (wrap64 (n-1)) x = false) : specPlan n bs = false := by
  simp [specPlan, any_of (q := fun x => !okW (wrap64 (n-1)) x) hx (by simp [h])]
theorem specPlan_end {n : Int} {bs : List Bd} {k : Nat} (hk : bs.length ≤ k) (hn : ∀ y ∈ bs.take k, (!okW (wrap64 (n-1)) y) = false) : specPlan n bs = (inB n 1 6 && decide (bs.length ≤ 16)) := by
  simp [specPlan, any_none hk hn]
set_option maxHeartbeats 2000000 in
theorem specPlanOk_any (n : Int) (A : Option Addr) (c : Nat) (bs : List Bd) (w : World) (h : BAt w A bs) (hlen : bs.length ≤ 1099511627776) :
    Calls Try.prog 68 #[.agg #[.int .i64 n, .slice A bs.length c]] w fun e w' => e = .returned (.bool (planOk n bs)) ∧ Below w.heap.size w w' := by
  rw [← specPlan_eq]
  go_enter Try.func68, Try.ntmps68
  go_wp2
  go_loopw [3] (fun i W => ∃ k : Nat, k ≤ bs.length ∧ i = .int .i64 k ∧ (∀ y ∈ bs.take k, (!okW (wrap64 (n-1)) y) = false) ∧ Below w.heap.size w W ∧ w.heap.size < W.heap.size ∧ W.cell? ⟨w.heap.size, 0, none⟩ = some (.int .i64 n) ∧ W.cell? ⟨w.heap.size, 1, none⟩ = some (.slice A bs.length c)) (fun i _ => bs.length - (intOf i).toNat)
  case atStart => exact ⟨0, Nat.zero_le _, rfl, by simp, valloc (Below.refl _ _) _, by simp, by simp, by simp⟩
  case round =>
    obtain ⟨k, hk, rfl, hno, hb, hz, e0, e1⟩ := hrel
    have HNO := Lib.hid hno
    clear hno
    by_cases hlt : k < bs.length
    · obtain ⟨b, off, x, rfl, hbl, hx, hxm, c0, c1, c2⟩ := (h.below hb).at_ hlt
      have HX := Lib.hid hx
      clear hx h
      cases hf : inB x.f 0 (wrap64 (n-1))
      · have HR := Lib.hid (specPlan_bad HX.out (show okW (wrap64 (n-1)) x = false by simp [okW, hf]))
        go_wp2_with (go_at_call 46; refine (l1In_any _ _ _ _).mono ?_; rintro e w' ⟨rfl, rfl⟩)
        go_ret
        exact ⟨ret_bool HR.out.symm, valloc hb _⟩
      · cases ht : inB x.t 0 (wrap64 (n-1))
        · have HR := Lib.hid (specPlan_bad HX.out (show okW (wrap64 (n-1)) x = false by simp [okW, hf, ht]))
          go_wp2_with (go_at_call 46; refine (l1In_any _ _ _ _).mono ?_; rintro e w' ⟨rfl, rfl⟩)
          go_ret
          exact ⟨ret_bool HR.out.symm, valloc hb _⟩
        · cases hm : inB x.m (-99) 99
          · have HR := Lib.hid (specPlan_bad HX.out (show okW (wrap64 (n-1)) x = false by simp [okW, hf, ht, hm]))
            go_wp2_with (go_at_call 46; refine (l1In_any _ _ _ _).mono ?_; rintro e w' ⟨rfl, rfl⟩)
            go_ret
            exact ⟨ret_bool HR.out.symm, valloc hb _⟩
          · have HR := Lib.hid (show (!okW (wrap64 (n-1)) x) = false by simp [okW, hf, ht, hm])
            go_wp2_with (go_at_call 46; refine (l1In_any _ _ _ _).mono ?_; rintro e w' ⟨rfl, rfl⟩)
            go_roundw
            case rel => exact ⟨k + 1, by omega, by go_num, snoc_false HX.out HNO.out HR.out, valloc hb _, ltA hz _, cA e0 _, cA e1 _⟩
            case measure => simp [intOf]; omega
    · have HR := Lib.hid (specPlan_end (by omega) HNO.out)
      clear h
      cases hn : inB n 1 6
      · go_wp2_with (go_at_call 46; refine (l1In_any _ _ _ _).mono ?_; rintro e w' ⟨rfl, rfl⟩)
        go_ret
        exact ⟨ret_bool (by rw [HR.out, hn]; rfl), hb⟩
      · by_cases hl : bs.length ≤ 16
        · go_wp2_with (go_at_call 46; refine (l1In_any _ _ _ _).mono ?_; rintro e w' ⟨rfl, rfl⟩)
          go_ret
          exact ⟨ret_bool (by rw [HR.out, hn]; simp; omega), hb⟩
        · go_wp2_with (go_at_call 46; refine (l1In_any _ _ _ _).mono ?_; rintro e w' ⟨rfl, rfl⟩)
          go_ret
          exact ⟨ret_bool (by rw [HR.out, hn]; simp; omega), hb⟩
end Go.Proofs.Ytaifpindiphlkab
namespace Go.Proofs.Ytaifpindiphlkab
open Go.RowKit
set_option linter.unusedVariables false
set_option maxRecDepth 10000
set_option linter.unusedSimpArgs false

theorem Try.infoBound : (Try.prog.info? 69).map (fun i => (i.zero, i.size, i.bytes)) = some (some (.agg #[.int .i64 0, .int .i64 0, .int .i64 0]), 3, 24) := by kernel_rfl
theorem Try.infoInt : (Try.prog.info? 3).map (fun i => (i.zero, i.size, i.bytes)) = some (some (.int .i64 0), 1, 8) := by kernel_rfl
theorem run_make_rowN {P : Program} (t e : TypeId) (i : TypeInfo) (z : Value) (ht : P.underlying t = some (.slice e)) (hi : P.info? e = some i) (hz : i.zero = some z)
    (kl kc : IntKind) (n c : Nat) (hnc : n ≤ c) (hbytes : i.bytes * c ≤ 281474976710656) (h63 : c ≤ 9223372036854775807) (w : World) :
    (Instr.makeSlice t (.int kl (n : Int)) (.int kc (c : Int))).run P w = .ok (.slice (some ⟨w.heap.size, 0, none⟩) n c) (w.alloc (.cells (madeCells z.cells (c * i.size)) e)) := by
  have hb : (i.bytes : Int) * (c : Int) ≤ 281474976710656 := by
    have h : ((i.bytes * c : Nat) : Int) ≤ 281474976710656 := by omega
    rwa [Int.natCast_mul] at h
  have hr := run_make (P := P) w t e i z ht hi hz kl kc n c (by omega) (by omega) hb (by omega)
  simp only [Int.toNat_natCast] at hr
  exact hr

theorem toBound_any (f t m : Int) (w : World) :
    Calls Try.prog 70 #[.agg #[.int .i64 f, .int .i64 t, .int .i64 m]] w fun e w' => e = .returned (.agg #[.int .i64 f, .int .i64 t, .int .i64 m]) ∧ Below w.heap.size w w' := by
  go_enter Try.func70, Try.ntmps70
  go_wp2
  refine bodyPost_ret (v := .agg #[.int .i64 f, .int .i64 t, .int .i64 m]) (by simp [results, Try.results70, go_sem]) rfl ⟨rfl, ?_⟩
  repeat (first | with_reducible exact Below.refl _ _ | with_reducible refine valloc ?_ _ | with_reducible refine vdrew ?_ | with_reducible refine vdrewN ?_ _ | with_reducible refine via (by assumption) ?_ | refine vset ?_ (by first | exact Nat.le_refl _ | (simp; done) | (simp; omega) | omega) _)
/-- What is handed back is a plan with n points and the bounds bs, in a row of the call's own. -/
def PlanCopy (n : Int) (bs : List Bd) (w : World) (e : Ending) (w' : World) : Prop :=
  ∃ A, e = .returned (.agg #[.int .i64 n, .slice A bs.length bs.length]) ∧ RB w' w.heap.size w'.heap.size A bs ∧ Below w.heap.size w w'
theorem toBoundS_any (A : Option Addr) (c : Nat) (bs : List Bd) (w : World) (h : BAt w A bs) (hlen : bs.length ≤ 1048576) :
    Calls Try.prog 47 #[.slice A bs.length c] w fun e w' => e = .returned (.slice (some ⟨w.heap.size, 0, none⟩) bs.length bs.length) ∧ RB w' w.heap.size w'.heap.size (some ⟨w.heap.size, 0, none⟩) bs ∧ Below w.heap.size w w' := by
  obtain ⟨i0, hi0, hz0, hz1, hz2⟩ := info_parts Try.infoBound
  have hmk := fun W => run_make_rowN (P := Try.prog) 28 69 i0 _ Try.underlying28 hi0 hz0 .i64 .i64 bs.length bs.length (Nat.le_refl _) (by rw [hz2]; omega) (by omega) W
  rw [hz1] at hmk
  go_enter Try.func47, Try.ntmps47
  go_wp2
  go_loopw [4] (fun i W => ∃ k : Nat, k ≤ bs.length ∧ i = .int .i64 k ∧ Below w.heap.size w W ∧ ∃ cs, Blk W w.heap.size 69 cs ∧ FillB bs k cs) (fun i _ => bs.length - (intOf i).toNat)
  case atStart => exact ⟨0, Nat.zero_le _, rfl, valloc (Below.refl _ _) _, _, Blk.new _ _ _, FillB.zero bs (by simp [madeCells])⟩
  case round =>
    obtain ⟨k, hk, rfl, hb, cs, hB, hF⟩ := hrel
    by_cases hlt : k < bs.length
    · obtain ⟨b, off, x, rfl, hbl, hx, hxm, c0, c1, c2⟩ := (h.below hb).at_ hlt
      obtain ⟨u0, u1, u2, v0, v1, v2⟩ := hF.room hlt
      have HX := Lib.hid hx
      clear hx
      go_wp2_with fail
      refine (toBound_any _ _ _ _).mono ?_
      rintro e w1 ⟨rfl, hb1⟩
      have hB1 := hB.below' hb1
      have d0 := (hB1.cell (k * 3)).trans v0
      have d1 := (hB1.cell (k * 3 + 1)).trans v1
      have d2 := (hB1.cell (k * 3 + 2)).trans v2
      have f0 := hB1.frozen (k * 3)
      have f1 := hB1.frozen (k * 3 + 1)
      have f2 := hB1.frozen (k * 3 + 2)
      clear v0 v1 v2 hmk
      have HB1 := Lib.hid hB1
      have HB := Lib.hid hB
      clear hB hB1
      go_wp2
      go_roundw
      case rel => exact ⟨k + 1, by omega, by go_num, vset (vset (vset (via hb1 hb) (Nat.le_refl _) _) (Nat.le_refl _) _) (Nat.le_refl _) _, _, ((HB1.out.set_ _ _).set_ _ _).set_ _ _, hF.step HX.out⟩
      case measure => simp [intOf]; omega
    · obtain rfl : k = bs.length := by omega
      have HB := Lib.hid hB
      clear hB hmk
      go_wp2
      go_ret
      exact ⟨rfl, .inr ⟨_, cs, rfl, Nat.le_refl _, HB.out.lt, HB.out, hF⟩, hb⟩
theorem toPlan_any (n : Int) (A : Option Addr) (c : Nat) (bs : List Bd) (w : World) (h : BAt w A bs) (hlen : bs.length ≤ 1048576) :
    Calls Try.prog 13 #[.agg #[.int .i64 n, .slice A bs.length c]] w (PlanCopy n bs w) := by
  go_enter Try.func13, Try.ntmps13
  go_wp2_with (go_at_call 47; refine (toBoundS_any _ _ bs _ (h.below (by repeat (first | with_reducible exact Below.refl _ _ | with_reducible refine valloc ?_ _ | with_reducible refine vdrew ?_ | with_reducible refine vdrewN ?_ _ | with_reducible refine via (by assumption) ?_ | refine vset ?_ (by first | exact Nat.le_refl _ | (simp; done) | (simp; omega) | omega) _))) hlen).mono ?_; rintro e w1 ⟨rfl, ho, hbw1⟩; obtain ⟨hcw1, hfw1⟩ := bcell hbw1; have hzw1 := hbw1.size; (try simp only [sz] at hzw1); (try simp only [szc] at hzw1); have hzw1_0 : w.heap.size < w1.heap.size := (by omega); have hzw1_1 : w.heap.size + 1 < w1.heap.size := (by omega); have hzw1_2 : w.heap.size + 2 < w1.heap.size := (by omega))
  refine bodyPost_ret (v := .agg #[.int .i64 n, .slice (some ⟨w.heap.size + 1 + 1 + 1, 0, none⟩) bs.length bs.length]) (by simp [results, Try.results13, go_sem, hcw1, hzw1_0, hzw1_1, hzw1_2]) rfl ⟨_, rfl, ?_, ?_⟩
  · have hs : w1.heap.size = ((((w1.setCell ⟨w.heap.size + 1 + 1, 1, none⟩ (.slice (some ⟨w.heap.size + 1 + 1 + 1, 0, none⟩) bs.length bs.length)).setCell ⟨w.heap.size + 1, 0, none⟩ (.int .i64 n)).setCell ⟨w.heap.size + 1, 1, none⟩ (.slice (some ⟨w.heap.size + 1 + 1 + 1, 0, none⟩) bs.length bs.length))).heap.size := by simp only [szc]
    rw [← hs]
    rcases ho with ⟨e, _⟩ | ⟨g, cs, e, h1, h2, hB, hF⟩
    · cases e
    · simp only [sz] at h1 h2 e hB
      refine .inr ⟨g, cs, e, by omega, h2, Blk.far (Blk.far (Blk.far hB ?_ _) ?_ _) ?_ _, hF⟩ <;> (dsimp only; omega)
  · repeat (first | with_reducible exact Below.refl _ _ | with_reducible refine valloc ?_ _ | with_reducible refine vdrew ?_ | with_reducible refine vdrewN ?_ _ | with_reducible refine via (by assumption) ?_ | refine vset ?_ (by first | exact Nat.le_refl _ | (simp; done) | (simp; omega) | omega) _)
theorem szPlan_any (n : Int) (A : Option Addr) (c m : Nat) (l : Int) (w : World) (hl : 0 ≤ l) (hl2 : l ≤ 1048576) (hlen : m ≤ 9223372036854775807) :
    Calls Try.prog 11 #[.agg #[.int .i64 n, .slice A m c], .int .i64 l] w fun e w' => e = .returned (.int .i64 (if (l - m : Int) < 0 then -1 else l - m)) ∧ Below w.heap.size w w' := by
  by_cases h : (l - m : Int) < 0
  · rw [if_pos h]
    go_enter Try.func11, Try.ntmps11
    go_wp2
    go_ret
    refine ⟨rfl, ?_⟩
    repeat (first | with_reducible exact Below.refl _ _ | with_reducible refine valloc ?_ _ | with_reducible refine vdrew ?_ | with_reducible refine vdrewN ?_ _ | with_reducible refine via (by assumption) ?_ | refine vset ?_ (by first | exact Nat.le_refl _ | (simp; done) | (simp; omega) | omega) _)
  · rw [if_neg h]
    go_enter Try.func11, Try.ntmps11
    go_wp2
    go_ret
    refine ⟨rfl, ?_⟩
    repeat (first | with_reducible exact Below.refl _ _ | with_reducible refine valloc ?_ _ | with_reducible refine vdrew ?_ | with_reducible refine vdrewN ?_ _ | with_reducible refine via (by assumption) ?_ | refine vset ?_ (by first | exact Nat.le_refl _ | (simp; done) | (simp; omega) | omega) _)
theorem eqBound_same (x : Bd) (w : World) :
    Calls Try.prog 75 #[.agg #[.int .i64 x.f, .int .i64 x.t, .int .i64 x.m], .agg #[.int .i64 x.f, .int .i64 x.t, .int .i64 x.m]] w fun e w' => e = .returned (.bool true) ∧ Below w.heap.size w w' := by
  go_enter Try.func75, Try.ntmps75
  go_wp2
  go_ret
  refine ⟨rfl, ?_⟩
  repeat (first | with_reducible exact Below.refl _ _ | with_reducible refine valloc ?_ _ | with_reducible refine vdrew ?_ | with_reducible refine vdrewN ?_ _ | with_reducible refine via (by assumption) ?_ | refine vset ?_ (by first | exact Nat.le_refl _ | (simp; done) | (simp; omega) | omega) _)
theorem eqBoundS_same (A A' : Option Addr) (c c' : Nat) (bs : List Bd) (w : World) (h : BAt w A bs) (h' : BAt w A' bs) (hlen : bs.length ≤ 1099511627776) :
    Calls Try.prog 51 #[.slice A bs.length c, .slice A' bs.length c'] w fun e w' => e = .returned (.bool true) ∧ Below w.heap.size w w' := by
  go_enter Try.func51, Try.ntmps51
  go_wp2
  go_loopw [5] (fun i W => ∃ k : Nat, k ≤ bs.length ∧ i = .int .i64 k ∧ Below w.heap.size w W) (fun i _ => bs.length - (intOf i).toNat)
  case atStart => exact ⟨0, Nat.zero_le _, rfl, Below.refl _ _⟩
  case round =>
    obtain ⟨k, hk, rfl, hb⟩ := hrel
    by_cases hlt : k < bs.length
    · obtain ⟨b, off, x, rfl, hbl, hx, hxm, c0, c1, c2⟩ := (h.below hb).at_ hlt
      obtain ⟨b', off', x', rfl, hbl', hx', hxm', d0, d1, d2⟩ := (h'.below hb).at_ hlt
      obtain rfl : x = x' := by rw [hx] at hx'; injection hx'
      clear hx hx' h h'
      go_wp2
      go_still_tail 8, (by kernel_rfl)
      change wpList _ _ _ _ _ wr.drew
      have HB : Below wr.heap.size wr wr.drew := (Below.refl _ _).drew
      generalize wr.drew = w2 at HB
      go_wp2_with (go_at_call 75; refine (eqBound_same _ _).mono ?_; rintro e w1 ⟨rfl, hb1⟩)
      go_roundw
      case rel => exact ⟨k + 1, by omega, by go_num, via hb1 (via HB hb)⟩
      case measure => simp [intOf]; omega
    · clear h h'
      go_wp2
      go_ret
      exact ⟨rfl, hb⟩
theorem eqPlan_same (n : Int) (A A' : Option Addr) (c c' : Nat) (bs : List Bd) (w : World) (h : BAt w A bs) (h' : BAt w A' bs) (hlen : bs.length ≤ 1099511627776) :
    Calls Try.prog 16 #[.agg #[.int .i64 n, .slice A bs.length c], .agg #[.int .i64 n, .slice A' bs.length c']] w fun e w' => e = .returned (.bool true) ∧ Below w.heap.size w w' := by
  go_enter Try.func16, Try.ntmps16
  go_wp2_with (go_at_call 51; refine (eqBoundS_same _ _ _ _ bs _ (h.below (by repeat (first | with_reducible exact Below.refl _ _ | with_reducible refine valloc ?_ _ | with_reducible refine vdrew ?_ | with_reducible refine vdrewN ?_ _ | with_reducible refine via (by assumption) ?_ | refine vset ?_ (by first | exact Nat.le_refl _ | (simp; done) | (simp; omega) | omega) _))) (h'.below (by repeat (first | with_reducible exact Below.refl _ _ | with_reducible refine valloc ?_ _ | with_reducible refine vdrew ?_ | with_reducible refine vdrewN ?_ _ | with_reducible refine via (by assumption) ?_ | refine vset ?_ (by first | exact Nat.le_refl _ | (simp; done) | (simp; omega) | omega) _))) hlen).mono ?_; rintro e w1 ⟨rfl, hb1⟩)
  go_ret
  refine ⟨rfl, ?_⟩
  repeat (first | with_reducible exact Below.refl _ _ | with_reducible refine valloc ?_ _ | with_reducible refine vdrew ?_ | with_reducible refine vdrewN ?_ _ | with_reducible refine via (by assumption) ?_ | refine vset ?_ (by first | exact Nat.le_refl _ | (simp; done) | (simp; omega) | omega) _)
end Go.Proofs.Ytaifpindiphlkab
