/- Words for memory: what a slice of bounds or of ints reads as, and how readings are kept; no condition. -/
import Derived.Test.YtedpaanhnbodfaaRows
import Derived.WalkKit
import Derived.ProofKit
import Derived.Lib.Hide
import Derived.Deep.Draws
import Derived.Laws.OwnMore
import Derived.Laws.Rows
namespace Go.Proofs.Ytedpaanhnbodfaa
open Go.RowKit
set_option linter.unusedVariables false
set_option maxRecDepth 10000
set_option linter.unusedSimpArgs false

theorem sz (w : World) (o : Obj) : (w.alloc o).heap.size = w.heap.size + 1 := by simp
theorem bcell {W w1 : World} (hb : Below W.heap.size W w1) : (∀ b o, b < W.heap.size → w1.cell? ⟨b, o, none⟩ = W.cell? ⟨b, o, none⟩) ∧ (∀ b o, b < W.heap.size → w1.frozen? ⟨b, o, none⟩ = W.frozen? ⟨b, o, none⟩) :=
  ⟨fun b o h => hb.cell (p := ⟨b, o, none⟩) h, fun b o h => hb.frozen (p := ⟨b, o, none⟩) h⟩
theorem szc (w : World) (p : Addr) (v : Value) : (w.setCell p v).heap.size = w.heap.size := by simp [World.setCell]
theorem cell_lt {w : World} {b o : Nat} {v : Value} (h : w.cell? ⟨b, o, none⟩ = some v) : b < w.heap.size := by
  rcases Nat.lt_or_ge b w.heap.size with hlt | hge
  · exact hlt
  · simp [World.cell?, Array.getElem?_eq_none hge] at h
theorem ltA {w : World} {b : Nat} (h : b < w.heap.size) (o : Obj) : b < (w.alloc o).heap.size := by rw [sz]; omega
theorem cA {w : World} {b o : Nat} {v : Value} (h : w.cell? ⟨b, o, none⟩ = some v) (ob : Obj) : (w.alloc ob).cell? ⟨b, o, none⟩ = some v := by
  have hl := cell_lt h
  rw [World.cell?_alloc_lt w ob _ hl]; exact h
theorem ltB {w w1 : World} (hb : Below w.heap.size w w1) {b : Nat} (h : b < w.heap.size) : b < w1.heap.size := Nat.lt_of_lt_of_le h hb.size
theorem cB {w w1 : World} (hb : Below w.heap.size w w1) {b o : Nat} {v : Value} (h : w.cell? ⟨b, o, none⟩ = some v) : w1.cell? ⟨b, o, none⟩ = some v := (hb.cell (p := ⟨b, o, none⟩) (cell_lt h)).trans h
theorem cBel {B : Nat} {w w1 : World} (hb : Below B w w1) {b o : Nat} {v : Value} (hlt : b < B) (h : w.cell? ⟨b, o, none⟩ = some v) : w1.cell? ⟨b, o, none⟩ = some v := (hb.cell (p := ⟨b, o, none⟩) hlt).trans h
theorem cD {w : World} {b o : Nat} {v : Value} (h : w.cell? ⟨b, o, none⟩ = some v) : w.drew.cell? ⟨b, o, none⟩ = some v := h
theorem cS {w : World} {b o B O : Nat} {v u : Value} (h : w.cell? ⟨b, o, none⟩ = some v) (hne : B ≠ b) : (w.setCell ⟨B, O, none⟩ u).cell? ⟨b, o, none⟩ = some v :=
  (World.cell?_setCell_other w ⟨B, O, none⟩ ⟨b, o, none⟩ u (fun e => hne (congrArg Addr.block e))).trans h
theorem leA (w : World) (o : Obj) : w.heap.size ≤ (w.alloc o).heap.size := by rw [sz]; omega
theorem ret_int {k : IntKind} {a b : Int} (h : a = b) : Ending.returned (.int k a) = .returned (.int k b) := by rw [h]
theorem ret_bool {a b : Bool} (h : a = b) : Ending.returned (.bool a) = .returned (.bool b) := by rw [h]
section
variable {w W w1 : World}
theorem via (hb : Below W.heap.size W w1) (h : Below w.heap.size w W) : Below w.heap.size w w1 := h.trans (hb.mono h.size)
theorem valloc (h : Below w.heap.size w W) (o : Obj) : Below w.heap.size w (W.alloc o) := h.alloc h.size o
theorem vdrew (h : Below w.heap.size w W) : Below w.heap.size w W.drew := h.drew
theorem vdrewN (h : Below w.heap.size w W) (n : Nat) : Below w.heap.size w (W.drewN n) := ⟨h.os, h.tape, h.output, h.size, h.block⟩
theorem vset (h : Below w.heap.size w W) {p : Addr} (hp : w.heap.size ≤ p.block) (u : Value) : Below w.heap.size w (W.setCell p u) := h.setCell hp u
end

/-- Block g holds just the cells cs of element type t, none frozen. -/
def Blk (w : World) (g : Nat) (t : TypeId) (cs : Array Value) : Prop := w.heap[g]? = some (.cells cs t (0, 0))
section
variable {w w' : World} {g : Nat} {t : TypeId} {cs : Array Value}
theorem Blk.lt (h : Blk w g t cs) : g < w.heap.size := by
  rcases Nat.lt_or_ge g w.heap.size with hlt | hge
  · exact hlt
  · unfold Blk at h; rw [Array.getElem?_eq_none hge] at h; cases h
theorem Blk.cell (h : Blk w g t cs) (i : Nat) : w.cell? ⟨g, i, none⟩ = cs[i]? := cell_of_row w g i cs t (0, 0) h
theorem Blk.frozen (h : Blk w g t cs) (i : Nat) : w.frozen? ⟨g, i, none⟩ = false := by
  unfold Blk at h
  simp [World.frozen?, h]
theorem Blk.new (w : World) (t : TypeId) (cs : Array Value) : Blk (w.alloc (.cells cs t)) w.heap.size t cs := heap_alloc_new w _
theorem Blk.new' {w : World} {g : Nat} (hg : g = w.heap.size) (t : TypeId) (cs : Array Value) : Blk (w.alloc (.cells cs t)) g t cs := by subst hg; exact heap_alloc_new w _
theorem Blk.drew (h : Blk w g t cs) : Blk w.drew g t cs := h
theorem Blk.drewN (h : Blk w g t cs) (n : Nat) : Blk (w.drewN n) g t cs := h
theorem Blk.alloc (h : Blk w g t cs) (o : Obj) : Blk (w.alloc o) g t cs := (Below.heap_alloc w o g h.lt).trans h
theorem Blk.set_ (h : Blk w g t cs) (i : Nat) (u : Value) : Blk (w.setCell ⟨g, i, none⟩ u) g t (cs.setIfInBounds i u) := by
  unfold Blk at h ⊢
  simp [World.setCell, Array.getElem?_modify, h]
theorem Blk.far (h : Blk w g t cs) {p : Addr} (hp : g ≠ p.block) (u : Value) : Blk (w.setCell p u) g t cs := (Below.heap_setCell w p u g hp).trans h
theorem Blk.below {B : Nat} (h : Blk w g t cs) (hb : Below B w w') (hg : g < B) : Blk w' g t cs := (hb.block g hg).trans h
theorem Blk.below' (h : Blk w g t cs) (hb : Below w.heap.size w w') : Blk w' g t cs := h.below hb h.lt
end

/-- A bound: from, to, most. -/
structure Bd where
  f : Int
  t : Int
  m : Int

/-- The slice at A reads, in world w, as the bounds bs. -/
def BAt (w : World) (A : Option Addr) (bs : List Bd) : Prop :=
  0 < bs.length → ∃ b off, A = some ⟨b, off, none⟩ ∧ b < w.heap.size ∧ ∀ i x, bs[i]? = some x → w.cell? ⟨b, off + i * 3, none⟩ = some (.int .i64 x.f) ∧ w.cell? ⟨b, off + i * 3 + 1, none⟩ = some (.int .i64 x.t) ∧ w.cell? ⟨b, off + i * 3 + 2, none⟩ = some (.int .i64 x.m)
/-- The slice at A reads, in world w, as the numbers xs. -/
def IAt (w : World) (A : Option Addr) (xs : List Int) : Prop :=
  0 < xs.length → ∃ b off, A = some ⟨b, off, none⟩ ∧ b < w.heap.size ∧ ∀ i x, xs[i]? = some x → w.cell? ⟨b, off + i, none⟩ = some (.int .i64 x)
section
variable {w w1 : World} {A : Option Addr} {bs : List Bd} {xs : List Int}
theorem BAt.below (h : BAt w A bs) (hb : Below w.heap.size w w1) : BAt w1 A bs := by
  intro hl
  obtain ⟨b, off, e, hlt, hc⟩ := h hl
  refine ⟨b, off, e, Nat.lt_of_lt_of_le hlt hb.size, fun i x hx => ?_⟩
  obtain ⟨c0, c1, c2⟩ := hc i x hx
  exact ⟨(hb.cell (p := ⟨b, off + i * 3, none⟩) hlt).trans c0, (hb.cell (p := ⟨b, off + i * 3 + 1, none⟩) hlt).trans c1, (hb.cell (p := ⟨b, off + i * 3 + 2, none⟩) hlt).trans c2⟩
theorem BAt.at_ (h : BAt w A bs) {k : Nat} (hk : k < bs.length) : ∃ b off x, A = some ⟨b, off, none⟩ ∧ b < w.heap.size ∧ bs[k]? = some x ∧ x ∈ bs ∧ w.cell? ⟨b, off + k * 3, none⟩ = some (.int .i64 x.f) ∧ w.cell? ⟨b, off + k * 3 + 1, none⟩ = some (.int .i64 x.t) ∧ w.cell? ⟨b, off + k * 3 + 2, none⟩ = some (.int .i64 x.m) := by
  obtain ⟨b, off, e, hlt, hc⟩ := h (by omega)
  have hx : bs[k]? = some bs[k] := List.getElem?_eq_getElem hk
  exact ⟨b, off, bs[k], e, hlt, hx, List.getElem_mem hk, hc k _ hx⟩
theorem IAt.at_ (h : IAt w A xs) {k : Nat} (hk : k < xs.length) : ∃ b off x, A = some ⟨b, off, none⟩ ∧ b < w.heap.size ∧ xs[k]? = some x ∧ x ∈ xs ∧ w.cell? ⟨b, off + k, none⟩ = some (.int .i64 x) := by
  obtain ⟨b, off, e, hlt, hc⟩ := h (by omega)
  have hx : xs[k]? = some xs[k] := List.getElem?_eq_getElem hk
  exact ⟨b, off, xs[k], e, hlt, hx, List.getElem_mem hk, hc k _ hx⟩
theorem IAt.below (h : IAt w A xs) (hb : Below w.heap.size w w1) : IAt w1 A xs := by
  intro hl
  obtain ⟨b, off, e, hlt, hc⟩ := h hl
  exact ⟨b, off, e, Nat.lt_of_lt_of_le hlt hb.size, fun i x hx => (hb.cell (p := ⟨b, off + i, none⟩) hlt).trans (hc i x hx)⟩
end
/-- The blocks from lo up to hi are as they were. -/
structure Same (lo hi : Nat) (w w' : World) : Prop where
  out : hi ≤ w.heap.size → (hi ≤ w'.heap.size ∧ ∀ k, lo ≤ k → k < hi → w'.heap[k]? = w.heap[k]?)
/-- Of the blocks that were there at most those from lo up to hi have turned. -/
structure Only (lo hi : Nat) (w w' : World) : Prop where
  os : w'.os = w.os
  tape : w'.tape = w.tape
  output : w'.output = w.output
  size : w.heap.size ≤ w'.heap.size
  block : ∀ k, k < w.heap.size → (k < lo ∨ hi ≤ k) → w'.heap[k]? = w.heap[k]?
section
variable {lo hi lo' hi' : Nat} {w W w1 : World}
theorem Same.refl (lo hi : Nat) (w : World) : Same lo hi w w := ⟨fun h => ⟨h, fun _ _ _ => rfl⟩⟩
theorem Same.alloc (h : Same lo hi w W) (o : Obj) : Same lo hi w (W.alloc o) := ⟨fun hh => by
  obtain ⟨h1, h2⟩ := h.out hh
  exact ⟨by rw [sz]; omega, fun k hk hk' => (Below.heap_alloc W o k (by omega)).trans (h2 k hk hk')⟩⟩
theorem Same.drew (h : Same lo hi w W) : Same lo hi w W.drew := ⟨h.out⟩
theorem Same.drewN (h : Same lo hi w W) (n : Nat) : Same lo hi w (W.drewN n) := ⟨h.out⟩
theorem Same.below (hb : Below W.heap.size W w1) (h : Same lo hi w W) : Same lo hi w w1 := ⟨fun hh => by
  obtain ⟨h1, h2⟩ := h.out hh
  exact ⟨Nat.le_trans h1 hb.size, fun k hk hk' => (hb.block k (by omega)).trans (h2 k hk hk')⟩⟩
theorem Same.only (ho : Only lo' hi' W w1) (hd : hi ≤ lo' ∨ hi' ≤ lo) (h : Same lo hi w W) : Same lo hi w w1 := ⟨fun hh => by
  obtain ⟨h1, h2⟩ := h.out hh
  exact ⟨Nat.le_trans h1 ho.size, fun k hk hk' => (ho.block k (by omega) (by omega)).trans (h2 k hk hk')⟩⟩
theorem Same.set_ (h : Same lo hi w W) {p : Addr} (hp : p.block < lo ∨ hi ≤ p.block) (u : Value) : Same lo hi w (W.setCell p u) := ⟨fun hh => by
  obtain ⟨h1, h2⟩ := h.out hh
  exact ⟨by rw [szc]; exact h1, fun k hk hk' => (Below.heap_setCell W p u k (by omega)).trans (h2 k hk hk')⟩⟩
theorem viaOnly (ho : Only lo hi W w1) (hl : w.heap.size ≤ lo) (h : Below w.heap.size w W) : Below w.heap.size w w1 :=
  h.trans ⟨ho.os, ho.tape, ho.output, ho.size, fun k hk => ho.block k (Nat.lt_of_lt_of_le hk h.size) (by omega)⟩
theorem Only.cell (ho : Only lo hi W w1) {b o : Nat} {v : Value} (h : W.cell? ⟨b, o, none⟩ = some v) (hd : b < lo ∨ hi ≤ b) : w1.cell? ⟨b, o, none⟩ = some v :=
  (World.cell?_of_block (w := W) (a := ⟨b, o, none⟩) (ho.block b (cell_lt h) hd)).trans h
theorem Only.refl (lo hi : Nat) (w : World) : Only lo hi w w := ⟨rfl, rfl, rfl, Nat.le_refl _, fun _ _ _ => rfl⟩
theorem Only.set_ (h : Only lo hi w W) {p : Addr} (hp : lo ≤ p.block) (hp' : p.block < hi) (u : Value) : Only lo hi w (W.setCell p u) :=
  ⟨h.os, h.tape, h.output, by rw [szc]; exact h.size, fun k hk hd => (Below.heap_setCell W p u k (by omega)).trans (h.block k hk hd)⟩
theorem Only.alloc (h : Only lo hi w W) (o : Obj) : Only lo hi w (W.alloc o) :=
  ⟨h.os, h.tape, h.output, by rw [sz]; have := h.size; omega, fun k hk hd => (Below.heap_alloc W o k (Nat.lt_of_lt_of_le hk h.size)).trans (h.block k hk hd)⟩
theorem Only.drew (h : Only lo hi w W) : Only lo hi w W.drew := ⟨h.os, h.tape, h.output, h.size, h.block⟩
theorem Only.drewN (h : Only lo hi w W) (n : Nat) : Only lo hi w (W.drewN n) := ⟨h.os, h.tape, h.output, h.size, h.block⟩
theorem Only.below (hb : Below W.heap.size W w1) (h : Only lo hi w W) : Only lo hi w w1 :=
  ⟨hb.os.trans h.os, hb.tape.trans h.tape, hb.output.trans h.output, Nat.le_trans h.size hb.size, fun k hk hd => (hb.block k (Nat.lt_of_lt_of_le hk h.size)).trans (h.block k hk hd)⟩
theorem Only.only (hb : Only lo' hi' W w1) (hl : lo ≤ lo') (hh : hi' ≤ hi) (h : Only lo hi w W) : Only lo hi w w1 :=
  ⟨hb.os.trans h.os, hb.tape.trans h.tape, hb.output.trans h.output, Nat.le_trans h.size hb.size, fun k hk hd => (hb.block k (Nat.lt_of_lt_of_le hk h.size) (by omega)).trans (h.block k hk hd)⟩
end

/-- The first cells of the row cs are the numbers xs. -/
def FillI (xs : List Int) (k : Nat) (cs : Array Value) : Prop := xs.length ≤ cs.size ∧ ∀ i x, i < k → xs[i]? = some x → cs[i]? = some (.int .i64 x)
/-- The first cells of the row cs are the bounds bs. -/
def FillB (bs : List Bd) (k : Nat) (cs : Array Value) : Prop :=
  bs.length * 3 ≤ cs.size ∧ ∀ i x, i < k → bs[i]? = some x → cs[i * 3]? = some (.int .i64 x.f) ∧ cs[i * 3 + 1]? = some (.int .i64 x.t) ∧ cs[i * 3 + 2]? = some (.int .i64 x.m)
/-- The slice at A reads as the numbers xs; it is nil, or a row of the call's own in a block from lo up to hi. -/
def RI (w : World) (lo hi : Nat) (A : Option Addr) (xs : List Int) : Prop :=
  (A = none ∧ xs = []) ∨ ∃ g cs, A = some ⟨g, 0, none⟩ ∧ lo ≤ g ∧ g < hi ∧ Blk w g 3 cs ∧ FillI xs xs.length cs
/-- The same for bounds. -/
def RB (w : World) (lo hi : Nat) (A : Option Addr) (bs : List Bd) : Prop :=
  (A = none ∧ bs = []) ∨ ∃ g cs, A = some ⟨g, 0, none⟩ ∧ lo ≤ g ∧ g < hi ∧ Blk w g 55 cs ∧ FillB bs bs.length cs
section
variable {lo hi lo' hi' : Nat} {w w1 : World} {A : Option Addr} {xs : List Int} {bs : List Bd}
theorem RI.iat (h : RI w lo hi A xs) : IAt w A xs := by
  rcases h with ⟨_, rfl⟩ | ⟨g, cs, rfl, _, _, hB, hF⟩
  · intro h0; exact absurd h0 (by simp)
  · intro _
    refine ⟨g, 0, rfl, hB.lt, fun i x hx => ?_⟩
    have hi : i < xs.length := (List.getElem?_eq_some_iff.1 hx).1
    simp only [Nat.zero_add]
    exact (hB.cell _).trans (hF.2 i x hi hx)
theorem RB.bat (h : RB w lo hi A bs) : BAt w A bs := by
  rcases h with ⟨_, rfl⟩ | ⟨g, cs, rfl, _, _, hB, hF⟩
  · intro h0; exact absurd h0 (by simp)
  · intro _
    refine ⟨g, 0, rfl, hB.lt, fun i x hx => ?_⟩
    have hi : i < bs.length := (List.getElem?_eq_some_iff.1 hx).1
    obtain ⟨a0, a1, a2⟩ := hF.2 i x hi hx
    simp only [Nat.zero_add]
    exact ⟨(hB.cell _).trans a0, (hB.cell _).trans a1, (hB.cell _).trans a2⟩
theorem RI.same (h : RI w lo hi A xs) (hs : Same lo hi w w1) (hh : hi ≤ w.heap.size) : RI w1 lo hi A xs := by
  rcases h with h | ⟨g, cs, e, h1, h2, hB, hF⟩
  · exact .inl h
  · exact .inr ⟨g, cs, e, h1, h2, ((hs.out hh).2 g h1 h2).trans hB, hF⟩
theorem RB.same (h : RB w lo hi A bs) (hs : Same lo hi w w1) (hh : hi ≤ w.heap.size) : RB w1 lo hi A bs := by
  rcases h with h | ⟨g, cs, e, h1, h2, hB, hF⟩
  · exact .inl h
  · exact .inr ⟨g, cs, e, h1, h2, ((hs.out hh).2 g h1 h2).trans hB, hF⟩
theorem RI.wide (h : RI w lo hi A xs) (hl : lo' ≤ lo) (hh : hi ≤ hi') : RI w lo' hi' A xs := by
  rcases h with h | ⟨g, cs, e, h1, h2, hB, hF⟩
  · exact .inl h
  · exact .inr ⟨g, cs, e, by omega, by omega, hB, hF⟩
theorem RB.wide (h : RB w lo hi A bs) (hl : lo' ≤ lo) (hh : hi ≤ hi') : RB w lo' hi' A bs := by
  rcases h with h | ⟨g, cs, e, h1, h2, hB, hF⟩
  · exact .inl h
  · exact .inr ⟨g, cs, e, by omega, by omega, hB, hF⟩
theorem FillI.zero (xs : List Int) {cs : Array Value} (h : xs.length ≤ cs.size) : FillI xs 0 cs := ⟨h, fun i x hi => absurd hi (Nat.not_lt_zero _)⟩
theorem FillI.room {k : Nat} {cs : Array Value} (h : FillI xs k cs) {j : Nat} (hk : j < xs.length) : ∃ u0, cs[j]? = some u0 := by
  have := h.1
  exact ⟨_, Array.getElem?_eq_getElem (by omega)⟩
theorem FillI.step {k : Nat} {cs : Array Value} {x : Int} (h : FillI xs k cs) (hx : xs[k]? = some x) : FillI xs (k + 1) (cs.setIfInBounds k (.int .i64 x)) := by
  have hk : k < xs.length := (List.getElem?_eq_some_iff.1 hx).1
  refine ⟨by simpa using h.1, fun i y hi hy => ?_⟩
  have hs := h.1
  simp only [Array.getElem?_setIfInBounds]
  by_cases e : i = k
  · subst e
    rw [hx] at hy
    injection hy with hy
    subst hy
    simp; omega
  · rw [if_neg (by omega)]
    exact h.2 i y (by omega) hy
theorem FillB.zero (bs : List Bd) {cs : Array Value} (h : bs.length * 3 ≤ cs.size) : FillB bs 0 cs := ⟨h, fun i x hi => absurd hi (Nat.not_lt_zero _)⟩
theorem FillB.room {k : Nat} {cs : Array Value} (h : FillB bs k cs) {j : Nat} (hk : j < bs.length) : ∃ u0 u1 u2, cs[j * 3]? = some u0 ∧ cs[j * 3 + 1]? = some u1 ∧ cs[j * 3 + 2]? = some u2 := by
  have := h.1
  exact ⟨_, _, _, Array.getElem?_eq_getElem (by omega), Array.getElem?_eq_getElem (by omega), Array.getElem?_eq_getElem (by omega)⟩
theorem FillB.step {k : Nat} {cs : Array Value} {x : Bd} (h : FillB bs k cs) (hx : bs[k]? = some x) :
    FillB bs (k + 1) (((cs.setIfInBounds (k * 3) (.int .i64 x.f)).setIfInBounds (k * 3 + 1) (.int .i64 x.t)).setIfInBounds (k * 3 + 2) (.int .i64 x.m)) := by
  have hk : k < bs.length := (List.getElem?_eq_some_iff.1 hx).1
  refine ⟨by simpa using h.1, fun i y hi hy => ?_⟩
  have hs := h.1
  simp only [Array.getElem?_setIfInBounds]
  by_cases e : i = k
  · subst e
    rw [hx] at hy
    injection hy with hy
    subst hy
    refine ⟨?_, ?_, ?_⟩ <;> simp <;> omega
  · obtain ⟨a0, a1, a2⟩ := h.2 i y (by omega) hy
    refine ⟨?_, ?_, ?_⟩
    · rw [if_neg (by omega), if_neg (by omega), if_neg (by omega)]; exact a0
    · rw [if_neg (by omega), if_neg (by omega), if_neg (by omega)]; exact a1
    · rw [if_neg (by omega), if_neg (by omega), if_neg (by omega)]; exact a2
end
end Go.Proofs.Ytedpaanhnbodfaa
