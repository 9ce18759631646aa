/- Words for the draws that keep a plan in a box of their own; no condition. -/
import Derived.Test.YtnompncmachgjaaDraws
namespace Go.Proofs.Ytnompncmachgjaa
open Go.RowKit
set_option linter.unusedVariables false
set_option maxRecDepth 10000
set_option linter.unusedSimpArgs false

theorem RB.box {w : World} {lo hi B i : Nat} {u : Value} {A : Option Addr} {bs : List Bd} {cs : Array Value} (h : RB w lo hi A bs) (hB : Blk w B 25 cs) : RB (w.setCell ⟨B, i, none⟩ u) lo hi A bs := by
  rcases h with h | ⟨g, cs', e, h1, h2, hb, hF⟩
  · exact .inl h
  · refine .inr ⟨g, cs', e, h1, h2, hb.far ?_ u, hF⟩
    intro e2
    have e3 : g = B := e2
    subst e3
    unfold Blk at hb hB
    rw [hB] at hb
    injection hb with hb
    injection hb with _ hb
    exact absurd hb (by decide)
/-- While a plan is drawn: the box of the result is empty, the plan lies in box P, its bounds are new; the reader has gone on, and nothing else has turned. -/
structure Dr (base g q : Nat) (w0 w : World) (P : Nat) (n : Int) (A : Option Addr) (c : Nat) (bs : List Bd) : Prop where
  res : Blk w w0.heap.size 25 #[.int .i64 0, .slice none 0 0]
  box : Blk w P 25 #[.int .i64 n, .slice A bs.length c]
  rb : RB w (w0.heap.size + 1) w.heap.size A bs
  rd : Rd w base g q
  only : Only g (g + 1) w0 w
  hP : w0.heap.size < P
  hg : g < w0.heap.size
section
variable {base g q q' P : Nat} {w0 w w' : World} {n n' : Int} {A A' : Option Addr} {c c' : Nat} {bs bs' : List Bd}
theorem Dr.lt (h : Dr base g q w0 w P n A c bs) : P < w.heap.size := h.box.lt
theorem Dr.p0 (h : Dr base g q w0 w P n A c bs) : w.cell? ⟨P, 0, none⟩ = some (.int .i64 n) := h.box.cell 0
theorem Dr.p1 (h : Dr base g q w0 w P n A c bs) : w.cell? ⟨P, 1, none⟩ = some (.slice A bs.length c) := h.box.cell 1
theorem Dr.r0 (h : Dr base g q w0 w P n A c bs) : w.cell? ⟨w0.heap.size, 0, none⟩ = some (.int .i64 0) := h.res.cell 0
theorem Dr.r1 (h : Dr base g q w0 w P n A c bs) : w.cell? ⟨w0.heap.size, 1, none⟩ = some (.slice none 0 0) := h.res.cell 1
theorem Dr.f0 (h : Dr base g q w0 w P n A c bs) : w.frozen? ⟨w0.heap.size, 0, none⟩ = false := h.res.frozen 0
theorem Dr.f1 (h : Dr base g q w0 w P n A c bs) : w.frozen? ⟨w0.heap.size, 1, none⟩ = false := h.res.frozen 1
theorem Dr.g0 (h : Dr base g q w0 w P n A c bs) : w.frozen? ⟨P, 0, none⟩ = false := h.box.frozen 0
theorem Dr.g1 (h : Dr base g q w0 w P n A c bs) : w.frozen? ⟨P, 1, none⟩ = false := h.box.frozen 1
theorem Dr.bat (h : Dr base g q w0 w P n A c bs) : BAt w A bs := h.rb.bat
theorem Dr.mono (h : Dr base g q w0 w P n A c bs) (hq : q ≤ q') : Dr base g q' w0 w P n A c bs := ⟨h.res, h.box, h.rb, h.rd.mono hq, h.only, h.hP, h.hg⟩
theorem Dr.drewN (h : Dr base g q w0 w P n A c bs) (k : Nat) : Dr base g q w0 (w.drewN k) P n A c bs := ⟨h.res, h.box, h.rb, h.rd, h.only.drewN k, h.hP, h.hg⟩
theorem Dr.drew (h : Dr base g q w0 w P n A c bs) : Dr base g q w0 w.drew P n A c bs := ⟨h.res, h.box, h.rb, h.rd, h.only.drew, h.hP, h.hg⟩
theorem Dr.pick (h : Dr base g q w0 w P n A c bs) (hr : Rd w' base g q') (ho : Only g (g + 1) w w') : Dr base g q' w0 w' P n A c bs := by
  have h1 := h.hg
  have h2 := h.hP
  exact ⟨h.res.only ho (.inr (by omega)), h.box.only ho (.inr (by omega)), (h.rb.same (Same.of_only ho (.inr (by omega))) (Nat.le_refl _)).wide (Nat.le_refl _) ho.size, hr, Only.only ho (Nat.le_refl _) (Nat.le_refl _) h.only, h.hP, h.hg⟩
theorem Dr.below (h : Dr base g q w0 w P n A c bs) (hb : Below w.heap.size w w') : Dr base g q w0 w' P n A c bs := by
  have h1 := h.rd.lt
  exact ⟨h.res.below' hb, h.box.below' hb, (h.rb.same (Same.of_below hb (Nat.le_refl _)) (Nat.le_refl _)).wide (Nat.le_refl _) hb.size, h.rd.below hb h1, h.only.below hb, h.hP, h.hg⟩
theorem Dr.alloc (h : Dr base g q w0 w P n A c bs) (o : Obj) : Dr base g q w0 (w.alloc o) P n A c bs := h.below ((Below.refl _ _).alloc (Nat.le_refl _) o)
/-- Another block that is new is written to. -/
theorem Dr.far {B i : Nat} (h : Dr base g q w0 w P n A c bs) (hB : w0.heap.size < B) (hne : B ≠ P) (cs : Array Value) (hb : Blk w B 25 cs) (u : Value) : Dr base g q w0 (w.setCell ⟨B, i, none⟩ u) P n A c bs := by
  have h1 := h.hg
  refine ⟨h.res.far (by dsimp only; omega) u, h.box.far (by dsimp only; exact fun e => hne e.symm) u, ?_, h.rd.same ((Same.refl _ _ _).set_ (.inr (by dsimp only; omega)) _), h.only.new (by dsimp only; omega) u, h.hP, h.hg⟩
  rw [szc]; exact h.rb.box hb
/-- Another plan comes into the box. -/
theorem Dr.put (h : Dr base g q w0 w P n A c bs) (hr : RB w (w0.heap.size + 1) w.heap.size A' bs') : Dr base g q w0 ((w.setCell ⟨P, 0, none⟩ (.int .i64 n')).setCell ⟨P, 1, none⟩ (.slice A' bs'.length c')) P n' A' c' bs' := by
  have h1 := h.hg
  have h2 := h.hP
  have hb1 := h.box.set_ 0 (.int .i64 n')
  have hb2 := hb1.set_ 1 (.slice A' bs'.length c')
  refine ⟨(h.res.far (by dsimp only; omega) _).far (by dsimp only; omega) _, by simpa using hb2, ?_, h.rd.same (((Same.refl _ _ _).set_ (.inr (by dsimp only; omega)) _).set_ (.inr (by dsimp only; omega)) _), (h.only.new (by dsimp only; omega) _).new (by dsimp only; omega) _, h.hP, h.hg⟩
  rw [szc, szc]; exact (hr.box h.box).box hb1
theorem Dr.drewE (h : Dr base g q w0 w P n A c bs) (e : w' = w.drew) : Dr base g q w0 w' P n A c bs := by subst e; exact h.drew
theorem Dr.allocE (h : Dr base g q w0 w P n A c bs) {o : Obj} (e : w' = w.alloc o) : Dr base g q w0 w' P n A c bs := by subst e; exact h.alloc o
/-- Another box that is new takes a plan. -/
theorem Dr.far2 {B : Nat} {a b u0 u1 : Value} (e : w' = (w.setCell ⟨B, 0, none⟩ u0).setCell ⟨B, 1, none⟩ u1) (h : Dr base g q w0 w P n A c bs) (hX : Blk w B 25 #[a, b]) (hB : w0.heap.size < B) (hne : B ≠ P) :
    Dr base g q w0 w' P n A c bs ∧ Blk w' B 25 #[u0, u1] ∧ (∀ lo hi A' bs', RB w lo hi A' bs' → RB w' lo hi A' bs') ∧ w'.heap.size = w.heap.size := by
  subst e
  have h1 := h.far (i := 0) hB hne _ hX u0
  have hX1 := hX.set_ 0 u0
  have h2 := h1.far (i := 1) hB hne _ hX1 u1
  exact ⟨h2, by simpa using hX1.set_ 1 u1, fun lo hi A' bs' hr => (hr.box hX).box hX1, by rw [szc, szc]⟩
/-- Another plan comes into the box; another box stands. -/
theorem Dr.putE {B : Nat} {cs : Array Value} (e : w' = (w.setCell ⟨P, 0, none⟩ (.int .i64 n')).setCell ⟨P, 1, none⟩ (.slice A' bs'.length c')) (h : Dr base g q w0 w P n A c bs) (hr : RB w (w0.heap.size + 1) w.heap.size A' bs') (hX : Blk w B 25 cs) (hne : B ≠ P) :
    Dr base g q w0 w' P n' A' c' bs' ∧ Blk w' B 25 cs := by
  subst e
  exact ⟨h.put hr, (hX.far (by dsimp only; exact hne) _).far (by dsimp only; exact hne) _⟩
theorem Dr.start {o0 : Obj} (h0 : o0 = .cells #[.int .i64 0, .slice none 0 0] 25) (hg : g < w0.heap.size) (hrb : RB w (w0.alloc o0).heap.size w.heap.size A bs) (hrd : Rd w base g q) (ho : Only g (g + 1) (w0.alloc o0) w) : Dr base g q w0 (w.alloc (.cells #[.int .i64 n, .slice A bs.length c] 25)) w.heap.size n A c bs := by
  subst h0
  have hz := ho.size
  rw [sz] at hz hrb
  exact ⟨((Blk.new w0 _ _).only ho (.inr (by omega))).alloc _, Blk.new _ _ _, (hrb.same ((Same.refl _ _ _).alloc _) (Nat.le_refl _)).wide (Nat.le_refl _) (by rw [sz]; omega), hrd.alloc _, (Only.only ho (Nat.le_refl _) (Nat.le_refl _) ((Only.refl g (g + 1) w0).alloc _)).alloc _, by omega, hg⟩
/-- The end: the result has come into its box. -/
theorem Dr.end_ {u0 u1 : Value} {W2 : World} (hW : W2 = (w.setCell ⟨w0.heap.size, 0, none⟩ u0).setCell ⟨w0.heap.size, 1, none⟩ u1) (h : Dr base g q w0 w P n A c bs) : RB W2 w0.heap.size W2.heap.size A bs ∧ Rd W2 base g q ∧ Only g (g + 1) w0 W2 := by
  subst hW
  have h1 := h.hg
  have hb1 := h.res.set_ 0 u0
  refine ⟨?_, h.rd.same (((Same.refl _ _ _).set_ (.inr (by dsimp only; omega)) _).set_ (.inr (by dsimp only; omega)) _), (h.only.new (by dsimp only; omega) _).new (by dsimp only; omega) _⟩
  rw [szc, szc]; exact ((h.rb.box h.res).box hb1).wide (by omega) (Nat.le_refl _)
end
/-- At the end of a draw out of a code. -/
theorem code_end {w w1 w2 : World} {g : Nat} {u0 u1 : Value} {o0 : Obj} (h0 : o0 = .cells #[.int .i64 0, .slice none 0 0] 25) (hb1 : Below (w.alloc o0).heap.size (w.alloc o0) w1) (hg : w.heap.size < g) (ho : Only g (g + 1) w1 w2) {A : Option Addr} {bs : List Bd} (hr : RB w2 w1.heap.size w2.heap.size A bs) :
    RB ((w2.setCell ⟨w.heap.size, 0, none⟩ u0).setCell ⟨w.heap.size, 1, none⟩ u1) w.heap.size ((w2.setCell ⟨w.heap.size, 0, none⟩ u0).setCell ⟨w.heap.size, 1, none⟩ u1).heap.size A bs ∧ Below w.heap.size w ((w2.setCell ⟨w.heap.size, 0, none⟩ u0).setCell ⟨w.heap.size, 1, none⟩ u1) := by
  subst h0
  have hz := hb1.size
  rw [sz] at hz
  refine ⟨?_, vset (vset (viaOnly ho (by omega) (via hb1 (valloc (Below.refl w.heap.size w) _))) (Nat.le_refl _) _) (Nat.le_refl _) _⟩
  rw [szc, szc]
  exact (hr.same (((Same.refl _ _ _).set_ (.inl (by dsimp only; omega)) _).set_ (.inl (by dsimp only; omega)) _) (Nat.le_refl _)).wide (by omega) (Nat.le_refl _)
theorem code_res {w w1 w2 : World} {g : Nat} {o0 : Obj} (h0 : o0 = .cells #[.int .i64 0, .slice none 0 0] 25) (hb1 : Below (w.alloc o0).heap.size (w.alloc o0) w1) (hg : w.heap.size < g) (ho : Only g (g + 1) w1 w2) : Blk w2 w.heap.size 25 #[.int .i64 0, .slice none 0 0] := by
  subst h0
  exact ((Blk.new w _ _).below hb1 (by simp)).only ho (.inl hg)
end Go.Proofs.Ytnompncmachgjaa
