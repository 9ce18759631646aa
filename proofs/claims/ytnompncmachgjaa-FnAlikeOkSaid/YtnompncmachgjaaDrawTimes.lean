/- The contract of spec.l20Times: it draws some times, of at most eight numbers, in new memory. -/
import Derived.Test.YtnompncmachgjaaDrawPlan
import Derived.Test.YtnompncmachgjaaFromPt
namespace Go.Proofs.Ytnompncmachgjaa
open Go.RowKit
set_option linter.unusedVariables false
set_option maxRecDepth 10000
set_option linter.unusedSimpArgs false

theorem OwnL.set_ {w : World} {base g n c i : Nat} {xs : List Int} (h : OwnL w base (.slice (some ⟨g, 0, none⟩) n c) xs) (v : Int) : OwnL (w.setCell ⟨g, i, none⟩ (.int .i64 v)) base (.slice (some ⟨g, 0, none⟩) n c) (xs.set i v) := by
  obtain ⟨h1, ⟨e, h0⟩ | ⟨g', cap, cur, hv, hg, hh, hn, hc, hs, ht⟩⟩ := h
  · cases e
  · injection hv with e1 e2 e3
    injection e1 with e1
    injection e1 with e1
    subst e1; subst e3
    refine ⟨by simp, Or.inr ⟨g, c, cur.setIfInBounds i (.int .i64 v), by rw [List.length_set, e2], hg, ?_, by rw [List.length_set]; exact hn, hc, by simpa using hs, ?_⟩⟩
    · exact Blk.set_ (w := w) (g := g) (t := 3) (cs := cur) hh i (.int .i64 v)
    · rw [List.length_set, Array.toList_setIfInBounds, List.take_set, ht, List.map_set]
theorem OwnL.vrow' {w : World} {base g n c : Nat} {xs : List Int} (h : OwnL w base (.slice (some ⟨g, 0, none⟩) n c) xs) (hl : 1 ≤ xs.length) : VRow w g xs.length (fun a => xs.getD a 0) ∧ base ≤ g ∧ n = xs.length ∧ xs.length ≤ c := by
  obtain ⟨g', c', e, hg, hV⟩ := h.vrow rfl hl
  have hn : n = xs.length ∧ g = g' := by injection e with e1 e2 e3; injection e1 with e1; injection e1 with e1; exact ⟨e2, e1⟩
  obtain ⟨h1, ⟨e, h0⟩ | ⟨g2, cap, cur, hv, _, _, hn2, _⟩⟩ := h
  · cases e
  · injection hv with e1 e2 e3
    rw [hn.2]
    exact ⟨hV, hg, hn.1, by omega⟩
theorem OwnL.rc {w : World} {base : Nat} {v : Value} {xs : List Int} (h : OwnL w base v xs) : ∃ G c, v = .slice G xs.length c ∧ RI w base w.heap.size G xs ∧ xs.length ≤ c ∧ (G = none → c = 0) := by
  obtain ⟨G, c, rfl, hr⟩ := h.ri
  refine ⟨G, c, rfl, hr, ?_, ?_⟩ <;> obtain ⟨h1, ⟨e, h0⟩ | ⟨g2, cap, cur, hv, _, _, hn2, _⟩⟩ := h
  · omega
  · injection hv with e1 e2 e3; omega
  · injection e with e1 e2 e3; exact fun _ => e3
  · injection hv with e1 e2 e3; intro e; rw [e] at e1; cases e1
/-- Some times of at most eight points, in new memory; the reader has gone on, and nothing else has turned. -/
def DrewTimes (base g q : Nat) (w : World) (e : Ending) (w' : World) : Prop :=
  ∃ (G : Option Addr) (c : Nat) (ts : List Int), e = .returned (.slice G ts.length c) ∧ ts.length ≤ 8 ∧ (∀ t ∈ ts, -20000 ≤ t ∧ t ≤ 20000) ∧ ts.length ≤ c ∧ (G = none → c = 0) ∧ RI w' w.heap.size w'.heap.size G ts ∧ Rd w' base g (q + 40) ∧ Only g (g + 1) w w'
theorem times_end {base g q q' lo : Nat} {v : Value} {ts : List Int} {w W : World} {e : Ending} (hown : OwnL W lo v ts) (hlo : w.heap.size ≤ lo) (hr : Rd W base g q') (hq : q' ≤ q + 40) (hF : Only g (g + 1) w W) (hl : ts.length ≤ 8) (hb : ∀ t ∈ ts, -20000 ≤ t ∧ t ≤ 20000) (he : e = .returned v) : DrewTimes base g q w e W := by
  obtain ⟨G, c, rfl, hr2, hc, hn⟩ := hown.rc
  exact ⟨G, c, ts, he, hl, hb, hc, hn, hr2.wide hlo (Nat.le_refl _), hr.mono hq, hF⟩
theorem set_bound {ts : List Int} {i : Nat} {v lo hi : Int} (h : ∀ t ∈ ts, lo ≤ t ∧ t ≤ hi) (hv : lo ≤ v ∧ v ≤ hi) : ∀ t ∈ ts.set i v, lo ≤ t ∧ t ≤ hi := fun t ht => by
  rcases List.mem_or_eq_of_mem_set ht with h2 | h2
  · exact h t h2
  · rw [h2]; exact hv
theorem getD_bound {ts : List Int} {i : Nat} {lo hi : Int} (h : ∀ t ∈ ts, lo ≤ t ∧ t ≤ hi) (hi' : i < ts.length) : lo ≤ ts.getD i 0 ∧ ts.getD i 0 ≤ hi := by
  have e : ts[i]? = some ts[i] := List.getElem?_eq_getElem hi'
  have : ts.getD i 0 = ts[i] := by simp [List.getD, e]
  rw [this]; exact h _ (List.getElem_mem _)
theorem onlyB {g B : Nat} {w wx w11 : World} {o : Obj} (h2 : Only g (g + 1) w wx) (hb : Below B (wx.alloc o) w11) (hB : w.heap.size ≤ B) : Only g (g + 1) w w11 := by
  have h3 : Only g (g + 1) w (wx.alloc o) := h2.alloc o
  exact ⟨hb.os.trans h3.os, hb.tape.trans h3.tape, hb.output.trans h3.output, Nat.le_trans h3.size hb.size, fun k hk hd => (hb.block k (by omega)).trans (h3.block k hk hd)⟩
end Go.Proofs.Ytnompncmachgjaa
