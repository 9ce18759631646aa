/- Plain law: found bound by bound, from one point, in as many rounds as there are points, the numbers are those of the point's row of the closed table. No program in sight. -/
import Derived.Test.YtedpaanhnbodfaaPlainDist
namespace Go.Proofs.Ytedpaanhnbodfaa
open Go.RowKit
set_option linter.unusedVariables false
set_option maxRecDepth 10000
set_option linter.unusedSimpArgs false

/-- One bound is taken into account. -/
def stepB (v : Nat → Int) (x : Bd) : Nat → Int := if v x.f.toNat < 100000 then fun a => if a = x.t.toNat then mn (v x.t.toNat) (wrap64 (v x.f.toNat + x.m)) else v a else v
def roundB (bs : List Bd) (v : Nat → Int) : Nat → Int := bs.foldl stepB v
def initB (i : Nat) : Nat → Int := fun a => if a = i then 0 else 100000
def bfV (bs : List Bd) (i r : Nat) : Nat → Int := (List.range r).foldl (fun v _ => roundB bs v) (initB i)
theorem bfV_succ (bs : List Bd) (i r : Nat) : bfV bs i (r + 1) = roundB bs (bfV bs i r) := by unfold bfV; rw [List.range_succ, List.foldl_append]; rfl
theorem stepB_le (v : Nat → Int) (x : Bd) (a : Nat) : stepB v x a ≤ v a := by
  unfold stepB; split
  · show (if a = x.t.toNat then mn (v x.t.toNat) (wrap64 (v x.f.toNat + x.m)) else v a) ≤ v a
    split
    · rename_i e; rw [e]; exact mn_le _ _
    · exact Int.le_refl _
  · exact Int.le_refl _
theorem foldB_le : ∀ (l : List Bd) (v : Nat → Int) (a : Nat), l.foldl stepB v a ≤ v a
  | [], v, a => Int.le_refl _
  | x :: l, v, a => by rw [List.foldl_cons]; exact Int.le_trans (foldB_le l _ a) (stepB_le v x a)
def SoundB (bs : List Bd) (i : Nat) (v : Nat → Int) : Prop := (∀ a, v a = 100000 ∨ Wk bs i a (v a)) ∧ v i ≤ 0
theorem countP_lt {p q : Nat → Bool} : ∀ (l : List Nat), (∀ a ∈ l, p a = true → q a = true) → (∃ a ∈ l, q a = true ∧ p a = false) → l.countP p < l.countP q
  | [], _, ⟨a, ha, _⟩ => by simp at ha
  | b :: l, h, ⟨a, ha, hq, hp⟩ => by
    have hm : l.countP p ≤ l.countP q := List.countP_mono_left (fun x hx => h x (List.mem_cons_of_mem _ hx))
    rw [List.countP_cons, List.countP_cons]
    rcases List.mem_cons.1 ha with rfl | ha
    · rw [hq, hp]; simp; omega
    · have ih := countP_lt l (fun x hx => h x (List.mem_cons_of_mem _ hx)) ⟨a, ha, hq, hp⟩
      have hb := h b List.mem_cons_self
      cases hpb : p b
      · simp; omega
      · rw [hb hpb]; simp; omega
section
variable {N : Nat} {bs : List Bd} {D : Tab} {i : Nat} (h : Dist N bs D) (hin : ∀ x ∈ bs, x.f.toNat < N ∧ x.t.toNat < N ∧ -99 ≤ x.m ∧ x.m ≤ 99) (hi : i < N)
include h hin hi
theorem soundB_ge {v : Nat → Int} (hs : SoundB bs i v) {a : Nat} (ha : a < N) : D i a ≤ v a := by
  have f := h.fin i a hi ha
  rcases hs.1 a with e | w
  · omega
  · exact (h.le (fun x hx => by have := hin x hx; omega) hi w).2.2
theorem soundB_step {v : Nat → Int} (hs : SoundB bs i v) {x : Bd} (hx : x ∈ bs) : SoundB bs i (stepB v x) := by
  refine ⟨fun a => ?_, Int.le_trans (stepB_le v x i) hs.2⟩
  unfold stepB
  split
  · rename_i c
    show (if a = x.t.toNat then mn (v x.t.toNat) (wrap64 (v x.f.toNat + x.m)) else v a) = 100000 ∨ Wk bs i a (if a = x.t.toNat then mn (v x.t.toNat) (wrap64 (v x.f.toNat + x.m)) else v a)
    split
    · rename_i e
      have hx' := hin x hx
      have g := soundB_ge h hin hi hs hx'.1
      have f := h.fin i x.f.toNat hi hx'.1
      rw [IntWalk.wrap64_in _ (by omega)]
      unfold mn
      split
      · right
        rcases hs.1 x.f.toNat with e2 | w
        · omega
        · rw [e]; exact Wk.snoc w hx rfl
      · rw [e]; exact hs.1 _
    · exact hs.1 a
  · exact hs.1 a
theorem soundB_fold : ∀ (l : List Bd) (v : Nat → Int), (∀ x ∈ l, x ∈ bs) → SoundB bs i v → SoundB bs i (l.foldl stepB v)
  | [], v, _, hs => hs
  | x :: l, v, hl, hs => by
    rw [List.foldl_cons]
    exact soundB_fold l _ (fun y hy => hl y (List.mem_cons_of_mem _ hy)) (soundB_step h hin hi hs (hl x List.mem_cons_self))
theorem soundB_round {v : Nat → Int} (hs : SoundB bs i v) : SoundB bs i (roundB bs v) := soundB_fold h hin hi bs v (fun _ hx => hx) hs
/-- Behind a round, a bound from a point whose number stands has been taken into account. -/
theorem edgeB {x : Bd} (hne : D i x.f.toNat ≠ 100000) : ∀ (l : List Bd) (v : Nat → Int), (∀ y ∈ l, y ∈ bs) → x ∈ l → SoundB bs i v → v x.f.toNat = D i x.f.toNat → l.foldl stepB v x.t.toNat ≤ D i x.f.toNat + x.m
  | y :: l, v, hl, hx, hs, hv => by
    rw [List.foldl_cons]
    have hxb : x ∈ bs := hl x hx
    have hx' := hin x hxb
    have f := h.fin i x.f.toNat hi hx'.1
    rcases List.mem_cons.1 hx with rfl | hx2
    · refine Int.le_trans (foldB_le l _ _) ?_
      unfold stepB
      rw [if_pos (by omega)]
      show (if x.t.toNat = x.t.toNat then mn (v x.t.toNat) (wrap64 (v x.f.toNat + x.m)) else v x.t.toNat) ≤ _
      rw [if_pos rfl, IntWalk.wrap64_in _ (by omega), ← hv]
      exact mn_le' _ _
    · have s2 := soundB_step h hin hi hs (hl y List.mem_cons_self)
      refine edgeB hne l _ (fun z hz => hl z (List.mem_cons_of_mem _ hz)) hx2 s2 ?_
      have h1 := stepB_le v y x.f.toNat
      have h2 := soundB_ge h hin hi s2 hx'.1
      omega
theorem progressB {v : Nat → Int} (hs : SoundB bs i v) {j : Nat} {s : Int} (w : Wk bs i j s) : s = D i j → v j = D i j ∨ ∃ a, a < N ∧ v a ≠ D i a ∧ roundB bs v a = D i a := by
  have hl : ∀ x ∈ bs, x.f.toNat < N ∧ x.t.toNat < N ∧ x.m ≤ 99 := fun x hx => ⟨(hin x hx).1, (hin x hx).2.1, (hin x hx).2.2.2⟩
  induction w with
  | nil =>
    intro _
    left
    have z := h.zero i hi
    have g := soundB_ge h hin hi hs hi
    have := hs.2
    omega
  | @snoc u s x w0 hx hf ih =>
    intro e
    obtain ⟨hu, hne, hle⟩ := h.le hl hi w0
    have hx' := hin x hx
    have he := h.edge x hx
    rw [hf] at he
    have f1 := h.fin u x.t.toNat hu hx'.2.1
    have t := h.tri u i x.t.toNat hu hi hx'.2.1 hne (by omega)
    have es : s = D i u := by omega
    rcases ih es with q | q
    · by_cases c : v x.t.toNat = D i x.t.toNat
      · exact Or.inl c
      · right
        refine ⟨x.t.toNat, hx'.2.1, c, ?_⟩
        have g := soundB_ge h hin hi (soundB_round h hin hi hs) hx'.2.1
        have l := edgeB h hin hi (x := x) (by rw [hf]; exact hne) bs v (fun _ hy => hy) hx hs (by rw [hf]; exact q)
        rw [hf] at l
        unfold roundB at *
        omega
    · exact Or.inr q
theorem bfV_count : ∀ r, SoundB bs i (bfV bs i r) ∧ ((∀ a, a < N → bfV bs i r a = D i a) ∨ r + 1 ≤ (List.range N).countP fun a => decide (bfV bs i r a = D i a))
  | 0 => by
    have z := h.zero i hi
    have s0 : SoundB bs i (bfV bs i 0) := by
      refine ⟨fun a => ?_, by simp [bfV, initB]⟩
      by_cases e : a = i
      · right; subst e; simpa [bfV, initB] using Wk.nil
      · left; simp [bfV, initB, e]
    refine ⟨s0, Or.inr ?_⟩
    rw [Nat.zero_add]
    refine List.countP_pos_iff.2 ⟨i, List.mem_range.2 hi, ?_⟩
    simp [bfV, initB, z]
  | r + 1 => by
    obtain ⟨hs, hc⟩ := bfV_count r
    rw [bfV_succ]
    have hs2 := soundB_round h hin hi hs
    have mono : ∀ a, a < N → bfV bs i r a = D i a → roundB bs (bfV bs i r) a = D i a := fun a ha e => by
      have h1 := foldB_le bs (bfV bs i r) a
      have h2 := soundB_ge h hin hi hs2 ha
      unfold roundB at *
      omega
    refine ⟨hs2, ?_⟩
    rcases hc with hc | hc
    · exact Or.inl fun a ha => mono a ha (hc a ha)
    · by_cases all : ∀ a, a < N → bfV bs i r a = D i a
      · exact Or.inl fun a ha => mono a ha (all a ha)
      · right
        simp only [Classical.not_forall] at all
        obtain ⟨j, hj, hne⟩ := all
        have hD : D i j ≠ 100000 := by
          intro e
          rcases hs.1 j with q | w
          · exact hne (q.trans e.symm)
          · exact (h.le (fun x hx => by have := hin x hx; omega) hi w).2.1 e
        rcases progressB h hin hi hs (h.walk i j hi hj hD) rfl with q | ⟨a, ha, q1, q2⟩
        · exact absurd q hne
        · refine Nat.lt_of_le_of_lt hc (countP_lt _ (fun b hb hp => ?_) ⟨a, List.mem_range.2 ha, by simpa using q2, by simpa using q1⟩)
          have := mono b (List.mem_range.1 hb) (by simpa using hp)
          simpa using this
end
theorem bf_eq {N : Nat} {bs : List Bd} (hfit : fitsOk N bs = true) {i : Nat} (hi : i < N) (a : Nat) (ha : a < N) : bfV bs i N a = closedT N bs i a := by
  obtain ⟨h1, h6, _, hin⟩ := planOk_of (fit_plan hfit)
  obtain ⟨_, hc | hc⟩ := bfV_count (dist_of hfit) (fun x hx => by have := hin x hx; omega) hi N
  · exact hc a ha
  · have := List.countP_le_length (l := List.range N) (p := fun a => decide (bfV bs i N a = closedT N bs i a))
    rw [List.length_range] at this
    omega
end Go.Proofs.Ytedpaanhnbodfaa
