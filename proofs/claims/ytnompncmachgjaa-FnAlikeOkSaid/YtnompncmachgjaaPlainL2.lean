/- Plain laws of the closed table: how great its numbers are, and that times that keep it may be gone on with. No program in sight. -/
import Derived.Test.YtnompncmachgjaaKG
import Derived.Test.YtnompncmachgjaaPlainL1
import Derived.Test.YtnompncmachgjaaKI
namespace Go.Proofs.Ytnompncmachgjaa
open Go.RowKit
set_option linter.unusedVariables false
set_option maxRecDepth 10000
set_option linter.unusedSimpArgs false

theorem hin_of {N : Nat} {bs : List Bd} (hfit : fitsOk N bs = true) : ∀ x ∈ bs, x.f.toNat < N ∧ x.t.toNat < N ∧ x.m ≤ 99 := by
  obtain ⟨_, _, _, hin⟩ := planOk_of (fit_plan hfit)
  intro x hx
  have := hin x hx
  omega
/-- Rows of bounds each of which is at least what a closed table tells. -/
theorem Dist.le_of {N : Nat} {bs cs : List Bd} {D : Tab} (h : Dist N bs D) (hin : ∀ x ∈ cs, x.f.toNat < N ∧ x.t.toNat < N ∧ x.m ≤ 99) (hed : ∀ x ∈ cs, D x.f.toNat x.t.toNat ≤ x.m) {i j : Nat} {s : Int} (hi : i < N) (w : Wk cs i j s) : j < N ∧ D i j ≠ 100000 ∧ D i j ≤ s := by
  induction w with
  | nil => have := h.zero i hi; exact ⟨hi, by omega, by omega⟩
  | @snoc u s x _ hx hf ih =>
    obtain ⟨hu, hne, hle⟩ := ih
    have hx' := hin x hx
    have he := hed x hx
    rw [hf] at he
    have f1 := h.fin u x.t.toNat hu hx'.2.1
    have t := h.tri u i x.t.toNat hu hi hx'.2.1 hne (by omega)
    have f2 := h.fin i u hi hu
    refine ⟨hx'.2.1, by omega, by omega⟩
theorem Wk.mono {bs cs : List Bd} (hs : ∀ x ∈ bs, x ∈ cs) {i j : Nat} {s : Int} (w : Wk bs i j s) : Wk cs i j s := by
  induction w with
  | nil => exact Wk.nil
  | snoc _ hx hf ih => exact Wk.snoc ih (hs _ hx) hf
theorem Ch.end_lt {N : Nat} {bs : List Bd} (hin : ∀ x ∈ bs, x.t.toNat < N) : ∀ (l : List Bd) {i j : Nat}, i < N → Ch bs i l j → j < N
  | [], i, j, hi, h => by cases h; exact hi
  | x :: l, i, j, hi, ⟨h1, _, h3⟩ => Ch.end_lt hin l (hin x h1) h3
/-- A shorter row of bounds, where no closed one has a sum below 0. -/
theorem short_walk {N : Nat} {bs : List Bd} (hin : ∀ x ∈ bs, x.f.toNat < N ∧ x.t.toNat < N) (hcy : ∀ (i : Nat) (l : List Bd), i < N → Ch bs i l i → 0 ≤ sumB l) : ∀ (m : Nat) (i j : Nat) (l : List Bd), l.length = m → i < N → Ch bs i l j → ∃ l', l'.length < N ∧ Ch bs i l' j ∧ sumB l' ≤ sumB l := by
  intro m
  induction m using Nat.strongRecOn with
  | ind m ih =>
    intro i j l hlen hi hc
    by_cases hN : l.length < N
    · exact ⟨l, hN, hc, Int.le_refl _⟩
    · have hj := Ch.end_lt (fun x hx => (hin x hx).2) l hi hc
      obtain ⟨a, b, hab, hb, e⟩ := pig (N := N) (l := (l.map fun x => x.f.toNat) ++ [j]) (fun x hx => by
        rcases List.mem_append.1 hx with hx | hx
        · obtain ⟨y, hy, rfl⟩ := List.mem_map.1 hx
          exact (hin y (Ch.mem l hc y hy)).1
        · simp at hx; subst hx; exact hj) (by rw [List.length_append, List.length_map]; simp; omega)
      rw [List.length_append, List.length_map, List.length_singleton] at hb
      have e1 : l = l.take a ++ l.drop a := (List.take_append_drop a l).symm
      have e2 : l.drop a = (l.drop a).take (b - a) ++ l.drop b := by
        have := (List.take_append_drop (b - a) (l.drop a)).symm
        rwa [List.drop_drop, show a + (b - a) = b by omega] at this
      have hc' := hc
      rw [e1] at hc'
      obtain ⟨u, c1, c2⟩ := Ch.split _ hc'
      have c2' := c2
      rw [e2] at c2'
      obtain ⟨v, c3, c4⟩ := Ch.split _ c2'
      have va : ((l.map fun x => x.f.toNat) ++ [j])[a]? = some u := by
        have su := c2.start (x := l[a]'(by omega)) (by rw [List.getElem?_drop]; simp)
        rw [List.getElem?_append_left (by rw [List.length_map]; omega), List.getElem?_map, List.getElem?_eq_getElem (show a < l.length by omega)]
        simp [su]
      have vb : ((l.map fun x => x.f.toNat) ++ [j])[b]? = some v := by
        by_cases hbl : b < l.length
        · have sv := c4.start (x := l[b]) (by rw [List.getElem?_drop]; simp)
          rw [List.getElem?_append_left (by rw [List.length_map]; omega), List.getElem?_map, List.getElem?_eq_getElem hbl]
          simp [sv]
        · have hbe : b = l.length := by omega
          rw [hbe, List.drop_length] at c4
          have c4' : v = j := c4
          rw [List.getElem?_append_right (by rw [List.length_map]; omega), List.length_map, hbe, c4']; simp
      rw [va, vb] at e
      have huv : u = v := by injection e
      subst huv
      have hu : u < N := Ch.end_lt (fun x hx => (hin x hx).2) _ hi c1
      have hneg := hcy u _ hu c3
      have hsum : sumB l = sumB (l.take a) + (sumB ((l.drop a).take (b - a)) + sumB (l.drop b)) := by
        conv => lhs; rw [e1, sumB_append, e2, sumB_append]
      obtain ⟨l', q1, q2, q3⟩ := ih (l.take a ++ l.drop b).length (by rw [List.length_append, List.length_take, List.length_drop]; omega) i j _ rfl hi (Ch.join _ c1 c4)
      refine ⟨l', q1, q2, ?_⟩
      rw [sumB_append] at q3
      omega
theorem sumB_bound {M : Int} : ∀ (l : List Bd), (∀ x ∈ l, -M ≤ x.m ∧ x.m ≤ M) → -(M * l.length) ≤ sumB l ∧ sumB l ≤ M * l.length
  | [], _ => by simp [sumB]
  | x :: l, h => by
    have h1 := h x List.mem_cons_self
    have h2 := sumB_bound l (fun y hy => h y (List.mem_cons_of_mem _ hy))
    have e : sumB (x :: l) = x.m + sumB l := rfl
    have e2 : M * ((x :: l).length : Int) = M * l.length + M := by rw [List.length_cons]; push_cast; rw [Int.mul_add, Int.mul_one]
    rw [e, e2]; omega
/-- The numbers of a closed table. -/
theorem dist_short {N : Nat} {bs : List Bd} {M : Int} (hfit : fitsOk N bs = true) (hM0 : 0 ≤ M) (hM : ∀ x ∈ bs, -M ≤ x.m ∧ x.m ≤ M) {i j : Nat} (hi : i < N) (hj : j < N) (hne : closedT N bs i j ≠ 100000) : -(M * 5) ≤ closedT N bs i j ∧ closedT N bs i j ≤ M * 5 := by
  have D := dist_of hfit
  obtain ⟨h1, h6, _, hin0⟩ := planOk_of (fit_plan hfit)
  have hin := hin_of hfit
  obtain ⟨l, hc, hs⟩ := (D.walk i j hi hj hne).ch
  obtain ⟨l', q1, q2, q3⟩ := short_walk (fun x hx => ⟨(hin x hx).1, (hin x hx).2.1⟩) (fun i l hi h => fit_good hfit hi h) l.length i j l rfl hi hc
  obtain ⟨_, _, hle⟩ := D.le hin hi (Wk.go l' Wk.nil q2)
  obtain ⟨b1, b2⟩ := sumB_bound (M := M) l' (fun x hx => hM x (Ch.mem l' q2 x hx))
  have hlen : (l'.length : Int) ≤ 5 := by omega
  have hm : M * (l'.length : Int) ≤ M * 5 := Int.mul_le_mul_of_nonneg_left hlen hM0
  rw [Int.zero_add] at hle
  omega
/- the windows, told without wrapping -/
theorem lowG_is {D : Tab} {p : Nat} {ts : List Int} {B C : Int} (hB : 0 ≤ B ∧ B ≤ 10000) (hC : 0 ≤ C ∧ C ≤ 10000) (ht : ∀ t ∈ ts, -C ≤ t ∧ t ≤ C) : ∀ k, k ≤ ts.length → (∀ a, a < k → D p a = 100000 ∨ (-B ≤ D p a ∧ D p a ≤ B)) →
    ((lowG false D p ts (-100000) k = -100000 ∧ ∀ a, a < k → D p a = 100000) ∨ ∃ a, a < k ∧ D p a ≠ 100000 ∧ lowG false D p ts (-100000) k = nthI ts a - D p a) ∧ ∀ a, a < k → D p a ≠ 100000 → nthI ts a - D p a ≤ lowG false D p ts (-100000) k
  | 0, _, _ => ⟨Or.inl ⟨rfl, fun a ha => by omega⟩, fun a ha => by omega⟩
  | k + 1, hk, hD => by
    obtain ⟨i1, i2⟩ := lowG_is hB hC ht k (by omega) (fun a ha => hD a (by omega))
    have hx : ts[k]? = some ts[k] := List.getElem?_eq_getElem (by omega)
    have hn : nthI ts k = ts[k] := nthI_of hx
    have hb := ht ts[k] (List.getElem_mem _)
    by_cases e : D p k = 100000
    · rw [lowG_still hn (by simp [still, e])]
      refine ⟨?_, fun a ha hne => ?_⟩
      · rcases i1 with ⟨h1, h2⟩ | ⟨a, ha, h2, h3⟩
        · refine Or.inl ⟨h1, fun a ha => ?_⟩
          by_cases ea : a = k
          · rw [ea]; exact e
          · exact h2 a (by omega)
        · exact Or.inr ⟨a, by omega, h2, h3⟩
      · by_cases ea : a = k
        · rw [ea] at hne; exact absurd e hne
        · exact i2 a (by omega) hne
    · have hd := hD k (by omega)
      rw [lowG_step hn (by simp [still, e]), IntWalk.wrap64_in _ (by omega)]
      have g := lowG_ge (sk := false) (T := D) (p := p) (ts := ts) (a := -100000) k
      generalize lowG false D p ts (-100000) k = L at *
      unfold mx
      refine ⟨?_, fun a ha hne => ?_⟩
      · split
        · exact Or.inr ⟨k, by omega, e, by rw [hn]⟩
        · rcases i1 with ⟨h1, h2⟩ | ⟨a, ha, h2, h3⟩
          · exfalso; omega
          · exact Or.inr ⟨a, by omega, h2, h3⟩
      · by_cases ea : a = k
        · subst ea; rw [hn]; split <;> omega
        · have := i2 a (by omega) hne
          split <;> omega
theorem highG_is {D : Tab} {p : Nat} {ts : List Int} {B C : Int} (hB : 0 ≤ B ∧ B ≤ 10000) (hC : 0 ≤ C ∧ C ≤ 10000) (ht : ∀ t ∈ ts, -C ≤ t ∧ t ≤ C) : ∀ k, k ≤ ts.length → (∀ a, a < k → D a p = 100000 ∨ (-B ≤ D a p ∧ D a p ≤ B)) →
    ((highG false D p ts k = 100000 ∧ ∀ a, a < k → D a p = 100000) ∨ ∃ a, a < k ∧ D a p ≠ 100000 ∧ highG false D p ts k = nthI ts a + D a p) ∧ ∀ a, a < k → D a p ≠ 100000 → highG false D p ts k ≤ nthI ts a + D a p
  | 0, _, _ => ⟨Or.inl ⟨rfl, fun a ha => by omega⟩, fun a ha => by omega⟩
  | k + 1, hk, hD => by
    obtain ⟨i1, i2⟩ := highG_is hB hC ht k (by omega) (fun a ha => hD a (by omega))
    have hx : ts[k]? = some ts[k] := List.getElem?_eq_getElem (by omega)
    have hn : nthI ts k = ts[k] := nthI_of hx
    have hb := ht ts[k] (List.getElem_mem _)
    by_cases e : D k p = 100000
    · rw [highG_still hn (by simp [still, e])]
      refine ⟨?_, fun a ha hne => ?_⟩
      · rcases i1 with ⟨h1, h2⟩ | ⟨a, ha, h2, h3⟩
        · refine Or.inl ⟨h1, fun a ha => ?_⟩
          by_cases ea : a = k
          · rw [ea]; exact e
          · exact h2 a (by omega)
        · exact Or.inr ⟨a, by omega, h2, h3⟩
      · by_cases ea : a = k
        · rw [ea] at hne; exact absurd e hne
        · exact i2 a (by omega) hne
    · have hd := hD k (by omega)
      rw [highG_step hn (by simp [still, e]), IntWalk.wrap64_in _ (by omega)]
      have g := highG_le (sk := false) (T := D) (p := p) (ts := ts) k
      generalize highG false D p ts k = L at *
      unfold mn
      refine ⟨?_, fun a ha hne => ?_⟩
      · split
        · exact Or.inr ⟨k, by omega, e, by rw [hn]⟩
        · rcases i1 with ⟨h1, h2⟩ | ⟨a, ha, h2, h3⟩
          · exfalso; omega
          · exact Or.inr ⟨a, by omega, h2, h3⟩
      · by_cases ea : a = k
        · subst ea; rw [hn]; split <;> omega
        · have := i2 a (by omega) hne
          split <;> omega
theorem nth_snoc_lt {ts : List Int} {y : Int} {i : Nat} (h : i < ts.length) : nth (ts ++ [y]) i = nth ts i := by
  unfold nth; rw [List.getD_eq_getElem?_getD, List.getD_eq_getElem?_getD, List.getElem?_append_left h]
theorem nth_snoc_eq (ts : List Int) (y : Int) : nth (ts ++ [y]) ts.length = y := by
  unfold nth; rw [List.getD_eq_getElem?_getD, List.getElem?_append_right (Nat.le_refl _)]; simp
/-- The next point's time keeps what follows, too. -/
theorem next_prs {N : Nat} {bs : List Bd} {D : Tab} (h : Dist N bs D) {B C : Int} (hB : 0 ≤ B ∧ B ≤ 10000) (hC : 0 ≤ C ∧ C ≤ 10000) (hD : ∀ i j, i < N → j < N → D i j = 100000 ∨ (-B ≤ D i j ∧ D i j ≤ B)) {ts : List Int} (hl : ts.length < N) (ht : ∀ t ∈ ts, -C ≤ t ∧ t ≤ C) (hp : prs ts D = true) :
    prs (ts ++ [nextV D ts]) D = true ∧ -(C + B) ≤ nextV D ts ∧ nextV D ts ≤ C + B := by
  rw [prs_iff] at hp
  have hn : ∀ a, a < ts.length → -C ≤ nth ts a ∧ nth ts a ≤ C := fun a ha => nth_mem ht ha
  have enth : ∀ a, nthI ts a = nth ts a := fun _ => rfl
  obtain ⟨L1, L2⟩ := lowG_is (D := D) (p := ts.length) hB hC ht ts.length (Nat.le_refl _) (fun a ha => hD _ a hl (by omega))
  obtain ⟨H1, H2⟩ := highG_is (D := D) (p := ts.length) hB hC ht ts.length (Nat.le_refl _) (fun a ha => hD a _ (by omega) hl)
  have key : ((∀ j, j < ts.length → nextV D ts - nth ts j ≤ D j ts.length) ∧ ∀ j, j < ts.length → nth ts j - nextV D ts ≤ D ts.length j) ∧ -(C + B) ≤ nextV D ts ∧ nextV D ts ≤ C + B := by
    unfold nextV
    generalize hlo : lowG false D ts.length ts (-100000) ts.length = lo at *
    generalize hhi : highG false D ts.length ts ts.length = hi at *
    rcases L1 with ⟨e1, e2⟩ | ⟨a, ha, e2, e3⟩
    · rw [if_neg (by omega)]
      rcases H1 with ⟨g1, g2⟩ | ⟨b, hb, g2, g3⟩
      · rw [if_neg (by omega)]
        refine ⟨⟨fun j hj => ?_, fun j hj => ?_⟩, by omega, by omega⟩
        · rw [g2 j hj]; have := hn j hj; omega
        · rw [e2 j hj]; have := hn j hj; omega
      · have hbn := hn b hb
        have hbd := hD b ts.length (by omega) hl
        rw [enth] at g3
        rw [if_pos (by omega)]
        refine ⟨⟨fun j hj => ?_, fun j hj => ?_⟩, by omega, by omega⟩
        · have hj2 := hn j hj
          by_cases ej : D j ts.length = 100000
          · rw [ej]; omega
          · have := H2 j hj ej; rw [enth] at this; omega
        · rw [e2 j hj]; have := hn j hj; omega
    · have han := hn a ha
      have had := hD ts.length a hl (by omega)
      rw [enth] at e3
      rw [if_pos (by omega)]
      refine ⟨⟨fun j hj => ?_, fun j hj => ?_⟩, by omega, by omega⟩
      · have hj2 := hn j hj
        by_cases ej : D j ts.length = 100000
        · rw [ej]; omega
        · have t := h.tri ts.length j a hl (by omega) (by omega) ej e2
          have q := hp j hj a ha
          omega
      · have hj2 := hn j hj
        by_cases ej : D ts.length j = 100000
        · rw [ej]; omega
        · have := L2 j hj ej; rw [enth] at this; omega
  refine ⟨?_, key.2⟩
  rw [prs_iff]
  intro i hi j hj
  rw [List.length_append, List.length_singleton] at hi hj
  by_cases ei : i = ts.length <;> by_cases ej : j = ts.length
  · subst ei; rw [ej, Int.sub_self]; have := h.zero ts.length hl; omega
  · subst ei; rw [nth_snoc_eq, nth_snoc_lt (by omega)]; exact key.1.2 j (by omega)
  · subst ej; rw [nth_snoc_eq, nth_snoc_lt (by omega)]; exact key.1.1 i (by omega)
  · rw [nth_snoc_lt (by omega), nth_snoc_lt (by omega)]; exact hp i (by omega) j (by omega)
/-- All further points' times. -/
theorem ext_prs {N : Nat} {bs : List Bd} {D : Tab} (h : Dist N bs D) {B : Int} (hB : 0 ≤ B ∧ B ≤ 1000) (hD : ∀ i j, i < N → j < N → D i j = 100000 ∨ (-B ≤ D i j ∧ D i j ≤ B)) {ts : List Int} (ht : ∀ t ∈ ts, -99 ≤ t ∧ t ≤ 99) (hp : prs ts D = true) (hN : N ≤ 6) : ∀ d : Nat, ts.length + d ≤ N → prs (extT D ts d) D = true ∧ ∀ t ∈ extT D ts d, -(99 + B * d) ≤ t ∧ t ≤ 99 + B * d
  | 0, _ => ⟨hp, fun t htt => by have := ht t htt; simp; omega⟩
  | d + 1, hd => by
    obtain ⟨i1, i2⟩ := ext_prs h hB hD ht hp hN d (by omega)
    have hBd : 0 ≤ B * (d : Int) ∧ B * (d : Int) ≤ 6000 := by
      have h6 : (d : Int) ≤ 6 := by omega
      have m1 : B * (d : Int) ≤ B * 6 := Int.mul_le_mul_of_nonneg_left h6 hB.1
      exact ⟨Int.mul_nonneg hB.1 (by omega), by omega⟩
    have e2 : B * ((d + 1 : Nat) : Int) = B * d + B := by push_cast; rw [Int.mul_add, Int.mul_one]
    obtain ⟨n1, n2, n3⟩ := next_prs h (B := B) (C := 99 + B * d) ⟨hB.1, by omega⟩ ⟨by omega, by omega⟩ hD (ts := extT D ts d) (by rw [extT_len]; omega) i2 i1
    refine ⟨n1, fun t htt => ?_⟩
    have htt' : t ∈ extT D ts d ++ [nextV D (extT D ts d)] := htt
    rw [e2]
    rcases List.mem_append.1 htt' with q | q
    · have := i2 t q; omega
    · simp at q; subst q; omega
theorem extT_take (D : Tab) (ts : List Int) : ∀ d, (extT D ts d).take ts.length = ts
  | 0 => by show ts.take ts.length = ts; exact List.take_length
  | d + 1 => by
    show (extT D ts d ++ [nextV D (extT D ts d)]).take ts.length = ts
    rw [List.take_append_of_le_length (by rw [extT_len]; omega)]
    exact extT_take D ts d
theorem startB_of {n : Int} {bs : List Bd} {ts : List Int} (h : startB n bs ts = true) : fitsOk n bs = true ∧ (ts.length : Int) ≤ n ∧ (∀ t ∈ ts, -99 ≤ t ∧ t ≤ 99) ∧ prs ts (closedT n bs) = true := by
  simp only [startB, Bool.and_eq_true, decide_eq_true_eq, allB_iff] at h
  exact ⟨h.1.1.1, h.1.1.2, h.1.2, h.2⟩
theorem startB_mk {n : Int} {bs : List Bd} {ts : List Int} (h1 : fitsOk n bs = true) (h2 : (ts.length : Int) ≤ n) (h3 : ∀ t ∈ ts, -99 ≤ t ∧ t ≤ 99) (h4 : prs ts (closedT n bs) = true) : startB n bs ts = true := by
  simp only [startB, Bool.and_eq_true, decide_eq_true_eq, allB_iff]
  exact ⟨⟨⟨h1, h2⟩, h3⟩, h4⟩
/-- Times that keep what follows keep the bounds. -/
theorem prs_keeps {N : Nat} {bs : List Bd} (hfit : fitsOk N bs = true) {ts : List Int} (hl : ts.length = N) (ht : ∀ t ∈ ts, -2000 ≤ t ∧ t ≤ 2000) (hp : prs ts (closedT N bs) = true) : keepsOk N bs ts = true := by
  have D := dist_of hfit
  rw [prs_iff] at hp
  refine keepsOk_mk (timesOk_mk (fit_plan hfit) (by omega) ht) (fun x hx => ?_)
  have hx' := hin_of hfit x hx
  have h1 := D.edge x hx
  have h2 := hp x.f.toNat (by omega) x.t.toNat (by omega)
  unfold nth at h2
  omega
/-- One never gets stuck. -/
theorem ended_law {n : Int} {bs : List Bd} {ts : List Int} {M : Int} (hs : startB n bs ts = true) (hM0 : 0 ≤ M) (hM2 : M ≤ 63) (hM : ∀ x ∈ bs, -M ≤ x.m ∧ x.m ≤ M) : ((endedL n bs ts).length : Int) = n ∧ (endedL n bs ts).take ts.length = ts ∧ keepsOk n bs (endedL n bs ts) = true ∧ prs (endedL n bs ts) (closedT n bs) = true := by
  obtain ⟨hfit, hl, ht, hp⟩ := startB_of hs
  obtain ⟨N, rfl⟩ := Int.eq_ofNat_of_zero_le (show 0 ≤ n by have := planOk_of (fits_plan hfit); omega)
  obtain ⟨h1, h6, _, _⟩ := planOk_of (fits_plan hfit)
  have e : endedL N bs ts = extT (closedT N bs) ts (N - ts.length) := by simp [endedL, hs]
  have D := dist_of hfit
  obtain ⟨p1, p2⟩ := ext_prs D (B := M * 5) ⟨by omega, by omega⟩ (fun i j hi hj => by
    by_cases hne : closedT N bs i j = 100000
    · exact Or.inl hne
    · exact Or.inr (dist_short hfit hM0 hM hi hj hne)) ht hp (by omega) (N - ts.length) (by omega)
  have hlen : (extT (closedT N bs) ts (N - ts.length)).length = N := by rw [extT_len]; omega
  have hb : M * 5 * ((N - ts.length : Nat) : Int) ≤ M * 5 * 6 := Int.mul_le_mul_of_nonneg_left (by omega) (by omega)
  rw [e]
  refine ⟨by rw [hlen], extT_take _ _ _, prs_keeps hfit hlen (fun t htt => ?_) p1, p1⟩
  have := p2 t htt
  omega
theorem Wk.keeps {bs : List Bd} {ts : List Int} (hk : ∀ x ∈ bs, nth ts x.t.toNat - nth ts x.f.toNat ≤ x.m) {i j : Nat} {s : Int} (w : Wk bs i j s) : nth ts j - nth ts i ≤ s := by
  induction w with
  | nil => omega
  | @snoc u s x _ hx hf ih => have := hk x hx; rw [hf] at this; omega
/-- For all points a beginning is just times that keep the plan. -/
theorem start_all {N : Nat} {bs : List Bd} (hfit : fitsOk N bs = true) {ts : List Int} (hl : ts.length = N) (ht : ∀ t ∈ ts, -99 ≤ t ∧ t ≤ 99) : startB N bs ts = keepsOk N bs ts := by
  rw [Bool.eq_iff_iff]
  constructor
  · intro h
    exact prs_keeps hfit hl (fun t q => by have := ht t q; omega) (startB_of h).2.2.2
  · intro h
    refine startB_mk hfit (by omega) ht ?_
    have D := dist_of hfit
    rw [prs_iff]
    intro i hi j hj
    by_cases e : closedT N bs i j = 100000
    · rw [e]
      have a := nth_mem ht hi
      have b := nth_mem ht hj
      omega
    · exact Wk.keeps (fun x hx => (keepsOk_of h).2 x hx) (D.walk i j (by omega) (by omega) e)
theorem prs_take {ts : List Int} {D : Tab} (h : prs ts D = true) (k : Nat) : prs (ts.take k) D = true := by
  rw [prs_iff] at h ⊢
  intro i hi j hj
  rw [List.length_take] at hi hj
  have e : ∀ a, a < k → nth (ts.take k) a = nth ts a := fun a ha => by
    unfold nth; rw [List.getD_eq_getElem?_getD, List.getD_eq_getElem?_getD, List.getElem?_take_of_lt ha]
  rw [e _ (by omega), e _ (by omega)]
  exact h i (by omega) j (by omega)
theorem startB_take {n : Int} {bs : List Bd} {ts : List Int} (h : startB n bs ts = true) (k : Nat) : startB n bs (ts.take k) = true := by
  obtain ⟨h1, h2, h3, h4⟩ := startB_of h
  exact startB_mk h1 (by rw [List.length_take]; omega) (fun t ht => h3 t (List.mem_of_mem_take ht)) (prs_take h4 k)
theorem startB_nil (n : Int) (bs : List Bd) : startB n bs [] = fitsOk n bs := by
  cases hf : fitsOk n bs
  · exact startB_no (Or.inl hf)
  · have := planOk_of (fits_plan hf)
    refine startB_mk hf (by simp; omega) (fun t ht => by simp at ht) ?_
    simp [prs]
end Go.Proofs.Ytnompncmachgjaa
