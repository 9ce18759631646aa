/- Plain laws of LeastOf, MayBeOk, FromPoint, ClosedOf, TightOk, AlikeOk, EarliestOf. No program in sight. -/
import Derived.Test.YtnompncmachgjaaPlainL2
import Derived.Test.YtnompncmachgjaaImplies
import Derived.Test.YtnompncmachgjaaKF
import Derived.Test.YtnompncmachgjaaRowFrom
import Derived.Test.YtnompncmachgjaaKH
import Derived.Test.YtnompncmachgjaaFromPt
namespace Go.Proofs.Ytnompncmachgjaa
open Go.RowKit
set_option linter.unusedVariables false
set_option maxRecDepth 10000
set_option linter.unusedSimpArgs false

theorem fit_nat {n : Int} {bs : List Bd} (h : fitsOk n bs = true) : ∃ N : Nat, n = N ∧ 1 ≤ N ∧ N ≤ 6 := by
  obtain ⟨h1, h6, _, _⟩ := planOk_of (fits_plan h)
  exact ⟨n.toNat, by omega, by omega, by omega⟩
theorem mostB_of {n : Int} {bs : List Bd} {f t : Int} (h : mostB n bs f t = true) : fitsOk n bs = true ∧ 0 ≤ f ∧ f < n ∧ 0 ≤ t ∧ t < n ∧ closedT n bs f.toNat t.toNat ≠ 100000 ∧ mostV n bs f t = closedT n bs f.toNat t.toNat := by
  have h' := h
  simp only [mostB, Bool.and_eq_true, decide_eq_true_eq, inB_iff] at h'
  obtain ⟨⟨⟨h1, h2⟩, h3⟩, h4⟩ := h'
  exact ⟨h1, by omega, by omega, by omega, by omega, h4, by simp [mostV, h]⟩
theorem mostB_mk {n : Int} {bs : List Bd} {f t : Int} (h1 : fitsOk n bs = true) (h2 : 0 ≤ f) (h3 : f < n) (h4 : 0 ≤ t) (h5 : t < n) (h6 : closedT n bs f.toNat t.toNat ≠ 100000) : mostB n bs f t = true := by
  simp only [mostB, Bool.and_eq_true, decide_eq_true_eq, inB_iff]
  exact ⟨⟨⟨h1, by omega, by omega⟩, by omega, by omega⟩, h6⟩
theorem plan99 {n : Int} {bs : List Bd} (h : fitsOk n bs = true) : ∀ x ∈ bs, -99 ≤ x.m ∧ x.m ≤ 99 := by
  obtain ⟨_, _, _, hin⟩ := planOk_of (fits_plan h)
  intro x hx
  have := hin x hx
  omega
theorem mostV_bound {n : Int} {bs : List Bd} {f t : Int} (h : mostB n bs f t = true) : -495 ≤ mostV n bs f t ∧ mostV n bs f t ≤ 495 := by
  obtain ⟨h1, h2, h3, h4, h5, h6, h7⟩ := mostB_of h
  obtain ⟨N, rfl, _, _⟩ := fit_nat h1
  have := dist_short (M := 99) h1 (by omega) (plan99 h1) (i := f.toNat) (j := t.toNat) (by omega) (by omega) h6
  rw [h7]; omega
/-- The least is at most the most. -/
theorem least_law {n : Int} {bs : List Bd} {f t : Int} (h : mostB n bs t f = true) (h' : mostB n bs f t = true) : -(mostV n bs t f) ≤ mostV n bs f t := by
  obtain ⟨h1, h2, h3, h4, h5, h6, h7⟩ := mostB_of h
  obtain ⟨_, _, _, _, _, g6, g7⟩ := mostB_of h'
  obtain ⟨N, rfl, _, _⟩ := fit_nat h1
  have D := dist_of h1
  have t1 := D.tri t.toNat f.toNat f.toNat (by omega) (by omega) (by omega) g6 h6
  have z := D.zero f.toNat (by omega)
  have h7' : mostV N bs t f = closedT N bs t.toNat f.toNat := h7
  have g7' : mostV N bs f t = closedT N bs f.toNat t.toNat := g7
  omega
theorem most_self {n : Int} {bs : List Bd} {f : Int} (h1 : fitsOk n bs = true) (h2 : 0 ≤ f) (h3 : f < n) : mostB n bs f f = true ∧ mostV n bs f f = 0 := by
  obtain ⟨N, rfl, _, _⟩ := fit_nat h1
  have D := dist_of h1
  have z : closedT N bs f.toNat f.toNat = 0 := D.zero f.toNat (by omega)
  have hb : mostB N bs f f = true := mostB_mk h1 h2 h3 h2 h3 (by rw [z]; omega)
  exact ⟨hb, by rw [(mostB_of hb).2.2.2.2.2.2]; exact z⟩
/- MayBeOk -/
theorem mayB_of {n : Int} {bs : List Bd} {f t b : Int} (h : mayB n bs f t b = true) : fitsOk n bs = true ∧ 0 ≤ f ∧ f < n ∧ 0 ≤ t ∧ t < n ∧ -2000 ≤ b ∧ b ≤ 2000 ∧ betw (closedT n bs) f.toNat t.toNat b = true := by
  simp only [mayB, Bool.and_eq_true, inB_iff] at h
  obtain ⟨⟨⟨⟨h1, h2⟩, h3⟩, h4⟩, h5⟩ := h
  exact ⟨h1, by omega, by omega, by omega, by omega, by omega, by omega, h5⟩
theorem mayB_mk {n : Int} {bs : List Bd} {f t b : Int} (h1 : fitsOk n bs = true) (h2 : 0 ≤ f) (h3 : f < n) (h4 : 0 ≤ t) (h5 : t < n) (h6 : -2000 ≤ b) (h7 : b ≤ 2000) (h8 : betw (closedT n bs) f.toNat t.toNat b = true) : mayB n bs f t b = true := by
  simp only [mayB, Bool.and_eq_true, inB_iff]
  exact ⟨⟨⟨⟨h1, by omega, by omega⟩, by omega, by omega⟩, h6, h7⟩, h8⟩
theorem betw_of {N : Nat} {bs : List Bd} (h1 : fitsOk N bs = true) {i j : Nat} (hi : i < N) (hj : j < N) {b : Int} : betw (closedT N bs) i j b = true ↔ (closedT N bs i j = 100000 ∨ b ≤ closedT N bs i j) ∧ (closedT N bs j i = 100000 ∨ -(closedT N bs j i) ≤ b) := by
  have b2 := closed_bound h1 j i hj hi
  unfold betw
  rw [IntWalk.wrap64_in _ (by omega)]
  simp only [Bool.and_eq_true, Bool.or_eq_true, decide_eq_true_eq]
theorem mayB_turn {n : Int} {bs : List Bd} {f t b : Int} : mayB n bs t f (-b) = mayB n bs f t b := by
  have half : ∀ {f t b : Int}, mayB n bs f t b = true → mayB n bs t f (-b) = true := by
    intro f t b h
    obtain ⟨h1, h2, h3, h4, h5, h6, h7, h8⟩ := mayB_of h
    obtain ⟨N, rfl, _, _⟩ := fit_nat h1
    have b1 := (betw_of h1 (by omega) (by omega)).1 h8
    refine mayB_mk h1 h4 h5 h2 h3 (by omega) (by omega) ((betw_of h1 (by omega) (by omega)).2 ⟨?_, ?_⟩)
    · rcases b1.2 with e | e
      · exact Or.inl e
      · exact Or.inr (by omega)
    · rcases b1.1 with e | e
      · exact Or.inl e
      · exact Or.inr (by omega)
  rw [Bool.eq_iff_iff]
  refine ⟨fun h => ?_, half⟩
  have := half h
  rwa [Int.neg_neg] at this
theorem mayB_between {n : Int} {bs : List Bd} {f t b k : Int} (h : mayB n bs f t b = true) (hm : mostB n bs f t = true) (hb : b ≤ k) (hk : k ≤ mostV n bs f t) : mayB n bs f t k = true := by
  obtain ⟨h1, h2, h3, h4, h5, h6, h7, h8⟩ := mayB_of h
  have hv := mostV_bound hm
  have hv2 := (mostB_of hm).2.2.2.2.2.2
  obtain ⟨N, rfl, _, _⟩ := fit_nat h1
  have b1 := (betw_of h1 (by omega) (by omega)).1 h8
  refine mayB_mk h1 h2 h3 h4 h5 (by omega) (by omega) ((betw_of h1 (by omega) (by omega)).2 ⟨Or.inr (by omega), ?_⟩)
  rcases b1.2 with e | e
  · exact Or.inl e
  · exact Or.inr (by omega)
/- FromPoint -/
theorem rowTo_nth (T : Tab) (i N j : Nat) (hj : j < N) : (rowTo T i N).getD j 0 = T i j := by
  unfold rowTo
  rw [List.getD_eq_getElem?_getD, List.getElem?_map, List.getElem?_range hj]; rfl

theorem fromB_of {n : Int} {bs : List Bd} {f : Int} (h : fromB n bs f = true) : fitsOk n bs = true ∧ 0 ≤ f ∧ f < n ∧ fromL n bs f = rowTo (closedT n bs) f.toNat n.toNat := by
  have h' := h
  simp only [fromB, Bool.and_eq_true, inB_iff] at h'
  exact ⟨h'.1, by omega, by omega, by simp [fromL, h]⟩
theorem from_law {n : Int} {bs : List Bd} {f : Int} (h : fromB n bs f = true) : closedT n bs f.toNat f.toNat = 0 ∧ ∀ x ∈ bs, closedT n bs f.toNat x.f.toNat < 100000 → -6336 ≤ closedT n bs f.toNat x.f.toNat ∧ closedT n bs f.toNat x.f.toNat ≤ 6336 ∧ closedT n bs f.toNat x.t.toNat ≤ closedT n bs f.toNat x.f.toNat + x.m := by
  obtain ⟨h1, h2, h3, _⟩ := fromB_of h
  obtain ⟨N, rfl, _, _⟩ := fit_nat h1
  have D := dist_of h1
  refine ⟨D.zero _ (by omega), fun x hx hlt => ?_⟩
  have hx' := hin_of h1 x hx
  have e := D.edge x hx
  have t := D.tri x.f.toNat f.toNat x.t.toNat hx'.1 (by omega) hx'.2.1 (by omega) (by omega)
  have b := D.fin f.toNat x.f.toNat (by omega) hx'.1
  omega
/- ClosedOf -/
theorem closed_le_ent {N : Nat} {bs : List Bd} (h1 : fitsOk N bs = true) {i j : Nat} (hi : i < N) (hj : j < N) : closedT N bs i j ≤ ent bs i j := by
  have D := dist_of h1
  have hin := planOk_of (fit_plan h1)
  rcases ent_or i j bs (tab0 i j) with h | ⟨x, hx, hf, ht, h⟩
  · have e : ent bs i j = tab0 i j := h
    rw [e]
    by_cases c : i = j
    · subst c; have := D.zero i hi; simp [tab0]; omega
    · have := D.fin i j hi hj; simp [tab0, c]; omega
  · have e : ent bs i j = x.m := h
    have := D.edge x hx
    rw [e]
    have a1 : x.f.toNat = i := by omega
    have a2 : x.t.toNat = j := by omega
    rw [a1, a2] at this; exact this
theorem closed_law {N : Nat} {bs : List Bd} (h1 : fitsOk N bs = true) {i j k : Nat} (hi : i < N) (hj : j < N) (hk : k < N) (a : closedT N bs i k < 100000) (b : closedT N bs k j < 100000) : closedT N bs i j ≤ closedT N bs i k + closedT N bs k j := (dist_of h1).tri k i j hk hi hj (by omega) (by omega)
theorem closed_zero {N : Nat} {bs : List Bd} (h1 : fitsOk N bs = true) {i : Nat} (hi : i < N) : closedT N bs i i = 0 := (dist_of h1).zero i hi
/- fitting, by closed rows -/
theorem fits_of {N : Nat} {bs : List Bd} (hp : planOk N bs = true) (h : ∀ (i : Nat) (l : List Bd), i < N → Ch bs i l i → 0 ≤ sumB l) : fitsOk N bs = true := by
  cases hf : fitsOk N bs with
  | true => rfl
  | false =>
    obtain ⟨i, l, l1, lN, hc, hs⟩ := unfit_bad hp hf
    obtain ⟨_, _, _, hin⟩ := planOk_of hp
    have hi : i < N := by
      cases l with
      | nil => simp at l1
      | cons x l =>
        obtain ⟨hx, hf, _⟩ := hc
        have := hin x hx
        omega
    have := h i l hi hc
    omega
theorem Ch.mono {bs cs : List Bd} (hs : ∀ x ∈ bs, x ∈ cs) : ∀ (l : List Bd) {i j : Nat}, Ch bs i l j → Ch cs i l j
  | [], _, _, h => h
  | x :: l, _, _, ⟨h1, h2, h3⟩ => ⟨hs x h1, h2, Ch.mono hs l h3⟩
theorem Ch.into {bs cs : List Bd} : ∀ (l : List Bd) {i j : Nat}, Ch bs i l j → (∀ x ∈ l, x ∈ cs) → Ch cs i l j
  | [], _, _, h, _ => h
  | x :: l, _, _, ⟨h1, h2, h3⟩, hm => ⟨hm x List.mem_cons_self, h2, Ch.into l h3 (fun y hy => hm y (List.mem_cons_of_mem _ hy))⟩
/- TightOk -/
def without (bs : List Bd) (a : Nat) : List Bd := bs.take a ++ bs.drop (a + 1)
theorem without_mem {bs : List Bd} {a : Nat} {x y : Bd} (hx : bs[a]? = some x) : (y ∈ without bs a → y ∈ bs) ∧ (y ∈ bs → y ∈ without bs a ∨ y = x) := by
  obtain ⟨hl, hv⟩ := List.getElem?_eq_some_iff.1 hx
  have e : bs = bs.take a ++ x :: bs.drop (a + 1) := by
    have := (List.take_append_drop a bs).symm
    rwa [List.drop_eq_getElem_cons hl, hv] at this
  unfold without
  constructor
  · intro h
    rcases List.mem_append.1 h with h | h
    · exact List.mem_of_mem_take h
    · exact List.mem_of_mem_drop h
  · intro h
    rw [e] at h
    rcases List.mem_append.1 h with h | h
    · exact Or.inl (List.mem_append.2 (Or.inl h))
    · rcases List.mem_cons.1 h with h | h
      · exact Or.inr h
      · exact Or.inl (List.mem_append.2 (Or.inr h))
theorem without_len {bs : List Bd} {a : Nat} (h : a < bs.length) : (without bs a).length = bs.length - 1 := by
  unfold without; rw [List.length_append, List.length_take, List.length_drop]; omega
theorem without_fits {N : Nat} {bs : List Bd} {a : Nat} (h1 : fitsOk N bs = true) (ha : a < bs.length) : fitsOk N (without bs a) = true := by
  have hx : bs[a]? = some bs[a] := List.getElem?_eq_getElem ha
  refine fits_of (planOk_sub (fit_plan h1) (by rw [without_len ha]; omega) (fun y hy => (without_mem hx).1 hy)) (fun i l hi hc => ?_)
  exact fit_good h1 hi (Ch.mono (fun y hy => (without_mem hx).1 hy) l hc)
theorem sub_le {N : Nat} {bs cs : List Bd} (h1 : fitsOk N bs = true) (h2 : fitsOk N cs = true) (hed : ∀ x ∈ cs, closedT N bs x.f.toNat x.t.toNat ≤ x.m) {i j : Nat} (hi : i < N) (hj : j < N) : closedT N bs i j ≤ closedT N cs i j := by
  have D := dist_of h1
  have E := dist_of h2
  by_cases e : closedT N cs i j = 100000
  · have := D.fin i j hi hj; omega
  · exact (D.le_of (hin_of h2) hed hi (E.walk i j hi hj e)).2.2
theorem tight_law {N : Nat} {bs : List Bd} {a : Nat} (h1 : fitsOk N bs = true) (ha : a < bs.length) (ht : tightOk N bs a = false) {i j : Nat} (hi : i < N) (hj : j < N) : closedT N (without bs a) i j = closedT N bs i j := by
  have hx : bs[a]? = some bs[a] := List.getElem?_eq_getElem ha
  have h2 := without_fits h1 ha
  have D := dist_of h1
  have E := dist_of h2
  generalize hbx : bs[a] = x at hx
  have hxm : x ∈ bs := List.mem_of_getElem? hx
  have hne : closedT N bs x.f.toNat x.t.toNat ≠ x.m := by
    intro e
    have : tightOk N bs a = true := by
      simp only [tightOk, Bool.and_eq_true, inB_iff, h1, true_and, Int.toNat_natCast, hx, decide_eq_true_eq]
      exact ⟨by omega, e⟩
    rw [ht] at this; cases this
  have hxe := D.edge x hxm
  have hxin := hin_of h1 x hxm
  have key : ∀ y ∈ bs, closedT N (without bs a) y.f.toNat y.t.toNat ≤ y.m := by
    intro y hy
    rcases (without_mem hx).2 hy with hy' | rfl
    · exact E.edge y hy'
    · obtain ⟨l, hc, hs⟩ := (D.walk y.f.toNat y.t.toNat hxin.1 hxin.2.1 (by omega)).ch
      by_cases hm : ∀ z ∈ l, z ∈ without bs a
      · have hc' := Ch.into l hc hm
        have := (E.le (hin_of h2) hxin.1 (Wk.go l Wk.nil hc')).2.2
        omega
      · exfalso
        apply hm
        intro z hz
        rcases (without_mem hx).2 (Ch.mem l hc z hz) with h | h
        · exact h
        · exfalso
          subst h
          obtain ⟨p, q, e⟩ := List.append_of_mem hz
          rw [e] at hc hs
          obtain ⟨u, c1, c2⟩ := Ch.split p hc
          obtain ⟨_, hu, c3⟩ := c2
          have g1 := fit_good h1 hxin.1 (show Ch bs z.f.toNat p z.f.toNat by rw [← hu] at c1; exact c1)
          have g2 := fit_good h1 hxin.2.1 c3
          rw [sumB_append] at hs
          have : sumB (z :: q) = z.m + sumB q := rfl
          omega
  have le1 : closedT N (without bs a) i j ≤ closedT N bs i j := sub_le h2 h1 key hi hj
  have le2 : closedT N bs i j ≤ closedT N (without bs a) i j := sub_le h1 h2 (fun y hy => D.edge y ((without_mem hx).1 hy)) hi hj
  omega
/- AlikeOk -/
def sameT (N : Nat) (S T : Tab) : Bool := (List.range N).all fun i => (List.range N).all fun j => decide (S i j = T i j)
theorem sameT_iff (N : Nat) (S T : Tab) : sameT N S T = true ↔ ∀ i, i < N → ∀ j, j < N → S i j = T i j := by simp [sameT]
theorem ent_edge {N : Nat} {cs : List Bd} {D : Tab} (hc : planOk N cs = true) (h : ∀ i, i < N → ∀ j, j < N → D i j ≤ ent cs i j) : ∀ x ∈ cs, D x.f.toNat x.t.toNat ≤ x.m := by
  obtain ⟨_, _, _, hin⟩ := planOk_of hc
  intro x hx
  have hx' := hin x hx
  exact Int.le_trans (h _ (by omega) _ (by omega)) (ent_mem _ _ cs _ x hx (by omega) (by omega))
theorem alike_law {n : Int} {bs cs : List Bd} (hp : planOk n bs = true) (hq : planOk n cs = true) : (impliesOk n n bs cs && impliesOk n n cs bs) = ((fitsOk n bs && fitsOk n cs && sameT n.toNat (closedT n bs) (closedT n cs)) || (!fitsOk n bs && !fitsOk n cs)) := by
  obtain ⟨h1, h6, _, hin⟩ := planOk_of hp
  obtain ⟨_, _, _, hin'⟩ := planOk_of hq
  obtain ⟨N, rfl⟩ := Int.eq_ofNat_of_zero_le (show 0 ≤ n by omega)
  have one : ∀ {bs cs : List Bd}, planOk N bs = true → planOk N cs = true → fitsOk N bs = true → fitsOk N cs = false → impliesOk N N bs cs = false := by
    intro bs cs hp hq f1 f2
    obtain ⟨_, _, _, hin'⟩ := planOk_of hq
    rw [← Bool.not_eq_true]
    intro h
    simp only [impliesOk, hp, hq, f1, Bool.true_and, Bool.not_true, Bool.false_or, Bool.and_eq_true, leT_iff] at h
    obtain ⟨i, l, l1, _, hc, hs⟩ := unfit_bad hq f2
    have hi : i < N := by
      cases l with
      | nil => simp at l1
      | cons x l =>
        obtain ⟨hx, hf, _⟩ := hc
        have := hin' x hx
        omega
    have D := dist_of f1
    have hle := (D.le_of (fun x hx => by have := hin' x hx; omega) (ent_edge hq h.2) hi (Wk.go l Wk.nil hc)).2.2
    have := D.zero i hi
    omega
  cases f1 : fitsOk N bs <;> cases f2 : fitsOk N cs
  · simp [impliesOk, hp, hq, f1, f2]
  · rw [one hq hp f2 f1]; simp
  · rw [one hp hq f1 f2]; simp
  · simp only [Bool.and_self, Bool.true_and, Bool.not_true, Bool.or_false, Int.toNat_natCast]
    rw [Bool.eq_iff_iff, sameT_iff]
    simp only [impliesOk, hp, hq, f1, f2, Bool.true_and, Bool.not_true, Bool.false_or, Bool.and_eq_true, leT_iff, decide_true, true_and, Int.toNat_natCast]
    constructor
    · rintro ⟨a, b⟩ i hi j hj
      have := sub_le f1 f2 (ent_edge hq a) hi hj
      have := sub_le f2 f1 (ent_edge hp b) hi hj
      omega
    · intro h
      refine ⟨fun i hi j hj => ?_, fun i hi j hj => ?_⟩
      · rw [h i hi j hj]; exact closed_le_ent f2 hi hj
      · rw [← h i hi j hj]; exact closed_le_ent f1 hi hj
/- EarliestOf -/
def earL (n : Int) (bs : List Bd) (f : Int) : List Int := rowL n bs f (earV n bs f) (earB n bs f)
def earOk (n : Int) (bs : List Bd) (f : Int) : Bool := rowB n bs f (earB n bs f)
theorem ear_of {n : Int} {bs : List Bd} {f : Int} (h : earOk n bs f = true) : fitsOk n bs = true ∧ 0 ≤ f ∧ f < n ∧ (∀ k, k < n.toNat → mostB n bs k f = true) ∧ earL n bs f = (List.range n.toNat).map (earV n bs f) := by
  have h' := h
  unfold earOk rowB at h'
  simp only [Bool.and_eq_true, inB_iff, List.all_eq_true, List.mem_range] at h'
  obtain ⟨⟨h1, h2⟩, h3⟩ := h'
  have h4 : rowB n bs f (earB n bs f) = true := h
  exact ⟨h1, by omega, by omega, fun k hk => h3 k hk, by simp [earL, rowL, h4]⟩
theorem ear_at {n : Int} {bs : List Bd} {f : Int} (h : earOk n bs f = true) {k : Nat} (hk : k < n.toNat) : nth (earL n bs f) k = -(closedT n bs k f.toNat) ∧ -495 ≤ closedT n bs k f.toNat ∧ closedT n bs k f.toNat ≤ 495 := by
  obtain ⟨h1, h2, h3, h4, h5⟩ := ear_of h
  have hm := h4 k hk
  have hb := mostV_bound hm
  have hv := (mostB_of hm).2.2.2.2.2.2
  rw [Int.toNat_natCast] at hv
  unfold nth
  rw [h5, List.getD_eq_getElem?_getD, List.getElem?_map, List.getElem?_range hk]
  simp only [Option.map_some, Option.getD_some, earV]
  rw [IntWalk.wrap64_in _ (by omega), hv]
  rw [hv] at hb
  exact ⟨rfl, hb⟩
theorem ear_len {n : Int} {bs : List Bd} {f : Int} (h : earOk n bs f = true) : (earL n bs f).length = n.toNat := by
  rw [(ear_of h).2.2.2.2]; simp
theorem ear_keeps {n : Int} {bs : List Bd} {f : Int} (h : earOk n bs f = true) : keepsOk n bs (earL n bs f) = true ∧ nth (earL n bs f) f.toNat = 0 := by
  obtain ⟨h1, h2, h3, h4, h5⟩ := ear_of h
  have A := fun {k : Nat} (hk : k < n.toNat) => ear_at h hk
  have L := ear_len h
  obtain ⟨N, rfl, _, _⟩ := fit_nat h1
  have D := dist_of h1
  rw [Int.toNat_natCast] at L A
  refine ⟨keepsOk_mk (timesOk_mk (fit_plan h1) (by omega) (fun t ht => ?_)) (fun x hx => ?_), ?_⟩
  · obtain ⟨i, hi, rfl⟩ := List.mem_iff_getElem.1 ht
    have a := A (k := i) (by omega)
    have e : nth (earL N bs f) i = (earL N bs f)[i] := nth_of (List.getElem?_eq_getElem hi)
    omega
  · have hx' := hin_of h1 x hx
    have a1 := A hx'.1
    have a2 := A hx'.2.1
    have e := D.edge x hx
    have t := D.tri x.t.toNat x.f.toNat f.toNat hx'.2.1 hx'.1 (by omega) (by omega) (by omega)
    show nth (earL N bs f) x.t.toNat - nth (earL N bs f) x.f.toNat ≤ x.m
    omega
  · rw [(A (k := f.toNat) (by omega)).1]
    have := D.zero f.toNat (by omega)
    omega
theorem ear_least {n : Int} {bs : List Bd} {f : Int} {ts : List Int} (h : earOk n bs f = true) (hl : (ts.length : Int) = n) (hp : prs ts (closedT n bs) = true) {k : Nat} (hk : k < n.toNat) : nth (earL n bs f) k ≤ nth ts k - nth ts f.toNat := by
  have a := ear_at h hk
  obtain ⟨h1, h2, h3, h4, h5⟩ := ear_of h
  rw [prs_iff] at hp
  have := hp k (by omega) f.toNat (by omega)
  omega
end Go.Proofs.Ytnompncmachgjaa
