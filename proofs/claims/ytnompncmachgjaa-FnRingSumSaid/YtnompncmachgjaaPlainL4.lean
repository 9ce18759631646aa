/- Plain laws of RingSum and BadRing. No program in sight. -/
import Derived.Test.YtnompncmachgjaaPlainL1
import Derived.Test.YtnompncmachgjaaPlainBack
namespace Go.Proofs.Ytnompncmachgjaa
open Go.RowKit
set_option linter.unusedVariables false
set_option maxRecDepth 10000
set_option linter.unusedSimpArgs false

/-- A ring begun one bound later. -/
def turned (ring : List Int) : List Int := ring.drop 1 ++ ring.take 1
theorem turned_length (ring : List Int) : (turned ring).length = ring.length := by
  unfold turned; rw [List.length_append, List.length_drop, List.length_take]; omega
theorem turned_at {ring : List Int} {k : Nat} (h : k < ring.length) : (turned ring).getD k 0 = ring.getD ((k + 1) % ring.length) 0 := by
  cases ring with
  | nil => simp at h
  | cons x r =>
    have e : turned (x :: r) = r ++ [x] := rfl
    rw [e, List.length_cons] at *
    by_cases c : k < r.length
    · rw [Nat.mod_eq_of_lt (by omega), List.getD_eq_getElem?_getD, List.getElem?_append_left c, List.getD_eq_getElem?_getD, List.getElem?_cons_succ]
    · have hk : k = r.length := by omega
      subst hk
      rw [Nat.mod_self, List.getD_eq_getElem?_getD, List.getElem?_append_right (Nat.le_refl _)]; simp
theorem turned_ring {n : Int} {bs : List Bd} {ring : List Int} (h : ringOk n bs ring = true) : ringOk n bs (turned ring) = true := by
  obtain ⟨h1, h2, h3, h4, h5⟩ := ringOk_of h
  have hm : ∀ x ∈ turned ring, 0 ≤ x ∧ x < bs.length := fun x hx => by
    rcases List.mem_append.1 hx with hx | hx
    · exact h4 x (List.mem_of_mem_drop hx)
    · exact h4 x (List.mem_of_mem_take hx)
  have i1 : inB ((turned ring).length) 1 16 = true := (inB_iff _ _ _).2 (by rw [turned_length]; omega)
  have i2 : allB (turned ring) 0 ((bs.length : Int) - 1) = true := (allB_iff _ _ _).2 (fun x hx => by have := hm x hx; omega)
  have i3 : ringChain bs (turned ring) = true := ringChain_good (fun k hk => by
    rw [turned_length] at hk
    have hb := before_lt hk
    obtain ⟨b1, b2⟩ := before_next hk
    unfold linkOk
    rw [turned_length, turned_at hb, turned_at hk, next_before hk]
    have := h5 ((k + 1) % ring.length) b2
    unfold linkOk at this
    rw [b1] at this
    exact this)
  unfold ringOk
  rw [h1, i1, i2, i3]; rfl
theorem sum_append (a b : List Int) : (a ++ b).sum = a.sum + b.sum := by
  induction a with
  | nil => simp
  | cons x a ih => simp only [List.cons_append, List.sum_cons, ih]; omega
theorem turned_sum (bs : List Bd) (ring : List Int) : ringSum bs (turned ring) = ringSum bs ring := by
  unfold ringSum turned
  rw [List.map_append, sum_append]
  conv => rhs; rw [← List.take_append_drop 1 ring, List.map_append, sum_append]
  omega
theorem el_mem {bs : List Bd} {i : Int} (h0 : 0 ≤ i) (h1 : i < bs.length) : el bs i ∈ bs := by
  obtain ⟨a, rfl⟩ := Int.eq_ofNat_of_zero_le h0
  rw [el_nat bs a _ (List.getElem?_eq_getElem (show a < bs.length by omega))]
  exact List.getElem_mem _
/-- Bounds each of which begins where the one before leads. -/
theorem ch_links {bs : List Bd} : ∀ (l : List Bd) (x : Bd), (∀ y ∈ x :: l, y ∈ bs) → (∀ k, k < l.length → ((x :: l).getD k ⟨0, 0, 0⟩).t = (l.getD k ⟨0, 0, 0⟩).f) → Ch bs x.f.toNat (x :: l) ((x :: l).getD l.length ⟨0, 0, 0⟩).t.toNat
  | [], x, hm, _ => ⟨hm x List.mem_cons_self, rfl, rfl⟩
  | y :: r, x, hm, hl => by
    have h0 : x.t = y.f := hl 0 (by simp)
    have ih := ch_links r y (fun z hz => hm z (List.mem_cons_of_mem _ hz)) (fun k hk => hl (k + 1) (by simp; omega))
    refine ⟨hm x List.mem_cons_self, rfl, ?_⟩
    rw [h0]
    exact ih
theorem sumB_ring (bs : List Bd) : ∀ (ring : List Int), sumB (ring.map (el bs)) = ringSum bs ring
  | [] => rfl
  | x :: r => by
    have ih := sumB_ring bs r
    show (el bs x).m + sumB (r.map (el bs)) = ((el bs x).m :: (r.map fun i => (el bs i).m)).sum
    rw [List.sum_cons, ih]; rfl
theorem getD_map_el (bs : List Bd) (ring : List Int) {k : Nat} (h : k < ring.length) : (ring.map (el bs)).getD k ⟨0, 0, 0⟩ = el bs (ring.getD k 0) := by
  rw [List.getD_eq_getElem?_getD, List.getD_eq_getElem?_getD, List.getElem?_map, List.getElem?_eq_getElem h]; rfl
/-- Rings of plans that fit are not bad. -/
theorem ring_fit {n : Int} {bs : List Bd} {ring : List Int} (h : ringOk n bs ring = true) (hf : fitsOk n bs = true) : 0 ≤ ringSum bs ring := by
  obtain ⟨h1, h2, h3, h4, h5⟩ := ringOk_of h
  obtain ⟨n1, n6, _, hin⟩ := planOk_of h1
  obtain ⟨N, rfl⟩ := Int.eq_ofNat_of_zero_le (show 0 ≤ n by omega)
  rw [← sumB_ring]
  cases ring with
  | nil => simp at h2
  | cons a r =>
    have hx := el_mem (h4 a List.mem_cons_self).1 (h4 a List.mem_cons_self).2
    have hxi := hin _ hx
    have c := ch_links (bs := bs) (r.map (el bs)) (el bs a) (fun y hy => by
      have hy' : y ∈ (a :: r).map (el bs) := hy
      obtain ⟨z, hz, rfl⟩ := List.mem_map.1 hy'
      exact el_mem (h4 z hz).1 (h4 z hz).2) (fun k hk => by
      rw [List.length_map] at hk
      have e1 : (el bs a :: r.map (el bs)).getD k ⟨0, 0, 0⟩ = el bs ((a :: r).getD k 0) := getD_map_el bs (a :: r) (by simp; omega)
      have e2 : (r.map (el bs)).getD k ⟨0, 0, 0⟩ = el bs ((a :: r).getD (k + 1) 0) := by rw [getD_map_el bs r hk]; rfl
      rw [e1, e2]
      have := h5 (k + 1) (by simp; omega)
      unfold linkOk before at this
      rw [if_neg (by omega)] at this
      exact this)
    rw [List.length_map] at c
    have e3 : (el bs a :: r.map (el bs)).getD r.length ⟨0, 0, 0⟩ = el bs ((a :: r).getD r.length 0) := getD_map_el bs (a :: r) (by simp)
    have l0 := h5 0 (by simp)
    unfold linkOk before at l0
    rw [if_pos rfl] at l0
    have l0' : (el bs ((a :: r).getD r.length 0)).t = (el bs a).f := l0
    rw [e3, l0'] at c
    exact fit_good hf (by omega) c
/- BadRing -/
def ints (r : List Nat) : List Int := r.map fun (k : Nat) => (k : Int)
theorem ints_length (r : List Nat) : (ints r).length = r.length := by simp [ints]
def badO (n : Int) (bs : List Bd) : Option (List Nat) := if planOk n bs = true ∧ fitsOk n bs = false then firstF (fun m => srch bs m [] 0) n.toNat 1 else none
def badL (n : Int) (bs : List Bd) : List Int := ints ((badO n bs).getD [])
def badB (n : Int) (bs : List Bd) : Bool := planOk n bs && !fitsOk n bs
theorem bad_no {n : Int} {bs : List Bd} (h : badB n bs = false) : badL n bs = [] := by
  have : badO n bs = none := by
    unfold badO
    rw [if_neg]
    rintro ⟨h1, h2⟩
    simp [badB, h1, h2] at h
  simp [badL, this, ints]
theorem ringSum_ints (bs : List Bd) (r : List Nat) : ringSum bs (ints r) = sumI bs r := by
  rw [← sumB_ring]
  unfold sumI ints
  rw [List.map_map]
  have e : (el bs ∘ fun (k : Nat) => (k : Int)) = bdAt bs := by funext a; exact el_bdAt bs a
  rw [e]
theorem bad_yes {n : Int} {bs : List Bd} (h : badB n bs = true) : planOk n bs = true ∧ fitsOk n bs = false ∧ ringOk n bs (badL n bs) = true ∧ ringSum bs (badL n bs) < 0 ∧ ((badL n bs).length : Int) ≤ n ∧ 1 ≤ (badL n bs).length := by
  have h' := h
  simp only [badB, Bool.and_eq_true, Bool.not_eq_true'] at h'
  obtain ⟨h1, h2⟩ := h'
  obtain ⟨n1, n6, _, hin⟩ := planOk_of h1
  obtain ⟨N, rfl⟩ := Int.eq_ofNat_of_zero_le (show 0 ≤ n by omega)
  obtain ⟨m0, r, m1, mN, _, hs, hf, _⟩ := ring_same h1 h2
  have e : badO N bs = some r := by unfold badO; rw [if_pos ⟨h1, h2⟩, Int.toNat_natCast, hf]
  have eL : badL N bs = ints r := by simp [badL, e]
  obtain ⟨ks, e2, hl, hk, hr, hb, hsum⟩ := srch_is bs m0 [] 0 r hs
  rw [List.nil_append] at e2
  subst e2
  rw [eL, ints_length, ringSum_ints]
  refine ⟨h1, h2, ?_, by omega, by omega, by omega⟩
  have := ring_back h1 (ks := r) (by omega) (by omega) hk hr
  rw [hb] at this
  exact this
end Go.Proofs.Ytnompncmachgjaa
