/- Plain law: of a row of places that is a chain, RingOk tells whether it leads back. No program in sight. -/
import Derived.Test.YtnompncmachgjaaKG
import Derived.Test.YtnompncmachgjaaRings
namespace Go.Proofs.Ytnompncmachgjaa
open Go.RowKit
set_option linter.unusedVariables false
set_option maxRecDepth 10000
set_option linter.unusedSimpArgs false

theorem runs_link (bs : List Bd) : ∀ (ks row : List Nat), runs bs row ks = true → ∀ p, row.length ≤ p → p < (row ++ ks).length → 1 ≤ p → (bdAt bs ((row ++ ks).getD (p - 1) 0)).t = (bdAt bs ((row ++ ks).getD p 0)).f
  | [], row, _, p, h1, h2, _ => by rw [List.append_nil] at h2; omega
  | k :: ks, row, hr, p, h1, h2, h3 => by
    have hr' : goes bs row k = true ∧ runs bs (row ++ [k]) ks = true := by simpa [runs] using hr
    by_cases e : p = row.length
    · subst e
      have hg := hr'.1
      unfold goes at hg
      rw [List.getLast?_eq_getElem?, List.getElem?_eq_getElem (show row.length - 1 < row.length by omega)] at hg
      simp only [decide_eq_true_eq] at hg
      have e1 : (row ++ k :: ks).getD (row.length - 1) 0 = row[row.length - 1] := by
        rw [List.getD_eq_getElem?_getD, List.getElem?_append_left (by omega), List.getElem?_eq_getElem (show row.length - 1 < row.length by omega)]; rfl
      have e2 : (row ++ k :: ks).getD row.length 0 = k := by
        rw [List.getD_eq_getElem?_getD, List.getElem?_append_right (Nat.le_refl _)]; simp
      rw [e1, e2]; exact hg
    · have := runs_link bs ks (row ++ [k]) hr'.2 p (by simp; omega) (by simpa using h2) h3
      simpa using this
theorem getD_int (ks : List Nat) (i : Nat) : (ks.map fun (k : Nat) => (k : Int)).getD i 0 = ((ks.getD i 0 : Nat) : Int) := by
  rw [List.getD_eq_getElem?_getD, List.getD_eq_getElem?_getD, List.getElem?_map]
  cases ks[i]? <;> rfl
theorem el_bdAt (bs : List Bd) (a : Nat) : el bs (a : Int) = bdAt bs a := by simp [el, bdAt]
theorem ring_back {n : Int} {bs : List Bd} {ks : List Nat} (hp : planOk n bs = true) (h1 : 1 ≤ ks.length) (h16 : ks.length ≤ 16) (hk : ∀ k ∈ ks, k < bs.length) (hr : runs bs [] ks = true) : ringOk n bs (ks.map fun (k : Nat) => (k : Int)) = back bs ks := by
  have i1 : inB ((ks.map fun (k : Nat) => (k : Int)).length) 1 16 = true := (inB_iff _ _ _).2 (by rw [List.length_map]; omega)
  have i2 : allB (ks.map fun (k : Nat) => (k : Int)) 0 ((bs.length : Int) - 1) = true := (allB_iff _ _ _).2 (fun x hx => by
    obtain ⟨k, hk2, rfl⟩ := List.mem_map.1 hx
    have := hk k hk2
    omega)
  unfold ringOk
  rw [hp, i1, i2, Bool.true_and, Bool.true_and, Bool.true_and, Bool.eq_iff_iff]
  have hb : back bs ks = decide ((bdAt bs (ks.getD (ks.length - 1) 0)).t = (bdAt bs (ks.getD 0 0)).f) := by
    unfold back
    rw [List.getLast?_eq_getElem?, List.head?_eq_getElem?, List.getElem?_eq_getElem (show ks.length - 1 < ks.length by omega), List.getElem?_eq_getElem (show 0 < ks.length by omega)]
    simp [List.getD_eq_getElem?_getD, List.getElem?_eq_getElem (show ks.length - 1 < ks.length by omega), List.getElem?_eq_getElem (show 0 < ks.length by omega)]
  rw [hb, decide_eq_true_eq]
  unfold ringChain
  rw [decide_eq_true_eq]
  have lk : ∀ k, linkOk bs (ks.map fun (k : Nat) => (k : Int)) k ↔ (bdAt bs (ks.getD (before ks.length k) 0)).t = (bdAt bs (ks.getD k 0)).f := fun k => by
    unfold linkOk
    rw [List.length_map, getD_int, getD_int, el_bdAt, el_bdAt]
  constructor
  · intro h
    have := (lk 0).1 (h 0 (by rw [List.length_map]; omega))
    unfold before at this
    simpa using this
  · intro h k hk2
    rw [List.length_map] at hk2
    rw [lk]
    unfold before
    by_cases e : k = 0
    · rw [if_pos e, e]; exact h
    · rw [if_neg e]
      have := runs_link bs ks [] hr k (by simp) (by simpa using hk2) (by omega)
      simpa using this
end Go.Proofs.Ytnompncmachgjaa
