/- Contracts of spec.l1In and spec.PlanOk: the latter answers planOk; for slices of at most 2^40 bounds. -/
import Derived.Test.YtedpaanhnbodfaaPlan
namespace Go.Proofs.Ytedpaanhnbodfaa
open Go.RowKit
set_option linter.unusedVariables false
set_option maxRecDepth 10000
set_option linter.unusedSimpArgs false

theorem l1In_any (n lo hi : Int) (w : World) :
    Calls Try.prog 103 #[.int .i64 n, .int .i64 lo, .int .i64 hi] w fun e w' => e = .returned (.bool (inB n lo hi)) ∧ w = w' := by
  by_cases h1 : lo ≤ n <;> by_cases h2 : n ≤ hi <;>
  (go_enter Try.func103, Try.ntmps103
   go_wp2
   go_ret
   exact ⟨by simp [inB, h1, h2], rfl⟩)
theorem any_of {α : Type} {q : α → Bool} {l : List α} {k : Nat} {x : α} (hx : l[k]? = some x) (hq : q x = true) : l.any q = true :=
  List.any_eq_true.2 ⟨x, List.mem_of_getElem? hx, hq⟩
theorem any_none {α : Type} {q : α → Bool} {l : List α} {k : Nat} (hk : l.length ≤ k) (hn : ∀ y ∈ l.take k, q y = false) : l.any q = false := by
  rw [List.take_of_length_le hk] at hn
  simpa [List.any_eq_false] using hn
def okW (N1 : Int) (x : Bd) : Bool := inB x.f 0 N1 && inB x.t 0 N1 && inB x.m (-99) 99
def specPlan (n : Int) (bs : List Bd) : Bool := !(bs.any fun x => !okW (wrap64 (n-1)) x) && inB n 1 6 && decide (bs.length ≤ 16)
theorem specPlan_eq (n : Int) (bs : List Bd) : specPlan n bs = planOk n bs := by
  cases hn : inB n 1 6
  · simp [specPlan, planOk, hn]
  · have h := (inB_iff _ _ _).1 hn
    have hw : wrap64 (n - 1) = n - 1 := IntWalk.wrap64_in _ ⟨by omega, by omega⟩
    have he : (fun x => !okW (wrap64 (n-1)) x) = fun x => !okB n x := by funext x; rw [hw]; rfl
    simp only [specPlan, planOk, hn, he]
    cases bs.any fun x => !okB n x <;> cases decide (bs.length ≤ 16) <;> rfl
theorem specPlan_bad {n : Int} {bs : List Bd} {k : Nat} {x : Bd} (hx : bs[k]? = some x) (h : okW (wrap64 (n-1)) x = false) : specPlan n bs = false := by
  simp [specPlan, any_of (q := fun x => !okW (wrap64 (n-1)) x) hx (by simp [h])]
theorem specPlan_end {n : Int} {bs : List Bd} {k : Nat} (hk : bs.length ≤ k) (hn : ∀ y ∈ bs.take k, (!okW (wrap64 (n-1)) y) = false) : specPlan n bs = (inB n 1 6 && decide (bs.length ≤ 16)) := by
  simp [specPlan, any_none hk hn]
set_option maxHeartbeats 2000000 in
theorem specPlanOk_any (n : Int) (A : Option Addr) (c : Nat) (bs : List Bd) (w : World) (h : BAt w A bs) (hlen : bs.length ≤ 1099511627776) :
    Calls Try.prog 24 #[.agg #[.int .i64 n, .slice A bs.length c]] w fun e w' => e = .returned (.bool (planOk n bs)) ∧ Below w.heap.size w w' := by
  rw [← specPlan_eq]
  go_enter Try.func24, Try.ntmps24
  go_wp2
  go_loopw [3] (fun i W => ∃ k : Nat, k ≤ bs.length ∧ i = .int .i64 k ∧ (∀ y ∈ bs.take k, (!okW (wrap64 (n-1)) y) = false) ∧ Below w.heap.size w W ∧ w.heap.size < W.heap.size ∧ W.cell? ⟨w.heap.size, 0, none⟩ = some (.int .i64 n) ∧ W.cell? ⟨w.heap.size, 1, none⟩ = some (.slice A bs.length c)) (fun i _ => bs.length - (intOf i).toNat)
  case atStart => exact ⟨0, Nat.zero_le _, rfl, by simp, valloc (Below.refl _ _) _, by simp, by simp, by simp⟩
  case round =>
    obtain ⟨k, hk, rfl, hno, hb, hz, e0, e1⟩ := hrel
    have HNO := Lib.hid hno
    clear hno
    by_cases hlt : k < bs.length
    · obtain ⟨b, off, x, rfl, hbl, hx, hxm, c0, c1, c2⟩ := (h.below hb).at_ hlt
      have HX := Lib.hid hx
      clear hx h
      cases hf : inB x.f 0 (wrap64 (n-1))
      · have HR := Lib.hid (specPlan_bad HX.out (show okW (wrap64 (n-1)) x = false by simp [okW, hf]))
        go_wp2_with (go_at_call 103; refine (l1In_any _ _ _ _).mono ?_; rintro e w' ⟨rfl, rfl⟩)
        go_ret
        exact ⟨ret_bool HR.out.symm, valloc hb _⟩
      · cases ht : inB x.t 0 (wrap64 (n-1))
        · have HR := Lib.hid (specPlan_bad HX.out (show okW (wrap64 (n-1)) x = false by simp [okW, hf, ht]))
          go_wp2_with (go_at_call 103; refine (l1In_any _ _ _ _).mono ?_; rintro e w' ⟨rfl, rfl⟩)
          go_ret
          exact ⟨ret_bool HR.out.symm, valloc hb _⟩
        · cases hm : inB x.m (-99) 99
          · have HR := Lib.hid (specPlan_bad HX.out (show okW (wrap64 (n-1)) x = false by simp [okW, hf, ht, hm]))
            go_wp2_with (go_at_call 103; refine (l1In_any _ _ _ _).mono ?_; rintro e w' ⟨rfl, rfl⟩)
            go_ret
            exact ⟨ret_bool HR.out.symm, valloc hb _⟩
          · have HR := Lib.hid (show (!okW (wrap64 (n-1)) x) = false by simp [okW, hf, ht, hm])
            go_wp2_with (go_at_call 103; refine (l1In_any _ _ _ _).mono ?_; rintro e w' ⟨rfl, rfl⟩)
            go_roundw
            case rel => exact ⟨k + 1, by omega, by go_num, snoc_false HX.out HNO.out HR.out, valloc hb _, ltA hz _, cA e0 _, cA e1 _⟩
            case measure => simp [intOf]; omega
    · have HR := Lib.hid (specPlan_end (by omega) HNO.out)
      clear h
      cases hn : inB n 1 6
      · go_wp2_with (go_at_call 103; refine (l1In_any _ _ _ _).mono ?_; rintro e w' ⟨rfl, rfl⟩)
        go_ret
        exact ⟨ret_bool (by rw [HR.out, hn]; rfl), hb⟩
      · by_cases hl : bs.length ≤ 16
        · go_wp2_with (go_at_call 103; refine (l1In_any _ _ _ _).mono ?_; rintro e w' ⟨rfl, rfl⟩)
          go_ret
          exact ⟨ret_bool (by rw [HR.out, hn]; simp; omega), hb⟩
        · go_wp2_with (go_at_call 103; refine (l1In_any _ _ _ _).mono ?_; rintro e w' ⟨rfl, rfl⟩)
          go_ret
          exact ⟨ret_bool (by rw [HR.out, hn]; simp; omega), hb⟩
end Go.Proofs.Ytedpaanhnbodfaa
