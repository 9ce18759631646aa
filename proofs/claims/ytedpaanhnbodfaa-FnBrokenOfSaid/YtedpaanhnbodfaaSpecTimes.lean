/- Contracts of spec.TimesOk, spec.KeepsOk and of what they call; for slices of at most 2^40 elements. -/
import Derived.Test.YtedpaanhnbodfaaTimes
namespace Go.Proofs.Ytedpaanhnbodfaa
open Go.RowKit
set_option linter.unusedVariables false
set_option maxRecDepth 10000
set_option linter.unusedSimpArgs false

theorem timesOk_bad {n : Int} {bs : List Bd} {ts : List Int} {k : Nat} {x : Int} (hx : ts[k]? = some x) (h : inB x (-2000) 2000 = false) : timesOk n bs ts = false := by
  simp [timesOk, allB, any_of (q := fun x => !inB x (-2000) 2000) hx (by simp [h])]
theorem timesOk_end {n : Int} {bs : List Bd} {ts : List Int} {k : Nat} (hk : ts.length ≤ k) (hn : ∀ y ∈ ts.take k, (!inB y (-2000) 2000) = false) : timesOk n bs ts = (planOk n bs && ((ts.length : Int) == n)) := by
  simp [timesOk, allB, any_none hk hn]
set_option maxHeartbeats 1000000 in
theorem specTimesOk_any (n : Int) (A A' : Option Addr) (c c' : Nat) (bs : List Bd) (ts : List Int) (w : World) (h : BAt w A bs) (h' : IAt w A' ts) (hlen : bs.length ≤ 1099511627776) (hlen' : ts.length ≤ 1099511627776) :
    Calls Try.prog 28 #[.agg #[.int .i64 n, .slice A bs.length c], .slice A' ts.length c'] w fun e w' => e = .returned (.bool (timesOk n bs ts)) ∧ Below w.heap.size w w' := by
  go_enter Try.func28, Try.ntmps28
  go_wp2
  go_loopw [5] (fun i W => ∃ k : Nat, k ≤ ts.length ∧ i = .int .i64 k ∧ (∀ y ∈ ts.take k, (!inB y (-2000) 2000) = false) ∧ Below w.heap.size w W ∧ w.heap.size < W.heap.size ∧ W.cell? ⟨w.heap.size, 0, none⟩ = some (.int .i64 n) ∧ W.cell? ⟨w.heap.size, 1, none⟩ = some (.slice A bs.length c)) (fun i _ => ts.length - (intOf i).toNat)
  case atStart => exact ⟨0, Nat.zero_le _, rfl, by simp, valloc (Below.refl _ _) _, by simp, by simp, by simp⟩
  case round =>
    obtain ⟨k, hk, rfl, hno, hb, hz, e0, e1⟩ := hrel
    have HNO := Lib.hid hno
    clear hno
    by_cases hlt : k < ts.length
    · obtain ⟨b, off, x, rfl, hbl, hx, hxm, c0⟩ := (h'.below hb).at_ hlt
      have HX := Lib.hid hx
      clear hx h h'
      cases hf : inB x (-2000) 2000
      · have HR := Lib.hid (timesOk_bad (n := n) (bs := bs) HX.out hf)
        go_wp2_with (go_at_call 103; refine (l1In_any _ _ _ _).mono ?_; rintro e w' ⟨rfl, rfl⟩)
        go_ret
        exact ⟨ret_bool HR.out.symm, hb⟩
      · have HR := Lib.hid (show (!inB x (-2000) 2000) = false by simp [hf])
        go_wp2_with (go_at_call 103; refine (l1In_any _ _ _ _).mono ?_; rintro e w' ⟨rfl, rfl⟩)
        go_roundw
        case rel => exact ⟨k + 1, by omega, by go_num, snoc_false HX.out HNO.out HR.out, hb, hz, e0, e1⟩
        case measure => simp [intOf]; omega
    · have HR := Lib.hid (timesOk_end (n := n) (bs := bs) (by omega) HNO.out)
      cases hp : planOk n bs
      · go_wp2_with (go_at_call 24; refine (specPlanOk_any _ _ _ bs _ (h.below hb) hlen).mono ?_; rintro e w1 ⟨rfl, hbw1⟩)
        go_ret
        exact ⟨ret_bool (by rw [HR.out, hp]; rfl), via hbw1 hb⟩
      · cases hl : ((ts.length : Int) == n)
        · go_wp2_with (go_at_call 24; refine (specPlanOk_any _ _ _ bs _ (h.below hb) hlen).mono ?_; rintro e w1 ⟨rfl, hbw1⟩; obtain ⟨hcw1, _⟩ := bcell hbw1)
          go_ret
          exact ⟨ret_bool (by rw [HR.out, hp, hl]; rfl), via hbw1 hb⟩
        · go_wp2_with (go_at_call 24; refine (specPlanOk_any _ _ _ bs _ (h.below hb) hlen).mono ?_; rintro e w1 ⟨rfl, hbw1⟩; obtain ⟨hcw1, _⟩ := bcell hbw1)
          go_ret
          exact ⟨ret_bool (by rw [HR.out, hp, hl]; rfl), via hbw1 hb⟩
end Go.Proofs.Ytedpaanhnbodfaa
