/- The walk of the law FnLeastOf: it returns true and changes nothing that was there; for codes of bytes. -/
import Derived.Test.YtnompncmachgjaaAlive
import Derived.Test.YtnompncmachgjaaDraws4
import Derived.Test.YtnompncmachgjaaPlainL3
import Derived.Test.YtnompncmachgjaaKF
namespace Go.Proofs.Ytnompncmachgjaa
open Go.RowKit
set_option linter.unusedVariables false
set_option maxRecDepth 10000
set_option linter.unusedSimpArgs false

theorem neg_wrap {v : Int} (h : -495 ≤ v ∧ v ≤ 495) : wrap64 (-v) = -v := IntWalk.wrap64_in _ ⟨by omega, by omega⟩
set_option maxHeartbeats 1000000 in
theorem FnLeastOf_walk (A : Option Addr) (c : Nat) (xs : List Int) (w : World) (hB : Bytes w A c xs) (hl : xs.length ≤ 9223372036854775807) :
    Calls Try.prog 4 #[.slice A xs.length c] w fun e w' => e = .returned (.bool true) ∧ Below w.heap.size w w' := by
  by_cases hL : (1048576 : Int) < (xs.length : Int)
  · go_enter Try.func4, Try.ntmps4
    go_wp2
    go_ret
    exact ⟨rfl, Below.refl _ _⟩
  go_enter Try.func4, Try.ntmps4
  go_wp2_with fail
  refine (drawLeastOf_any A c xs _ hB).mono ?_; rintro e w1 ⟨n, A1, c1, bs, f, t, rfl, ⟨hf0, hf7, hfl, _⟩, hc, hn, hds, hrb, hb1⟩
  have HR := Lib.hid hrb
  clear hrb hn
  have hz1 := hb1.size
  go_wp2_with fail
  refine (leastOf_any _ _ _ bs f t _ (HR.out.bat.below (by repeat (first | with_reducible exact Below.refl _ _ | with_reducible refine valloc ?_ _ | with_reducible refine vdrew ?_ | with_reducible refine vdrewN ?_ _ | with_reducible refine via (by assumption) ?_ | refine vset ?_ (by first | exact Nat.le_refl _ | (simp; done) | (simp; omega) | omega) _))) (by omega)).mono ?_; rintro e w2 ⟨rfl, hb2⟩
  have p0 : w2.cell? ⟨w1.heap.size, 0, none⟩ = some (.int .i64 n) := cB hb2 (by simp)
  have p1 : w2.cell? ⟨w1.heap.size, 1, none⟩ = some (.slice A1 bs.length c1) := cB hb2 (by simp)
  go_wp2_with fail
  refine (specLeastOf_any _ _ _ bs f t _ (HR.out.bat.below (by repeat (first | with_reducible exact Below.refl _ _ | with_reducible refine valloc ?_ _ | with_reducible refine vdrew ?_ | with_reducible refine vdrewN ?_ _ | with_reducible refine via (by assumption) ?_ | refine vset ?_ (by first | exact Nat.le_refl _ | (simp; done) | (simp; omega) | omega) _))) (by omega)).mono ?_; rintro e w3 ⟨rfl, hb3⟩
  replace p0 := cB hb3 p0
  replace p1 := cB hb3 p1
  have B4 := Lib.hid (show Below w.heap.size w w3 from (by repeat (first | with_reducible exact Below.refl _ _ | with_reducible refine valloc ?_ _ | with_reducible refine vdrew ?_ | with_reducible refine vdrewN ?_ _ | with_reducible refine via (by assumption) ?_ | refine vset ?_ (by first | exact Nat.le_refl _ | (simp; done) | (simp; omega) | omega) _)))
  have Q4 := Lib.hid (show BAt w3 A1 bs from HR.out.bat.below (by repeat (first | with_reducible exact Below.refl _ _ | with_reducible refine valloc ?_ _ | with_reducible refine vdrew ?_ | with_reducible refine vdrewN ?_ _ | with_reducible refine via (by assumption) ?_ | refine vset ?_ (by first | exact Nat.le_refl _ | (simp; done) | (simp; omega) | omega) _)))
  clear hb1 hb2 hb3 hB hc HR
  cases hb : mostB n bs t f
  · have e0 : wrap64 (-(mostV n bs t f)) = 0 := by rw [(most_none hb).1]; exact IntWalk.wrap64_in _ ⟨by omega, by omega⟩
    rw [e0]
    clear hb e0
    go_wp2_with fail
    refine (alive_any _).mono ?_; rintro e w4 ⟨rfl, hb4⟩
    go_wp2
    go_ret
    exact ⟨rfl, via hb4 B4.out⟩
  · obtain ⟨hfit, t0, t1, f0, f1, _, _⟩ := mostB_of hb
    have bv := mostV_bound hb
    obtain ⟨os, ov⟩ := most_self hfit f0 f1
    have HLL := Lib.hid (fun h' => least_law (f := f) (t := t) hb h')
    rw [neg_wrap bv]
    clear hb hfit
    generalize mostV n bs t f = lv at *
    go_wp2_with fail
    refine (mostOf_any _ _ _ bs f t _ Q4.out (by omega)).mono ?_; rintro e w4 ⟨rfl, hb4⟩
    replace p0 := cB hb4 p0
    replace p1 := cB hb4 p1
    go_wp2_with fail
    refine (leastOf_any _ _ _ bs f f _ (Q4.out.below hb4) (by omega)).mono ?_; rintro e w5 ⟨rfl, hb5⟩
    rw [os, ov, show wrap64 (-0) = 0 from IntWalk.wrap64_in _ ⟨by omega, by omega⟩]
    cases ht : mostB n bs f t
    · go_wp2
      go_ret
      exact ⟨rfl, via hb5 (via hb4 B4.out)⟩
    · have hle := HLL.out ht
      clear ht
      generalize mostV n bs f t = mv at *
      go_wp2
      go_ret
      exact ⟨rfl, via hb5 (via hb4 B4.out)⟩
end Go.Proofs.Ytnompncmachgjaa
