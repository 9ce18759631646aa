/- Contracts of impl.closed and impl.FitsOk; for slices of at most 2^40 bounds. -/
import Derived.Test.YtedpaanhnbodfaaClose
import Derived.Test.YtedpaanhnbodfaaStart
namespace Go.Proofs.Ytedpaanhnbodfaa
open Go.RowKit
set_option linter.unusedVariables false
set_option maxRecDepth 10000
set_option linter.unusedSimpArgs false

/-- A new closed table, and true. -/
def NewTable (n : Int) (bs : List Bd) (w : World) (e : Ending) (w' : World) : Prop :=
  ∃ (g N : Nat) (R : Nat → Nat), n = (N : Int) ∧ 1 ≤ N ∧ N ≤ 6 ∧ e = .returned (.tuple #[.slice (some ⟨g, 0, none⟩) N N, .bool true]) ∧ Grid w' w.heap.size w'.heap.size g N R (fun _ => N) (closedT n bs) ∧ Below w.heap.size w w'
theorem closed_no (n : Int) (A : Option Addr) (c : Nat) (bs : List Bd) (w : World) (h : BAt w A bs) (hlen : bs.length ≤ 1099511627776) (hf : fitsOk n bs = false) :
    Calls Try.prog 111 #[.agg #[.int .i64 n, .slice A bs.length c]] w fun e w' => e = .returned (.tuple #[.slice none 0 0, .bool false]) ∧ Below w.heap.size w w' := by
  cases hp : planOk n bs
  · clear hf
    go_enter Try.func111, Try.ntmps111
    go_wp2_with fail
    refine (planOk_any _ _ _ bs _ (h.below (by repeat (first | with_reducible exact Below.refl _ _ | with_reducible refine valloc ?_ _ | with_reducible refine vdrew ?_ | with_reducible refine vdrewN ?_ _ | with_reducible refine via (by assumption) ?_ | refine vset ?_ (by first | exact Nat.le_refl _ | (simp; done) | (simp; omega) | omega) _))) hlen).mono ?_; rintro e w1 ⟨rfl, hbw1⟩
    go_wp2
    go_ret2
    refine ⟨rfl, ?_⟩
    repeat (first | with_reducible exact Below.refl _ _ | with_reducible refine valloc ?_ _ | with_reducible refine vdrew ?_ | with_reducible refine vdrewN ?_ _ | with_reducible refine via (by assumption) ?_ | refine vset ?_ (by first | exact Nat.le_refl _ | (simp; done) | (simp; omega) | omega) _)
  · obtain ⟨h1, h6, _, hin⟩ := planOk_of hp
    obtain ⟨N, rfl⟩ := Int.eq_ofNat_of_zero_le (show 0 ≤ n by omega)
    have HD := Lib.hid (show diagOk N (closeT N (startT bs)) = false by simpa [fitsOk, hp, closedT] using hf)
    have HIN := Lib.hid (show ∀ x ∈ bs, 0 ≤ x.f ∧ x.f < N ∧ 0 ≤ x.t ∧ x.t < N from fun x hx => by have := hin x hx; omega)
    clear hf hin
    go_enter Try.func111, Try.ntmps111
    go_wp2_with fail
    refine (planOk_any _ _ _ bs _ (h.below (by repeat (first | with_reducible exact Below.refl _ _ | with_reducible refine valloc ?_ _ | with_reducible refine vdrew ?_ | with_reducible refine vdrewN ?_ _ | with_reducible refine via (by assumption) ?_ | refine vset ?_ (by first | exact Nat.le_refl _ | (simp; done) | (simp; omega) | omega) _))) hlen).mono ?_; rintro e w1 ⟨rfl, hbw1⟩; obtain ⟨hcw1, hfw1⟩ := bcell hbw1; have hzw1 := hbw1.size; (try simp only [sz] at hzw1); (try simp only [szc] at hzw1); have hzw1_0 : w.heap.size < w1.heap.size := (by omega)
    go_wp2_with fail
    refine (start_any N _ _ bs _ (h.below (by repeat (first | with_reducible exact Below.refl _ _ | with_reducible refine valloc ?_ _ | with_reducible refine vdrew ?_ | with_reducible refine vdrewN ?_ _ | with_reducible refine via (by assumption) ?_ | refine vset ?_ (by first | exact Nat.le_refl _ | (simp; done) | (simp; omega) | omega) _))) (by omega) hlen HIN.out).mono ?_; rintro e w2 ⟨g, R, rfl, hG, hbw2⟩
    go_wp2_with fail
    refine (close_any _ _ g N N R _ _ _ hG (by omega)).mono ?_; rintro e w3 ⟨rfl, hG3, hO⟩
    have hd := HD.out
    go_wp2
    go_ret2
    refine ⟨rfl, viaOnly hO (show w.heap.size ≤ w1.heap.size by omega) ?_⟩
    repeat (first | with_reducible exact Below.refl _ _ | with_reducible refine valloc ?_ _ | with_reducible refine vdrew ?_ | with_reducible refine vdrewN ?_ _ | with_reducible refine via (by assumption) ?_ | refine vset ?_ (by first | exact Nat.le_refl _ | (simp; done) | (simp; omega) | omega) _)
theorem closed_yes (n : Int) (A : Option Addr) (c : Nat) (bs : List Bd) (w : World) (h : BAt w A bs) (hlen : bs.length ≤ 1099511627776) (hf : fitsOk n bs = true) :
    Calls Try.prog 111 #[.agg #[.int .i64 n, .slice A bs.length c]] w (NewTable n bs w) := by
  have hp : planOk n bs = true := by simp only [fitsOk, Bool.and_eq_true] at hf; exact hf.1
  obtain ⟨h1, h6, _, hin⟩ := planOk_of hp
  obtain ⟨N, rfl⟩ := Int.eq_ofNat_of_zero_le (show 0 ≤ n by omega)
  have HD := Lib.hid (show diagOk N (closeT N (startT bs)) = true by simpa [fitsOk, hp, closedT] using hf)
  have HIN := Lib.hid (show ∀ x ∈ bs, 0 ≤ x.f ∧ x.f < N ∧ 0 ≤ x.t ∧ x.t < N from fun x hx => by have := hin x hx; omega)
  clear hf hin
  go_enter Try.func111, Try.ntmps111
  go_wp2_with fail
  refine (planOk_any _ _ _ bs _ (h.below (by repeat (first | with_reducible exact Below.refl _ _ | with_reducible refine valloc ?_ _ | with_reducible refine vdrew ?_ | with_reducible refine vdrewN ?_ _ | with_reducible refine via (by assumption) ?_ | refine vset ?_ (by first | exact Nat.le_refl _ | (simp; done) | (simp; omega) | omega) _))) hlen).mono ?_; rintro e w1 ⟨rfl, hbw1⟩; obtain ⟨hcw1, hfw1⟩ := bcell hbw1; have hzw1 := hbw1.size; (try simp only [sz] at hzw1); (try simp only [szc] at hzw1); have hzw1_0 : w.heap.size < w1.heap.size := (by omega)
  go_wp2_with fail
  refine (start_any N _ _ bs _ (h.below (by repeat (first | with_reducible exact Below.refl _ _ | with_reducible refine valloc ?_ _ | with_reducible refine vdrew ?_ | with_reducible refine vdrewN ?_ _ | with_reducible refine via (by assumption) ?_ | refine vset ?_ (by first | exact Nat.le_refl _ | (simp; done) | (simp; omega) | omega) _))) (by omega) hlen HIN.out).mono ?_; rintro e w2 ⟨g, R, rfl, hG, hbw2⟩
  go_wp2_with fail
  refine (close_any _ _ g N N R _ _ _ hG (by omega)).mono ?_; rintro e w3 ⟨rfl, hG3, hO⟩
  have HG3 := Lib.hid hG3
  have hd := HD.out
  clear hG hG3
  go_wp2
  go_ret2
  refine ⟨g, N, R, rfl, by omega, by omega, rfl, HG3.out.wide (by omega) hO.size, viaOnly hO (show w.heap.size ≤ w1.heap.size by omega) ?_⟩
  repeat (first | with_reducible exact Below.refl _ _ | with_reducible refine valloc ?_ _ | with_reducible refine vdrew ?_ | with_reducible refine vdrewN ?_ _ | with_reducible refine via (by assumption) ?_ | refine vset ?_ (by first | exact Nat.le_refl _ | (simp; done) | (simp; omega) | omega) _)
theorem fitsOk_any (n : Int) (A : Option Addr) (c : Nat) (bs : List Bd) (w : World) (h : BAt w A bs) (hlen : bs.length ≤ 1099511627776) :
    Calls Try.prog 50 #[.agg #[.int .i64 n, .slice A bs.length c]] w fun e w' => e = .returned (.bool (fitsOk n bs)) ∧ Below w.heap.size w w' := by
  cases hf : fitsOk n bs
  · go_enter Try.func50, Try.ntmps50
    go_wp2_with fail
    refine (closed_no _ _ _ bs _ (h.below (by repeat (first | with_reducible exact Below.refl _ _ | with_reducible refine valloc ?_ _ | with_reducible refine vdrew ?_ | with_reducible refine vdrewN ?_ _ | with_reducible refine via (by assumption) ?_ | refine vset ?_ (by first | exact Nat.le_refl _ | (simp; done) | (simp; omega) | omega) _))) hlen hf).mono ?_; rintro e w1 ⟨rfl, hbw1⟩
    go_wp2
    go_ret
    refine ⟨rfl, ?_⟩
    repeat (first | with_reducible exact Below.refl _ _ | with_reducible refine valloc ?_ _ | with_reducible refine vdrew ?_ | with_reducible refine vdrewN ?_ _ | with_reducible refine via (by assumption) ?_ | refine vset ?_ (by first | exact Nat.le_refl _ | (simp; done) | (simp; omega) | omega) _)
  · go_enter Try.func50, Try.ntmps50
    go_wp2_with fail
    refine (closed_yes _ _ _ bs _ (h.below (by repeat (first | with_reducible exact Below.refl _ _ | with_reducible refine valloc ?_ _ | with_reducible refine vdrew ?_ | with_reducible refine vdrewN ?_ _ | with_reducible refine via (by assumption) ?_ | refine vset ?_ (by first | exact Nat.le_refl _ | (simp; done) | (simp; omega) | omega) _))) hlen hf).mono ?_; rintro e w1 ⟨g, N, R, rfl, _, _, rfl, _, hbw1⟩
    go_wp2
    go_ret
    refine ⟨rfl, ?_⟩
    repeat (first | with_reducible exact Below.refl _ _ | with_reducible refine valloc ?_ _ | with_reducible refine vdrew ?_ | with_reducible refine vdrewN ?_ _ | with_reducible refine via (by assumption) ?_ | refine vset ?_ (by first | exact Nat.le_refl _ | (simp; done) | (simp; omega) | omega) _)
end Go.Proofs.Ytedpaanhnbodfaa
