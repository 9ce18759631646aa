/- Contracts of the laws' helpers on states: copy, size, comparison, marks; for slices of at most 2^40 numbers. -/
import Derived.Test.YtaifpindiphlkabKB
namespace Go.Proofs.Ytaifpindiphlkab
open Go.RowKit
set_option linter.unusedVariables false
set_option maxRecDepth 10000
set_option linter.unusedSimpArgs false

/-- A new copy of a state. -/
def StateCopy (n : Int) (xs : List Int) (w : World) (e : Ending) (w' : World) : Prop :=
  ∃ A, e = .returned (.agg #[.int .i64 n, .slice A xs.length xs.length]) ∧ RI w' w.heap.size w'.heap.size A xs ∧ Below w.heap.size w w'
theorem toState_any (n : Int) (A : Option Addr) (c : Nat) (bs : List Int) (w : World) (h : IAt w A bs) (hlen : bs.length ≤ 1048576) :
    Calls Try.prog 30 #[.agg #[.int .i64 n, .slice A bs.length c]] w (StateCopy n bs w) := by
  go_enter Try.func30, Try.ntmps30
  go_wp2_with (go_at_call 14; refine (toIntS_at _ _ bs _ (h.below (by repeat (first | with_reducible exact Below.refl _ _ | with_reducible refine valloc ?_ _ | with_reducible refine vdrew ?_ | with_reducible refine vdrewN ?_ _ | with_reducible refine via (by assumption) ?_ | refine vset ?_ (by first | exact Nat.le_refl _ | (simp; done) | (simp; omega) | omega) _))) hlen).mono ?_; rintro e w1 ⟨rfl, ho, hbw1⟩; obtain ⟨hcw1, hfw1⟩ := bcell hbw1; have hzw1 := hbw1.size; (try simp only [sz] at hzw1); (try simp only [szc] at hzw1); have hzw1_0 : w.heap.size < w1.heap.size := (by omega); have hzw1_1 : w.heap.size + 1 < w1.heap.size := (by omega); have hzw1_2 : w.heap.size + 2 < w1.heap.size := (by omega))
  refine bodyPost_ret (v := .agg #[.int .i64 n, .slice (some ⟨w.heap.size + 1 + 1 + 1, 0, none⟩) bs.length bs.length]) (by simp [results, Try.results30, go_sem, hcw1, hzw1_0, hzw1_1, hzw1_2]) rfl ⟨_, rfl, ?_, ?_⟩
  · have hs : w1.heap.size = ((((w1.setCell ⟨w.heap.size + 1 + 1, 1, none⟩ (.slice (some ⟨w.heap.size + 1 + 1 + 1, 0, none⟩) bs.length bs.length)).setCell ⟨w.heap.size + 1, 0, none⟩ (.int .i64 n)).setCell ⟨w.heap.size + 1, 1, none⟩ (.slice (some ⟨w.heap.size + 1 + 1 + 1, 0, none⟩) bs.length bs.length))).heap.size := by simp only [szc]
    rw [← hs]
    rcases ho with ⟨e, _⟩ | ⟨g, cs, e, h1, h2, hB, hF⟩
    · cases e
    · simp only [sz] at h1 h2 e hB
      refine .inr ⟨g, cs, e, by omega, h2, Blk.far (Blk.far (Blk.far hB ?_ _) ?_ _) ?_ _, hF⟩ <;> (dsimp only; omega)
  · repeat (first | with_reducible exact Below.refl _ _ | with_reducible refine valloc ?_ _ | with_reducible refine vdrew ?_ | with_reducible refine vdrewN ?_ _ | with_reducible refine via (by assumption) ?_ | refine vset ?_ (by first | exact Nat.le_refl _ | (simp; done) | (simp; omega) | omega) _)
theorem szState_any (n : Int) (A : Option Addr) (c m : Nat) (l : Int) (w : World) (hl : 0 ≤ l) (hl2 : l ≤ 1048576) (hlen : m ≤ 9223372036854775807) :
    Calls Try.prog 28 #[.agg #[.int .i64 n, .slice A m c], .int .i64 l] w fun e w' => e = .returned (.int .i64 (if (l - m : Int) < 0 then -1 else l - m)) ∧ Below w.heap.size w w' := by
  by_cases h : (l - m : Int) < 0
  · rw [if_pos h]
    go_enter Try.func28, Try.ntmps28
    go_wp2
    go_ret
    refine ⟨rfl, ?_⟩
    repeat (first | with_reducible exact Below.refl _ _ | with_reducible refine valloc ?_ _ | with_reducible refine vdrew ?_ | with_reducible refine vdrewN ?_ _ | with_reducible refine via (by assumption) ?_ | refine vset ?_ (by first | exact Nat.le_refl _ | (simp; done) | (simp; omega) | omega) _)
  · rw [if_neg h]
    go_enter Try.func28, Try.ntmps28
    go_wp2
    go_ret
    refine ⟨rfl, ?_⟩
    repeat (first | with_reducible exact Below.refl _ _ | with_reducible refine valloc ?_ _ | with_reducible refine vdrew ?_ | with_reducible refine vdrewN ?_ _ | with_reducible refine via (by assumption) ?_ | refine vset ?_ (by first | exact Nat.le_refl _ | (simp; done) | (simp; omega) | omega) _)
theorem eqState_same (n : Int) (A A' : Option Addr) (c c' : Nat) (bs : List Int) (w : World) (h : IAt w A bs) (h' : IAt w A' bs) (hlen : bs.length ≤ 1099511627776) :
    Calls Try.prog 32 #[.agg #[.int .i64 n, .slice A bs.length c], .agg #[.int .i64 n, .slice A' bs.length c']] w fun e w' => e = .returned (.bool true) ∧ Below w.heap.size w w' := by
  go_enter Try.func32, Try.ntmps32
  go_wp2_with (go_at_call 17; refine (eqIntS_same _ _ _ _ bs _ (h.below (by repeat (first | with_reducible exact Below.refl _ _ | with_reducible refine valloc ?_ _ | with_reducible refine vdrew ?_ | with_reducible refine vdrewN ?_ _ | with_reducible refine via (by assumption) ?_ | refine vset ?_ (by first | exact Nat.le_refl _ | (simp; done) | (simp; omega) | omega) _))) (h'.below (by repeat (first | with_reducible exact Below.refl _ _ | with_reducible refine valloc ?_ _ | with_reducible refine vdrew ?_ | with_reducible refine vdrewN ?_ _ | with_reducible refine via (by assumption) ?_ | refine vset ?_ (by first | exact Nat.le_refl _ | (simp; done) | (simp; omega) | omega) _))) hlen).mono ?_; rintro e w1 ⟨rfl, hb1⟩)
  go_ret
  refine ⟨rfl, ?_⟩
  repeat (first | with_reducible exact Below.refl _ _ | with_reducible refine valloc ?_ _ | with_reducible refine vdrew ?_ | with_reducible refine vdrewN ?_ _ | with_reducible refine via (by assumption) ?_ | refine vset ?_ (by first | exact Nat.le_refl _ | (simp; done) | (simp; omega) | omega) _)
theorem markState_any (n : Int) (A : Option Addr) (c : Nat) (bs : List Int) (k0 : Int) (lo hi : Nat) (w : World) (h : RI w lo hi A bs) (hk1 : 0 ≤ k0) (hk2 : k0 ≤ 1099511627776) (hlen : bs.length ≤ 1099511627776) (hh : hi ≤ w.heap.size) :
    Calls Try.prog 35 #[.agg #[.int .i64 n, .slice A bs.length c], .int .i64 k0] w fun e w' => e = .returned (.int .i64 (k0 + bs.length)) ∧ Only lo hi w w' := by
  go_enter Try.func35, Try.ntmps35
  go_wp2_with (go_at_call 21; refine (markIntS_any A c bs k0 lo hi _ (h.same ((Same.refl _ _ _).alloc _) hh) hk1 hk2 hlen).mono ?_; rintro e w1 ⟨rfl, rm, ho⟩)
  go_ret
  exact ⟨rfl, Only.only ho (Nat.le_refl _) (Nat.le_refl _) ((Only.refl _ _ _).alloc _)⟩
theorem markState_any' (n : Int) (A : Option Addr) (c : Nat) (bs : List Int) (k0 : Int) (lo hi : Nat) (w : World) (h : RI w lo hi A bs) (hk1 : 0 ≤ k0) (hk2 : k0 ≤ 1099511627776) (hlen : bs.length ≤ 1099511627776) (hh : hi ≤ w.heap.size) :
    Calls Try.prog 35 #[.agg #[.int .i64 n, .slice A bs.length c], .int .i64 k0] w fun e w' => e = .returned (.int .i64 (k0 + bs.length)) ∧ RI w' lo hi A (marks k0 bs.length) ∧ Only lo hi w w' := by
  go_enter Try.func35, Try.ntmps35
  go_wp2_with (go_at_call 21; refine (markIntS_any A c bs k0 lo hi _ (h.same ((Same.refl _ _ _).alloc _) hh) hk1 hk2 hlen).mono ?_; rintro e w1 ⟨rfl, rm, ho⟩)
  go_ret
  exact ⟨rfl, rm, Only.only ho (Nat.le_refl _) (Nat.le_refl _) ((Only.refl _ _ _).alloc _)⟩
theorem heldState_any (n : Int) (A : Option Addr) (c m : Nat) (k0 : Int) (w : World) (h : IAt w A (marks k0 m)) (hk1 : 0 ≤ k0) (hk2 : k0 ≤ 1099511627776) (hlen : m ≤ 1099511627776) :
    Calls Try.prog 36 #[.agg #[.int .i64 n, .slice A m c], .int .i64 k0] w fun e w' => e = .returned (.int .i64 (k0 + m)) ∧ Below w.heap.size w w' := by
  have hn : ¬ (k0 + (m : Int) < 0) := by omega
  go_enter Try.func36, Try.ntmps36
  go_wp2_with (go_at_call 22; refine (heldIntS_any A c m k0 _ (h.below (by repeat (first | with_reducible exact Below.refl _ _ | with_reducible refine valloc ?_ _ | with_reducible refine vdrew ?_ | with_reducible refine vdrewN ?_ _ | with_reducible refine via (by assumption) ?_ | refine vset ?_ (by first | exact Nat.le_refl _ | (simp; done) | (simp; omega) | omega) _))) hk1 hk2 hlen).mono ?_; rintro e w1 ⟨rfl, hb1⟩)
  go_ret
  refine ⟨rfl, ?_⟩
  repeat (first | with_reducible exact Below.refl _ _ | with_reducible refine valloc ?_ _ | with_reducible refine vdrew ?_ | with_reducible refine vdrewN ?_ _ | with_reducible refine via (by assumption) ?_ | refine vset ?_ (by first | exact Nat.le_refl _ | (simp; done) | (simp; omega) | omega) _)
end Go.Proofs.Ytaifpindiphlkab
