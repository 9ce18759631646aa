/- Contracts of the laws' helpers that copy, count and compare plans. -/
import Derived.Test.YtedpaanhnbodfaaSpecPlan
import Derived.Laws.MakeOwn
import Derived.Laws.ResultCell
import Derived.StillTailTactics
namespace Go.Proofs.Ytedpaanhnbodfaa
open Go.RowKit
set_option linter.unusedVariables false
set_option maxRecDepth 10000
set_option linter.unusedSimpArgs false

theorem Try.infoBound : (Try.prog.info? 55).map (fun i => (i.zero, i.size, i.bytes)) = some (some (.agg #[.int .i64 0, .int .i64 0, .int .i64 0]), 3, 24) := by kernel_rfl
theorem Try.infoInt : (Try.prog.info? 3).map (fun i => (i.zero, i.size, i.bytes)) = some (some (.int .i64 0), 1, 8) := by kernel_rfl
theorem run_make_rowN {P : Program} (t e : TypeId) (i : TypeInfo) (z : Value) (ht : P.underlying t = some (.slice e)) (hi : P.info? e = some i) (hz : i.zero = some z)
    (kl kc : IntKind) (n c : Nat) (hnc : n ≤ c) (hbytes : i.bytes * c ≤ 281474976710656) (h63 : c ≤ 9223372036854775807) (w : World) :
    (Instr.makeSlice t (.int kl (n : Int)) (.int kc (c : Int))).run P w = .ok (.slice (some ⟨w.heap.size, 0, none⟩) n c) (w.alloc (.cells (madeCells z.cells (c * i.size)) e)) := by
  have hb : (i.bytes : Int) * (c : Int) ≤ 281474976710656 := by
    have h : ((i.bytes * c : Nat) : Int) ≤ 281474976710656 := by omega
    rwa [Int.natCast_mul] at h
  have hr := run_make (P := P) w t e i z ht hi hz kl kc n c (by omega) (by omega) hb (by omega)
  simp only [Int.toNat_natCast] at hr
  exact hr

theorem toBound_any (f t m : Int) (w : World) :
    Calls Try.prog 153 #[.agg #[.int .i64 f, .int .i64 t, .int .i64 m]] w fun e w' => e = .returned (.agg #[.int .i64 f, .int .i64 t, .int .i64 m]) ∧ Below w.heap.size w w' := by
  go_enter Try.func153, Try.ntmps153
  go_wp2
  refine bodyPost_ret (v := .agg #[.int .i64 f, .int .i64 t, .int .i64 m]) (by simp [results, Try.results153, go_sem]) rfl ⟨rfl, ?_⟩
  repeat (first | with_reducible exact Below.refl _ _ | with_reducible refine valloc ?_ _ | with_reducible refine vdrew ?_ | with_reducible refine vdrewN ?_ _ | with_reducible refine via (by assumption) ?_ | refine vset ?_ (by first | exact Nat.le_refl _ | (simp; done) | (simp; omega) | omega) _)
/-- What is handed back is a plan with n points and the bounds bs, in a row of the call's own. -/
def PlanCopy (n : Int) (bs : List Bd) (w : World) (e : Ending) (w' : World) : Prop :=
  ∃ A, e = .returned (.agg #[.int .i64 n, .slice A bs.length bs.length]) ∧ RB w' w.heap.size w'.heap.size A bs ∧ Below w.heap.size w w'
theorem toBoundS_any (A : Option Addr) (c : Nat) (bs : List Bd) (w : World) (h : BAt w A bs) (hlen : bs.length ≤ 1048576) :
    Calls Try.prog 141 #[.slice A bs.length c] w fun e w' => e = .returned (.slice (some ⟨w.heap.size, 0, none⟩) bs.length bs.length) ∧ RB w' w.heap.size w'.heap.size (some ⟨w.heap.size, 0, none⟩) bs ∧ Below w.heap.size w w' := by
  obtain ⟨i0, hi0, hz0, hz1, hz2⟩ := info_parts Try.infoBound
  have hmk := fun W => run_make_rowN (P := Try.prog) 23 55 i0 _ Try.underlying23 hi0 hz0 .i64 .i64 bs.length bs.length (Nat.le_refl _) (by rw [hz2]; omega) (by omega) W
  rw [hz1] at hmk
  go_enter Try.func141, Try.ntmps141
  go_wp2
  go_loopw [4] (fun i W => ∃ k : Nat, k ≤ bs.length ∧ i = .int .i64 k ∧ Below w.heap.size w W ∧ ∃ cs, Blk W w.heap.size 55 cs ∧ FillB bs k cs) (fun i _ => bs.length - (intOf i).toNat)
  case atStart => exact ⟨0, Nat.zero_le _, rfl, valloc (Below.refl _ _) _, _, Blk.new _ _ _, FillB.zero bs (by simp [madeCells])⟩
  case round =>
    obtain ⟨k, hk, rfl, hb, cs, hB, hF⟩ := hrel
    by_cases hlt : k < bs.length
    · obtain ⟨b, off, x, rfl, hbl, hx, hxm, c0, c1, c2⟩ := (h.below hb).at_ hlt
      obtain ⟨u0, u1, u2, v0, v1, v2⟩ := hF.room hlt
      have HX := Lib.hid hx
      clear hx
      go_wp2_with fail
      refine (toBound_any _ _ _ _).mono ?_
      rintro e w1 ⟨rfl, hb1⟩
      have hB1 := hB.below' hb1
      have d0 := (hB1.cell (k * 3)).trans v0
      have d1 := (hB1.cell (k * 3 + 1)).trans v1
      have d2 := (hB1.cell (k * 3 + 2)).trans v2
      have f0 := hB1.frozen (k * 3)
      have f1 := hB1.frozen (k * 3 + 1)
      have f2 := hB1.frozen (k * 3 + 2)
      clear v0 v1 v2 hmk
      have HB1 := Lib.hid hB1
      have HB := Lib.hid hB
      clear hB hB1
      go_wp2
      go_roundw
      case rel => exact ⟨k + 1, by omega, by go_num, vset (vset (vset (via hb1 hb) (Nat.le_refl _) _) (Nat.le_refl _) _) (Nat.le_refl _) _, _, ((HB1.out.set_ _ _).set_ _ _).set_ _ _, hF.step HX.out⟩
      case measure => simp [intOf]; omega
    · obtain rfl : k = bs.length := by omega
      have HB := Lib.hid hB
      clear hB hmk
      go_wp2
      go_ret
      exact ⟨rfl, .inr ⟨_, cs, rfl, Nat.le_refl _, HB.out.lt, HB.out, hF⟩, hb⟩
theorem toPlan_any (n : Int) (A : Option Addr) (c : Nat) (bs : List Bd) (w : World) (h : BAt w A bs) (hlen : bs.length ≤ 1048576) :
    Calls Try.prog 91 #[.agg #[.int .i64 n, .slice A bs.length c]] w (PlanCopy n bs w) := by
  go_enter Try.func91, Try.ntmps91
  go_wp2_with (go_at_call 141; refine (toBoundS_any _ _ bs _ (h.below (by repeat (first | with_reducible exact Below.refl _ _ | with_reducible refine valloc ?_ _ | with_reducible refine vdrew ?_ | with_reducible refine vdrewN ?_ _ | with_reducible refine via (by assumption) ?_ | refine vset ?_ (by first | exact Nat.le_refl _ | (simp; done) | (simp; omega) | omega) _))) hlen).mono ?_; rintro e w1 ⟨rfl, ho, hbw1⟩; obtain ⟨hcw1, hfw1⟩ := bcell hbw1; have hzw1 := hbw1.size; (try simp only [sz] at hzw1); (try simp only [szc] at hzw1); have hzw1_0 : w.heap.size < w1.heap.size := (by omega); have hzw1_1 : w.heap.size + 1 < w1.heap.size := (by omega); have hzw1_2 : w.heap.size + 2 < w1.heap.size := (by omega))
  refine bodyPost_ret (v := .agg #[.int .i64 n, .slice (some ⟨w.heap.size + 1 + 1 + 1, 0, none⟩) bs.length bs.length]) (by simp [results, Try.results91, go_sem, hcw1, hzw1_0, hzw1_1, hzw1_2]) rfl ⟨_, rfl, ?_, ?_⟩
  · have hs : w1.heap.size = ((((w1.setCell ⟨w.heap.size + 1 + 1, 1, none⟩ (.slice (some ⟨w.heap.size + 1 + 1 + 1, 0, none⟩) bs.length bs.length)).setCell ⟨w.heap.size + 1, 0, none⟩ (.int .i64 n)).setCell ⟨w.heap.size + 1, 1, none⟩ (.slice (some ⟨w.heap.size + 1 + 1 + 1, 0, none⟩) bs.length bs.length))).heap.size := by simp only [szc]
    rw [← hs]
    rcases ho with ⟨e, _⟩ | ⟨g, cs, e, h1, h2, hB, hF⟩
    · cases e
    · simp only [sz] at h1 h2 e hB
      refine .inr ⟨g, cs, e, by omega, h2, Blk.far (Blk.far (Blk.far hB ?_ _) ?_ _) ?_ _, hF⟩ <;> (dsimp only; omega)
  · repeat (first | with_reducible exact Below.refl _ _ | with_reducible refine valloc ?_ _ | with_reducible refine vdrew ?_ | with_reducible refine vdrewN ?_ _ | with_reducible refine via (by assumption) ?_ | refine vset ?_ (by first | exact Nat.le_refl _ | (simp; done) | (simp; omega) | omega) _)
theorem szPlan_any (n : Int) (A : Option Addr) (c m : Nat) (l : Int) (w : World) (hl : 0 ≤ l) (hl2 : l ≤ 1048576) (hlen : m ≤ 9223372036854775807) :
    Calls Try.prog 90 #[.agg #[.int .i64 n, .slice A m c], .int .i64 l] w fun e w' => e = .returned (.int .i64 (if (l - m : Int) < 0 then -1 else l - m)) ∧ Below w.heap.size w w' := by
  by_cases h : (l - m : Int) < 0
  · rw [if_pos h]
    go_enter Try.func90, Try.ntmps90
    go_wp2
    go_ret
    refine ⟨rfl, ?_⟩
    repeat (first | with_reducible exact Below.refl _ _ | with_reducible refine valloc ?_ _ | with_reducible refine vdrew ?_ | with_reducible refine vdrewN ?_ _ | with_reducible refine via (by assumption) ?_ | refine vset ?_ (by first | exact Nat.le_refl _ | (simp; done) | (simp; omega) | omega) _)
  · rw [if_neg h]
    go_enter Try.func90, Try.ntmps90
    go_wp2
    go_ret
    refine ⟨rfl, ?_⟩
    repeat (first | with_reducible exact Below.refl _ _ | with_reducible refine valloc ?_ _ | with_reducible refine vdrew ?_ | with_reducible refine vdrewN ?_ _ | with_reducible refine via (by assumption) ?_ | refine vset ?_ (by first | exact Nat.le_refl _ | (simp; done) | (simp; omega) | omega) _)
theorem eqBound_same (x : Bd) (w : World) :
    Calls Try.prog 154 #[.agg #[.int .i64 x.f, .int .i64 x.t, .int .i64 x.m], .agg #[.int .i64 x.f, .int .i64 x.t, .int .i64 x.m]] w fun e w' => e = .returned (.bool true) ∧ Below w.heap.size w w' := by
  go_enter Try.func154, Try.ntmps154
  go_wp2
  go_ret
  refine ⟨rfl, ?_⟩
  repeat (first | with_reducible exact Below.refl _ _ | with_reducible refine valloc ?_ _ | with_reducible refine vdrew ?_ | with_reducible refine vdrewN ?_ _ | with_reducible refine via (by assumption) ?_ | refine vset ?_ (by first | exact Nat.le_refl _ | (simp; done) | (simp; omega) | omega) _)
theorem eqBoundS_same (A A' : Option Addr) (c c' : Nat) (bs : List Bd) (w : World) (h : BAt w A bs) (h' : BAt w A' bs) (hlen : bs.length ≤ 1099511627776) :
    Calls Try.prog 142 #[.slice A bs.length c, .slice A' bs.length c'] w fun e w' => e = .returned (.bool true) ∧ Below w.heap.size w w' := by
  go_enter Try.func142, Try.ntmps142
  go_wp2
  go_loopw [5] (fun i W => ∃ k : Nat, k ≤ bs.length ∧ i = .int .i64 k ∧ Below w.heap.size w W) (fun i _ => bs.length - (intOf i).toNat)
  case atStart => exact ⟨0, Nat.zero_le _, rfl, Below.refl _ _⟩
  case round =>
    obtain ⟨k, hk, rfl, hb⟩ := hrel
    by_cases hlt : k < bs.length
    · obtain ⟨b, off, x, rfl, hbl, hx, hxm, c0, c1, c2⟩ := (h.below hb).at_ hlt
      obtain ⟨b', off', x', rfl, hbl', hx', hxm', d0, d1, d2⟩ := (h'.below hb).at_ hlt
      obtain rfl : x = x' := by rw [hx] at hx'; injection hx'
      clear hx hx' h h'
      go_wp2
      go_still_tail 8, (by kernel_rfl)
      change wpList _ _ _ _ _ wr.drew
      have HB : Below wr.heap.size wr wr.drew := (Below.refl _ _).drew
      generalize wr.drew = w2 at HB
      go_wp2_with (go_at_call 154; refine (eqBound_same _ _).mono ?_; rintro e w1 ⟨rfl, hb1⟩)
      go_roundw
      case rel => exact ⟨k + 1, by omega, by go_num, via hb1 (via HB hb)⟩
      case measure => simp [intOf]; omega
    · clear h h'
      go_wp2
      go_ret
      exact ⟨rfl, hb⟩
theorem eqPlan_same (n : Int) (A A' : Option Addr) (c c' : Nat) (bs : List Bd) (w : World) (h : BAt w A bs) (h' : BAt w A' bs) (hlen : bs.length ≤ 1099511627776) :
    Calls Try.prog 93 #[.agg #[.int .i64 n, .slice A bs.length c], .agg #[.int .i64 n, .slice A' bs.length c']] w fun e w' => e = .returned (.bool true) ∧ Below w.heap.size w w' := by
  go_enter Try.func93, Try.ntmps93
  go_wp2_with (go_at_call 142; refine (eqBoundS_same _ _ _ _ bs _ (h.below (by repeat (first | with_reducible exact Below.refl _ _ | with_reducible refine valloc ?_ _ | with_reducible refine vdrew ?_ | with_reducible refine vdrewN ?_ _ | with_reducible refine via (by assumption) ?_ | refine vset ?_ (by first | exact Nat.le_refl _ | (simp; done) | (simp; omega) | omega) _))) (h'.below (by repeat (first | with_reducible exact Below.refl _ _ | with_reducible refine valloc ?_ _ | with_reducible refine vdrew ?_ | with_reducible refine vdrewN ?_ _ | with_reducible refine via (by assumption) ?_ | refine vset ?_ (by first | exact Nat.le_refl _ | (simp; done) | (simp; omega) | omega) _))) hlen).mono ?_; rintro e w1 ⟨rfl, hb1⟩)
  go_ret
  refine ⟨rfl, ?_⟩
  repeat (first | with_reducible exact Below.refl _ _ | with_reducible refine valloc ?_ _ | with_reducible refine vdrew ?_ | with_reducible refine vdrewN ?_ _ | with_reducible refine via (by assumption) ?_ | refine vset ?_ (by first | exact Nat.le_refl _ | (simp; done) | (simp; omega) | omega) _)
end Go.Proofs.Ytedpaanhnbodfaa