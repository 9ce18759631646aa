/- The contract of impl.State.ready. -/
import Derived.Test.YtaifpindiphlkacWindows2
namespace Go.Proofs.Ytaifpindiphlkac
open Go.RowKit
set_option linter.unusedVariables false
set_option maxRecDepth 10000
set_option linter.unusedSimpArgs false

/-- Is there no point that is not done and must be before this one? -/
def readyB (T : Tab) (xs : List Int) (p : Nat) : Bool := (List.range xs.length).all fun i => !(decide (nthI xs i = -1) && decide (T p i < 0))
theorem readyB_bad {T : Tab} {xs : List Int} {p i : Nat} (hi : i < xs.length) (h1 : nthI xs i = -1) (h2 : T p i < 0) : readyB T xs p = false := by
  rw [← Bool.not_eq_true]; unfold readyB; rw [List.all_eq_true]
  intro hh
  have := hh i (List.mem_range.2 hi)
  simp [h1] at this
  omega
theorem readyB_good {T : Tab} {xs : List Int} {p : Nat} (h : ∀ i, i < xs.length → ¬ (nthI xs i = -1 ∧ T p i < 0)) : readyB T xs p = true := by
  unfold readyB; rw [List.all_eq_true]
  intro i hi
  have := h i (List.mem_range.1 hi)
  simp; omega
theorem openB_at {xs : List Int} {k : Nat} {x : Int} (hx : xs[k]? = some x) : openB xs k = (x == -1) := by
  have hk : k < xs.length := (List.getElem?_eq_some_iff.1 hx).1
  have hi : inB k 0 ((xs.length : Int) - 1) = true := (inB_iff _ _ _).2 (by omega)
  simp [openB, hi, nthI_of hx, Int.toNat_natCast]; exact Bool.eq_iff_iff.2 (by simp)
set_option maxHeartbeats 1000000 in
theorem ready_any (A A' : Option Addr) (c c' N p : Nat) (now : Int) (T : Tab) (ts : List Int) (w : World) (h : MAt w A N N T) (h' : IAt w A' ts) (hp : p < N) (hl : ts.length ≤ N) (hN : N ≤ 1000) :
    Calls Try.prog 41 #[.agg #[.int .i64 now, .slice A' ts.length c'], .slice A N c, .int .i64 p] w fun e w' => e = .returned (.bool (readyB T ts p)) ∧ Below w.heap.size w w' := by
  have H0 := Lib.hid h
  have H1 := Lib.hid h'
  clear h h'
  go_enter Try.func41, Try.ntmps41
  go_wp2
  go_loopw [11] (fun k W => ∃ kk : Nat, kk ≤ ts.length ∧ k = .int .i64 kk ∧ (∀ i, i < kk → ¬ (nthI ts i = -1 ∧ T p i < 0)) ∧ W.cell? ⟨w.heap.size, 0, none⟩ = some (.int .i64 now) ∧ W.cell? ⟨w.heap.size, 1, none⟩ = some (.slice A' ts.length c') ∧ Below w.heap.size w W) (fun k _ => ts.length - (intOf k).toNat)
  case atStart => exact ⟨0, Nat.zero_le _, rfl, fun i hi => absurd hi (Nat.not_lt_zero _), by simp, by simp, valloc (Below.refl _ _) _⟩
  case round =>
    obtain ⟨k, hk, rfl, hok, e0, e1, hb⟩ := hrel
    have HOK := Lib.hid hok
    clear hok
    by_cases hlt : k < ts.length
    · obtain ⟨bx, ox, x, rfl, hbx, hx, hxm, cx⟩ := (H1.out.below hb).at_ hlt
      have X1 := Lib.hid (nthI_of hx)
      clear hx hxm
      obtain ⟨g, off, b1, o1, cc1, rfl, hg, r1, hbl1, q1⟩ := (H0.out.below hb).at_ hp
      have p1 := q1 k (by omega)
      clear q1
      have hz := cell_lt e0
      cases hxe : (x == -1)
      · have HN := Lib.hid (show ¬ (nthI ts k = -1 ∧ T p k < 0) by rw [X1.out]; intro hh; rw [hh.1] at hxe; simp at hxe)
        go_wp2
        go_roundw
        case rel => exact ⟨k + 1, by omega, by go_num, fun i hi => by
          by_cases e : i = k
          · rw [e]; exact HN.out
          · exact HOK.out i (by omega), cA e0 _, cA e1 _, valloc hb _⟩
        case measure => simp [intOf]; omega
      · have HXE := Lib.hid (beq_iff_eq.1 hxe)
        by_cases hneg : T p k < 0
        · have HR := Lib.hid (readyB_bad (p := p) hlt (by rw [X1.out, HXE.out]) hneg)
          go_wp2
          go_ret
          exact ⟨ret_bool HR.out.symm, valloc hb _⟩
        · have HN := Lib.hid (show ¬ (nthI ts k = -1 ∧ T p k < 0) from fun hh => hneg hh.2)
          have hge : 0 ≤ T p k := by omega
          go_wp2
          go_roundw
          case rel => exact ⟨k + 1, by omega, by go_num, fun i hi => by
            by_cases e : i = k
            · rw [e]; exact HN.out
            · exact HOK.out i (by omega), cA e0 _, cA e1 _, valloc hb _⟩
          case measure => simp [intOf]; omega
    · obtain rfl : ts.length = k := by omega
      have HR := Lib.hid (readyB_good (p := p) HOK.out)
      go_wp2
      go_ret
      exact ⟨ret_bool HR.out.symm, hb⟩
end Go.Proofs.Ytaifpindiphlkac
