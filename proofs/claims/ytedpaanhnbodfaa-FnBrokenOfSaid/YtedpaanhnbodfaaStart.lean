/- The contract of impl.start: a new table of some bounds; for at most a thousand points and 2^40 bounds, whose ends are points. -/
import Derived.Test.YtedpaanhnbodfaaGrid
import Derived.Deep.QuietTactic
import Derived.BigQuiet
import Derived.StillTailTactics
import Derived.WalkLawsBesides
namespace Go.Proofs.Ytedpaanhnbodfaa
open Go.RowKit
set_option linter.unusedVariables false
set_option maxRecDepth 10000
set_option linter.unusedSimpArgs false

theorem Try.infoInts : (Try.prog.info? 30).map (fun i => (i.zero, i.size, i.bytes)) = some (some (.slice none 0 0), 1, 24) := by kernel_rfl
/-- The first i rows of a new table are laid. -/
structure Laid (w : World) (lo g N i : Nat) (R : Nat → Nat) : Prop where
  outer : ∃ cs, Blk w g 30 cs ∧ cs.size = N ∧ ∀ a, a < i → cs[a]? = some (.slice (some ⟨R a, 0, none⟩) N N)
  glo : lo ≤ g
  rows : ∀ a, a < i → ∃ rs, Blk w (R a) 3 rs ∧ ∀ j, j < N → rs[j]? = some (.int .i64 (tab0 a j))
  rlo : ∀ a, a < i → lo ≤ R a
  rne : ∀ a, a < i → R a ≠ g
  inj : ∀ a b, a < i → b < i → R a = R b → a = b
theorem Laid.grid {w : World} {lo g N : Nat} {R : Nat → Nat} (h : Laid w lo g N N R) : Grid w lo w.heap.size g N R (fun _ => N) tab0 := by
  obtain ⟨cs, hB, hs, hc⟩ := h.outer
  exact ⟨⟨cs, hB, hc⟩, h.glo, hB.lt, h.rows, h.rlo, fun i hi => by obtain ⟨rs, hB, _⟩ := h.rows i hi; exact hB.lt, h.rne, h.inj, fun _ _ => Nat.le_refl _⟩
/-- One row more. -/
theorem Laid.step {w w1 : World} {lo g N i B : Nat} {R : Nat → Nat} {cs rs : Array Value} (h : Laid w lo g N i R) (hi : i < N) (hB : B = w.heap.size) (hlo : lo ≤ B)
    (hg0 : Blk w g 30 cs) (hg : Blk w1 g 30 (cs.setIfInBounds i (.slice (some ⟨B, 0, none⟩) N N))) (hs : cs.size = N) (hc : ∀ a, a < i → cs[a]? = some (.slice (some ⟨R a, 0, none⟩) N N))
    (hold : ∀ k, k < w.heap.size → k ≠ g → w1.heap[k]? = w.heap[k]?) (hr : Blk w1 B 3 rs) (hrs : ∀ j, j < N → rs[j]? = some (.int .i64 (tab0 i j))) :
    Laid w1 lo g N (i + 1) (fun a => if a = i then B else R a) := by
  have rlt : ∀ a, a < i → R a < w.heap.size := fun a ha => by obtain ⟨rs, hB, _⟩ := h.rows a ha; exact hB.lt
  refine ⟨⟨_, hg, by simpa using hs, fun a ha => ?_⟩, h.glo, fun a ha => ?_, fun a ha => ?_, fun a ha => ?_, fun a b ha hb he => ?_⟩
  · rw [Array.getElem?_setIfInBounds]
    by_cases e : i = a
    · subst e; simp only [if_true]; rw [if_pos (by omega)]
    · rw [if_neg e, hc a (by omega)]; simp only [if_neg (Ne.symm e)]
  · by_cases e : a = i
    · subst e; simp only [if_true]; exact ⟨rs, hr, hrs⟩
    · simp only [if_neg e]
      obtain ⟨rs', hB', hc'⟩ := h.rows a (by omega)
      exact ⟨rs', (hold _ hB'.lt (h.rne a (by omega))).trans hB', hc'⟩
  · by_cases e : a = i
    · simp only [if_pos e]; exact hlo
    · simp only [if_neg e]; exact h.rlo a (by omega)
  · by_cases e : a = i
    · simp only [if_pos e]; have := hg0.lt; omega
    · simp only [if_neg e]; exact h.rne a (by omega)
  · by_cases e : a = i <;> by_cases e2 : b = i
    · omega
    · simp only [if_pos e, if_neg e2] at he; have := rlt b (by omega); omega
    · simp only [if_neg e, if_pos e2] at he; have := rlt a (by omega); omega
    · simp only [if_neg e, if_neg e2] at he; exact h.inj a b (by omega) (by omega) he
/-- A new table. -/
def NewGrid (N : Nat) (T : Tab) (w : World) (e : Ending) (w' : World) : Prop :=
  ∃ g R, e = .returned (.slice (some ⟨g, 0, none⟩) N N) ∧ Grid w' w.heap.size w'.heap.size g N R (fun _ => N) T ∧ Below w.heap.size w w'
set_option maxHeartbeats 4000000 in
theorem start_any (N : Nat) (A : Option Addr) (c : Nat) (bs : List Bd) (w : World) (h : BAt w A bs) (hN : N ≤ 1000) (hlen : bs.length ≤ 1099511627776) (hin : ∀ x ∈ bs, 0 ≤ x.f ∧ x.f < N ∧ 0 ≤ x.t ∧ x.t < N) :
    Calls Try.prog 122 #[.int .i64 N, .slice A bs.length c] w (NewGrid N (startT bs) w) := by
  obtain ⟨i0, hi0, hz0, hz1, hz2⟩ := info_parts Try.infoInts
  have hmk := fun W => run_make_rowN (P := Try.prog) 95 30 i0 _ Try.underlying95 hi0 hz0 .i64 .i64 N N (Nat.le_refl _) (by rw [hz2]; omega) (by omega) W
  rw [hz1] at hmk
  obtain ⟨i1, hi1, hy0, hy1, hy2⟩ := info_parts Try.infoInt
  have hmk2 := fun W => run_make_rowN (P := Try.prog) 30 3 i1 _ Try.underlying30 hi1 hy0 .i64 .i64 N N (Nat.le_refl _) (by rw [hy2]; omega) (by omega) W
  rw [hy1] at hmk2
  have HIN := Lib.hid hin
  clear hin
  go_enter Try.func122, Try.ntmps122
  go_wp2
  clear hmk
  go_loopw [14] (fun i W => ∃ (ii : Nat) (R : Nat → Nat), ii ≤ N ∧ i = .int .i64 ii ∧ Laid W w.heap.size w.heap.size N ii R ∧ Below w.heap.size w W) (fun i _ => N - (intOf i).toNat)
  case atStart => exact ⟨0, fun _ => 0, Nat.zero_le _, rfl, ⟨⟨_, Blk.new _ _ _, by simp [madeCells], fun a ha => absurd ha (Nat.not_lt_zero _)⟩, Nat.le_refl _, fun a ha => absurd ha (Nat.not_lt_zero _), fun a ha => absurd ha (Nat.not_lt_zero _), fun a ha => absurd ha (Nat.not_lt_zero _), fun a b ha => absurd ha (Nat.not_lt_zero _)⟩, valloc (Below.refl _ _) _⟩
  case round =>
    obtain ⟨i, R, hi, rfl, hL, hb⟩ := hrel
    have HL := Lib.hid hL
    obtain ⟨cs, hB, hcs, hc⟩ := hL.outer
    clear hL
    by_cases hlt : i < N
    · have v0 : cs[i]? = some cs[i] := Array.getElem?_eq_getElem (by omega)
      generalize cs[i] = u0 at v0
      have d0 := (hB.cell i).trans v0
      have f0 := hB.frozen i
      have hgl := hB.lt
      have HB := Lib.hid hB
      have HC := Lib.hid hc
      clear hB v0 hc
      obtain ⟨w1, hw1⟩ : ∃ w1 : World, w1 = wr := ⟨_, rfl⟩
      subst hw1
      go_wp2
      clear hmk2
      go_loopw [27] (fun kx W => ∃ (kk : Nat) (rs : Array Value), kk ≤ N ∧ kx = .int .i64 kk ∧ Blk W w1.heap.size 3 rs ∧ rs.size = N ∧ (∀ j, j < kk → rs[j]? = some (.int .i64 100000)) ∧ Blk W w.heap.size 30 (cs.setIfInBounds i (.slice (some ⟨w1.heap.size, 0, none⟩) N N)) ∧ (∀ k, k < w1.heap.size → k ≠ w.heap.size → W.heap[k]? = w1.heap[k]?) ∧ Below w.heap.size w W) (fun kx _ => N - (intOf kx).toNat)
      case atStart =>
        exact ⟨0, _, Nat.zero_le _, rfl, Blk.new' (by rw [szc]) _ _, by simp [madeCells], fun j hj => absurd hj (Nat.not_lt_zero _), (HB.out.set_ _ _).alloc _, fun k hk hne => (Below.heap_alloc _ _ _ (by rw [szc]; exact hk)).trans (Below.heap_setCell _ _ _ _ hne), valloc (vset hb (Nat.le_refl _) _) _⟩
      case round =>
        obtain ⟨k, rs, hk, rfl, hRr, hrs, hfar, hOut, hold, hb2⟩ := hrel
        have HR := Lib.hid hRr
        have HO := Lib.hid hOut
        have HF := Lib.hid hfar
        have HOLD := Lib.hid hold
        have o1 : wr.cell? ⟨w.heap.size, i, none⟩ = some (.slice (some ⟨w1.heap.size, 0, none⟩) N N) := by
          refine (hOut.cell i).trans ?_
          rw [Array.getElem?_setIfInBounds, if_pos rfl, if_pos (by omega)]
        clear hOut hfar hold
        by_cases hlt2 : k < N
        · have v0 : rs[k]? = some rs[k] := Array.getElem?_eq_getElem (by omega)
          generalize rs[k] = u1 at v0
          have d1 := (hRr.cell k).trans v0
          have f1 := hRr.frozen k
          clear hRr v0
          go_wp2
          go_roundw
          case rel =>
            refine ⟨k + 1, _, by omega, by go_num, HR.out.set_ _ _, by simpa using hrs, fun j hj => ?_, HO.out.far (by dsimp only; omega) _, fun q hq hne => (Below.heap_setCell _ _ _ _ (by dsimp only; omega)).trans (HOLD.out q hq hne), vset hb2 (by dsimp only; omega) _⟩
            rw [Array.getElem?_setIfInBounds]
            by_cases e : k = j
            · rw [if_pos e, if_pos (by omega)]
            · rw [if_neg e]; exact HF.out j (by omega)
          case measure => simp [intOf]; omega
        · obtain rfl : k = N := by omega
          have v0 : rs[i]? = some rs[i] := Array.getElem?_eq_getElem (by omega)
          generalize rs[i] = u1 at v0
          have d1 := (hRr.cell i).trans v0
          have f1 := hRr.frozen i
          clear hRr v0
          go_wp2
          go_roundw
          case rel =>
            refine ⟨i + 1, _, by omega, by go_num, HL.out.step hlt rfl (by omega) HB.out (HO.out.far (by dsimp only; omega) _) hcs HC.out (fun q hq hne => (Below.heap_setCell _ _ _ _ (by dsimp only; omega)).trans (HOLD.out q hq hne)) (HR.out.set_ _ _) (fun j hj => ?_), vset hb2 (by dsimp only; omega) _⟩
            rw [Array.getElem?_setIfInBounds]
            by_cases e : i = j
            · rw [if_pos e, if_pos (by omega)]; simp [tab0, e]
            · rw [if_neg e, HF.out j hj]; simp [tab0, e]
          case measure => simp [intOf]; omega
    · obtain rfl : i = N := by omega
      have HG := Lib.hid HL.out.grid
      clear hmk2 HL hcs hc hB
      go_wp2
      obtain ⟨w3, hw3⟩ : ∃ w3 : World, w3 = wr := ⟨_, rfl⟩
      subst hw3
      go_loopw [46] (fun kx W => ∃ k : Nat, k ≤ bs.length ∧ kx = .int .i64 k ∧ Grid W w.heap.size w3.heap.size w.heap.size i R (fun _ => i) (startT (bs.take k)) ∧ Below w.heap.size w W ∧ w3.heap.size ≤ W.heap.size) (fun kx _ => bs.length - (intOf kx).toNat)
      case atStart => exact ⟨0, Nat.zero_le _, rfl, HG.out, hb, Nat.le_refl _⟩
      case round =>
        obtain ⟨k, hk, rfl, hG, hb2, hz⟩ := hrel
        have HG2 := Lib.hid hG
        clear hG
        by_cases hlt2 : k < bs.length
        · obtain ⟨b, off, x, rfl, hbl, hx, hxm, c0, c1, c2⟩ := (h.below hb2).at_ hlt2
          obtain ⟨p1, p2, p3, p4⟩ := HIN.out x hxm
          have EB := Lib.hid (startT_snoc bs k x hx)
          obtain ⟨f, t, m⟩ := x
          simp only at p1 p2 p3 p4 c0 c1 c2
          obtain ⟨f, rfl⟩ := Int.eq_ofNat_of_zero_le p1
          obtain ⟨t, rfl⟩ := Int.eq_ofNat_of_zero_le p3
          have hf' : f < i := by omega
          have ht' : t < i := by omega
          generalize startT (bs.take k) = Tk at *
          have EP := Lib.hid (show putB Tk ⟨(f : Int), (t : Int), m⟩ = upd Tk f t (mn (Tk f t) m) from rfl)
          clear hx
          have hfi : (f : Int) < (i : Int) := p2
          have hti : (t : Int) < (i : Int) := p4
          go_wp2
          have F : ∀ o, Grid (wr.alloc o) w.heap.size w3.heap.size w.heap.size i R (fun _ => i) Tk ∧ Below w.heap.size w (wr.alloc o) ∧ w3.heap.size ≤ (wr.alloc o).heap.size := fun o => ⟨HG2.out.same ((Same.refl _ _ _).alloc o) hz, valloc hb2 o, Nat.le_trans hz (leA wr o)⟩
          have FB := Blk.new wr 55 #[.int .i64 (f : Int), .int .i64 (t : Int), .int .i64 m]
          replace F := F (.cells #[.int .i64 (f : Int), .int .i64 (t : Int), .int .i64 m] 55)
          clear c0 c1 c2
          generalize (wr.alloc (.cells #[.int .i64 (f : Int), .int .i64 (t : Int), .int .i64 m] 55)) = w4 at F FB ⊢
          obtain ⟨hG4, hb4, hz4⟩ := F
          have x0 : w4.cell? ⟨wr.heap.size, 0, none⟩ = some (.int .i64 (f : Int)) := FB.cell 0
          have x1 : w4.cell? ⟨wr.heap.size, 1, none⟩ = some (.int .i64 (t : Int)) := FB.cell 1
          have x2 : w4.cell? ⟨wr.heap.size, 2, none⟩ = some (.int .i64 m) := FB.cell 2
          have r1 := hG4.row hf'
          have r2 := hG4.cell hf' ht'
          have HG4 := Lib.hid hG4
          clear hG4 FB
          go_still_tail 20, (by kernel_rfl)
          change wpList _ _ _ _ _ w4.drew
          have F : Grid w4.drew w.heap.size w3.heap.size w.heap.size i R (fun _ => i) Tk ∧ Below w.heap.size w w4.drew ∧ w3.heap.size ≤ w4.drew.heap.size := ⟨HG4.out.drew, vdrew hb4, hz4⟩
          clear r1 r2 x0 x1 x2 HG4 hb4 hz4
          generalize w4.drew = w5 at F ⊢
          obtain ⟨hG5, hb5, hz5⟩ := F
          have d1 := hG5.cell hf' ht'
          have d2 := hG5.frozen (j := t) hf'
          have GS := Lib.hid (hG5.set_ hf' ht' (mn (Tk f t) m))
          have BS := Lib.hid (vset hb5 (p := ⟨R f, t, none⟩) (hG5.rlo f hf') (.int .i64 (mn (Tk f t) m)))
          have hzs : w3.heap.size ≤ (w5.setCell ⟨R f, t, none⟩ (.int .i64 (mn (Tk f t) m))).heap.size := by rw [szc]; exact hz5
          have HZ := Lib.hid hzs
          clear hG5 hb5 hzs
          go_wp2
          go_roundw
          case rel => exact ⟨k + 1, by omega, by go_num, by rw [EB.out, EP.out]; exact GS.out, BS.out, HZ.out⟩
          case measure => simp [intOf]; omega
        · obtain rfl : k = bs.length := by omega
          go_wp2
          go_ret
          have := HG2.out
          rw [List.take_length] at this
          exact ⟨_, R, rfl, this.wide (Nat.le_refl _) hz, hb2⟩
end Go.Proofs.Ytedpaanhnbodfaa
