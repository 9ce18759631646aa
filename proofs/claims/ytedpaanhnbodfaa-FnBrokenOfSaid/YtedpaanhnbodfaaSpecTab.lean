/- The contract of spec.l2Table: the table of a plan, as the reference makes it; for plans of at most a thousand points and slices of at most 2^40 bounds. -/
import Derived.Test.YtedpaanhnbodfaaMat
import Derived.Deep.QuietTactic
import Derived.BigQuiet
namespace Go.Proofs.Ytedpaanhnbodfaa
open Go.RowKit
set_option linter.unusedVariables false
set_option maxRecDepth 10000
set_option linter.unusedSimpArgs false

/-- One bound's part in one number of the table. -/
def entB (i j : Nat) (n : Int) (x : Bd) : Int := if x.f = (i : Int) ∧ x.t = (j : Int) then mn n x.m else n
/-- One number of the table of some bounds. -/
def ent (bs : List Bd) : Tab := fun i j => bs.foldl (entB i j) (tab0 i j)
theorem ent_zero (bs : List Bd) (i j : Nat) : ent (bs.take 0) i j = tab0 i j := rfl
theorem entB_hit {i j : Nat} {n : Int} {x : Bd} (h1 : x.f = (i : Int)) (h2 : x.t = (j : Int)) : entB i j n x = mn n x.m := by simp [entB, h1, h2]
theorem entB_miss1 {i j : Nat} {n : Int} {x : Bd} (h1 : ¬ x.f = (i : Int)) : entB i j n x = n := by simp [entB, h1]
theorem entB_miss2 {i j : Nat} {n : Int} {x : Bd} (h1 : ¬ x.t = (j : Int)) : entB i j n x = n := by simp [entB, h1]
theorem ent_snoc (bs : List Bd) (i j k : Nat) (x : Bd) (h : bs[k]? = some x) : ent (bs.take (k + 1)) i j = entB i j (ent (bs.take k) i j) x := by
  obtain ⟨hl, hv⟩ := List.getElem?_eq_some_iff.1 h
  unfold ent
  rw [List.take_succ_eq_append_getElem hl, List.foldl_append, hv]; rfl
/-- The first k numbers of row i. -/
def rowTo (T : Tab) (i k : Nat) : List Int := (List.range k).map (T i)
theorem rowTo_length (T : Tab) (i k : Nat) : (rowTo T i k).length = k := by simp [rowTo]
theorem rowTo_snoc (T : Tab) (i k : Nat) : rowTo T i (k + 1) = rowTo T i k ++ [T i k] := by unfold rowTo; rw [List.range_succ, List.map_append]; rfl
theorem rowTo_at (T : Tab) (i k j : Nat) (h : j < k) : (rowTo T i k)[j]? = some (T i j) := by simp [rowTo, h]
theorem OwnL.rowOk {w : World} {base N i : Nat} {v : Value} {T : Tab} (h : OwnL w base v (rowTo T i N)) (hN : 1 ≤ N) : RowOk w base v N (T i) := by
  obtain ⟨h1, ⟨rfl, h0⟩ | ⟨g, cap, cur, rfl, hg, hh, hn, hc, hs, ht⟩⟩ := h
  · rw [rowTo_length] at h0; omega
  · rw [rowTo_length, Nat.mul_one] at ht
    refine ⟨g, cap, cur, by rw [rowTo_length], hg, hh, fun j hj => ?_⟩
    have h2 : (cur.toList.take N)[j]? = some (.int .i64 (T i j)) := by rw [ht, List.getElem?_map, rowTo_at T i N j hj]; rfl
    rw [List.getElem?_take_of_lt hj] at h2
    simpa using h2
/-- A new table, by reading alone. -/
def NewMat (N : Nat) (T : Tab) (w : World) (e : Ending) (w' : World) : Prop := ∃ A c, e = .returned (.slice A N c) ∧ MLoc w' w.heap.size w'.heap.size A N N T ∧ Below w.heap.size w w'
set_option maxHeartbeats 4000000 in
theorem l2Table_any (N : Nat) (A : Option Addr) (c : Nat) (bs : List Bd) (w : World) (h : BAt w A bs) (hN1 : 1 ≤ N) (hN : N ≤ 1000) (hlen : bs.length ≤ 1099511627776) :
    Calls Try.prog 148 #[.agg #[.int .i64 N, .slice A bs.length c]] w (NewMat N (ent bs) w) := by
  go_enter Try.func148, Try.ntmps148
  go_wp2
  go_loopw [3, 4] (fun out i W => ∃ (ii : Nat) (vals : List Value), ii ≤ N ∧ i = .int .i64 ii ∧ vals.length = ii ∧ OwnM W (w.heap.size + 1) out vals ∧ (∀ a val, vals[a]? = some val → RowOk W (w.heap.size + 1) val N (ent bs a)) ∧ Below w.heap.size w W ∧ w.heap.size < W.heap.size ∧ W.cell? ⟨w.heap.size, 0, none⟩ = some (.int .i64 N) ∧ W.cell? ⟨w.heap.size, 1, none⟩ = some (.slice A bs.length c)) (fun _ i _ => N - (intOf i).toNat)
  case atStart => exact ⟨0, [], Nat.zero_le _, rfl, rfl, OwnM.empty (w.alloc _) _ _ (by simp) (Nat.le_refl _), fun a val hv => by simp at hv, valloc (valloc (Below.refl _ _) _) _, by simp; omega, by simp, by simp⟩
  case round =>
    obtain ⟨i, vals, hi, rfl, hvl, hown, hrows, hb, hz, e0, e1⟩ := hrel
    have HO := Lib.hid hown
    have HR := Lib.hid hrows
    have HV := Lib.hid hvl
    have hvl' : vals.length ≤ 1000 := by omega
    clear hown hrows hvl
    by_cases hlt : i < N
    · obtain ⟨w1, hw1⟩ : ∃ w1 : World, w1 = wr := ⟨_, rfl⟩
      subst hw1
      go_wp2
      go_loopw [5, 6] (fun row j W => ∃ jj : Nat, jj ≤ N ∧ j = .int .i64 jj ∧ OwnL W w1.heap.size row (rowTo (ent bs) i jj) ∧ Below w1.heap.size w1 W) (fun _ j _ => N - (intOf j).toNat)
      case atStart => exact ⟨0, Nat.zero_le _, rfl, OwnL.empty w1 _ _ rfl (Nat.le_refl _), (Below.refl _ _).alloc (Nat.le_refl _) _⟩
      case round =>
        obtain ⟨j, hj, rfl, hown, hb2⟩ := hrel
        have HO2 := Lib.hid hown
        have f0 := cBel hb2 hz e0
        have f1 := cBel hb2 hz e1
        have hz2 := hb2.size
        have hrl : (rowTo (ent bs) i j).length ≤ 1000 := by rw [rowTo_length]; omega
        clear hown
        by_cases hlt2 : j < N
        · have HB := Lib.hid ((h.below hb).below hb2)
          obtain ⟨w2, hw2⟩ : ∃ w2 : World, w2 = wr := ⟨_, rfl⟩
          subst hw2
          have HS := Lib.hid (rowTo_snoc (ent bs) i j)
          have HT : Hid ((((i : Int) == (j : Int)) = true → tab0 i j = 0) ∧ (((i : Int) == (j : Int)) = false → tab0 i j = 100000)) := by
            refine ⟨fun hh => ?_, fun hh => ?_⟩
            · have := beq_iff_eq.1 hh; simp [tab0]; omega
            · have := beq_eq_false_iff_ne.1 hh; simp [tab0]; omega
          cases hij : ((i : Int) == (j : Int))
          all_goals
            have HIJ := Lib.hid hij
            go_wp2
            clear hij
            go_loop [7, 8] (fun n kx => ∃ k : Nat, k ≤ bs.length ∧ kx = .int .i64 k ∧ n = .int .i64 (ent (bs.take k) i j)) (fun _ kx => bs.length - (intOf kx).toNat)
            case atStart => exact ⟨0, Nat.zero_le _, rfl, by rw [ent_zero]; first | rw [HT.out.1 HIJ.out] | rw [HT.out.2 HIJ.out]⟩
            case round =>
              obtain ⟨k, hk, rfl, rfl⟩ := hrel
              by_cases hlt3 : k < bs.length
              · obtain ⟨b, off, x, rfl, hbl, hx, hxm, c0, c1, c2⟩ := HB.out.at_ hlt3
                have EB := Lib.hid (ent_snoc bs i j k x hx)
                clear hx
                generalize ent (bs.take k) i j = nk at *
                by_cases h1 : x.f = (i : Int)
                · have h1' : (x.f == (i : Int)) = true := by simp [h1]
                  by_cases h2 : x.t = (j : Int)
                  · have h2' : (x.t == (j : Int)) = true := by simp [h2]
                    have EE := Lib.hid (entB_hit (n := nk) h1 h2)
                    clear h1 h2
                    go_wp2
                    go_round
                    case rel => exact ⟨k + 1, by omega, by go_num, by rw [EB.out, EE.out]; rfl⟩
                    case measure => simp [intOf]; omega
                  · have h2' : (x.t == (j : Int)) = false := by simp [h2]
                    have EE := Lib.hid (entB_miss2 (i := i) (n := nk) h2)
                    clear h1 h2
                    go_wp2
                    go_round
                    case rel => exact ⟨k + 1, by omega, by go_num, by rw [EB.out, EE.out]⟩
                    case measure => simp [intOf]; omega
                · have h1' : (x.f == (i : Int)) = false := by simp [h1]
                  have EE := Lib.hid (entB_miss1 (j := j) (n := nk) h1)
                  clear h1
                  go_wp2
                  go_round
                  case rel => exact ⟨k + 1, by omega, by go_num, by rw [EB.out, EE.out]⟩
                  case measure => simp [intOf]; omega
              · obtain rfl : k = bs.length := by omega
                rw [List.take_length]
                have HE := Lib.hid HO2.out
                go_wp2_with (at_builtin; refine wpList_push rfl _ _ rfl w1.heap.size _ _ rfl (HE.out.alloc _) w2.heap.size (ent bs i j) rfl (by simp) (by omega) (by simp; omega) ?_; intro v1 w3 hown3 hb3)
                go_roundw
                case rel => exact ⟨j + 1, by omega, by go_num, by rw [HS.out]; exact hown3, (hb2.alloc hb2.size _).trans hb3⟩
                case measure => simp [intOf]; omega
        · obtain rfl : N = j := by omega
          rw [rowTo_length] at hrl
          have RO := Lib.hid (HO2.out.rowOk hN1)
          obtain ⟨G, cg, rfl, _⟩ := HO2.out.ri
          have hbig : Below w.heap.size w wr := hb.trans (hb2.mono hb.size)
          have OM := Lib.hid (HO.out.below hb2 (Nat.le_refl _))
          have HR2 := Lib.hid (fun a val hv => (HR.out a val hv).below hb2 (Nat.le_refl _))
          have hz3 : w.heap.size + 1 ≤ wr.heap.size := by omega
          rw [rowTo_length] at HO2 RO ⊢
          obtain ⟨w2, hw2⟩ : ∃ w2 : World, w2 = wr := ⟨_, rfl⟩
          subst hw2
          go_wp2_with (at_builtin; refine wpList_pushM rfl _ _ rfl (w.heap.size + 1) _ vals rfl (OM.out.alloc _) w2.heap.size _ rfl rfl (by simp; rfl) (by omega) (by simp; omega) ?_; intro v1 w3 hown3 hb3 hk3)
          have hb4 := (hbig.alloc hbig.size (.cells #[.slice G N cg] 30)).trans (hb3.mono (Nat.le_succ _))
          have hz4 := hb4.size
          have hz5 : w2.heap.size + 1 ≤ w3.heap.size := by have := hb3.size; simp at this; omega
          go_roundw
          case rel =>
            refine ⟨i + 1, vals ++ [_], by omega, by go_num, by rw [List.length_append, HV.out]; rfl, hown3, ?_, hb4, by omega, cBel hb3 (Nat.lt_succ_self _) (cA f0 _), cBel hb3 (Nat.lt_succ_self _) (cA f1 _)⟩
            intro a val hv
            rcases Nat.lt_or_ge a vals.length with hl | hl
            · rw [List.getElem?_append_left hl] at hv
              exact ((HR2.out a val hv).alloc _).map_ hk3
            · rw [List.getElem?_append_right hl] at hv
              obtain ⟨e1, rfl⟩ : a - vals.length = 0 ∧ _ = val := by
                rcases hq : a - vals.length with _ | q
                · rw [hq] at hv; simpa using hv
                · rw [hq] at hv; simp at hv
              obtain rfl : a = i := by rw [← HV.out]; omega
              exact ((RO.out.low (show w.heap.size + 1 ≤ _ by omega)).alloc _).map_ hk3
          case measure => simp [intOf]; omega
    · obtain rfl : N = i := by omega
      have HM := Lib.hid (HO.out.loc HR.out)
      rw [HV.out] at HM
      obtain ⟨G, cg, rfl, _⟩ := HM.out
      go_wp2
      go_ret
      obtain ⟨G', cg', e', hm'⟩ := HM.out
      cases e'
      exact ⟨G, cg, rfl, hm'.wide (Nat.le_succ _) (Nat.le_refl _), hb⟩
end Go.Proofs.Ytedpaanhnbodfaa
