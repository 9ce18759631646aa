/- The contract of spec.l2Closed: the closed table of a plan, as the reference makes it; for plans of 1 to 1000 points and slices of at most 2^40 bounds. -/
import Derived.Test.YtedpaanhnbodfaaSpecTab
namespace Go.Proofs.Ytedpaanhnbodfaa
open Go.RowKit
set_option linter.unusedVariables false
set_option maxRecDepth 10000
set_option linter.unusedSimpArgs false

/-- One round of the reference: every number from the same table. -/
def roundK (T : Tab) (k : Nat) : Tab := fun i j => if T i k < 100000 ∧ T k j < 100000 then mn (T i j) (wrap64 (T i k + T k j)) else T i j
def closeS (N : Nat) (T : Tab) : Tab := (List.range N).foldl roundK T
set_option maxHeartbeats 8000000 in
theorem l2Closed_any (N : Nat) (A : Option Addr) (c : Nat) (bs : List Bd) (w : World) (h : BAt w A bs) (hN1 : 1 ≤ N) (hN : N ≤ 1000) (hlen : bs.length ≤ 1099511627776) :
    Calls Try.prog 113 #[.agg #[.int .i64 N, .slice A bs.length c]] w (NewMat N (closeS N (ent bs)) w) := by
  go_enter Try.func113, Try.ntmps113
  go_wp2_with fail
  refine (l2Table_any N _ _ bs _ (h.below (by repeat (first | with_reducible exact Below.refl _ _ | with_reducible refine valloc ?_ _ | with_reducible refine vdrew ?_ | with_reducible refine vdrewN ?_ _ | with_reducible refine via (by assumption) ?_ | refine vset ?_ (by first | exact Nat.le_refl _ | (simp; done) | (simp; omega) | omega) _))) hN1 hN hlen).mono ?_; rintro e w1 ⟨A1, c1, rfl, hm1, hbw1⟩
  have i0 : w1.cell? ⟨w.heap.size, 0, none⟩ = some (.int .i64 N) := cB hbw1 (by simp)
  have i1 : w1.cell? ⟨w.heap.size, 1, none⟩ = some (.slice A bs.length c) := cB hbw1 (by simp)
  obtain ⟨hcw1, hfw1⟩ := bcell hbw1; have hzw1 := hbw1.size; (try simp only [sz] at hzw1); (try simp only [szc] at hzw1); have hzw1_0 : w.heap.size < w1.heap.size := (by omega)
  have HM1 := Lib.hid (hm1.wide (lo' := w.heap.size) (by simp only [sz]; omega) (Nat.le_refl _))
  clear hm1
  go_wp2
  go_loopw [3, 4] (fun now k W => ∃ (kk : Nat) (A' : Option Addr) (c' : Nat), kk ≤ N ∧ k = .int .i64 kk ∧ now = .slice A' N c' ∧ MLoc W w.heap.size W.heap.size A' N N ((List.range kk).foldl roundK (ent bs)) ∧ Below w.heap.size w W ∧ w.heap.size < W.heap.size ∧ W.cell? ⟨w.heap.size, 0, none⟩ = some (.int .i64 N) ∧ W.cell? ⟨w.heap.size, 1, none⟩ = some (.slice A bs.length c)) (fun _ k _ => N - (intOf k).toNat)
  case atStart => exact ⟨0, A1, c1, Nat.zero_le _, rfl, rfl, HM1.out, (by repeat (first | with_reducible exact Below.refl _ _ | with_reducible refine valloc ?_ _ | with_reducible refine vdrew ?_ | with_reducible refine vdrewN ?_ _ | with_reducible refine via (by assumption) ?_ | refine vset ?_ (by first | exact Nat.le_refl _ | (simp; done) | (simp; omega) | omega) _)), by omega, i0, i1⟩
  case round =>
    obtain ⟨k, A', c', hk, rfl, rfl, hm, hb, hz, e0, e1⟩ := hrel
    have HM := Lib.hid (hm.mat (Nat.le_refl _))
    have HMR := Lib.hid hm
    clear hm
    by_cases hlt : k < N
    · have EK := Lib.hid (range_fold roundK (ent bs) k)
      generalize hTk : (List.range k).foldl roundK (ent bs) = T at *
      clear hTk
      obtain ⟨w2, hw2⟩ : ∃ w2 : World, w2 = wr := ⟨_, rfl⟩
      subst hw2
      go_wp2
      go_loopw [5, 6] (fun next i W => ∃ (ii : Nat) (vals : List Value), ii ≤ N ∧ i = .int .i64 ii ∧ vals.length = ii ∧ OwnM W w2.heap.size next vals ∧ (∀ a val, vals[a]? = some val → RowOk W w2.heap.size val N (roundK T k a)) ∧ Below w2.heap.size w2 W) (fun _ i _ => N - (intOf i).toNat)
      case atStart => exact ⟨0, [], Nat.zero_le _, rfl, rfl, OwnM.empty w2 _ _ rfl (Nat.le_refl _), fun a val hv => by simp at hv, (Below.refl _ _).alloc (Nat.le_refl _) _⟩
      case round =>
        obtain ⟨i, vals, hi, rfl, hvl, hown, hrows, hb2⟩ := hrel
        have HO := Lib.hid hown
        have HR := Lib.hid hrows
        have HV := Lib.hid hvl
        have hvl' : vals.length ≤ 1000 := by omega
        have f0 := cBel hb2 hz e0
        have f1 := cBel hb2 hz e1
        have hz2 := hb2.size
        clear hown hrows hvl
        by_cases hlt2 : i < N
        · obtain ⟨w3, hw3⟩ : ∃ w3 : World, w3 = wr := ⟨_, rfl⟩
          subst hw3
          go_wp2
          go_loopw [7, 8] (fun row j W => ∃ jj : Nat, jj ≤ N ∧ j = .int .i64 jj ∧ OwnL W w3.heap.size row (rowTo (roundK T k) i jj) ∧ Below w3.heap.size w3 W) (fun _ j _ => N - (intOf j).toNat)
          case atStart => exact ⟨0, Nat.zero_le _, rfl, OwnL.empty w3 _ _ rfl (Nat.le_refl _), (Below.refl _ _).alloc (Nat.le_refl _) _⟩
          case round =>
            obtain ⟨j, hj, rfl, hown, hb3⟩ := hrel
            have HO2 := Lib.hid hown
            have g0 := cBel hb3 (by omega) f0
            have g1 := cBel hb3 (by omega) f1
            have hz3 := hb3.size
            have hrl : (rowTo (roundK T k) i j).length ≤ 1000 := by rw [rowTo_length]; omega
            clear hown
            by_cases hlt3 : j < N
            · obtain ⟨g, off, b, o, cc, rfl, hg, r1, hbl, q1⟩ := ((HM.out.below hb2).below hb3).at_ hlt2
              obtain ⟨g', off', b', o', cc', e', hg', r2, hbl', q2⟩ := ((HM.out.below hb2).below hb3).at_ hlt
              cases e'
              have p1 := q1 j hlt3
              have p2 := q1 k hlt
              have p3 := q2 j hlt3
              clear q1 q2
              have HS := Lib.hid (rowTo_snoc (roundK T k) i j)
              have HK := Lib.hid (show roundK T k i j = if T i k < 100000 ∧ T k j < 100000 then mn (T i j) (wrap64 (T i k + T k j)) else T i j from rfl)
              generalize roundK T k i j = R at *
              generalize T i k = x at *
              generalize T k j = y at *
              generalize T i j = z at *
              have HE := Lib.hid HO2.out
              obtain ⟨w4, hw4⟩ : ∃ w4 : World, w4 = wr := ⟨_, rfl⟩
              subst hw4
              by_cases h1 : x < 100000
              · by_cases h2 : y < 100000
                · have HK2 := Lib.hid (HK.out.trans (if_pos ⟨h1, h2⟩))
                  have hwr : IntKind.i64.wrap (x + y) = wrap64 (x + y) := IntWalk.i64_left _
                  generalize wrap64 (x + y) = sm at *
                  by_cases h3 : sm < z
                  · skip
                    have HK3 := Lib.hid (HK2.out.trans (if_pos h3))
                    go_wp2
                    go_quiet (fail)
                    have F : OwnL (w4.drewN nq) w3.heap.size u7 (rowTo (roundK T k) i j) ∧ Below w3.heap.size w3 (w4.drewN nq) := ⟨HE.out.drewN _, vdrewN hb3 _⟩
                    clear g0 g1 r1 r2 p1 p2 p3 hg hbl hg' hbl'
                    generalize w4.drewN nq = w6 at F ⊢
                    obtain ⟨F1, F2⟩ := F
                    have F3 := F2.size
                    go_wp2_with (at_builtin; refine wpList_push rfl _ _ rfl w3.heap.size _ _ rfl (F1.alloc _) w6.heap.size sm rfl (by simp) (by omega) (by simp; omega) ?_; intro v1 w5 hown5 hb5)
                    go_roundw
                    case rel => exact ⟨j + 1, by omega, by go_num, by rw [HS.out, HK3.out]; exact hown5, (F2.alloc F2.size _).trans hb5⟩
                    case measure => simp [intOf]; omega
                  · skip
                    have HK3 := Lib.hid (HK2.out.trans (if_neg h3))
                    go_wp2
                    go_quiet (fail)
                    have F : OwnL (w4.drewN nq) w3.heap.size u7 (rowTo (roundK T k) i j) ∧ Below w3.heap.size w3 (w4.drewN nq) := ⟨HE.out.drewN _, vdrewN hb3 _⟩
                    clear g0 g1 r1 r2 p1 p2 p3 hg hbl hg' hbl'
                    generalize w4.drewN nq = w6 at F ⊢
                    obtain ⟨F1, F2⟩ := F
                    have F3 := F2.size
                    go_wp2_with (at_builtin; refine wpList_push rfl _ _ rfl w3.heap.size _ _ rfl (F1.alloc _) w6.heap.size z rfl (by simp) (by omega) (by simp; omega) ?_; intro v1 w5 hown5 hb5)
                    go_roundw
                    case rel => exact ⟨j + 1, by omega, by go_num, by rw [HS.out, HK3.out]; exact hown5, (F2.alloc F2.size _).trans hb5⟩
                    case measure => simp [intOf]; omega
                · have HK2 := Lib.hid (HK.out.trans (if_neg (fun hh => h2 hh.2)))
                  go_wp2_with (at_builtin; refine wpList_push rfl _ _ rfl w3.heap.size _ _ rfl (HE.out.alloc _) w4.heap.size (z) rfl (by simp) (by omega) (by simp; omega) ?_; intro v1 w5 hown5 hb5)
                  go_roundw
                  case rel => exact ⟨j + 1, by omega, by go_num, by rw [HS.out, HK2.out]; exact hown5, (hb3.alloc hb3.size _).trans hb5⟩
                  case measure => simp [intOf]; omega
              · have HK2 := Lib.hid (HK.out.trans (if_neg (fun hh => h1 hh.1)))
                go_wp2_with (at_builtin; refine wpList_push rfl _ _ rfl w3.heap.size _ _ rfl (HE.out.alloc _) w4.heap.size (z) rfl (by simp) (by omega) (by simp; omega) ?_; intro v1 w5 hown5 hb5)
                go_roundw
                case rel => exact ⟨j + 1, by omega, by go_num, by rw [HS.out, HK2.out]; exact hown5, (hb3.alloc hb3.size _).trans hb5⟩
                case measure => simp [intOf]; omega
            · obtain rfl : N = j := by omega
              rw [rowTo_length] at hrl
              have RO := Lib.hid (HO2.out.rowOk hN1)
              obtain ⟨G, cg, rfl, _⟩ := HO2.out.ri
              have hbig : Below w2.heap.size w2 wr := hb2.trans (hb3.mono hb2.size)
              have OM := Lib.hid (HO.out.below hb3 (Nat.le_refl _))
              have HR2 := Lib.hid (fun a val hv => (HR.out a val hv).below hb3 (Nat.le_refl _))
              rw [rowTo_length] at HO2 RO ⊢
              obtain ⟨w4, hw4⟩ : ∃ w4 : World, w4 = wr := ⟨_, rfl⟩
              subst hw4
              go_wp2_with (at_builtin; refine wpList_pushM rfl _ _ rfl w2.heap.size _ vals rfl (OM.out.alloc _) w4.heap.size _ rfl rfl (by simp; rfl) (by omega) (by simp; omega) ?_; intro v1 w5 hown5 hb5 hk5)
              have hb6 := (hbig.alloc hbig.size (.cells #[.slice G N cg] 30)).trans hb5
              go_roundw
              case rel =>
                refine ⟨i + 1, vals ++ [_], by omega, by go_num, by rw [List.length_append, HV.out]; rfl, hown5, ?_, hb6⟩
                intro a val hv
                rcases Nat.lt_or_ge a vals.length with hl | hl
                · rw [List.getElem?_append_left hl] at hv
                  exact ((HR2.out a val hv).alloc _).map_ hk5
                · rw [List.getElem?_append_right hl] at hv
                  obtain ⟨e1, rfl⟩ : a - vals.length = 0 ∧ _ = val := by
                    rcases hq : a - vals.length with _ | q
                    · rw [hq] at hv; simpa using hv
                    · rw [hq] at hv; simp at hv
                  obtain rfl : a = i := by rw [← HV.out]; omega
                  exact ((RO.out.low (show w2.heap.size ≤ _ by omega)).alloc _).map_ hk5
              case measure => simp [intOf]; omega
        · obtain rfl : N = i := by omega
          have HM2 := Lib.hid (HO.out.loc HR.out)
          rw [HV.out] at HM2
          have hzz : w.heap.size < wr.heap.size := by omega
          have hbb : Below w.heap.size w wr := hb.trans (hb2.mono hb.size)
          have HRes : Hid (∃ G cg, u5 = .slice G N cg ∧ MLoc wr w2.heap.size wr.heap.size G N N (roundK T k)) := HM2
          have hlo := hb.size
          clear hz2 hvl' HO HR HV HM HMR HM2 hb hb2 e0 e1 hz h
          obtain ⟨G, cg, rfl, hm'⟩ := HRes.out
          clear HRes
          have HM3 := Lib.hid hm'
          clear hm'
          clear i0 i1 HM1 hN1 hlen hi
          set_option maxRecDepth 4000 in
          go_wp2
          go_roundw
          case rel =>
            exact ⟨k + 1, G, cg, by omega, by go_num, rfl, by rw [EK.out]; exact HM3.out.wide hlo (Nat.le_refl _), hbb, by omega, f0, f1⟩
          case measure => simp [intOf]; omega
    · obtain rfl : N = k := by omega
      go_wp2
      go_ret
      exact ⟨A', c', rfl, HMR.out, hb⟩
end Go.Proofs.Ytedpaanhnbodfaa
