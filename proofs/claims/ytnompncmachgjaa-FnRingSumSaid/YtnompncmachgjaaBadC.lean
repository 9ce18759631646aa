/- The contract of impl.fewestBad: how many bounds a bad ring has at least; for plans. -/
import Derived.Test.YtnompncmachgjaaKD
import Derived.Test.YtnompncmachgjaaBadKit
import Derived.Deep.QuietTactic
import Derived.BigQuiet
import Derived.StillTailTactics
import Derived.WalkLawsBesides
namespace Go.Proofs.Ytnompncmachgjaa
open Go.RowKit
set_option linter.unusedVariables false
set_option maxRecDepth 10000
set_option linter.unusedSimpArgs false

theorem pw_succ (N : Nat) (bs : List Bd) (m : Nat) : pw N bs (m + 1) = nextT N (pw N bs m) (oneT bs) := rfl
theorem few_at {N : Nat} {bs : List Bd} {m : Nat} (h1 : 1 ≤ m) (h6 : m ≤ 6) (h : negD N (pw N bs (m - 1)) = true) (hn : ∀ a, 1 ≤ a → a < m → negD N (pw N bs (a - 1)) = false) : fewV N bs = m := fewF_at (t := fun m => negD N (pw N bs (m - 1))) h 6 1 h1 (by omega) hn
theorem few_none {N : Nat} {bs : List Bd} (hn : ∀ a, 1 ≤ a → a < 7 → negD N (pw N bs (a - 1)) = false) : fewV N bs = 6 := fewF_none (t := fun m => negD N (pw N bs (m - 1))) 6 1 (fun a h1 h2 => hn a h1 (by omega))
set_option maxHeartbeats 4000000 in
theorem fewestBad_any (N : Nat) (A : Option Addr) (c : Nat) (bs : List Bd) (w : World) (hp : planOk N bs = true) (h : BAt w A bs) :
    Calls Try.prog 79 #[.agg #[.int .i64 N, .slice A bs.length c]] w fun e w' => e = .returned (.int .i64 (fewV N bs)) ∧ Below w.heap.size w w' := by
  obtain ⟨hn1, hn6, hl16, hin⟩ := planOk_of hp
  have hN6 : N ≤ 6 := by omega
  have HIN := Lib.hid hin
  clear hin hp hn1 hn6
  have hnil : ∀ W : World, BAt W none [] := fun W h0 => absurd h0 (by simp)
  have HNIL := Lib.hid hnil
  clear hnil
  go_enter Try.func79, Try.ntmps79
  go_wp2_with fail
  have B0 : Below w.heap.size w (w.alloc (.cells #[.int .i64 N, .slice A bs.length c] 25)) := valloc (Below.refl _ _) _
  have P0 : Blk (w.alloc (.cells #[.int .i64 N, .slice A bs.length c] 25)) w.heap.size 25 #[.int .i64 N, .slice A bs.length c] := Blk.new _ _ _
  generalize w.alloc (.cells #[.int .i64 N, .slice A bs.length c] 25) = w1 at *
  have HB1 := Lib.hid (h.below B0)
  have HW1 := Lib.hid B0
  have q0 : w1.cell? ⟨w.heap.size, 0, none⟩ = some (.int .i64 N) := P0.cell 0
  have q1 : w1.cell? ⟨w.heap.size, 1, none⟩ = some (.slice A bs.length c) := P0.cell 1
  have HP1 := Lib.hid (And.intro q0 q1)
  have hz01 := P0.lt
  clear h P0
  refine (start_any N none 0 [] _ (HNIL.out _) (by omega) (by simp) (by simp)).mono ?_; rintro e w2 ⟨g1, R1, rfl, hG1, hb1⟩
  have HG1 := Lib.hid (hG1.eq_ (T' := farT 0) (fun a b _ _ => farT_zero a b))
  have hz12 := hb1.size
  clear hG1 B0 q0 q1
  go_wp2
  go_loopw [19] (fun v W => ∃ i : Nat, i ≤ N ∧ v = .int .i64 i ∧ Grid W w1.heap.size w2.heap.size g1 N R1 (fun _ => N) (farT i) ∧ Below w1.heap.size w1 W ∧ w2.heap.size ≤ W.heap.size) (fun v _ => N - (intOf v).toNat)
  case atStart => exact ⟨0, Nat.zero_le _, rfl, HG1.out, hb1, Nat.le_refl _⟩
  case round =>
    obtain ⟨i, hi, rfl, hG, hb, hz⟩ := hrel
    by_cases hlt : i < N
    · have r1 := hG.row hlt
      have d1 := hG.cell hlt hlt
      have f1 := hG.frozen (j := i) hlt
      have GS := Lib.hid ((hG.set_ hlt hlt 100000).eq_ (T' := farT (i + 1)) (fun a b _ _ => farT_step i a b))
      have BS := Lib.hid (vset hb (p := ⟨R1 i, i, none⟩) (hG.rlo i hlt) (.int .i64 100000))
      have hzs := Lib.hid (show w2.heap.size ≤ (wr.setCell ⟨R1 i, i, none⟩ (.int .i64 100000)).heap.size by rw [szc]; exact hz)
      clear hG hb
      go_wp2
      go_roundw
      case rel => exact ⟨i + 1, by omega, by go_num, GS.out, BS.out, hzs.out⟩
      case measure => simp [intOf]; omega
    obtain rfl : i = N := by omega
    have HG := Lib.hid (hG.eq_ (T' := oneK bs 0) (fun a b ha _ => farT_one bs a b ha))
    have HB := Lib.hid hb
    have p0 := cB hb HP1.out.1
    have p1 := cB hb HP1.out.2
    clear hG
    go_wp2
    go_loopw [32] (fun v W => ∃ k : Nat, k ≤ bs.length ∧ v = .int .i64 k ∧ Grid W w1.heap.size w2.heap.size g1 i R1 (fun _ => i) (oneK bs k) ∧ Below w1.heap.size w1 W ∧ w2.heap.size ≤ W.heap.size) (fun v _ => bs.length - (intOf v).toNat)
    case atStart => exact ⟨0, Nat.zero_le _, rfl, HG.out, hb, hz⟩
    case round =>
      obtain ⟨k, hk, rfl, hG2, hb2, hz2⟩ := hrel
      have HG2 := Lib.hid hG2
      clear hG2
      by_cases hlt2 : k < bs.length
      · obtain ⟨b, off, x, rfl, hbl, hx, hxm, c0, c1, c2⟩ := (HB1.out.below hb2).at_ hlt2
        obtain ⟨p1, p2, p3, p4, p5, p6⟩ := HIN.out x hxm
        obtain ⟨f, t, m⟩ := x
        simp only at p1 p2 p3 p4 p5 p6 c0 c1 c2
        obtain ⟨f, rfl⟩ := Int.eq_ofNat_of_zero_le p1
        obtain ⟨t, rfl⟩ := Int.eq_ofNat_of_zero_le p3
        have hf' : f < i := by omega
        have ht' : t < i := by omega
        have EB := Lib.hid (fun a b => oneK_step (f := f) (t := t) (m := m) hx a b)
        have hfi : (f : Int) < (i : Int) := p2
        have hti : (t : Int) < (i : Int) := p4
        clear hx
        go_wp2
        have F : ∀ o, Grid (wr.alloc o) w1.heap.size w2.heap.size g1 i R1 (fun _ => i) (oneK bs k) ∧ Below w1.heap.size w1 (wr.alloc o) ∧ w2.heap.size ≤ (wr.alloc o).heap.size := fun o => ⟨HG2.out.same ((Same.refl _ _ _).alloc o) hz2, valloc hb2 o, Nat.le_trans hz2 (leA wr o)⟩
        have FB := Blk.new wr 43 #[.int .i64 (f : Int), .int .i64 (t : Int), .int .i64 m]
        replace F := F (.cells #[.int .i64 (f : Int), .int .i64 (t : Int), .int .i64 m] 43)
        clear c0 c1 c2
        generalize (wr.alloc (.cells #[.int .i64 (f : Int), .int .i64 (t : Int), .int .i64 m] 43)) = w4 at F FB ⊢
        generalize oneK bs k = Tk at *
        obtain ⟨hG4, hb4, hz4⟩ := F
        have x0 : w4.cell? ⟨wr.heap.size, 0, none⟩ = some (.int .i64 (f : Int)) := FB.cell 0
        have x1 : w4.cell? ⟨wr.heap.size, 1, none⟩ = some (.int .i64 (t : Int)) := FB.cell 1
        have x2 : w4.cell? ⟨wr.heap.size, 2, none⟩ = some (.int .i64 m) := FB.cell 2
        have r1 := hG4.row hf'
        have r2 := hG4.cell hf' ht'
        have HG4 := Lib.hid hG4
        clear hG4 FB
        go_still_tail 20, (by kernel_rfl)
        change wpList _ _ _ _ _ w4.drew
        have F : Grid w4.drew w1.heap.size w2.heap.size g1 i R1 (fun _ => i) Tk ∧ Below w1.heap.size w1 w4.drew ∧ w2.heap.size ≤ w4.drew.heap.size := ⟨HG4.out.drew, vdrew hb4, hz4⟩
        clear r1 r2 x0 x1 x2 HG4 hb4 hz4
        generalize w4.drew = w5 at F ⊢
        obtain ⟨hG5, hb5, hz5⟩ := F
        have d1 := hG5.cell hf' ht'
        have d2 := hG5.frozen (j := t) hf'
        have GS := Lib.hid ((hG5.set_ hf' ht' (mn (Tk f t) m)).eq_ (T' := oneK bs (k + 1)) (fun a b _ _ => EB.out a b))
        have BS := Lib.hid (vset hb5 (p := ⟨R1 f, t, none⟩) (hG5.rlo f hf') (.int .i64 (mn (Tk f t) m)))
        have hzs : w2.heap.size ≤ (w5.setCell ⟨R1 f, t, none⟩ (.int .i64 (mn (Tk f t) m))).heap.size := by rw [szc]; exact hz5
        have HZ := Lib.hid hzs
        clear hG5 hb5 hzs EB
        go_wp2
        go_roundw
        case rel => exact ⟨k + 1, by omega, by go_num, GS.out, BS.out, HZ.out⟩
        case measure => simp [intOf]; omega
      obtain rfl : k = bs.length := by omega
      obtain ⟨w3, hw3⟩ : ∃ w3 : World, w3 = wr := ⟨_, rfl⟩
      subst hw3
      have HONE := Lib.hid (HG2.out.eq_ (T' := oneT bs) (fun a b _ _ => oneK_all bs a b))
      have HB3 := Lib.hid hb2
      have r0 := cB hb2 HP1.out.1
      have HP3 := Lib.hid r0
      have hz13 := hb2.size
      clear HG2 HG HB hb p0 p1 r0
      go_wp2
      go_loopw [7, 8] (fun v7 v8 W => ∃ (m g : Nat) (R : Nat → Nat), 1 ≤ m ∧ m ≤ 7 ∧ v7 = .slice (some ⟨g, 0, none⟩) i i ∧ v8 = .int .i64 m ∧ Grid W w1.heap.size W.heap.size g i R (fun _ => i) (pw i bs (m - 1)) ∧ Below w3.heap.size w3 W ∧ ∀ a, 1 ≤ a → a < m → negD i (pw i bs (a - 1)) = false) (fun _ v8 _ => 7 - (intOf v8).toNat)
      case atStart => exact ⟨1, g1, R1, Nat.le_refl _, by omega, rfl, rfl, HONE.out.wide (Nat.le_refl _) hz2, Below.refl _ _, fun a h1 h2 => by omega⟩
      case round =>
        obtain ⟨m, g, R, hm1, hm7, rfl, rfl, hG3, hb3, hneg⟩ := hrel
        have HG3 := Lib.hid hG3
        have HNEG := Lib.hid hneg
        have HB4 := Lib.hid hb3
        have HONE4 := Lib.hid (HONE.out.same (Same.below hb3 (Same.refl _ _ _)) hz2)
        have q0 := cB hb3 HP3.out
        have hz34 := hb3.size
        obtain ⟨w4, hw4⟩ : ∃ w4 : World, w4 = wr := ⟨_, rfl⟩
        subst hw4
        clear hG3 hneg hb3
        by_cases hm : m ≤ 6
        · go_wp2
          go_loop [64] (fun v => ∃ ii : Nat, ii ≤ i ∧ v = .int .i64 ii ∧ ∀ a, a < ii → 0 ≤ pw i bs (m - 1) a a) (fun v => i - (intOf v).toNat)
          case atStart => exact ⟨0, Nat.zero_le _, rfl, fun a ha => absurd ha (Nat.not_lt_zero _)⟩
          case round =>
            obtain ⟨j, hj, rfl, hok⟩ := hrel
            have HOK := Lib.hid hok
            clear hok
            by_cases hlt3 : j < i
            · have c1 := HG3.out.row hlt3
              have c2 : w4.cell? ⟨R j, j, none⟩ = some (.int .i64 (pw i bs (m - 1) j j)) := HG3.out.cell hlt3 hlt3
              by_cases hd : pw i bs (m - 1) j j < 0
              · have HV := Lib.hid (few_at hm1 hm (negD_yes hlt3 hd) HNEG.out)
                go_wp2
                go_ret
                exact ⟨by rw [HV.out]; rfl, via (via HB4.out HB3.out) HW1.out⟩
              · go_wp2
                go_round
                case rel => exact ⟨j + 1, by omega, by go_num, fun a ha => by
                  by_cases e : a = j
                  · rw [e]; omega
                  · exact HOK.out a (by omega)⟩
                case measure => simp [intOf]; omega
            have HNO := Lib.hid (negD_no (T := pw i bs (m - 1)) (N := i) (fun a ha => HOK.out a (by omega)))
            clear HOK
            have HNX := Lib.hid (show ∀ a, 1 ≤ a → a < m + 1 → negD i (pw i bs (a - 1)) = false from fun a h1 h2 => by
              by_cases e : a = m
              · rw [e]; exact HNO.out
              · exact HNEG.out a h1 (by omega))
            clear HNO
            go_wp2_with fail
            refine (start_any i none 0 [] _ (HNIL.out _) (by omega) (by simp) (by simp)).mono ?_; rintro e w5 ⟨g2, R2, rfl, hG5, hb5⟩
            have HG5 := Lib.hid (hG5.eq_ (T' := rowS i (pw i bs (m - 1)) (oneT bs) 0) (fun a b _ _ => rowS_zero i _ _ a b))
            have hz45 := hb5.size
            have EN := Lib.hid (show pw i bs (m + 1 - 1) = nextT i (pw i bs (m - 1)) (oneT bs) by rw [← pw_succ]; congr 1; omega)
            clear hG5
            generalize pw i bs (m - 1) = TA at *
            generalize oneT bs = TB at *
            go_wp2
            go_loopw [82] (fun v W => ∃ ii : Nat, ii ≤ i ∧ v = .int .i64 ii ∧ Grid W w4.heap.size w5.heap.size g2 i R2 (fun _ => i) (rowS i TA TB ii) ∧ Below w4.heap.size w4 W ∧ w5.heap.size ≤ W.heap.size) (fun v _ => i - (intOf v).toNat)
            case atStart => exact ⟨0, Nat.zero_le _, rfl, HG5.out, hb5, Nat.le_refl _⟩
            case round =>
              obtain ⟨ii, hii, rfl, hG6, hb6, hz6⟩ := hrel
              by_cases hlt4 : ii < i
              · have r1 := hG6.row hlt4
                have d1 := hG6.cell hlt4 hlt4
                have f1 := hG6.frozen (j := ii) hlt4
                have GS := Lib.hid ((hG6.set_ hlt4 hlt4 100000).eq_ (T' := rowT i TA TB ii 0 0) (fun a b _ _ => rowT_zero i TA TB ii a b))
                have BS := Lib.hid (vset hb6 (p := ⟨R2 ii, ii, none⟩) (hG6.rlo ii hlt4) (.int .i64 100000))
                have hzs := Lib.hid (show w5.heap.size ≤ (wr.setCell ⟨R2 ii, ii, none⟩ (.int .i64 100000)).heap.size by rw [szc]; exact hz6)
                clear hG6 hb6
                go_wp2
                go_loopw [93] (fun v W => ∃ jj : Nat, jj ≤ i ∧ v = .int .i64 jj ∧ Grid W w4.heap.size w5.heap.size g2 i R2 (fun _ => i) (rowT i TA TB ii jj 0) ∧ Below w4.heap.size w4 W ∧ w5.heap.size ≤ W.heap.size) (fun v _ => i - (intOf v).toNat)
                case atStart => exact ⟨0, Nat.zero_le _, rfl, GS.out, BS.out, hzs.out⟩
                case round =>
                  obtain ⟨jj, hjj, rfl, hG7, hb7, hz7⟩ := hrel
                  have HG7 := Lib.hid hG7
                  clear hG7
                  by_cases hlt5 : jj < i
                  · go_wp2
                    go_loopw [98] (fun v W => ∃ kk : Nat, kk ≤ i ∧ v = .int .i64 kk ∧ Grid W w4.heap.size w5.heap.size g2 i R2 (fun _ => i) (rowT i TA TB ii jj kk) ∧ Below w4.heap.size w4 W ∧ w5.heap.size ≤ W.heap.size) (fun v _ => i - (intOf v).toNat)
                    case atStart => exact ⟨0, Nat.zero_le _, rfl, HG7.out, hb7, hz7⟩
                    case round =>
                      obtain ⟨kk, hkk, rfl, hG8, hb8, hz8⟩ := hrel
                      have HG8 := Lib.hid hG8
                      clear hG8
                      by_cases hlt6 : kk < i
                      · have GA := HG3.out.same (Same.below hb8 (Same.refl _ _ _)) (Nat.le_refl _)
                        have GB := HONE4.out.same (Same.below hb8 (Same.refl _ _ _)) (by omega)
                        have a1 := GA.row hlt4
                        have a2 := GA.cell hlt4 hlt6
                        have b1 := GB.row hlt6
                        have b2 := GB.cell hlt6 hlt5
                        have HGA := Lib.hid GA
                        have HGB := Lib.hid GB
                        clear GA GB
                        by_cases h1 : TA ii kk = 100000
                        · have h1' : (TA ii kk != 100000) = false := by simp [h1]
                          have ER := Lib.hid (rowT_skip (N := i) (A := TA) (B := TB) (i := ii) (j := jj) (k := kk) (fun q => q.1 h1))
                          clear h1
                          go_wp2
                          go_roundw
                          case rel => exact ⟨kk + 1, by omega, by go_num, HG8.out.eq_ (fun a b _ _ => ER.out a b), hb8, hz8⟩
                          case measure => simp [intOf]; omega
                        by_cases h2 : TB kk jj = 100000
                        · have h1' : (TA ii kk != 100000) = true := by simpa using h1
                          have h2' : (TB kk jj != 100000) = false := by simp [h2]
                          have ER := Lib.hid (rowT_skip (N := i) (A := TA) (B := TB) (i := ii) (j := jj) (k := kk) (fun q => q.2 h2))
                          clear h1 h2
                          go_wp2
                          go_roundw
                          case rel => exact ⟨kk + 1, by omega, by go_num, HG8.out.eq_ (fun a b _ _ => ER.out a b), hb8, hz8⟩
                          case measure => simp [intOf]; omega
                        have h1' : (TA ii kk != 100000) = true := by simpa using h1
                        have h2' : (TB kk jj != 100000) = true := by simpa using h2
                        have ER := Lib.hid (rowT_take (N := i) (A := TA) (B := TB) (i := ii) (j := jj) (k := kk) ⟨h1, h2⟩)
                        clear h1 h2
                        have e1 := HG8.out.row hlt4
                        have e2 := HG8.out.cell hlt4 hlt5
                        generalize hTR : rowT i TA TB ii jj kk = TR at *
                        go_wp2
                        go_still_tail 29, (by kernel_rfl)
                        change wpList _ _ _ _ _ wr.drew
                        have F : Grid wr.drew w4.heap.size w5.heap.size g2 i R2 (fun _ => i) TR ∧ Below w4.heap.size w4 wr.drew ∧ w5.heap.size ≤ wr.drew.heap.size := ⟨HG8.out.drew, vdrew hb8, hz8⟩
                        clear a1 a2 b1 b2 HGA HGB e1 e2
                        generalize wr.drew = w9 at F
                        obtain ⟨hG9, hb9, hz9⟩ := F
                        have d1 := hG9.cell hlt4 hlt5
                        have d2 := hG9.frozen (j := jj) hlt4
                        have GS9 := Lib.hid ((hG9.set_ hlt4 hlt5 (mn (TR ii jj) (wrap64 (TA ii kk + TB kk jj)))).eq_ (T' := rowT i TA TB ii jj (kk + 1)) (fun a b _ _ => ER.out a b))
                        have BS9 := Lib.hid (vset hb9 (p := ⟨R2 ii, jj, none⟩) (hG9.rlo ii hlt4) (.int .i64 (mn (TR ii jj) (wrap64 (TA ii kk + TB kk jj)))))
                        have hzs9 := Lib.hid (show w5.heap.size ≤ (w9.setCell ⟨R2 ii, jj, none⟩ (.int .i64 (mn (TR ii jj) (wrap64 (TA ii kk + TB kk jj))))).heap.size by rw [szc]; exact hz9)
                        clear hG9 hb9
                        go_wp2
                        go_roundw
                        case rel => exact ⟨kk + 1, by omega, by go_num, GS9.out, BS9.out, hzs9.out⟩
                        case measure => simp [intOf]; omega
                      obtain rfl : kk = i := by omega
                      have HG9 := Lib.hid (HG8.out.eq_ (T' := rowT kk TA TB ii (jj + 1) 0) (fun a b _ _ => rowT_col kk TA TB ii jj a b))
                      go_wp2
                      go_roundw
                      case rel => exact ⟨jj + 1, by omega, by go_num, HG9.out, hb8, hz8⟩
                      case measure => simp [intOf]; omega
                  obtain rfl : jj = i := by omega
                  have HG9 := Lib.hid (HG7.out.eq_ (T' := rowS jj TA TB (ii + 1)) (fun a b _ hb => rowT_row jj TA TB ii a b hb))
                  go_wp2
                  go_roundw
                  case rel => exact ⟨ii + 1, by omega, by go_num, HG9.out, hb7, hz7⟩
                  case measure => simp [intOf]; omega
              obtain rfl : ii = i := by omega
              have HG9 := Lib.hid (hG6.eq_ (T' := nextT ii TA TB) (fun a b ha _ => rowS_all ii TA TB a b ha))
              clear hG6
              go_wp2
              go_roundw
              case rel =>
                refine ⟨m + 1, g2, R2, by omega, by omega, rfl, by go_num, by rw [EN.out]; exact HG9.out.wide (by omega) hz6, via hb6 HB4.out, HNX.out⟩
              case measure => simp [intOf]; omega
        have HV := Lib.hid (few_none (N := i) (bs := bs) (fun a h1 h2 => HNEG.out a h1 (by omega)))
        go_wp2
        go_ret
        exact ⟨by rw [HV.out]; rfl, via (via HB4.out HB3.out) HW1.out⟩
end Go.Proofs.Ytnompncmachgjaa
