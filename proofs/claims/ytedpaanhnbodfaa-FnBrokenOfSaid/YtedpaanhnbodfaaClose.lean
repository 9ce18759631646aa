/- The contract of impl.table.close: it closes the table in place and tells whether it fits. -/
import Derived.Test.YtedpaanhnbodfaaGrid
import Derived.Deep.QuietTactic
import Derived.BigQuiet
import Derived.StillTailTactics
import Derived.WalkLawsBesides
namespace Go.Proofs.Ytedpaanhnbodfaa
open Go.RowKit
set_option linter.unusedVariables false
set_option maxRecDepth 10000
set_option linter.unusedSimpArgs false

set_option maxHeartbeats 4000000 in
theorem close_any (lo hi g N cg : Nat) (R C : Nat → Nat) (T : Tab) (w : World) (h : Grid w lo hi g N R C T) (hN : N ≤ 1000) :
    Calls Try.prog 128 #[.slice (some ⟨g, 0, none⟩) N cg] w fun e w' => e = .returned (.bool (diagOk N (closeT N T))) ∧ Grid w' lo hi g N R C (closeT N T) ∧ Only lo hi w w' := by
  have H0 := Lib.hid h
  clear h
  go_enter Try.func128, Try.ntmps128
  go_wp2
  go_loopw [9] (fun k W => ∃ kk : Nat, kk ≤ N ∧ k = .int .i64 kk ∧ Grid W lo hi g N R C ((List.range kk).foldl (relaxK N) T) ∧ Only lo hi w W) (fun k _ => N - (intOf k).toNat)
  case atStart => exact ⟨0, Nat.zero_le _, rfl, H0.out, Only.refl _ _ _⟩
  case round =>
    obtain ⟨k, hk, rfl, hG, hO⟩ := hrel
    have HG := Lib.hid hG
    clear hG
    by_cases hlt : k < N
    · obtain ⟨w1, hw1⟩ : ∃ w1 : World, w1 = wr := ⟨_, rfl⟩
      subst hw1
      have EK := Lib.hid (range_fold (relaxK N) T k)
      generalize hTk : (List.range k).foldl (relaxK N) T = Tk at *
      clear hTk
      go_wp2
      go_loopw [14] (fun i W => ∃ ii : Nat, ii ≤ N ∧ i = .int .i64 ii ∧ Grid W lo hi g N R C ((List.range ii).foldl (relaxI N k) Tk) ∧ Only lo hi w W) (fun i _ => N - (intOf i).toNat)
      case atStart => exact ⟨0, Nat.zero_le _, rfl, HG.out, hO⟩
      case round =>
        obtain ⟨i, hi', rfl, hG2, hO2⟩ := hrel
        have HG2 := Lib.hid hG2
        clear hG2
        by_cases hlt2 : i < N
        · obtain ⟨w2, hw2⟩ : ∃ w2 : World, w2 = wr := ⟨_, rfl⟩
          subst hw2
          have EI := Lib.hid (range_fold (relaxI N k) Tk i)
          generalize hTi : (List.range i).foldl (relaxI N k) Tk = Ti at *
          clear hTi
          go_wp2
          go_loopw [19] (fun j W => ∃ jj : Nat, jj ≤ N ∧ j = .int .i64 jj ∧ Grid W lo hi g N R C ((List.range jj).foldl (relax k i) Ti) ∧ Only lo hi w W) (fun j _ => N - (intOf j).toNat)
          case atStart => exact ⟨0, Nat.zero_le _, rfl, HG2.out, hO2⟩
          case round =>
            obtain ⟨j, hj, rfl, hG3, hO3⟩ := hrel
            by_cases hlt3 : j < N
            · have EJ := Lib.hid (range_fold (relax k i) Ti j)
              generalize hTj : (List.range j).foldl (relax k i) Ti = Tj at *
              clear hTj
              have c1 := hG3.row hlt2
              have c2 := hG3.row hlt
              have c3 := hG3.cell hlt2 hlt
              have c4 := hG3.cell hlt hlt3
              have c5 := hG3.cell hlt2 hlt3
              have f5 := hG3.frozen (j := j) hlt2
              have HG3 := Lib.hid hG3
              clear hG3
              by_cases h1 : Tj i k = 100000
              · have h1' : (Tj i k != 100000) = false := by simp [h1]
                have ER := Lib.hid (show relax k i Tj j = Tj from if_neg (fun hh => hh.1 h1))
                clear h1
                go_wp2
                go_roundw
                case rel => exact ⟨j + 1, by omega, by go_num, by rw [EJ.out, ER.out]; exact HG3.out, hO3⟩
                case measure => simp [intOf]; omega
              by_cases h2 : Tj k j = 100000
              · have h1' : (Tj i k != 100000) = true := by simpa using h1
                have h2' : (Tj k j != 100000) = false := by simp [h2]
                have ER := Lib.hid (show relax k i Tj j = Tj from if_neg (fun hh => hh.2 h2))
                clear h1 h2
                go_wp2
                go_roundw
                case rel => exact ⟨j + 1, by omega, by go_num, by rw [EJ.out, ER.out]; exact HG3.out, hO3⟩
                case measure => simp [intOf]; omega
              have h1' : (Tj i k != 100000) = true := by simpa using h1
              have h2' : (Tj k j != 100000) = true := by simpa using h2
              have ER := Lib.hid (show relax k i Tj j = upd Tj i j (mn (Tj i j) (wrap64 (Tj i k + Tj k j))) from if_pos ⟨h1, h2⟩)
              clear h1 h2
              go_wp2
              go_still_tail 29, (by kernel_rfl)
              change wpList _ _ _ _ _ wr.drew
              have F : Grid wr.drew lo hi g N R C Tj ∧ Only lo hi w wr.drew := ⟨HG3.out.drew, hO3.drew⟩
              clear c1 c2 c3 c4 c5 f5
              generalize wr.drew = w5 at F
              obtain ⟨hG5, hO5⟩ := F
              have c1 := hG5.row hlt2
              have c2 := hG5.row hlt
              have c3 := hG5.cell hlt2 hlt
              have c4 := hG5.cell hlt hlt3
              have c5 := hG5.cell hlt2 hlt3
              have f5 := hG5.frozen (j := j) hlt2
              have GS := Lib.hid (hG5.set_ hlt2 hlt3 (mn (Tj i j) (wrap64 (Tj i k + Tj k j))))
              have OS := Lib.hid (hO5.set_ (p := ⟨R i, j, none⟩) (hG5.rlo i hlt2) (hG5.rhi i hlt2) (.int .i64 (mn (Tj i j) (wrap64 (Tj i k + Tj k j)))))
              clear hG5 hO5
              go_wp2
              go_roundw
              case rel => exact ⟨j + 1, by omega, by go_num, by rw [EJ.out, ER.out]; exact GS.out, OS.out⟩
              case measure => simp [intOf]; omega
            · obtain rfl : j = N := by omega
              have HG3 := Lib.hid hG3
              clear hG3
              go_wp2
              go_roundw
              case rel => exact ⟨i + 1, by omega, by go_num, by rw [EI.out]; exact HG3.out, hO3⟩
              case measure => simp [intOf]; omega
        · obtain rfl : i = N := by omega
          go_wp2
          go_roundw
          case rel => exact ⟨k + 1, by omega, by go_num, by rw [EK.out]; exact HG2.out, hO2⟩
          case measure => simp [intOf]; omega
    · obtain rfl : k = N := by omega
      go_wp2
      go_loop [74] (fun i => ∃ ii : Nat, ii ≤ k ∧ i = .int .i64 ii ∧ ∀ a, a < ii → 0 ≤ closeT k T a a) (fun i => k - (intOf i).toNat)
      case atStart => exact ⟨0, Nat.zero_le _, rfl, fun a ha => absurd ha (Nat.not_lt_zero _)⟩
      case round =>
        obtain ⟨i, hi', rfl, hok⟩ := hrel
        have HOK := Lib.hid hok
        clear hok
        by_cases hlt2 : i < k
        · have c1 := HG.out.row hlt2
          have c2 : wr.cell? ⟨R i, i, none⟩ = some (.int .i64 (closeT k T i i)) := HG.out.cell hlt2 hlt2
          by_cases hd : closeT k T i i < 0
          · have HB := Lib.hid (diagOk_bad hlt2 hd)
            go_wp2
            go_ret
            exact ⟨ret_bool HB.out.symm, HG.out, hO⟩
          · go_wp2
            go_round
            case rel => exact ⟨i + 1, by omega, by go_num, fun a ha => by
              by_cases e : a = i
              · rw [e]; omega
              · exact HOK.out a (by omega)⟩
            case measure => simp [intOf]; omega
        · have HB := Lib.hid (diagOk_good (T := closeT k T) (N := k) (fun a ha => HOK.out a (by omega)))
          go_wp2
          go_ret
          exact ⟨ret_bool HB.out.symm, HG.out, hO⟩
end Go.Proofs.Ytedpaanhnbodfaa
