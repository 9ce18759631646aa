/- The walk of the law FnTightOk: it returns true and changes nothing that was there; for codes of bytes. -/
import Derived.Test.YtnompncmachgjaaAlive
import Derived.Test.YtnompncmachgjaaDraws4
import Derived.Test.YtnompncmachgjaaStepKit
import Derived.Test.YtnompncmachgjaaSameT
import Derived.Test.YtnompncmachgjaaKI
import Derived.Test.YtnompncmachgjaaKH
import Derived.Test.YtnompncmachgjaaPlainL3
import Derived.Test.YtnompncmachgjaaKF
namespace Go.Proofs.Ytnompncmachgjaa
open Go.RowKit
set_option linter.unusedVariables false
set_option maxRecDepth 10000
set_option linter.unusedSimpArgs false

theorem BAt.takeK {w : World} {A : Option Addr} {bs : List Bd} (h : BAt w A bs) (k : Nat) : BAt w A (bs.take k) := by
  intro h0
  obtain ⟨b, off, e, hl, hc⟩ := h (by rw [List.length_take] at h0; omega)
  refine ⟨b, off, e, hl, fun i x hx => hc i x ?_⟩
  have hi : i < k := by have := (List.getElem?_eq_some_iff.1 hx).1; rw [List.length_take] at this; omega
  rwa [List.getElem?_take_of_lt hi] at hx
theorem BAt.dropK {w : World} {b off : Nat} {bs : List Bd} (h : BAt w (some ⟨b, off, none⟩) bs) (k : Nat) : BAt w (some ⟨b, off + k * 3, none⟩) (bs.drop k) := by
  intro h0
  obtain ⟨b', off', e, hl, hc⟩ := h (by rw [List.length_drop] at h0; omega)
  cases e
  refine ⟨b, off + k * 3, rfl, hl, fun i x hx => ?_⟩
  rw [List.getElem?_drop] at hx
  obtain ⟨c0, c1, c2⟩ := hc (k + i) x hx
  have e0 : off + k * 3 + i * 3 = off + (k + i) * 3 := by omega
  rw [e0]; exact ⟨c0, c1, c2⟩
theorem tight_out {n : Int} {bs : List Bd} {a : Int} (h : fitsOk n bs = false ∨ a < 0 ∨ bs.length ≤ a) : tightOk n bs a = false := by
  cases e : tightOk n bs a with
  | false => rfl
  | true =>
    simp only [tightOk, Bool.and_eq_true, inB_iff] at e
    rcases h with h | h | h
    · rw [h] at e; exact absurd e.1.1 (by simp)
    · omega
    · omega
theorem BAt_nil {w : World} {A : Option Addr} {bs : List Bd} {k : Nat} (h : bs.length ≤ k) : BAt w A (bs.drop k) := fun h0 => by rw [List.length_drop] at h0; omega
theorem sameTable_same' (A A' : Option Addr) (c c' N : Nat) (T : Tab) (w : World) (h : MAt w A N N T) (h' : MAt w A' N N T) (hN : N ≤ 1000) :
    Calls Try.prog 36 #[.slice A N c, .slice A' N c'] w fun e w' => e = .returned (.bool true) ∧ Below w.heap.size w w' := by
  have := sameTable_any A A' c c' N T T w h h' hN
  rwa [sameT_self] at this
set_option maxHeartbeats 2000000 in
theorem FnTightOk_walk (A : Option Addr) (c : Nat) (xs : List Int) (w : World) (hB : Bytes w A c xs) (hl : xs.length ≤ 9223372036854775807) :
    Calls Try.prog 7 #[.slice A xs.length c] w fun e w' => e = .returned (.bool true) ∧ Below w.heap.size w w' := by
  by_cases hL : (1048576 : Int) < (xs.length : Int)
  · go_enter Try.func7, Try.ntmps7
    go_wp2
    go_ret
    exact ⟨rfl, Below.refl _ _⟩
  go_enter Try.func7, Try.ntmps7
  go_wp2_with fail
  refine (drawTightOk_any A c xs _ hB).mono ?_; rintro e w1 ⟨n, A1, c1, bs, d, rfl, ⟨hf0, hf7, hfl, _⟩, hc, hn, hds, hrb, hb1⟩
  have HR := Lib.hid hrb
  have HN := Lib.hid hn
  clear hrb hn
  have hz1 := hb1.size
  go_wp2_with fail
  refine (tightOk_any _ _ _ bs d _ (HR.out.bat.below (by repeat (first | with_reducible exact Below.refl _ _ | with_reducible refine valloc ?_ _ | with_reducible refine vdrew ?_ | with_reducible refine vdrewN ?_ _ | with_reducible refine via (by assumption) ?_ | refine vset ?_ (by first | exact Nat.le_refl _ | (simp; done) | (simp; omega) | omega) _))) (by omega)).mono ?_; rintro e w2 ⟨rfl, hb2⟩
  have p0 : w2.cell? ⟨w1.heap.size, 0, none⟩ = some (.int .i64 n) := cB hb2 (by simp)
  have p1 : w2.cell? ⟨w1.heap.size, 1, none⟩ = some (.slice A1 bs.length c1) := cB hb2 (by simp)
  go_wp2_with fail
  refine (specTightOk_any _ _ _ bs d _ (HR.out.bat.below (by repeat (first | with_reducible exact Below.refl _ _ | with_reducible refine valloc ?_ _ | with_reducible refine vdrew ?_ | with_reducible refine vdrewN ?_ _ | with_reducible refine via (by assumption) ?_ | refine vset ?_ (by first | exact Nat.le_refl _ | (simp; done) | (simp; omega) | omega) _))) (by omega)).mono ?_; rintro e w3 ⟨rfl, hb3⟩
  replace p0 := cB hb3 p0
  replace p1 := cB hb3 p1
  have B4 := Lib.hid (show Below w.heap.size w w3 from (by repeat (first | with_reducible exact Below.refl _ _ | with_reducible refine valloc ?_ _ | with_reducible refine vdrew ?_ | with_reducible refine vdrewN ?_ _ | with_reducible refine via (by assumption) ?_ | refine vset ?_ (by first | exact Nat.le_refl _ | (simp; done) | (simp; omega) | omega) _)))
  have Q4 := Lib.hid (show BAt w3 A1 bs from HR.out.bat.below (by repeat (first | with_reducible exact Below.refl _ _ | with_reducible refine valloc ?_ _ | with_reducible refine vdrew ?_ | with_reducible refine vdrewN ?_ _ | with_reducible refine via (by assumption) ?_ | refine vset ?_ (by first | exact Nat.le_refl _ | (simp; done) | (simp; omega) | omega) _)))
  clear hb1 hb2 hb3 hB HR
  obtain ⟨o, ho⟩ : ∃ o, o = tightOk n bs d := ⟨_, rfl⟩
  rw [← ho]
  have HO := Lib.hid ho
  clear ho
  cases hf : fitsOk n bs
  · have HF := Lib.hid hf
    have e0 : o = false := by rw [HO.out]; exact tight_out (Or.inl hf)
    subst e0
    clear hf
    go_wp2_with fail
    refine (specFitsOk_any _ _ _ bs _ Q4.out (by omega)).mono ?_; rintro e w5 ⟨rfl, hb5⟩
    rw [HF.out]
    replace p0 := cB hb5 p0
    replace p1 := cB hb5 p1
    go_wp2_with fail
    refine (alive_any _).mono ?_; rintro e w6 ⟨rfl, hb6⟩
    go_wp2
    go_ret
    exact ⟨rfl, via hb6 (via hb5 B4.out)⟩
  · have HF := Lib.hid hf
    clear hf
    by_cases h1 : d < 0
    · have e0 : o = false := by rw [HO.out]; exact tight_out (Or.inr (Or.inl h1))
      subst e0
      go_wp2_with fail
      refine (specFitsOk_any _ _ _ bs _ Q4.out (by omega)).mono ?_; rintro e w5 ⟨rfl, hb5⟩
      rw [HF.out]
      replace p0 := cB hb5 p0
      replace p1 := cB hb5 p1
      go_wp2_with fail
      refine (alive_any _).mono ?_; rintro e w6 ⟨rfl, hb6⟩
      go_wp2
      go_ret
      exact ⟨rfl, via hb6 (via hb5 B4.out)⟩
    · by_cases h2 : (bs.length : Int) ≤ d
      · have e0 : o = false := by rw [HO.out]; exact tight_out (Or.inr (Or.inr h2))
        subst e0
        go_wp2_with fail
        refine (specFitsOk_any _ _ _ bs _ Q4.out (by omega)).mono ?_; rintro e w5 ⟨rfl, hb5⟩
        rw [HF.out]
        replace p0 := cB hb5 p0
        replace p1 := cB hb5 p1
        go_wp2_with fail
        refine (alive_any _).mono ?_; rintro e w6 ⟨rfl, hb6⟩
        go_wp2
        go_ret
        exact ⟨rfl, via hb6 (via hb5 B4.out)⟩
      · obtain ⟨a, rfl⟩ := Int.eq_ofNat_of_zero_le (show 0 ≤ d by omega)
        have ha : a < bs.length := by omega
        obtain ⟨b, off, x, eA, hbl, hx, _, _, _, _⟩ := Q4.out.at_ ha
        subst eA
        go_wp2_with fail
        refine (specFitsOk_any _ _ _ bs _ Q4.out (by omega)).mono ?_; rintro e w5 ⟨rfl, hb5⟩
        rw [HF.out]
        replace p0 := cB hb5 p0
        replace p1 := cB hb5 p1
        have B5 := Lib.hid (via hb5 B4.out)
        have Q5 := Lib.hid (Q4.out.below hb5)
        have hza := cell_lt p0
        clear hb5 hx
        go_upto_region 9 with (fail)
        refine name_c (fun w0 hw0 => ?_)
        have q0 : w0.cell? ⟨w1.heap.size, 0, none⟩ = some (.int .i64 n) := by rw [hw0]; exact p0
        have q1 : w0.cell? ⟨w1.heap.size, 1, none⟩ = some (.slice (some ⟨b, off, none⟩) bs.length c1) := by rw [hw0]; exact p1
        have BW := Lib.hid (show Below w.heap.size w w0 by rw [hw0]; exact B5.out)
        have HB := Lib.hid (show BAt w0 (some ⟨b, off, none⟩) bs by rw [hw0]; exact Q5.out)
        clear hw0 p0 p1 B5 Q5 B4 Q4
        have hda : decide ((a : Int) < 0) = false := decide_eq_false (by omega)
        rw [hda]
        clear hda
        have hwa : IntKind.i64.wrap ((a : Int) + 1) = (a : Int) + 1 := IntWalk.i64_in _ ⟨by omega, by omega⟩
        have i0 : (0 : Int) ≤ (a : Int) := by omega
        have i1 : (a : Int) ≤ (c1 : Int) := by omega
        have i2 : (0 : Int) ≤ (a : Int) + 1 := by omega
        have i3 : (a : Int) + 1 ≤ (bs.length : Int) := by omega
        have i4 : ((a : Int) + 1).toNat = a + 1 := by omega
        have i5 : (bs.length : Int) ≤ (c1 : Int) := by omega
        have hlw : (without bs a).length = bs.length - 1 := without_len ha
        have HLW := Lib.hid hlw
        clear hlw
        by_cases hcz : c1 = a + 1
        · subst hcz
          have i6 : (a : Int) ≤ (a : Int) + 1 := by omega
          have i7 : (bs.length : Int) ≤ (a : Int) + 1 := by omega
          refine wp_region_held_drew (S := (fun w' => w'.cell? ⟨w1.heap.size, 0, none⟩ = some (.int .i64 n) ∧ w'.cell? ⟨w1.heap.size, 1, none⟩ = some (.slice (some ⟨b, off, none⟩) bs.length (a + 1)))) (by kernel_rfl) ?_ (fun hHeld => ?_)
          · (try dsimp only)
            (first | done | exact ⟨cD q0, cD q1⟩)
          refine name_h (fun wa0 hwa0 => ?_)
          replace hHeld : ((fun w' => w'.cell? ⟨w1.heap.size, 0, none⟩ = some (.int .i64 n) ∧ w'.cell? ⟨w1.heap.size, 1, none⟩ = some (.slice (some ⟨b, off, none⟩) bs.length (a + 1)))) wa0 := by rw [hwa0]; exact hHeld
          (have Zwa0 : w0.heap.size ≤ wa0.heap.size := (by rw [hwa0]; exact Nat.le_refl _); have Rwa0 := Lib.hid (show Below w0.heap.size w0 wa0 by rw [hwa0]; exact (Below.refl _ _).drew))
          clear hwa0
          (refine wpAnyH_take (i := 0) (v := ?tv1) rfl (by kernel_rfl) (by kernel_rfl) (by kernel_rfl) (fun _ _ _ h => h) (Or.inl ⟨by kernel_rfl, ?ty1⟩) (by assumption) ?tr1; (case ty1 => (intro w' hSw; (try dsimp only at hSw); go_simp <;> with_reducible rfl)); (try simp only [Act.put, List.getElem_toArray, List.getElem_cons_succ, List.getElem_cons_zero, List.setIfInBounds_toArray, List.set_cons_zero, List.set_cons_succ]))
          (refine wpAnyH_take (i := 1) (v := ?tv2) rfl (by kernel_rfl) (by kernel_rfl) (by kernel_rfl) (fun _ _ _ h => h) (Or.inl ⟨by kernel_rfl, ?ty2⟩) (by assumption) ?tr2; (case ty2 => (intro w' hSw; (try dsimp only at hSw); go_simp <;> with_reducible rfl)); (try simp only [Act.put, List.getElem_toArray, List.getElem_cons_succ, List.getElem_cons_zero, List.setIfInBounds_toArray, List.set_cons_zero, List.set_cons_succ]))
          (refine wpAnyH_take (i := 3) (v := ?tv3) rfl (by kernel_rfl) (by kernel_rfl) (by kernel_rfl) (fun _ _ _ h => h) (Or.inl ⟨by kernel_rfl, ?ty3⟩) (by assumption) ?tr3; (case ty3 => (intro w' hSw; (try dsimp only at hSw); go_simp <;> with_reducible rfl)); (try simp only [Act.put, List.getElem_toArray, List.getElem_cons_succ, List.getElem_cons_zero, List.setIfInBounds_toArray, List.set_cons_zero, List.set_cons_succ]))
          (refine wpAnyH_take (i := 4) (v := ?tv4) rfl (by kernel_rfl) (by kernel_rfl) (by kernel_rfl) (fun _ _ _ h => h) (Or.inl ⟨by kernel_rfl, ?ty4⟩) (by assumption) ?tr4; (case ty4 => (intro w' hSw; (try dsimp only at hSw); go_simp <;> with_reducible rfl)); (try simp only [Act.put, List.getElem_toArray, List.getElem_cons_succ, List.getElem_cons_zero, List.setIfInBounds_toArray, List.set_cons_zero, List.set_cons_succ]))
          (refine wpAnyH_take (i := 5) (v := ?tv5) rfl (by kernel_rfl) (by kernel_rfl) (by kernel_rfl) (fun _ _ _ h => h) (Or.inl ⟨by kernel_rfl, ?ty5⟩) (by assumption) ?tr5; (case ty5 => (intro w' hSw; (try dsimp only at hSw); go_simp <;> with_reducible rfl)); (try simp only [Act.put, List.getElem_toArray, List.getElem_cons_succ, List.getElem_cons_zero, List.setIfInBounds_toArray, List.set_cons_zero, List.set_cons_succ]))
          (refine wpAnyH_take (i := 6) (v := ?tv6) rfl (by kernel_rfl) (by kernel_rfl) (by kernel_rfl) (fun _ _ _ h => h) (Or.inl ⟨by kernel_rfl, ?ty6⟩) (by assumption) ?tr6; (case ty6 => (intro w' hSw; (try dsimp only at hSw); go_simp <;> with_reducible rfl)); (try simp only [Act.put, List.getElem_toArray, List.getElem_cons_succ, List.getElem_cons_zero, List.setIfInBounds_toArray, List.set_cons_zero, List.set_cons_succ]))
          (refine wpAnyH_take (i := 8) (v := ?tv7) rfl (by kernel_rfl) (by kernel_rfl) (by kernel_rfl) (fun _ _ _ h => h) (Or.inl ⟨by kernel_rfl, ?ty7⟩) (by assumption) ?tr7; (case ty7 => (intro w' hSw; (try dsimp only at hSw); go_simp <;> with_reducible rfl)); (try simp only [Act.put, List.getElem_toArray, List.getElem_cons_succ, List.getElem_cons_zero, List.setIfInBounds_toArray, List.set_cons_zero, List.set_cons_succ]))
          (refine wpAnyH_take (i := 9) (v := ?tv8) rfl (by kernel_rfl) (by kernel_rfl) (by kernel_rfl) (fun _ _ _ h => h) (Or.inl ⟨by kernel_rfl, ?ty8⟩) (by assumption) ?tr8; (case ty8 => (intro w' hSw; (try dsimp only at hSw); go_simp <;> with_reducible rfl)); (try simp only [Act.put, List.getElem_toArray, List.getElem_cons_succ, List.getElem_cons_zero, List.setIfInBounds_toArray, List.set_cons_zero, List.set_cons_succ]))
          (refine wpAnyH_take (i := 10) (v := ?tv9) rfl (by kernel_rfl) (by kernel_rfl) (by kernel_rfl) (fun _ _ _ h => h) (Or.inl ⟨by kernel_rfl, ?ty9⟩) (by assumption) ?tr9; (case ty9 => (intro w' hSw; (try dsimp only at hSw); go_simp <;> with_reducible rfl)); (try simp only [Act.put, List.getElem_toArray, List.getElem_cons_succ, List.getElem_cons_zero, List.setIfInBounds_toArray, List.set_cons_zero, List.set_cons_succ]))
          (refine wpAnyH_take (i := 11) (v := ?tv10) rfl (by kernel_rfl) (by kernel_rfl) (by kernel_rfl) (fun _ _ _ h => h) (Or.inl ⟨by kernel_rfl, ?ty10⟩) (by assumption) ?tr10; (case ty10 => (intro w' hSw; (try dsimp only at hSw); go_simp <;> with_reducible rfl)); (try simp only [Act.put, List.getElem_toArray, List.getElem_cons_succ, List.getElem_cons_zero, List.setIfInBounds_toArray, List.set_cons_zero, List.set_cons_succ]))
          (refine wpAnyH_take (i := 12) (v := ?tv11) rfl (by kernel_rfl) (by kernel_rfl) (by kernel_rfl) (fun _ _ _ h => h) (Or.inl ⟨by kernel_rfl, ?ty11⟩) (by assumption) ?tr11; (case ty11 => (intro w' hSw; (try dsimp only at hSw); go_simp <;> with_reducible rfl)); (try simp only [Act.put, List.getElem_toArray, List.getElem_cons_succ, List.getElem_cons_zero, List.setIfInBounds_toArray, List.set_cons_zero, List.set_cons_succ]))
          refine wpAnyH_ready (rs := [2, 15]) (by kernel_rfl) (by simp) ?_
          refine (AllReadyH.cons rfl (fun K hK => ?b12_1) (AllReadyH.cons rfl (fun K hK => ?b12_2) AllReadyH.nil))
          case' b12_2 =>
            (go_simp; refine name_k (fun wa1 hwa1 => ?_); have Zwa1 := sizeE hwa1; have Rwa1 := Lib.hid (Below.allocE Rwa0.out Rwa0.out.size hwa1); (try have Ewa1 := Lib.hid (OwnB.allocE Ewa0.out hwa1)); (try have Vwa1 := Lib.hid (OwnB.allocE Vwa0.out hwa1)); (try have Uwa1 := Lib.hid (OwnB.allocE Uwa0.out hwa1)); (try have Nwa1 := Lib.hid (Blk.allocE Nwa0.out hwa1)); (try have Xwa1 := Lib.hid (Blk.allocE Xwa0.out hwa1)); have Xwa1 := Lib.hid (Blk.newE hwa1); clear hwa1)
            refine hK.out _ _ ?_ (fun hHeld => ?_)
            focus ((try dsimp only); (first | done | exact ⟨cB Rwa1.out q0, cB Rwa1.out q1⟩))
            clear hK K
            (try simp only [Act.put, List.getElem_toArray, List.getElem_cons_succ, List.getElem_cons_zero, List.setIfInBounds_toArray, List.set_cons_zero, List.set_cons_succ])
            refine wpAnyH_ready (rs := [2]) (by kernel_rfl) (by simp) ?_
            refine (AllReadyH.cons rfl (fun K hK => ?_) AllReadyH.nil)
            (go_simp; refine name_k (fun wa2 hwa2 => ?_); have Zwa2 := sizeE hwa2; have Rwa2 := Lib.hid (Below.allocE Rwa1.out Rwa1.out.size hwa2); (try have Ewa2 := Lib.hid (OwnB.allocE Ewa1.out hwa2)); (try have Vwa2 := Lib.hid (OwnB.allocE Vwa1.out hwa2)); (try have Uwa2 := Lib.hid (OwnB.allocE Uwa1.out hwa2)); (try have Nwa2 := Lib.hid (Blk.allocE Nwa1.out hwa2)); (try have Xwa2 := Lib.hid (Blk.allocE Xwa1.out hwa2)); have Ewa2 := Lib.hid (OwnB.emptyE hwa2 Rwa1.out.size); clear hwa2)
            refine hK.out _ _ ?_ (fun hHeld => ?_)
            focus ((try dsimp only); (first | done | exact ⟨cB Rwa2.out q0, cB Rwa2.out q1⟩))
            clear hK K
            (try simp only [Act.put, List.getElem_toArray, List.getElem_cons_succ, List.getElem_cons_zero, List.setIfInBounds_toArray, List.set_cons_zero, List.set_cons_succ])
            refine wpAnyH_ready (rs := [7]) (by kernel_rfl) (by simp) ?_
            refine (AllReadyH.cons rfl (fun K hK => ?_) AllReadyH.nil)
            (refine step_pushG (by rfl) _ _ (by rfl) w0.heap.size _ [] (by rfl) Ewa2.out (some ⟨b, off, none⟩) _ a (bs.take a) (by rw [List.length_take]; omega) (by rfl) ((HB.out.takeK a).below Rwa2.out) (fun q => by cases q) (by rw [List.length_take]; simp; omega) Rwa2.out.size ?_; intro vwa3 wa3 ho hg; rw [List.nil_append] at ho; obtain ⟨T1, hT1⟩ : ∃ T1, T1 = bs.take a := ⟨_, rfl⟩; rw [← hT1] at ho; have HT1 := Lib.hid hT1; have Zwa3 := hg.size; have Rwa3 := Lib.hid (Rwa2.out.trans (grownB Ewa2.out hg Rwa2.out.size)); (try have Nwa3 := Lib.hid (Nwa2.out.grown hg (by simp [Value.ownBlock]; omega))); (try have Xwa3 := Lib.hid (Xwa2.out.grownT Ewa2.out hg)); obtain ⟨Gwa3, cwa3, rfl, _⟩ := ho.bat; have Vwa3 := Lib.hid ho; clear ho hg hT1)
            refine hK.out _ _ ?_ (fun hHeld => ?_)
            focus ((try dsimp only); (first | done | exact ⟨cB Rwa3.out q0, cB Rwa3.out q1⟩))
            clear hK K
            (try simp only [Act.put, List.getElem_toArray, List.getElem_cons_succ, List.getElem_cons_zero, List.setIfInBounds_toArray, List.set_cons_zero, List.set_cons_succ])
            refine wpAnyH_ready (rs := [13]) (by kernel_rfl) (by simp) ?_
            refine (AllReadyH.cons rfl (fun K hK => ?_) AllReadyH.nil)
            (refine step_pushG (by rfl) _ _ (by rfl) w0.heap.size _ T1 (by rfl) Vwa3.out _ _ (0) (bs.drop (a + 1)) (by first | (rw [List.length_drop]; done) | (rw [List.length_drop]; omega)) (by rfl) (by first | exact (HB.out.dropK (a + 1)).below Rwa3.out | exact (BAt_nil (by omega))) (fun q => by cases q) (by rw [HT1.out, List.length_take, List.length_drop]; omega) Rwa3.out.size ?_; intro vwa4 wa4 ho hg; obtain ⟨L, hL⟩ : ∃ L, L = T1 ++ bs.drop (a + 1) := ⟨_, rfl⟩; rw [← hL] at ho; have Zwa4 := hg.size; have Rwa4 := Lib.hid (Rwa3.out.trans (grownB Vwa3.out hg Rwa3.out.size)); (try have Nwa4 := Lib.hid (Nwa3.out.grown hg (by simp [Value.ownBlock]; omega))); (try have Xwa4 := Lib.hid (Xwa3.out.grownT Vwa3.out hg)); obtain ⟨G, c2, rfl, _⟩ := ho.bat; have Uwa4 := Lib.hid ho; have HL := Lib.hid hL; clear ho hg hL)
            refine hK.out _ _ ?_ (fun hHeld => ?_)
            focus ((try dsimp only); (first | done | exact ⟨cB Rwa4.out q0, cB Rwa4.out q1⟩))
            clear hK K
            (try simp only [Act.put, List.getElem_toArray, List.getElem_cons_succ, List.getElem_cons_zero, List.setIfInBounds_toArray, List.set_cons_zero, List.set_cons_succ])
            (refine wpAnyH_take (i := 14) (v := ?tv16) rfl (by kernel_rfl) (by kernel_rfl) (by kernel_rfl) (fun _ _ _ h => h) (Or.inl ⟨by kernel_rfl, ?ty16⟩) (by assumption) ?tr16; (case ty16 => (intro w' hSw; (try dsimp only at hSw); go_simp <;> with_reducible rfl)); (try simp only [Act.put, List.getElem_toArray, List.getElem_cons_succ, List.getElem_cons_zero, List.setIfInBounds_toArray, List.set_cons_zero, List.set_cons_succ]))
            refine wpAnyH_ready (rs := [16]) (by kernel_rfl) (by simp) ?_
            refine (AllReadyH.cons rfl (fun K hK => ?_) AllReadyH.nil)
            (obtain ⟨x0, x1, fr0, fr1⟩ := Xwa4.out.two; go_simp; refine name_k (fun wa5 hwa5 => ?_); obtain ⟨s1, s2, s3⟩ := storeE hwa5 Xwa4.out Uwa4.out Rwa4.out (by omega); have Uwa5 := Lib.hid s1; have Xwa5 := Lib.hid s2; have Rwa5 := Lib.hid s3; clear hwa5 s1 s2 s3 x0 x1 fr0 fr1)
            refine hK.out _ _ ?_ (fun hHeld => ?_)
            focus ((try dsimp only); (first | done | exact ⟨cB Rwa5.out q0, cB Rwa5.out q1⟩))
            clear hK K
            (try simp only [Act.put, List.getElem_toArray, List.getElem_cons_succ, List.getElem_cons_zero, List.setIfInBounds_toArray, List.set_cons_zero, List.set_cons_succ])
            refine wpAnyH_done (by kernel_rfl) ?_ _
          case' b12_1 =>
            (go_simp; refine name_k (fun wa1 hwa1 => ?_); have Zwa1 := sizeE hwa1; have Rwa1 := Lib.hid (Below.allocE Rwa0.out Rwa0.out.size hwa1); (try have Ewa1 := Lib.hid (OwnB.allocE Ewa0.out hwa1)); (try have Vwa1 := Lib.hid (OwnB.allocE Vwa0.out hwa1)); (try have Uwa1 := Lib.hid (OwnB.allocE Uwa0.out hwa1)); (try have Nwa1 := Lib.hid (Blk.allocE Nwa0.out hwa1)); (try have Xwa1 := Lib.hid (Blk.allocE Xwa0.out hwa1)); have Ewa1 := Lib.hid (OwnB.emptyE hwa1 Rwa0.out.size); clear hwa1)
            refine hK.out _ _ ?_ (fun hHeld => ?_)
            focus ((try dsimp only); (first | done | exact ⟨cB Rwa1.out q0, cB Rwa1.out q1⟩))
            clear hK K
            (try simp only [Act.put, List.getElem_toArray, List.getElem_cons_succ, List.getElem_cons_zero, List.setIfInBounds_toArray, List.set_cons_zero, List.set_cons_succ])
            refine wpAnyH_ready (rs := [7, 15]) (by kernel_rfl) (by simp) ?_
            refine (AllReadyH.cons rfl (fun K hK => ?b18_1) (AllReadyH.cons rfl (fun K hK => ?b18_2) AllReadyH.nil))
            case' b18_2 =>
              (go_simp; refine name_k (fun wa2 hwa2 => ?_); have Zwa2 := sizeE hwa2; have Rwa2 := Lib.hid (Below.allocE Rwa1.out Rwa1.out.size hwa2); (try have Ewa2 := Lib.hid (OwnB.allocE Ewa1.out hwa2)); (try have Vwa2 := Lib.hid (OwnB.allocE Vwa1.out hwa2)); (try have Uwa2 := Lib.hid (OwnB.allocE Uwa1.out hwa2)); (try have Nwa2 := Lib.hid (Blk.allocE Nwa1.out hwa2)); (try have Xwa2 := Lib.hid (Blk.allocE Xwa1.out hwa2)); have Xwa2 := Lib.hid (Blk.newE hwa2); clear hwa2)
              refine hK.out _ _ ?_ (fun hHeld => ?_)
              focus ((try dsimp only); (first | done | exact ⟨cB Rwa2.out q0, cB Rwa2.out q1⟩))
              clear hK K
              (try simp only [Act.put, List.getElem_toArray, List.getElem_cons_succ, List.getElem_cons_zero, List.setIfInBounds_toArray, List.set_cons_zero, List.set_cons_succ])
              refine wpAnyH_ready (rs := [7]) (by kernel_rfl) (by simp) ?_
              refine (AllReadyH.cons rfl (fun K hK => ?_) AllReadyH.nil)
              (refine step_pushG (by rfl) _ _ (by rfl) w0.heap.size _ [] (by rfl) Ewa2.out (some ⟨b, off, none⟩) _ a (bs.take a) (by rw [List.length_take]; omega) (by rfl) ((HB.out.takeK a).below Rwa2.out) (fun q => by cases q) (by rw [List.length_take]; simp; omega) Rwa2.out.size ?_; intro vwa3 wa3 ho hg; rw [List.nil_append] at ho; obtain ⟨T1, hT1⟩ : ∃ T1, T1 = bs.take a := ⟨_, rfl⟩; rw [← hT1] at ho; have HT1 := Lib.hid hT1; have Zwa3 := hg.size; have Rwa3 := Lib.hid (Rwa2.out.trans (grownB Ewa2.out hg Rwa2.out.size)); (try have Nwa3 := Lib.hid (Nwa2.out.grown hg (by simp [Value.ownBlock]; omega))); (try have Xwa3 := Lib.hid (Xwa2.out.grownT Ewa2.out hg)); obtain ⟨Gwa3, cwa3, rfl, _⟩ := ho.bat; have Vwa3 := Lib.hid ho; clear ho hg hT1)
              refine hK.out _ _ ?_ (fun hHeld => ?_)
              focus ((try dsimp only); (first | done | exact ⟨cB Rwa3.out q0, cB Rwa3.out q1⟩))
              clear hK K
              (try simp only [Act.put, List.getElem_toArray, List.getElem_cons_succ, List.getElem_cons_zero, List.setIfInBounds_toArray, List.set_cons_zero, List.set_cons_succ])
              refine wpAnyH_ready (rs := [13]) (by kernel_rfl) (by simp) ?_
              refine (AllReadyH.cons rfl (fun K hK => ?_) AllReadyH.nil)
              (refine step_pushG (by rfl) _ _ (by rfl) w0.heap.size _ T1 (by rfl) Vwa3.out _ _ (0) (bs.drop (a + 1)) (by first | (rw [List.length_drop]; done) | (rw [List.length_drop]; omega)) (by rfl) (by first | exact (HB.out.dropK (a + 1)).below Rwa3.out | exact (BAt_nil (by omega))) (fun q => by cases q) (by rw [HT1.out, List.length_take, List.length_drop]; omega) Rwa3.out.size ?_; intro vwa4 wa4 ho hg; obtain ⟨L, hL⟩ : ∃ L, L = T1 ++ bs.drop (a + 1) := ⟨_, rfl⟩; rw [← hL] at ho; have Zwa4 := hg.size; have Rwa4 := Lib.hid (Rwa3.out.trans (grownB Vwa3.out hg Rwa3.out.size)); (try have Nwa4 := Lib.hid (Nwa3.out.grown hg (by simp [Value.ownBlock]; omega))); (try have Xwa4 := Lib.hid (Xwa3.out.grownT Vwa3.out hg)); obtain ⟨G, c2, rfl, _⟩ := ho.bat; have Uwa4 := Lib.hid ho; have HL := Lib.hid hL; clear ho hg hL)
              refine hK.out _ _ ?_ (fun hHeld => ?_)
              focus ((try dsimp only); (first | done | exact ⟨cB Rwa4.out q0, cB Rwa4.out q1⟩))
              clear hK K
              (try simp only [Act.put, List.getElem_toArray, List.getElem_cons_succ, List.getElem_cons_zero, List.setIfInBounds_toArray, List.set_cons_zero, List.set_cons_succ])
              (refine wpAnyH_take (i := 14) (v := ?tv21) rfl (by kernel_rfl) (by kernel_rfl) (by kernel_rfl) (fun _ _ _ h => h) (Or.inl ⟨by kernel_rfl, ?ty21⟩) (by assumption) ?tr21; (case ty21 => (intro w' hSw; (try dsimp only at hSw); go_simp <;> with_reducible rfl)); (try simp only [Act.put, List.getElem_toArray, List.getElem_cons_succ, List.getElem_cons_zero, List.setIfInBounds_toArray, List.set_cons_zero, List.set_cons_succ]))
              refine wpAnyH_ready (rs := [16]) (by kernel_rfl) (by simp) ?_
              refine (AllReadyH.cons rfl (fun K hK => ?_) AllReadyH.nil)
              (obtain ⟨x0, x1, fr0, fr1⟩ := Xwa4.out.two; go_simp; refine name_k (fun wa5 hwa5 => ?_); obtain ⟨s1, s2, s3⟩ := storeE hwa5 Xwa4.out Uwa4.out Rwa4.out (by omega); have Uwa5 := Lib.hid s1; have Xwa5 := Lib.hid s2; have Rwa5 := Lib.hid s3; clear hwa5 s1 s2 s3 x0 x1 fr0 fr1)
              refine hK.out _ _ ?_ (fun hHeld => ?_)
              focus ((try dsimp only); (first | done | exact ⟨cB Rwa5.out q0, cB Rwa5.out q1⟩))
              clear hK K
              (try simp only [Act.put, List.getElem_toArray, List.getElem_cons_succ, List.getElem_cons_zero, List.setIfInBounds_toArray, List.set_cons_zero, List.set_cons_succ])
              refine wpAnyH_done (by kernel_rfl) ?_ _
            case' b18_1 =>
              (refine step_pushG (by rfl) _ _ (by rfl) w0.heap.size _ [] (by rfl) Ewa1.out (some ⟨b, off, none⟩) _ a (bs.take a) (by rw [List.length_take]; omega) (by rfl) ((HB.out.takeK a).below Rwa1.out) (fun q => by cases q) (by rw [List.length_take]; simp; omega) Rwa1.out.size ?_; intro vwa2 wa2 ho hg; rw [List.nil_append] at ho; obtain ⟨T1, hT1⟩ : ∃ T1, T1 = bs.take a := ⟨_, rfl⟩; rw [← hT1] at ho; have HT1 := Lib.hid hT1; have Zwa2 := hg.size; have Rwa2 := Lib.hid (Rwa1.out.trans (grownB Ewa1.out hg Rwa1.out.size)); (try have Nwa2 := Lib.hid (Nwa1.out.grown hg (by simp [Value.ownBlock]; omega))); (try have Xwa2 := Lib.hid (Xwa1.out.grownT Ewa1.out hg)); obtain ⟨Gwa2, cwa2, rfl, _⟩ := ho.bat; have Vwa2 := Lib.hid ho; clear ho hg hT1)
              refine hK.out _ _ ?_ (fun hHeld => ?_)
              focus ((try dsimp only); (first | done | exact ⟨cB Rwa2.out q0, cB Rwa2.out q1⟩))
              clear hK K
              (try simp only [Act.put, List.getElem_toArray, List.getElem_cons_succ, List.getElem_cons_zero, List.setIfInBounds_toArray, List.set_cons_zero, List.set_cons_succ])
              refine wpAnyH_ready (rs := [13, 15]) (by kernel_rfl) (by simp) ?_
              refine (AllReadyH.cons rfl (fun K hK => ?b23_1) (AllReadyH.cons rfl (fun K hK => ?b23_2) AllReadyH.nil))
              case' b23_2 =>
                (go_simp; refine name_k (fun wa3 hwa3 => ?_); have Zwa3 := sizeE hwa3; have Rwa3 := Lib.hid (Below.allocE Rwa2.out Rwa2.out.size hwa3); (try have Ewa3 := Lib.hid (OwnB.allocE Ewa2.out hwa3)); (try have Vwa3 := Lib.hid (OwnB.allocE Vwa2.out hwa3)); (try have Uwa3 := Lib.hid (OwnB.allocE Uwa2.out hwa3)); (try have Nwa3 := Lib.hid (Blk.allocE Nwa2.out hwa3)); (try have Xwa3 := Lib.hid (Blk.allocE Xwa2.out hwa3)); have Xwa3 := Lib.hid (Blk.newE hwa3); clear hwa3)
                refine hK.out _ _ ?_ (fun hHeld => ?_)
                focus ((try dsimp only); (first | done | exact ⟨cB Rwa3.out q0, cB Rwa3.out q1⟩))
                clear hK K
                (try simp only [Act.put, List.getElem_toArray, List.getElem_cons_succ, List.getElem_cons_zero, List.setIfInBounds_toArray, List.set_cons_zero, List.set_cons_succ])
                refine wpAnyH_ready (rs := [13]) (by kernel_rfl) (by simp) ?_
                refine (AllReadyH.cons rfl (fun K hK => ?_) AllReadyH.nil)
                (refine step_pushG (by rfl) _ _ (by rfl) w0.heap.size _ T1 (by rfl) Vwa3.out _ _ (0) (bs.drop (a + 1)) (by first | (rw [List.length_drop]; done) | (rw [List.length_drop]; omega)) (by rfl) (by first | exact (HB.out.dropK (a + 1)).below Rwa3.out | exact (BAt_nil (by omega))) (fun q => by cases q) (by rw [HT1.out, List.length_take, List.length_drop]; omega) Rwa3.out.size ?_; intro vwa4 wa4 ho hg; obtain ⟨L, hL⟩ : ∃ L, L = T1 ++ bs.drop (a + 1) := ⟨_, rfl⟩; rw [← hL] at ho; have Zwa4 := hg.size; have Rwa4 := Lib.hid (Rwa3.out.trans (grownB Vwa3.out hg Rwa3.out.size)); (try have Nwa4 := Lib.hid (Nwa3.out.grown hg (by simp [Value.ownBlock]; omega))); (try have Xwa4 := Lib.hid (Xwa3.out.grownT Vwa3.out hg)); obtain ⟨G, c2, rfl, _⟩ := ho.bat; have Uwa4 := Lib.hid ho; have HL := Lib.hid hL; clear ho hg hL)
                refine hK.out _ _ ?_ (fun hHeld => ?_)
                focus ((try dsimp only); (first | done | exact ⟨cB Rwa4.out q0, cB Rwa4.out q1⟩))
                clear hK K
                (try simp only [Act.put, List.getElem_toArray, List.getElem_cons_succ, List.getElem_cons_zero, List.setIfInBounds_toArray, List.set_cons_zero, List.set_cons_succ])
                (refine wpAnyH_take (i := 14) (v := ?tv25) rfl (by kernel_rfl) (by kernel_rfl) (by kernel_rfl) (fun _ _ _ h => h) (Or.inl ⟨by kernel_rfl, ?ty25⟩) (by assumption) ?tr25; (case ty25 => (intro w' hSw; (try dsimp only at hSw); go_simp <;> with_reducible rfl)); (try simp only [Act.put, List.getElem_toArray, List.getElem_cons_succ, List.getElem_cons_zero, List.setIfInBounds_toArray, List.set_cons_zero, List.set_cons_succ]))
                refine wpAnyH_ready (rs := [16]) (by kernel_rfl) (by simp) ?_
                refine (AllReadyH.cons rfl (fun K hK => ?_) AllReadyH.nil)
                (obtain ⟨x0, x1, fr0, fr1⟩ := Xwa4.out.two; go_simp; refine name_k (fun wa5 hwa5 => ?_); obtain ⟨s1, s2, s3⟩ := storeE hwa5 Xwa4.out Uwa4.out Rwa4.out (by omega); have Uwa5 := Lib.hid s1; have Xwa5 := Lib.hid s2; have Rwa5 := Lib.hid s3; clear hwa5 s1 s2 s3 x0 x1 fr0 fr1)
                refine hK.out _ _ ?_ (fun hHeld => ?_)
                focus ((try dsimp only); (first | done | exact ⟨cB Rwa5.out q0, cB Rwa5.out q1⟩))
                clear hK K
                (try simp only [Act.put, List.getElem_toArray, List.getElem_cons_succ, List.getElem_cons_zero, List.setIfInBounds_toArray, List.set_cons_zero, List.set_cons_succ])
                refine wpAnyH_done (by kernel_rfl) ?_ _
              case' b23_1 =>
                (refine step_pushG (by rfl) _ _ (by rfl) w0.heap.size _ T1 (by rfl) Vwa2.out _ _ (0) (bs.drop (a + 1)) (by first | (rw [List.length_drop]; done) | (rw [List.length_drop]; omega)) (by rfl) (by first | exact (HB.out.dropK (a + 1)).below Rwa2.out | exact (BAt_nil (by omega))) (fun q => by cases q) (by rw [HT1.out, List.length_take, List.length_drop]; omega) Rwa2.out.size ?_; intro vwa3 wa3 ho hg; obtain ⟨L, hL⟩ : ∃ L, L = T1 ++ bs.drop (a + 1) := ⟨_, rfl⟩; rw [← hL] at ho; have Zwa3 := hg.size; have Rwa3 := Lib.hid (Rwa2.out.trans (grownB Vwa2.out hg Rwa2.out.size)); (try have Nwa3 := Lib.hid (Nwa2.out.grown hg (by simp [Value.ownBlock]; omega))); (try have Xwa3 := Lib.hid (Xwa2.out.grownT Vwa2.out hg)); obtain ⟨G, c2, rfl, _⟩ := ho.bat; have Uwa3 := Lib.hid ho; have HL := Lib.hid hL; clear ho hg hL)
                refine hK.out _ _ ?_ (fun hHeld => ?_)
                focus ((try dsimp only); (first | done | exact ⟨cB Rwa3.out q0, cB Rwa3.out q1⟩))
                clear hK K
                (try simp only [Act.put, List.getElem_toArray, List.getElem_cons_succ, List.getElem_cons_zero, List.setIfInBounds_toArray, List.set_cons_zero, List.set_cons_succ])
                (refine wpAnyH_take (i := 14) (v := ?tv27) rfl (by kernel_rfl) (by kernel_rfl) (by kernel_rfl) (fun _ _ _ h => h) (Or.inl ⟨by kernel_rfl, ?ty27⟩) (by assumption) ?tr27; (case ty27 => (intro w' hSw; (try dsimp only at hSw); go_simp <;> with_reducible rfl)); (try simp only [Act.put, List.getElem_toArray, List.getElem_cons_succ, List.getElem_cons_zero, List.setIfInBounds_toArray, List.set_cons_zero, List.set_cons_succ]))
                refine wpAnyH_ready (rs := [15]) (by kernel_rfl) (by simp) ?_
                refine (AllReadyH.cons rfl (fun K hK => ?_) AllReadyH.nil)
                (go_simp; refine name_k (fun wa4 hwa4 => ?_); have Zwa4 := sizeE hwa4; have Rwa4 := Lib.hid (Below.allocE Rwa3.out Rwa3.out.size hwa4); (try have Ewa4 := Lib.hid (OwnB.allocE Ewa3.out hwa4)); (try have Vwa4 := Lib.hid (OwnB.allocE Vwa3.out hwa4)); (try have Uwa4 := Lib.hid (OwnB.allocE Uwa3.out hwa4)); (try have Nwa4 := Lib.hid (Blk.allocE Nwa3.out hwa4)); (try have Xwa4 := Lib.hid (Blk.allocE Xwa3.out hwa4)); have Xwa4 := Lib.hid (Blk.newE hwa4); clear hwa4)
                refine hK.out _ _ ?_ (fun hHeld => ?_)
                focus ((try dsimp only); (first | done | exact ⟨cB Rwa4.out q0, cB Rwa4.out q1⟩))
                clear hK K
                (try simp only [Act.put, List.getElem_toArray, List.getElem_cons_succ, List.getElem_cons_zero, List.setIfInBounds_toArray, List.set_cons_zero, List.set_cons_succ])
                refine wpAnyH_ready (rs := [16]) (by kernel_rfl) (by simp) ?_
                refine (AllReadyH.cons rfl (fun K hK => ?_) AllReadyH.nil)
                (obtain ⟨x0, x1, fr0, fr1⟩ := Xwa4.out.two; go_simp; refine name_k (fun wa5 hwa5 => ?_); obtain ⟨s1, s2, s3⟩ := storeE hwa5 Xwa4.out Uwa4.out Rwa4.out (by omega); have Uwa5 := Lib.hid s1; have Xwa5 := Lib.hid s2; have Rwa5 := Lib.hid s3; clear hwa5 s1 s2 s3 x0 x1 fr0 fr1)
                refine hK.out _ _ ?_ (fun hHeld => ?_)
                focus ((try dsimp only); (first | done | exact ⟨cB Rwa5.out q0, cB Rwa5.out q1⟩))
                clear hK K
                (try simp only [Act.put, List.getElem_toArray, List.getElem_cons_succ, List.getElem_cons_zero, List.setIfInBounds_toArray, List.set_cons_zero, List.set_cons_succ])
                refine wpAnyH_done (by kernel_rfl) ?_ _
          all_goals
            have hL : L = without bs a := by rw [HL.out, HT1.out]; rfl
            have hO := Uwa5.out
            have hQ := Xwa5.out
            have hb := Rwa5.out
            clear HL
            obtain ⟨G', c', hv, hrb, _, _⟩ := hO.rb
            obtain ⟨rfl, rfl⟩ : G = G' ∧ c2 = c' := by injection hv with e1 _ e2; exact ⟨e1, e2⟩
            have HL := Lib.hid hL
            have hll : L.length ≤ 16 := by have := HLW.out; rw [hL]; omega
            have HRB := Lib.hid hrb.bat
            obtain ⟨s0, s1, xx1, xx2⟩ := hQ.two
            clear xx1 xx2
            replace q0 := cB hb q0
            replace q1 := cB hb q1
            have BC := Lib.hid (via hb BW.out)
            have HBC := Lib.hid (HB.out.below hb)
            clear hv hL hO hQ hb hrb hwa i0 i1 i2 i3 i4 i5 BW HB
            obtain ⟨N, hN, n1, n6⟩ := fit_nat HF.out
            subst hN
            have HF2 := Lib.hid (show fitsOk N L = true by rw [HL.out]; exact without_fits HF.out ha)
            have F1 := Lib.hid (show fitN N bs = N by simp [fitN, HF.out])
            have F2 := Lib.hid (show fitN N L = N by simp [fitN, HF2.out])
            go_wp2_with fail
            refine (closedOf_any _ _ _ bs _ HBC.out (by omega)).mono ?_; rintro e w6 ⟨G1, C1, rfl, r1, hb6⟩
            rw [HF.out, F1.out]
            rw [F1.out] at r1
            have R1 := Lib.hid (r1.mat (Nat.le_refl _))
            replace q0 := cB hb6 q0
            replace q1 := cB hb6 q1
            replace s0 := cB hb6 s0
            replace s1 := cB hb6 s1
            clear r1
            go_wp2_with fail
            refine (closedOf_any _ _ _ L _ (HRB.out.below hb6) (by omega)).mono ?_; rintro e w7 ⟨G2, C2, rfl, r2, hb7⟩
            rw [HF2.out, F2.out]
            rw [F2.out] at r2
            have R2 := Lib.hid (r2.mat (Nat.le_refl _))
            clear r2
            cases o
            · have HT := Lib.hid (fun i j (hi : i < N) (hj : j < N) => tight_law HF.out ha HO.out.symm hi hj)
              go_wp2_with fail
              refine (sameTable_same' _ _ _ _ N (closedT N bs) _ (R1.out.below hb7) (R2.out.eq_ (fun i j hi hj => by rw [HL.out]; exact HT.out i j hi hj)) (by omega)).mono ?_; rintro e w8 ⟨rfl, hb8⟩
              go_wp2
              go_ret
              exact ⟨rfl, via hb8 (via hb7 (via hb6 BC.out))⟩
            · go_wp2
              go_ret
              exact ⟨rfl, via hb7 (via hb6 BC.out)⟩
        · have hx9 : True := trivial
          refine wp_region_held_drew (S := (fun w' => w'.cell? ⟨w1.heap.size, 0, none⟩ = some (.int .i64 n) ∧ w'.cell? ⟨w1.heap.size, 1, none⟩ = some (.slice (some ⟨b, off, none⟩) bs.length c1))) (by kernel_rfl) ?_ (fun hHeld => ?_)
          · (try dsimp only)
            (first | done | exact ⟨cD q0, cD q1⟩)
          refine name_h (fun wa0 hwa0 => ?_)
          replace hHeld : ((fun w' => w'.cell? ⟨w1.heap.size, 0, none⟩ = some (.int .i64 n) ∧ w'.cell? ⟨w1.heap.size, 1, none⟩ = some (.slice (some ⟨b, off, none⟩) bs.length c1))) wa0 := by rw [hwa0]; exact hHeld
          (have Zwa0 : w0.heap.size ≤ wa0.heap.size := (by rw [hwa0]; exact Nat.le_refl _); have Rwa0 := Lib.hid (show Below w0.heap.size w0 wa0 by rw [hwa0]; exact (Below.refl _ _).drew))
          clear hwa0
          (refine wpAnyH_take (i := 0) (v := ?tv30) rfl (by kernel_rfl) (by kernel_rfl) (by kernel_rfl) (fun _ _ _ h => h) (Or.inl ⟨by kernel_rfl, ?ty30⟩) (by assumption) ?tr30; (case ty30 => (intro w' hSw; (try dsimp only at hSw); go_simp <;> with_reducible rfl)); (try simp only [Act.put, List.getElem_toArray, List.getElem_cons_succ, List.getElem_cons_zero, List.setIfInBounds_toArray, List.set_cons_zero, List.set_cons_succ]))
          (refine wpAnyH_take (i := 1) (v := ?tv31) rfl (by kernel_rfl) (by kernel_rfl) (by kernel_rfl) (fun _ _ _ h => h) (Or.inl ⟨by kernel_rfl, ?ty31⟩) (by assumption) ?tr31; (case ty31 => (intro w' hSw; (try dsimp only at hSw); go_simp <;> with_reducible rfl)); (try simp only [Act.put, List.getElem_toArray, List.getElem_cons_succ, List.getElem_cons_zero, List.setIfInBounds_toArray, List.set_cons_zero, List.set_cons_succ]))
          (refine wpAnyH_take (i := 3) (v := ?tv32) rfl (by kernel_rfl) (by kernel_rfl) (by kernel_rfl) (fun _ _ _ h => h) (Or.inl ⟨by kernel_rfl, ?ty32⟩) (by assumption) ?tr32; (case ty32 => (intro w' hSw; (try dsimp only at hSw); go_simp <;> with_reducible rfl)); (try simp only [Act.put, List.getElem_toArray, List.getElem_cons_succ, List.getElem_cons_zero, List.setIfInBounds_toArray, List.set_cons_zero, List.set_cons_succ]))
          (refine wpAnyH_take (i := 4) (v := ?tv33) rfl (by kernel_rfl) (by kernel_rfl) (by kernel_rfl) (fun _ _ _ h => h) (Or.inl ⟨by kernel_rfl, ?ty33⟩) (by assumption) ?tr33; (case ty33 => (intro w' hSw; (try dsimp only at hSw); go_simp <;> with_reducible rfl)); (try simp only [Act.put, List.getElem_toArray, List.getElem_cons_succ, List.getElem_cons_zero, List.setIfInBounds_toArray, List.set_cons_zero, List.set_cons_succ]))
          (refine wpAnyH_take (i := 5) (v := ?tv34) rfl (by kernel_rfl) (by kernel_rfl) (by kernel_rfl) (fun _ _ _ h => h) (Or.inl ⟨by kernel_rfl, ?ty34⟩) (by assumption) ?tr34; (case ty34 => (intro w' hSw; (try dsimp only at hSw); go_simp <;> with_reducible rfl)); (try simp only [Act.put, List.getElem_toArray, List.getElem_cons_succ, List.getElem_cons_zero, List.setIfInBounds_toArray, List.set_cons_zero, List.set_cons_succ]))
          (refine wpAnyH_take (i := 6) (v := ?tv35) rfl (by kernel_rfl) (by kernel_rfl) (by kernel_rfl) (fun _ _ _ h => h) (Or.inl ⟨by kernel_rfl, ?ty35⟩) (by assumption) ?tr35; (case ty35 => (intro w' hSw; (try dsimp only at hSw); go_simp <;> with_reducible rfl)); (try simp only [Act.put, List.getElem_toArray, List.getElem_cons_succ, List.getElem_cons_zero, List.setIfInBounds_toArray, List.set_cons_zero, List.set_cons_succ]))
          (refine wpAnyH_take (i := 8) (v := ?tv36) rfl (by kernel_rfl) (by kernel_rfl) (by kernel_rfl) (fun _ _ _ h => h) (Or.inl ⟨by kernel_rfl, ?ty36⟩) (by assumption) ?tr36; (case ty36 => (intro w' hSw; (try dsimp only at hSw); go_simp <;> with_reducible rfl)); (try simp only [Act.put, List.getElem_toArray, List.getElem_cons_succ, List.getElem_cons_zero, List.setIfInBounds_toArray, List.set_cons_zero, List.set_cons_succ]))
          (refine wpAnyH_take (i := 9) (v := ?tv37) rfl (by kernel_rfl) (by kernel_rfl) (by kernel_rfl) (fun _ _ _ h => h) (Or.inl ⟨by kernel_rfl, ?ty37⟩) (by assumption) ?tr37; (case ty37 => (intro w' hSw; (try dsimp only at hSw); go_simp <;> with_reducible rfl)); (try simp only [Act.put, List.getElem_toArray, List.getElem_cons_succ, List.getElem_cons_zero, List.setIfInBounds_toArray, List.set_cons_zero, List.set_cons_succ]))
          (refine wpAnyH_take (i := 10) (v := ?tv38) rfl (by kernel_rfl) (by kernel_rfl) (by kernel_rfl) (fun _ _ _ h => h) (Or.inl ⟨by kernel_rfl, ?ty38⟩) (by assumption) ?tr38; (case ty38 => (intro w' hSw; (try dsimp only at hSw); go_simp <;> with_reducible rfl)); (try simp only [Act.put, List.getElem_toArray, List.getElem_cons_succ, List.getElem_cons_zero, List.setIfInBounds_toArray, List.set_cons_zero, List.set_cons_succ]))
          (refine wpAnyH_take (i := 11) (v := ?tv39) rfl (by kernel_rfl) (by kernel_rfl) (by kernel_rfl) (fun _ _ _ h => h) (Or.inl ⟨by kernel_rfl, ?ty39⟩) (by assumption) ?tr39; (case ty39 => (intro w' hSw; (try dsimp only at hSw); go_simp <;> with_reducible rfl)); (try simp only [Act.put, List.getElem_toArray, List.getElem_cons_succ, List.getElem_cons_zero, List.setIfInBounds_toArray, List.set_cons_zero, List.set_cons_succ]))
          (refine wpAnyH_take (i := 12) (v := ?tv40) rfl (by kernel_rfl) (by kernel_rfl) (by kernel_rfl) (fun _ _ _ h => h) (Or.inl ⟨by kernel_rfl, ?ty40⟩) (by assumption) ?tr40; (case ty40 => (intro w' hSw; (try dsimp only at hSw); go_simp <;> with_reducible rfl)); (try simp only [Act.put, List.getElem_toArray, List.getElem_cons_succ, List.getElem_cons_zero, List.setIfInBounds_toArray, List.set_cons_zero, List.set_cons_succ]))
          refine wpAnyH_ready (rs := [2, 15]) (by kernel_rfl) (by simp) ?_
          refine (AllReadyH.cons rfl (fun K hK => ?b41_1) (AllReadyH.cons rfl (fun K hK => ?b41_2) AllReadyH.nil))
          case' b41_2 =>
            (go_simp; refine name_k (fun wa1 hwa1 => ?_); have Zwa1 := sizeE hwa1; have Rwa1 := Lib.hid (Below.allocE Rwa0.out Rwa0.out.size hwa1); (try have Ewa1 := Lib.hid (OwnB.allocE Ewa0.out hwa1)); (try have Vwa1 := Lib.hid (OwnB.allocE Vwa0.out hwa1)); (try have Uwa1 := Lib.hid (OwnB.allocE Uwa0.out hwa1)); (try have Nwa1 := Lib.hid (Blk.allocE Nwa0.out hwa1)); (try have Xwa1 := Lib.hid (Blk.allocE Xwa0.out hwa1)); have Xwa1 := Lib.hid (Blk.newE hwa1); clear hwa1)
            refine hK.out _ _ ?_ (fun hHeld => ?_)
            focus ((try dsimp only); (first | done | exact ⟨cB Rwa1.out q0, cB Rwa1.out q1⟩))
            clear hK K
            (try simp only [Act.put, List.getElem_toArray, List.getElem_cons_succ, List.getElem_cons_zero, List.setIfInBounds_toArray, List.set_cons_zero, List.set_cons_succ])
            refine wpAnyH_ready (rs := [2]) (by kernel_rfl) (by simp) ?_
            refine (AllReadyH.cons rfl (fun K hK => ?_) AllReadyH.nil)
            (go_simp; refine name_k (fun wa2 hwa2 => ?_); have Zwa2 := sizeE hwa2; have Rwa2 := Lib.hid (Below.allocE Rwa1.out Rwa1.out.size hwa2); (try have Ewa2 := Lib.hid (OwnB.allocE Ewa1.out hwa2)); (try have Vwa2 := Lib.hid (OwnB.allocE Vwa1.out hwa2)); (try have Uwa2 := Lib.hid (OwnB.allocE Uwa1.out hwa2)); (try have Nwa2 := Lib.hid (Blk.allocE Nwa1.out hwa2)); (try have Xwa2 := Lib.hid (Blk.allocE Xwa1.out hwa2)); have Ewa2 := Lib.hid (OwnB.emptyE hwa2 Rwa1.out.size); clear hwa2)
            refine hK.out _ _ ?_ (fun hHeld => ?_)
            focus ((try dsimp only); (first | done | exact ⟨cB Rwa2.out q0, cB Rwa2.out q1⟩))
            clear hK K
            (try simp only [Act.put, List.getElem_toArray, List.getElem_cons_succ, List.getElem_cons_zero, List.setIfInBounds_toArray, List.set_cons_zero, List.set_cons_succ])
            refine wpAnyH_ready (rs := [7]) (by kernel_rfl) (by simp) ?_
            refine (AllReadyH.cons rfl (fun K hK => ?_) AllReadyH.nil)
            (refine step_pushG (by rfl) _ _ (by rfl) w0.heap.size _ [] (by rfl) Ewa2.out (some ⟨b, off, none⟩) _ a (bs.take a) (by rw [List.length_take]; omega) (by rfl) ((HB.out.takeK a).below Rwa2.out) (fun q => by cases q) (by rw [List.length_take]; simp; omega) Rwa2.out.size ?_; intro vwa3 wa3 ho hg; rw [List.nil_append] at ho; obtain ⟨T1, hT1⟩ : ∃ T1, T1 = bs.take a := ⟨_, rfl⟩; rw [← hT1] at ho; have HT1 := Lib.hid hT1; have Zwa3 := hg.size; have Rwa3 := Lib.hid (Rwa2.out.trans (grownB Ewa2.out hg Rwa2.out.size)); (try have Nwa3 := Lib.hid (Nwa2.out.grown hg (by simp [Value.ownBlock]; omega))); (try have Xwa3 := Lib.hid (Xwa2.out.grownT Ewa2.out hg)); obtain ⟨Gwa3, cwa3, rfl, _⟩ := ho.bat; have Vwa3 := Lib.hid ho; clear ho hg hT1)
            refine hK.out _ _ ?_ (fun hHeld => ?_)
            focus ((try dsimp only); (first | done | exact ⟨cB Rwa3.out q0, cB Rwa3.out q1⟩))
            clear hK K
            (try simp only [Act.put, List.getElem_toArray, List.getElem_cons_succ, List.getElem_cons_zero, List.setIfInBounds_toArray, List.set_cons_zero, List.set_cons_succ])
            refine wpAnyH_ready (rs := [13]) (by kernel_rfl) (by simp) ?_
            refine (AllReadyH.cons rfl (fun K hK => ?_) AllReadyH.nil)
            (refine step_pushG (by rfl) _ _ (by rfl) w0.heap.size _ T1 (by rfl) Vwa3.out _ _ (bs.length - (a + 1)) (bs.drop (a + 1)) (by first | (rw [List.length_drop]; done) | (rw [List.length_drop]; omega)) (by rfl) (by first | exact (HB.out.dropK (a + 1)).below Rwa3.out | exact (BAt_nil (by omega))) (fun q => by cases q) (by rw [HT1.out, List.length_take, List.length_drop]; omega) Rwa3.out.size ?_; intro vwa4 wa4 ho hg; obtain ⟨L, hL⟩ : ∃ L, L = T1 ++ bs.drop (a + 1) := ⟨_, rfl⟩; rw [← hL] at ho; have Zwa4 := hg.size; have Rwa4 := Lib.hid (Rwa3.out.trans (grownB Vwa3.out hg Rwa3.out.size)); (try have Nwa4 := Lib.hid (Nwa3.out.grown hg (by simp [Value.ownBlock]; omega))); (try have Xwa4 := Lib.hid (Xwa3.out.grownT Vwa3.out hg)); obtain ⟨G, c2, rfl, _⟩ := ho.bat; have Uwa4 := Lib.hid ho; have HL := Lib.hid hL; clear ho hg hL)
            refine hK.out _ _ ?_ (fun hHeld => ?_)
            focus ((try dsimp only); (first | done | exact ⟨cB Rwa4.out q0, cB Rwa4.out q1⟩))
            clear hK K
            (try simp only [Act.put, List.getElem_toArray, List.getElem_cons_succ, List.getElem_cons_zero, List.setIfInBounds_toArray, List.set_cons_zero, List.set_cons_succ])
            (refine wpAnyH_take (i := 14) (v := ?tv45) rfl (by kernel_rfl) (by kernel_rfl) (by kernel_rfl) (fun _ _ _ h => h) (Or.inl ⟨by kernel_rfl, ?ty45⟩) (by assumption) ?tr45; (case ty45 => (intro w' hSw; (try dsimp only at hSw); go_simp <;> with_reducible rfl)); (try simp only [Act.put, List.getElem_toArray, List.getElem_cons_succ, List.getElem_cons_zero, List.setIfInBounds_toArray, List.set_cons_zero, List.set_cons_succ]))
            refine wpAnyH_ready (rs := [16]) (by kernel_rfl) (by simp) ?_
            refine (AllReadyH.cons rfl (fun K hK => ?_) AllReadyH.nil)
            (obtain ⟨x0, x1, fr0, fr1⟩ := Xwa4.out.two; go_simp; refine name_k (fun wa5 hwa5 => ?_); obtain ⟨s1, s2, s3⟩ := storeE hwa5 Xwa4.out Uwa4.out Rwa4.out (by omega); have Uwa5 := Lib.hid s1; have Xwa5 := Lib.hid s2; have Rwa5 := Lib.hid s3; clear hwa5 s1 s2 s3 x0 x1 fr0 fr1)
            refine hK.out _ _ ?_ (fun hHeld => ?_)
            focus ((try dsimp only); (first | done | exact ⟨cB Rwa5.out q0, cB Rwa5.out q1⟩))
            clear hK K
            (try simp only [Act.put, List.getElem_toArray, List.getElem_cons_succ, List.getElem_cons_zero, List.setIfInBounds_toArray, List.set_cons_zero, List.set_cons_succ])
            refine wpAnyH_done (by kernel_rfl) ?_ _
          case' b41_1 =>
            (go_simp; refine name_k (fun wa1 hwa1 => ?_); have Zwa1 := sizeE hwa1; have Rwa1 := Lib.hid (Below.allocE Rwa0.out Rwa0.out.size hwa1); (try have Ewa1 := Lib.hid (OwnB.allocE Ewa0.out hwa1)); (try have Vwa1 := Lib.hid (OwnB.allocE Vwa0.out hwa1)); (try have Uwa1 := Lib.hid (OwnB.allocE Uwa0.out hwa1)); (try have Nwa1 := Lib.hid (Blk.allocE Nwa0.out hwa1)); (try have Xwa1 := Lib.hid (Blk.allocE Xwa0.out hwa1)); have Ewa1 := Lib.hid (OwnB.emptyE hwa1 Rwa0.out.size); clear hwa1)
            refine hK.out _ _ ?_ (fun hHeld => ?_)
            focus ((try dsimp only); (first | done | exact ⟨cB Rwa1.out q0, cB Rwa1.out q1⟩))
            clear hK K
            (try simp only [Act.put, List.getElem_toArray, List.getElem_cons_succ, List.getElem_cons_zero, List.setIfInBounds_toArray, List.set_cons_zero, List.set_cons_succ])
            refine wpAnyH_ready (rs := [7, 15]) (by kernel_rfl) (by simp) ?_
            refine (AllReadyH.cons rfl (fun K hK => ?b47_1) (AllReadyH.cons rfl (fun K hK => ?b47_2) AllReadyH.nil))
            case' b47_2 =>
              (go_simp; refine name_k (fun wa2 hwa2 => ?_); have Zwa2 := sizeE hwa2; have Rwa2 := Lib.hid (Below.allocE Rwa1.out Rwa1.out.size hwa2); (try have Ewa2 := Lib.hid (OwnB.allocE Ewa1.out hwa2)); (try have Vwa2 := Lib.hid (OwnB.allocE Vwa1.out hwa2)); (try have Uwa2 := Lib.hid (OwnB.allocE Uwa1.out hwa2)); (try have Nwa2 := Lib.hid (Blk.allocE Nwa1.out hwa2)); (try have Xwa2 := Lib.hid (Blk.allocE Xwa1.out hwa2)); have Xwa2 := Lib.hid (Blk.newE hwa2); clear hwa2)
              refine hK.out _ _ ?_ (fun hHeld => ?_)
              focus ((try dsimp only); (first | done | exact ⟨cB Rwa2.out q0, cB Rwa2.out q1⟩))
              clear hK K
              (try simp only [Act.put, List.getElem_toArray, List.getElem_cons_succ, List.getElem_cons_zero, List.setIfInBounds_toArray, List.set_cons_zero, List.set_cons_succ])
              refine wpAnyH_ready (rs := [7]) (by kernel_rfl) (by simp) ?_
              refine (AllReadyH.cons rfl (fun K hK => ?_) AllReadyH.nil)
              (refine step_pushG (by rfl) _ _ (by rfl) w0.heap.size _ [] (by rfl) Ewa2.out (some ⟨b, off, none⟩) _ a (bs.take a) (by rw [List.length_take]; omega) (by rfl) ((HB.out.takeK a).below Rwa2.out) (fun q => by cases q) (by rw [List.length_take]; simp; omega) Rwa2.out.size ?_; intro vwa3 wa3 ho hg; rw [List.nil_append] at ho; obtain ⟨T1, hT1⟩ : ∃ T1, T1 = bs.take a := ⟨_, rfl⟩; rw [← hT1] at ho; have HT1 := Lib.hid hT1; have Zwa3 := hg.size; have Rwa3 := Lib.hid (Rwa2.out.trans (grownB Ewa2.out hg Rwa2.out.size)); (try have Nwa3 := Lib.hid (Nwa2.out.grown hg (by simp [Value.ownBlock]; omega))); (try have Xwa3 := Lib.hid (Xwa2.out.grownT Ewa2.out hg)); obtain ⟨Gwa3, cwa3, rfl, _⟩ := ho.bat; have Vwa3 := Lib.hid ho; clear ho hg hT1)
              refine hK.out _ _ ?_ (fun hHeld => ?_)
              focus ((try dsimp only); (first | done | exact ⟨cB Rwa3.out q0, cB Rwa3.out q1⟩))
              clear hK K
              (try simp only [Act.put, List.getElem_toArray, List.getElem_cons_succ, List.getElem_cons_zero, List.setIfInBounds_toArray, List.set_cons_zero, List.set_cons_succ])
              refine wpAnyH_ready (rs := [13]) (by kernel_rfl) (by simp) ?_
              refine (AllReadyH.cons rfl (fun K hK => ?_) AllReadyH.nil)
              (refine step_pushG (by rfl) _ _ (by rfl) w0.heap.size _ T1 (by rfl) Vwa3.out _ _ (bs.length - (a + 1)) (bs.drop (a + 1)) (by first | (rw [List.length_drop]; done) | (rw [List.length_drop]; omega)) (by rfl) (by first | exact (HB.out.dropK (a + 1)).below Rwa3.out | exact (BAt_nil (by omega))) (fun q => by cases q) (by rw [HT1.out, List.length_take, List.length_drop]; omega) Rwa3.out.size ?_; intro vwa4 wa4 ho hg; obtain ⟨L, hL⟩ : ∃ L, L = T1 ++ bs.drop (a + 1) := ⟨_, rfl⟩; rw [← hL] at ho; have Zwa4 := hg.size; have Rwa4 := Lib.hid (Rwa3.out.trans (grownB Vwa3.out hg Rwa3.out.size)); (try have Nwa4 := Lib.hid (Nwa3.out.grown hg (by simp [Value.ownBlock]; omega))); (try have Xwa4 := Lib.hid (Xwa3.out.grownT Vwa3.out hg)); obtain ⟨G, c2, rfl, _⟩ := ho.bat; have Uwa4 := Lib.hid ho; have HL := Lib.hid hL; clear ho hg hL)
              refine hK.out _ _ ?_ (fun hHeld => ?_)
              focus ((try dsimp only); (first | done | exact ⟨cB Rwa4.out q0, cB Rwa4.out q1⟩))
              clear hK K
              (try simp only [Act.put, List.getElem_toArray, List.getElem_cons_succ, List.getElem_cons_zero, List.setIfInBounds_toArray, List.set_cons_zero, List.set_cons_succ])
              (refine wpAnyH_take (i := 14) (v := ?tv50) rfl (by kernel_rfl) (by kernel_rfl) (by kernel_rfl) (fun _ _ _ h => h) (Or.inl ⟨by kernel_rfl, ?ty50⟩) (by assumption) ?tr50; (case ty50 => (intro w' hSw; (try dsimp only at hSw); go_simp <;> with_reducible rfl)); (try simp only [Act.put, List.getElem_toArray, List.getElem_cons_succ, List.getElem_cons_zero, List.setIfInBounds_toArray, List.set_cons_zero, List.set_cons_succ]))
              refine wpAnyH_ready (rs := [16]) (by kernel_rfl) (by simp) ?_
              refine (AllReadyH.cons rfl (fun K hK => ?_) AllReadyH.nil)
              (obtain ⟨x0, x1, fr0, fr1⟩ := Xwa4.out.two; go_simp; refine name_k (fun wa5 hwa5 => ?_); obtain ⟨s1, s2, s3⟩ := storeE hwa5 Xwa4.out Uwa4.out Rwa4.out (by omega); have Uwa5 := Lib.hid s1; have Xwa5 := Lib.hid s2; have Rwa5 := Lib.hid s3; clear hwa5 s1 s2 s3 x0 x1 fr0 fr1)
              refine hK.out _ _ ?_ (fun hHeld => ?_)
              focus ((try dsimp only); (first | done | exact ⟨cB Rwa5.out q0, cB Rwa5.out q1⟩))
              clear hK K
              (try simp only [Act.put, List.getElem_toArray, List.getElem_cons_succ, List.getElem_cons_zero, List.setIfInBounds_toArray, List.set_cons_zero, List.set_cons_succ])
              refine wpAnyH_done (by kernel_rfl) ?_ _
            case' b47_1 =>
              (refine step_pushG (by rfl) _ _ (by rfl) w0.heap.size _ [] (by rfl) Ewa1.out (some ⟨b, off, none⟩) _ a (bs.take a) (by rw [List.length_take]; omega) (by rfl) ((HB.out.takeK a).below Rwa1.out) (fun q => by cases q) (by rw [List.length_take]; simp; omega) Rwa1.out.size ?_; intro vwa2 wa2 ho hg; rw [List.nil_append] at ho; obtain ⟨T1, hT1⟩ : ∃ T1, T1 = bs.take a := ⟨_, rfl⟩; rw [← hT1] at ho; have HT1 := Lib.hid hT1; have Zwa2 := hg.size; have Rwa2 := Lib.hid (Rwa1.out.trans (grownB Ewa1.out hg Rwa1.out.size)); (try have Nwa2 := Lib.hid (Nwa1.out.grown hg (by simp [Value.ownBlock]; omega))); (try have Xwa2 := Lib.hid (Xwa1.out.grownT Ewa1.out hg)); obtain ⟨Gwa2, cwa2, rfl, _⟩ := ho.bat; have Vwa2 := Lib.hid ho; clear ho hg hT1)
              refine hK.out _ _ ?_ (fun hHeld => ?_)
              focus ((try dsimp only); (first | done | exact ⟨cB Rwa2.out q0, cB Rwa2.out q1⟩))
              clear hK K
              (try simp only [Act.put, List.getElem_toArray, List.getElem_cons_succ, List.getElem_cons_zero, List.setIfInBounds_toArray, List.set_cons_zero, List.set_cons_succ])
              refine wpAnyH_ready (rs := [13, 15]) (by kernel_rfl) (by simp) ?_
              refine (AllReadyH.cons rfl (fun K hK => ?b52_1) (AllReadyH.cons rfl (fun K hK => ?b52_2) AllReadyH.nil))
              case' b52_2 =>
                (go_simp; refine name_k (fun wa3 hwa3 => ?_); have Zwa3 := sizeE hwa3; have Rwa3 := Lib.hid (Below.allocE Rwa2.out Rwa2.out.size hwa3); (try have Ewa3 := Lib.hid (OwnB.allocE Ewa2.out hwa3)); (try have Vwa3 := Lib.hid (OwnB.allocE Vwa2.out hwa3)); (try have Uwa3 := Lib.hid (OwnB.allocE Uwa2.out hwa3)); (try have Nwa3 := Lib.hid (Blk.allocE Nwa2.out hwa3)); (try have Xwa3 := Lib.hid (Blk.allocE Xwa2.out hwa3)); have Xwa3 := Lib.hid (Blk.newE hwa3); clear hwa3)
                refine hK.out _ _ ?_ (fun hHeld => ?_)
                focus ((try dsimp only); (first | done | exact ⟨cB Rwa3.out q0, cB Rwa3.out q1⟩))
                clear hK K
                (try simp only [Act.put, List.getElem_toArray, List.getElem_cons_succ, List.getElem_cons_zero, List.setIfInBounds_toArray, List.set_cons_zero, List.set_cons_succ])
                refine wpAnyH_ready (rs := [13]) (by kernel_rfl) (by simp) ?_
                refine (AllReadyH.cons rfl (fun K hK => ?_) AllReadyH.nil)
                (refine step_pushG (by rfl) _ _ (by rfl) w0.heap.size _ T1 (by rfl) Vwa3.out _ _ (bs.length - (a + 1)) (bs.drop (a + 1)) (by first | (rw [List.length_drop]; done) | (rw [List.length_drop]; omega)) (by rfl) (by first | exact (HB.out.dropK (a + 1)).below Rwa3.out | exact (BAt_nil (by omega))) (fun q => by cases q) (by rw [HT1.out, List.length_take, List.length_drop]; omega) Rwa3.out.size ?_; intro vwa4 wa4 ho hg; obtain ⟨L, hL⟩ : ∃ L, L = T1 ++ bs.drop (a + 1) := ⟨_, rfl⟩; rw [← hL] at ho; have Zwa4 := hg.size; have Rwa4 := Lib.hid (Rwa3.out.trans (grownB Vwa3.out hg Rwa3.out.size)); (try have Nwa4 := Lib.hid (Nwa3.out.grown hg (by simp [Value.ownBlock]; omega))); (try have Xwa4 := Lib.hid (Xwa3.out.grownT Vwa3.out hg)); obtain ⟨G, c2, rfl, _⟩ := ho.bat; have Uwa4 := Lib.hid ho; have HL := Lib.hid hL; clear ho hg hL)
                refine hK.out _ _ ?_ (fun hHeld => ?_)
                focus ((try dsimp only); (first | done | exact ⟨cB Rwa4.out q0, cB Rwa4.out q1⟩))
                clear hK K
                (try simp only [Act.put, List.getElem_toArray, List.getElem_cons_succ, List.getElem_cons_zero, List.setIfInBounds_toArray, List.set_cons_zero, List.set_cons_succ])
                (refine wpAnyH_take (i := 14) (v := ?tv54) rfl (by kernel_rfl) (by kernel_rfl) (by kernel_rfl) (fun _ _ _ h => h) (Or.inl ⟨by kernel_rfl, ?ty54⟩) (by assumption) ?tr54; (case ty54 => (intro w' hSw; (try dsimp only at hSw); go_simp <;> with_reducible rfl)); (try simp only [Act.put, List.getElem_toArray, List.getElem_cons_succ, List.getElem_cons_zero, List.setIfInBounds_toArray, List.set_cons_zero, List.set_cons_succ]))
                refine wpAnyH_ready (rs := [16]) (by kernel_rfl) (by simp) ?_
                refine (AllReadyH.cons rfl (fun K hK => ?_) AllReadyH.nil)
                (obtain ⟨x0, x1, fr0, fr1⟩ := Xwa4.out.two; go_simp; refine name_k (fun wa5 hwa5 => ?_); obtain ⟨s1, s2, s3⟩ := storeE hwa5 Xwa4.out Uwa4.out Rwa4.out (by omega); have Uwa5 := Lib.hid s1; have Xwa5 := Lib.hid s2; have Rwa5 := Lib.hid s3; clear hwa5 s1 s2 s3 x0 x1 fr0 fr1)
                refine hK.out _ _ ?_ (fun hHeld => ?_)
                focus ((try dsimp only); (first | done | exact ⟨cB Rwa5.out q0, cB Rwa5.out q1⟩))
                clear hK K
                (try simp only [Act.put, List.getElem_toArray, List.getElem_cons_succ, List.getElem_cons_zero, List.setIfInBounds_toArray, List.set_cons_zero, List.set_cons_succ])
                refine wpAnyH_done (by kernel_rfl) ?_ _
              case' b52_1 =>
                (refine step_pushG (by rfl) _ _ (by rfl) w0.heap.size _ T1 (by rfl) Vwa2.out _ _ (bs.length - (a + 1)) (bs.drop (a + 1)) (by first | (rw [List.length_drop]; done) | (rw [List.length_drop]; omega)) (by rfl) (by first | exact (HB.out.dropK (a + 1)).below Rwa2.out | exact (BAt_nil (by omega))) (fun q => by cases q) (by rw [HT1.out, List.length_take, List.length_drop]; omega) Rwa2.out.size ?_; intro vwa3 wa3 ho hg; obtain ⟨L, hL⟩ : ∃ L, L = T1 ++ bs.drop (a + 1) := ⟨_, rfl⟩; rw [← hL] at ho; have Zwa3 := hg.size; have Rwa3 := Lib.hid (Rwa2.out.trans (grownB Vwa2.out hg Rwa2.out.size)); (try have Nwa3 := Lib.hid (Nwa2.out.grown hg (by simp [Value.ownBlock]; omega))); (try have Xwa3 := Lib.hid (Xwa2.out.grownT Vwa2.out hg)); obtain ⟨G, c2, rfl, _⟩ := ho.bat; have Uwa3 := Lib.hid ho; have HL := Lib.hid hL; clear ho hg hL)
                refine hK.out _ _ ?_ (fun hHeld => ?_)
                focus ((try dsimp only); (first | done | exact ⟨cB Rwa3.out q0, cB Rwa3.out q1⟩))
                clear hK K
                (try simp only [Act.put, List.getElem_toArray, List.getElem_cons_succ, List.getElem_cons_zero, List.setIfInBounds_toArray, List.set_cons_zero, List.set_cons_succ])
                (refine wpAnyH_take (i := 14) (v := ?tv56) rfl (by kernel_rfl) (by kernel_rfl) (by kernel_rfl) (fun _ _ _ h => h) (Or.inl ⟨by kernel_rfl, ?ty56⟩) (by assumption) ?tr56; (case ty56 => (intro w' hSw; (try dsimp only at hSw); go_simp <;> with_reducible rfl)); (try simp only [Act.put, List.getElem_toArray, List.getElem_cons_succ, List.getElem_cons_zero, List.setIfInBounds_toArray, List.set_cons_zero, List.set_cons_succ]))
                refine wpAnyH_ready (rs := [15]) (by kernel_rfl) (by simp) ?_
                refine (AllReadyH.cons rfl (fun K hK => ?_) AllReadyH.nil)
                (go_simp; refine name_k (fun wa4 hwa4 => ?_); have Zwa4 := sizeE hwa4; have Rwa4 := Lib.hid (Below.allocE Rwa3.out Rwa3.out.size hwa4); (try have Ewa4 := Lib.hid (OwnB.allocE Ewa3.out hwa4)); (try have Vwa4 := Lib.hid (OwnB.allocE Vwa3.out hwa4)); (try have Uwa4 := Lib.hid (OwnB.allocE Uwa3.out hwa4)); (try have Nwa4 := Lib.hid (Blk.allocE Nwa3.out hwa4)); (try have Xwa4 := Lib.hid (Blk.allocE Xwa3.out hwa4)); have Xwa4 := Lib.hid (Blk.newE hwa4); clear hwa4)
                refine hK.out _ _ ?_ (fun hHeld => ?_)
                focus ((try dsimp only); (first | done | exact ⟨cB Rwa4.out q0, cB Rwa4.out q1⟩))
                clear hK K
                (try simp only [Act.put, List.getElem_toArray, List.getElem_cons_succ, List.getElem_cons_zero, List.setIfInBounds_toArray, List.set_cons_zero, List.set_cons_succ])
                refine wpAnyH_ready (rs := [16]) (by kernel_rfl) (by simp) ?_
                refine (AllReadyH.cons rfl (fun K hK => ?_) AllReadyH.nil)
                (obtain ⟨x0, x1, fr0, fr1⟩ := Xwa4.out.two; go_simp; refine name_k (fun wa5 hwa5 => ?_); obtain ⟨s1, s2, s3⟩ := storeE hwa5 Xwa4.out Uwa4.out Rwa4.out (by omega); have Uwa5 := Lib.hid s1; have Xwa5 := Lib.hid s2; have Rwa5 := Lib.hid s3; clear hwa5 s1 s2 s3 x0 x1 fr0 fr1)
                refine hK.out _ _ ?_ (fun hHeld => ?_)
                focus ((try dsimp only); (first | done | exact ⟨cB Rwa5.out q0, cB Rwa5.out q1⟩))
                clear hK K
                (try simp only [Act.put, List.getElem_toArray, List.getElem_cons_succ, List.getElem_cons_zero, List.setIfInBounds_toArray, List.set_cons_zero, List.set_cons_succ])
                refine wpAnyH_done (by kernel_rfl) ?_ _
          all_goals
            have hL : L = without bs a := by rw [HL.out, HT1.out]; rfl
            have hO := Uwa5.out
            have hQ := Xwa5.out
            have hb := Rwa5.out
            clear HL
            obtain ⟨G', c', hv, hrb, _, _⟩ := hO.rb
            obtain ⟨rfl, rfl⟩ : G = G' ∧ c2 = c' := by injection hv with e1 _ e2; exact ⟨e1, e2⟩
            have HL := Lib.hid hL
            have hll : L.length ≤ 16 := by have := HLW.out; rw [hL]; omega
            have HRB := Lib.hid hrb.bat
            obtain ⟨s0, s1, xx1, xx2⟩ := hQ.two
            clear xx1 xx2
            replace q0 := cB hb q0
            replace q1 := cB hb q1
            have BC := Lib.hid (via hb BW.out)
            have HBC := Lib.hid (HB.out.below hb)
            clear hv hL hO hQ hb hrb hwa i0 i1 i2 i3 i4 i5 BW HB
            obtain ⟨N, hN, n1, n6⟩ := fit_nat HF.out
            subst hN
            have HF2 := Lib.hid (show fitsOk N L = true by rw [HL.out]; exact without_fits HF.out ha)
            have F1 := Lib.hid (show fitN N bs = N by simp [fitN, HF.out])
            have F2 := Lib.hid (show fitN N L = N by simp [fitN, HF2.out])
            go_wp2_with fail
            refine (closedOf_any _ _ _ bs _ HBC.out (by omega)).mono ?_; rintro e w6 ⟨G1, C1, rfl, r1, hb6⟩
            rw [HF.out, F1.out]
            rw [F1.out] at r1
            have R1 := Lib.hid (r1.mat (Nat.le_refl _))
            replace q0 := cB hb6 q0
            replace q1 := cB hb6 q1
            replace s0 := cB hb6 s0
            replace s1 := cB hb6 s1
            clear r1
            go_wp2_with fail
            refine (closedOf_any _ _ _ L _ (HRB.out.below hb6) (by omega)).mono ?_; rintro e w7 ⟨G2, C2, rfl, r2, hb7⟩
            rw [HF2.out, F2.out]
            rw [F2.out] at r2
            have R2 := Lib.hid (r2.mat (Nat.le_refl _))
            clear r2
            cases o
            · have HT := Lib.hid (fun i j (hi : i < N) (hj : j < N) => tight_law HF.out ha HO.out.symm hi hj)
              go_wp2_with fail
              refine (sameTable_same' _ _ _ _ N (closedT N bs) _ (R1.out.below hb7) (R2.out.eq_ (fun i j hi hj => by rw [HL.out]; exact HT.out i j hi hj)) (by omega)).mono ?_; rintro e w8 ⟨rfl, hb8⟩
              go_wp2
              go_ret
              exact ⟨rfl, via hb8 (via hb7 (via hb6 BC.out))⟩
            · go_wp2
              go_ret
              exact ⟨rfl, via hb7 (via hb6 BC.out)⟩
end Go.Proofs.Ytnompncmachgjaa
