/- The walk of the law FnRingSum: it returns true and changes nothing that was there; for codes of bytes. -/
import Derived.Test.YtnompncmachgjaaAlive
import Derived.Test.YtnompncmachgjaaDrawRing
import Derived.Test.YtnompncmachgjaaRings
import Derived.Test.YtnompncmachgjaaPlainL4
namespace Go.Proofs.Ytnompncmachgjaa
open Go.RowKit
set_option linter.unusedVariables false
set_option maxRecDepth 10000
set_option linter.unusedSimpArgs false

theorem IAt.drop1 {w : World} {b off : Nat} {xs : List Int} (h : IAt w (some ⟨b, off, none⟩) xs) : IAt w (some ⟨b, off + 1, none⟩) (xs.drop 1) := by
  intro h0
  obtain ⟨b', off', e, hl, hc⟩ := h (by rw [List.length_drop] at h0; omega)
  cases e
  refine ⟨b, off + 1, rfl, hl, fun i x hx => ?_⟩
  rw [List.getElem?_drop] at hx
  have := hc (1 + i) x hx
  rwa [show off + 1 + i = off + (1 + i) by omega]
theorem turned_is {xs : List Int} {x : Int} (h : xs[0]? = some x) : xs.drop 1 ++ [x] = turned xs := by
  cases xs with
  | nil => simp at h
  | cons y r => simp at h; subst h; rfl
theorem sum_no {n : Int} {bs : List Bd} {ring : List Int} (h : ringOk n bs ring = false) : ringSumB n bs ring = 0 := by simp [ringSumB, h]
theorem sum_yes {n : Int} {bs : List Bd} {ring : List Int} (h : ringOk n bs ring = true) : ringSumB n bs ring = ringSum bs ring := by simp [ringSumB, h]
set_option maxHeartbeats 2000000 in
theorem FnRingSum_walk (A : Option Addr) (c : Nat) (xs : List Int) (w : World) (hB : Bytes w A c xs) (hl : xs.length ≤ 9223372036854775807) :
    Calls Try.prog 11 #[.slice A xs.length c] w fun e w' => e = .returned (.bool true) ∧ Below w.heap.size w w' := by
  by_cases hL : (1048576 : Int) < (xs.length : Int)
  · go_enter Try.func11, Try.ntmps11
    go_wp2
    go_ret
    exact ⟨rfl, Below.refl _ _⟩
  go_enter Try.func11, Try.ntmps11
  go_wp2_with fail
  refine (drawRingSum_any A c xs _ hB).mono ?_; rintro e w1 ⟨n, A1, c1, bs, G, cg, ts, rfl, ⟨hf0, hf7, hfl⟩, hc, hn, ⟨ht6, hcg⟩, hrb, hri, hb1⟩
  have HR := Lib.hid hrb
  have HI := Lib.hid hri
  clear hrb hri hn
  have hz1 := hb1.size
  go_wp2_with fail
  refine (ringSum_any _ _ _ _ _ bs ts _ (HR.out.bat.below (by repeat (first | with_reducible exact Below.refl _ _ | with_reducible refine valloc ?_ _ | with_reducible refine vdrew ?_ | with_reducible refine vdrewN ?_ _ | with_reducible refine via (by assumption) ?_ | refine vset ?_ (by first | exact Nat.le_refl _ | (simp; done) | (simp; omega) | omega) _))) (HI.out.iat.below (by repeat (first | with_reducible exact Below.refl _ _ | with_reducible refine valloc ?_ _ | with_reducible refine vdrew ?_ | with_reducible refine vdrewN ?_ _ | with_reducible refine via (by assumption) ?_ | refine vset ?_ (by first | exact Nat.le_refl _ | (simp; done) | (simp; omega) | omega) _))) (by omega) (by omega)).mono ?_; rintro e w2 ⟨rfl, hb2⟩
  have p0 : w2.cell? ⟨w1.heap.size, 0, none⟩ = some (.int .i64 n) := cB hb2 (by simp)
  have p1 : w2.cell? ⟨w1.heap.size, 1, none⟩ = some (.slice A1 bs.length c1) := cB hb2 (by simp)
  go_wp2_with fail
  refine (specRingSum_any _ _ _ _ _ bs ts _ (HR.out.bat.below (by repeat (first | with_reducible exact Below.refl _ _ | with_reducible refine valloc ?_ _ | with_reducible refine vdrew ?_ | with_reducible refine vdrewN ?_ _ | with_reducible refine via (by assumption) ?_ | refine vset ?_ (by first | exact Nat.le_refl _ | (simp; done) | (simp; omega) | omega) _))) (HI.out.iat.below (by repeat (first | with_reducible exact Below.refl _ _ | with_reducible refine valloc ?_ _ | with_reducible refine vdrew ?_ | with_reducible refine vdrewN ?_ _ | with_reducible refine via (by assumption) ?_ | refine vset ?_ (by first | exact Nat.le_refl _ | (simp; done) | (simp; omega) | omega) _))) (by omega) (by omega)).mono ?_; rintro e w4 ⟨rfl, hb4⟩
  replace p0 := cB hb4 p0
  replace p1 := cB hb4 p1
  have B4 := Lib.hid (show Below w.heap.size w w4 from (by repeat (first | with_reducible exact Below.refl _ _ | with_reducible refine valloc ?_ _ | with_reducible refine vdrew ?_ | with_reducible refine vdrewN ?_ _ | with_reducible refine via (by assumption) ?_ | refine vset ?_ (by first | exact Nat.le_refl _ | (simp; done) | (simp; omega) | omega) _)))
  have Q4 := Lib.hid (show BAt w4 A1 bs from HR.out.bat.below (by repeat (first | with_reducible exact Below.refl _ _ | with_reducible refine valloc ?_ _ | with_reducible refine vdrew ?_ | with_reducible refine vdrewN ?_ _ | with_reducible refine via (by assumption) ?_ | refine vset ?_ (by first | exact Nat.le_refl _ | (simp; done) | (simp; omega) | omega) _)))
  have I4 := Lib.hid (show IAt w4 G ts from HI.out.iat.below (by repeat (first | with_reducible exact Below.refl _ _ | with_reducible refine valloc ?_ _ | with_reducible refine vdrew ?_ | with_reducible refine vdrewN ?_ _ | with_reducible refine via (by assumption) ?_ | refine vset ?_ (by first | exact Nat.le_refl _ | (simp; done) | (simp; omega) | omega) _)))
  clear hb1 hb2 hb4 hB hc HR HI
  obtain ⟨sv, hsv⟩ : ∃ sv, sv = ringSumB n bs ts := ⟨_, rfl⟩
  obtain ⟨ro, hro⟩ : ∃ ro, ro = ringOk n bs ts := ⟨_, rfl⟩
  rw [← hsv, ← hro]
  have HSV := Lib.hid hsv
  have HRO := Lib.hid hro
  clear hsv hro
  have hbn : (sv != sv) = false := by simp
  have hbn2 : (ro != ro) = false := by simp
  cases ro
  · have e0 : sv = 0 := by rw [HSV.out]; exact sum_no HRO.out.symm
    subst e0
    go_wp2_with fail
    refine (alive_any _).mono ?_; rintro e w5 ⟨rfl, hb5⟩
    go_wp2
    go_ret
    exact ⟨rfl, via hb5 B4.out⟩
  have hro := HRO.out.symm
  have HT := Lib.hid (show ringSumB n bs (turned ts) = sv ∧ ringOk n bs (turned ts) = true from ⟨by rw [sum_yes (turned_ring hro), turned_sum, HSV.out, sum_yes hro], turned_ring hro⟩)
  have HFIT := Lib.hid (fun hf : fitsOk n bs = true => show 0 ≤ sv by rw [HSV.out, sum_yes hro]; exact ring_fit hro hf)
  obtain ⟨_, hr1, _, _⟩ := ringOk_of hro
  clear hro
  obtain ⟨b, off, x, rfl, hbl, hx, _, z0⟩ := I4.out.at_ (show 0 < ts.length by omega)
  rw [Nat.add_zero] at z0
  have HX := Lib.hid hx
  clear hx
  have i0 : (1 : Int) ≤ (ts.length : Int) := by omega
  have i1 : (0 : Int) < (ts.length : Int) := by omega
  have i2 : 0 < ts.length := by omega
  by_cases hc1 : cg = 1
  · subst hc1
    go_upto_region 10 with (fail)
    refine wp_region_held_drew (S := (fun w' => w'.cell? ⟨b, off, none⟩ = some (.int .i64 x))) (by kernel_rfl) ?_ (fun hHeld => ?_)
    · (try dsimp only)
      (first | done | exact cD z0)
    refine name_h (fun wa0 hwa0 => ?_)
    replace hHeld : ((fun w' => w'.cell? ⟨b, off, none⟩ = some (.int .i64 x))) wa0 := by rw [hwa0]; exact hHeld
    (have Zwa0 : w4.heap.size ≤ wa0.heap.size := (by rw [hwa0]; exact Nat.le_refl _); have Rwa0 := Lib.hid (show Below w4.heap.size w4 wa0 by rw [hwa0]; exact (Below.refl _ _).drew))
    clear hwa0
    (refine wpAnyH_take (i := 1) (v := ?tv1) rfl (by kernel_rfl) (by kernel_rfl) (by kernel_rfl) (fun _ _ _ h => h) (Or.inl ⟨by kernel_rfl, ?ty1⟩) (by assumption) ?tr1; (case ty1 => (intro w' hSw; (try dsimp only at hSw); go_simp <;> with_reducible rfl)); (try simp only [Act.put, List.getElem_toArray, List.getElem_cons_succ, List.getElem_cons_zero, List.setIfInBounds_toArray, List.set_cons_zero, List.set_cons_succ]))
    (refine wpAnyH_take (i := 2) (v := ?tv2) rfl (by kernel_rfl) (by kernel_rfl) (by kernel_rfl) (fun _ _ _ h => h) (Or.inl ⟨by kernel_rfl, ?ty2⟩) (by assumption) ?tr2; (case ty2 => (intro w' hSw; (try dsimp only at hSw); go_simp <;> with_reducible rfl)); (try simp only [Act.put, List.getElem_toArray, List.getElem_cons_succ, List.getElem_cons_zero, List.setIfInBounds_toArray, List.set_cons_zero, List.set_cons_succ]))
    (refine wpAnyH_take (i := 4) (v := ?tv3) rfl (by kernel_rfl) (by kernel_rfl) (by kernel_rfl) (fun _ _ _ h => h) (Or.inl ⟨by kernel_rfl, ?ty3⟩) (by assumption) ?tr3; (case ty3 => (intro w' hSw; (try dsimp only at hSw); go_simp <;> with_reducible rfl)); (try simp only [Act.put, List.getElem_toArray, List.getElem_cons_succ, List.getElem_cons_zero, List.setIfInBounds_toArray, List.set_cons_zero, List.set_cons_succ]))
    (refine wpAnyH_take (i := 5) (v := ?tv4) rfl (by kernel_rfl) (by kernel_rfl) (by kernel_rfl) (fun _ _ _ h => h) (Or.inl ⟨by kernel_rfl, ?ty4⟩) (by assumption) ?tr4; (case ty4 => (intro w' hSw; (try dsimp only at hSw); go_simp <;> with_reducible rfl)); (try simp only [Act.put, List.getElem_toArray, List.getElem_cons_succ, List.getElem_cons_zero, List.setIfInBounds_toArray, List.set_cons_zero, List.set_cons_succ]))
    (refine wpAnyH_take (i := 6) (v := ?tv5) rfl (by kernel_rfl) (by kernel_rfl) (by kernel_rfl) (fun _ _ _ h => h) (Or.inl ⟨by kernel_rfl, ?ty5⟩) (by assumption) ?tr5; (case ty5 => (intro w' hSw; (try dsimp only at hSw); go_simp <;> with_reducible rfl)); (try simp only [Act.put, List.getElem_toArray, List.getElem_cons_succ, List.getElem_cons_zero, List.setIfInBounds_toArray, List.set_cons_zero, List.set_cons_succ]))
    refine wpAnyH_ready (rs := [0, 7]) (by kernel_rfl) (by simp) ?_
    refine (AllReadyH.cons rfl (fun K hK => ?b6_1) (AllReadyH.cons rfl (fun K hK => ?b6_2) AllReadyH.nil))
    case' b6_2 =>
      (go_simp; refine name_k (fun wa1 hwa1 => ?_); have Zwa1 := sizeE hwa1; have Rwa1 := Lib.hid (Below.allocE Rwa0.out Rwa0.out.size hwa1); (try have Ewa1 := Lib.hid (OwnL.allocE Ewa0.out hwa1)); (try have Vwa1 := Lib.hid (OwnL.allocE Vwa0.out hwa1)); (try have Uwa1 := Lib.hid (OwnL.allocE Uwa0.out hwa1)); (try have Nwa1 := Lib.hid (Blk.allocE Nwa0.out hwa1)); have Nwa1 := Lib.hid (Blk.newE hwa1); clear hwa1)
      refine hK.out _ _ ?_ (fun hHeld => ?_)
      focus ((try dsimp only); (first | done | exact cB Rwa1.out z0))
      clear hK K
      (try simp only [Act.put, List.getElem_toArray, List.getElem_cons_succ, List.getElem_cons_zero, List.setIfInBounds_toArray, List.set_cons_zero, List.set_cons_succ])
      refine wpAnyH_ready (rs := [0]) (by kernel_rfl) (by simp) ?_
      refine (AllReadyH.cons rfl (fun K hK => ?_) AllReadyH.nil)
      (go_simp; refine name_k (fun wa2 hwa2 => ?_); have Zwa2 := sizeE hwa2; have Rwa2 := Lib.hid (Below.allocE Rwa1.out Rwa1.out.size hwa2); (try have Ewa2 := Lib.hid (OwnL.allocE Ewa1.out hwa2)); (try have Vwa2 := Lib.hid (OwnL.allocE Vwa1.out hwa2)); (try have Uwa2 := Lib.hid (OwnL.allocE Uwa1.out hwa2)); (try have Nwa2 := Lib.hid (Blk.allocE Nwa1.out hwa2)); have Ewa2 := Lib.hid (OwnL.emptyE hwa2 Rwa1.out.size); clear hwa2)
      refine hK.out _ _ ?_ (fun hHeld => ?_)
      focus ((try dsimp only); (first | done | exact cB Rwa2.out z0))
      clear hK K
      (try simp only [Act.put, List.getElem_toArray, List.getElem_cons_succ, List.getElem_cons_zero, List.setIfInBounds_toArray, List.set_cons_zero, List.set_cons_succ])
      refine wpAnyH_ready (rs := [3]) (by kernel_rfl) (by simp) ?_
      refine (AllReadyH.cons rfl (fun K hK => ?_) AllReadyH.nil)
      (refine step_pushI (by rfl) _ _ (by rfl) w4.heap.size _ [] (by rfl) Ewa2.out (some ⟨b, off, none⟩) (0) (ts.length - 1) (ts.drop 1) (by rw [List.length_drop]) (by first | rfl | go_simp) (fun h0 => absurd h0 (by rw [List.length_drop]; omega)) (fun q => by first | rfl | cases q) (by rw [List.length_drop]; simp; omega) Rwa2.out.size ?_; intro vwa3 wa3 ho hg; rw [List.nil_append] at ho; obtain ⟨T1, hT1⟩ : ∃ T1, T1 = ts.drop 1 := ⟨_, rfl⟩; rw [← hT1] at ho; have HT1 := Lib.hid hT1; have Zwa3 := hg.size; have Rwa3 := Lib.hid (Rwa2.out.trans (grownL Ewa2.out hg Rwa2.out.size)); (try have Nwa3 := Lib.hid (Nwa2.out.grown hg (by simp [Value.ownBlock]; omega))); obtain ⟨Gwa3, cwa3, rfl, _, _, _⟩ := ho.rcap; have Vwa3 := Lib.hid ho; clear ho hg hT1)
      refine hK.out _ _ ?_ (fun hHeld => ?_)
      focus ((try dsimp only); (first | done | exact cB Rwa3.out z0))
      clear hK K
      (try simp only [Act.put, List.getElem_toArray, List.getElem_cons_succ, List.getElem_cons_zero, List.setIfInBounds_toArray, List.set_cons_zero, List.set_cons_succ])
      refine wpAnyH_ready (rs := [8]) (by kernel_rfl) (by simp) ?_
      refine (AllReadyH.cons rfl (fun K hK => ?_) AllReadyH.nil)
      (refine step_pushI (by rfl) _ _ (by rfl) w4.heap.size _ T1 (by rfl) Vwa3.out _ 1 1 [x] rfl (by rfl) Nwa3.out.iat1 (fun q => by cases q) (by rw [HT1.out, List.length_drop]; simp; omega) Rwa3.out.size ?_; intro vwa4 wa4 ho hg; have Zwa4 := hg.size; have Rwa4 := Lib.hid (Rwa3.out.trans (grownL Vwa3.out hg Rwa3.out.size)); (try have Nwa4 := Lib.hid (Nwa3.out.grown hg (by simp [Value.ownBlock]; omega))); rw [HT1.out, turned_is HX.out] at ho; obtain ⟨G7, c7, rfl, hr7, _, _⟩ := ho.rcap; have HR7 := Lib.hid hr7.iat; clear hr7 ho hg)
      refine hK.out _ _ ?_ (fun hHeld => ?_)
      focus ((try dsimp only); (first | done | exact cB Rwa4.out z0))
      clear hK K
      (try simp only [Act.put, List.getElem_toArray, List.getElem_cons_succ, List.getElem_cons_zero, List.setIfInBounds_toArray, List.set_cons_zero, List.set_cons_succ])
      (refine wpAnyH_take (i := 9) (v := ?tv10) rfl (by kernel_rfl) (by kernel_rfl) (by kernel_rfl) (fun _ _ _ h => h) (Or.inl ⟨by kernel_rfl, ?ty10⟩) (by assumption) ?tr10; (case ty10 => (intro w' hSw; (try dsimp only at hSw); go_simp <;> with_reducible rfl)); (try simp only [Act.put, List.getElem_toArray, List.getElem_cons_succ, List.getElem_cons_zero, List.setIfInBounds_toArray, List.set_cons_zero, List.set_cons_succ]))
      refine wpAnyH_done (by kernel_rfl) ?_ _
    case' b6_1 =>
      (go_simp; refine name_k (fun wa1 hwa1 => ?_); have Zwa1 := sizeE hwa1; have Rwa1 := Lib.hid (Below.allocE Rwa0.out Rwa0.out.size hwa1); (try have Ewa1 := Lib.hid (OwnL.allocE Ewa0.out hwa1)); (try have Vwa1 := Lib.hid (OwnL.allocE Vwa0.out hwa1)); (try have Uwa1 := Lib.hid (OwnL.allocE Uwa0.out hwa1)); (try have Nwa1 := Lib.hid (Blk.allocE Nwa0.out hwa1)); have Ewa1 := Lib.hid (OwnL.emptyE hwa1 Rwa0.out.size); clear hwa1)
      refine hK.out _ _ ?_ (fun hHeld => ?_)
      focus ((try dsimp only); (first | done | exact cB Rwa1.out z0))
      clear hK K
      (try simp only [Act.put, List.getElem_toArray, List.getElem_cons_succ, List.getElem_cons_zero, List.setIfInBounds_toArray, List.set_cons_zero, List.set_cons_succ])
      refine wpAnyH_ready (rs := [3, 7]) (by kernel_rfl) (by simp) ?_
      refine (AllReadyH.cons rfl (fun K hK => ?b11_1) (AllReadyH.cons rfl (fun K hK => ?b11_2) AllReadyH.nil))
      case' b11_2 =>
        (go_simp; refine name_k (fun wa2 hwa2 => ?_); have Zwa2 := sizeE hwa2; have Rwa2 := Lib.hid (Below.allocE Rwa1.out Rwa1.out.size hwa2); (try have Ewa2 := Lib.hid (OwnL.allocE Ewa1.out hwa2)); (try have Vwa2 := Lib.hid (OwnL.allocE Vwa1.out hwa2)); (try have Uwa2 := Lib.hid (OwnL.allocE Uwa1.out hwa2)); (try have Nwa2 := Lib.hid (Blk.allocE Nwa1.out hwa2)); have Nwa2 := Lib.hid (Blk.newE hwa2); clear hwa2)
        refine hK.out _ _ ?_ (fun hHeld => ?_)
        focus ((try dsimp only); (first | done | exact cB Rwa2.out z0))
        clear hK K
        (try simp only [Act.put, List.getElem_toArray, List.getElem_cons_succ, List.getElem_cons_zero, List.setIfInBounds_toArray, List.set_cons_zero, List.set_cons_succ])
        refine wpAnyH_ready (rs := [3]) (by kernel_rfl) (by simp) ?_
        refine (AllReadyH.cons rfl (fun K hK => ?_) AllReadyH.nil)
        (refine step_pushI (by rfl) _ _ (by rfl) w4.heap.size _ [] (by rfl) Ewa2.out (some ⟨b, off, none⟩) (0) (ts.length - 1) (ts.drop 1) (by rw [List.length_drop]) (by first | rfl | go_simp) (fun h0 => absurd h0 (by rw [List.length_drop]; omega)) (fun q => by first | rfl | cases q) (by rw [List.length_drop]; simp; omega) Rwa2.out.size ?_; intro vwa3 wa3 ho hg; rw [List.nil_append] at ho; obtain ⟨T1, hT1⟩ : ∃ T1, T1 = ts.drop 1 := ⟨_, rfl⟩; rw [← hT1] at ho; have HT1 := Lib.hid hT1; have Zwa3 := hg.size; have Rwa3 := Lib.hid (Rwa2.out.trans (grownL Ewa2.out hg Rwa2.out.size)); (try have Nwa3 := Lib.hid (Nwa2.out.grown hg (by simp [Value.ownBlock]; omega))); obtain ⟨Gwa3, cwa3, rfl, _, _, _⟩ := ho.rcap; have Vwa3 := Lib.hid ho; clear ho hg hT1)
        refine hK.out _ _ ?_ (fun hHeld => ?_)
        focus ((try dsimp only); (first | done | exact cB Rwa3.out z0))
        clear hK K
        (try simp only [Act.put, List.getElem_toArray, List.getElem_cons_succ, List.getElem_cons_zero, List.setIfInBounds_toArray, List.set_cons_zero, List.set_cons_succ])
        refine wpAnyH_ready (rs := [8]) (by kernel_rfl) (by simp) ?_
        refine (AllReadyH.cons rfl (fun K hK => ?_) AllReadyH.nil)
        (refine step_pushI (by rfl) _ _ (by rfl) w4.heap.size _ T1 (by rfl) Vwa3.out _ 1 1 [x] rfl (by rfl) Nwa3.out.iat1 (fun q => by cases q) (by rw [HT1.out, List.length_drop]; simp; omega) Rwa3.out.size ?_; intro vwa4 wa4 ho hg; have Zwa4 := hg.size; have Rwa4 := Lib.hid (Rwa3.out.trans (grownL Vwa3.out hg Rwa3.out.size)); (try have Nwa4 := Lib.hid (Nwa3.out.grown hg (by simp [Value.ownBlock]; omega))); rw [HT1.out, turned_is HX.out] at ho; obtain ⟨G7, c7, rfl, hr7, _, _⟩ := ho.rcap; have HR7 := Lib.hid hr7.iat; clear hr7 ho hg)
        refine hK.out _ _ ?_ (fun hHeld => ?_)
        focus ((try dsimp only); (first | done | exact cB Rwa4.out z0))
        clear hK K
        (try simp only [Act.put, List.getElem_toArray, List.getElem_cons_succ, List.getElem_cons_zero, List.setIfInBounds_toArray, List.set_cons_zero, List.set_cons_succ])
        (refine wpAnyH_take (i := 9) (v := ?tv14) rfl (by kernel_rfl) (by kernel_rfl) (by kernel_rfl) (fun _ _ _ h => h) (Or.inl ⟨by kernel_rfl, ?ty14⟩) (by assumption) ?tr14; (case ty14 => (intro w' hSw; (try dsimp only at hSw); go_simp <;> with_reducible rfl)); (try simp only [Act.put, List.getElem_toArray, List.getElem_cons_succ, List.getElem_cons_zero, List.setIfInBounds_toArray, List.set_cons_zero, List.set_cons_succ]))
        refine wpAnyH_done (by kernel_rfl) ?_ _
      case' b11_1 =>
        (refine step_pushI (by rfl) _ _ (by rfl) w4.heap.size _ [] (by rfl) Ewa1.out (some ⟨b, off, none⟩) (0) (ts.length - 1) (ts.drop 1) (by rw [List.length_drop]) (by first | rfl | go_simp) (fun h0 => absurd h0 (by rw [List.length_drop]; omega)) (fun q => by first | rfl | cases q) (by rw [List.length_drop]; simp; omega) Rwa1.out.size ?_; intro vwa2 wa2 ho hg; rw [List.nil_append] at ho; obtain ⟨T1, hT1⟩ : ∃ T1, T1 = ts.drop 1 := ⟨_, rfl⟩; rw [← hT1] at ho; have HT1 := Lib.hid hT1; have Zwa2 := hg.size; have Rwa2 := Lib.hid (Rwa1.out.trans (grownL Ewa1.out hg Rwa1.out.size)); (try have Nwa2 := Lib.hid (Nwa1.out.grown hg (by simp [Value.ownBlock]; omega))); obtain ⟨Gwa2, cwa2, rfl, _, _, _⟩ := ho.rcap; have Vwa2 := Lib.hid ho; clear ho hg hT1)
        refine hK.out _ _ ?_ (fun hHeld => ?_)
        focus ((try dsimp only); (first | done | exact cB Rwa2.out z0))
        clear hK K
        (try simp only [Act.put, List.getElem_toArray, List.getElem_cons_succ, List.getElem_cons_zero, List.setIfInBounds_toArray, List.set_cons_zero, List.set_cons_succ])
        refine wpAnyH_ready (rs := [7]) (by kernel_rfl) (by simp) ?_
        refine (AllReadyH.cons rfl (fun K hK => ?_) AllReadyH.nil)
        (go_simp; refine name_k (fun wa3 hwa3 => ?_); have Zwa3 := sizeE hwa3; have Rwa3 := Lib.hid (Below.allocE Rwa2.out Rwa2.out.size hwa3); (try have Ewa3 := Lib.hid (OwnL.allocE Ewa2.out hwa3)); (try have Vwa3 := Lib.hid (OwnL.allocE Vwa2.out hwa3)); (try have Uwa3 := Lib.hid (OwnL.allocE Uwa2.out hwa3)); (try have Nwa3 := Lib.hid (Blk.allocE Nwa2.out hwa3)); have Nwa3 := Lib.hid (Blk.newE hwa3); clear hwa3)
        refine hK.out _ _ ?_ (fun hHeld => ?_)
        focus ((try dsimp only); (first | done | exact cB Rwa3.out z0))
        clear hK K
        (try simp only [Act.put, List.getElem_toArray, List.getElem_cons_succ, List.getElem_cons_zero, List.setIfInBounds_toArray, List.set_cons_zero, List.set_cons_succ])
        refine wpAnyH_ready (rs := [8]) (by kernel_rfl) (by simp) ?_
        refine (AllReadyH.cons rfl (fun K hK => ?_) AllReadyH.nil)
        (refine step_pushI (by rfl) _ _ (by rfl) w4.heap.size _ T1 (by rfl) Vwa3.out _ 1 1 [x] rfl (by rfl) Nwa3.out.iat1 (fun q => by cases q) (by rw [HT1.out, List.length_drop]; simp; omega) Rwa3.out.size ?_; intro vwa4 wa4 ho hg; have Zwa4 := hg.size; have Rwa4 := Lib.hid (Rwa3.out.trans (grownL Vwa3.out hg Rwa3.out.size)); (try have Nwa4 := Lib.hid (Nwa3.out.grown hg (by simp [Value.ownBlock]; omega))); rw [HT1.out, turned_is HX.out] at ho; obtain ⟨G7, c7, rfl, hr7, _, _⟩ := ho.rcap; have HR7 := Lib.hid hr7.iat; clear hr7 ho hg)
        refine hK.out _ _ ?_ (fun hHeld => ?_)
        focus ((try dsimp only); (first | done | exact cB Rwa4.out z0))
        clear hK K
        (try simp only [Act.put, List.getElem_toArray, List.getElem_cons_succ, List.getElem_cons_zero, List.setIfInBounds_toArray, List.set_cons_zero, List.set_cons_succ])
        (refine wpAnyH_take (i := 9) (v := ?tv17) rfl (by kernel_rfl) (by kernel_rfl) (by kernel_rfl) (fun _ _ _ h => h) (Or.inl ⟨by kernel_rfl, ?ty17⟩) (by assumption) ?tr17; (case ty17 => (intro w' hSw; (try dsimp only at hSw); go_simp <;> with_reducible rfl)); (try simp only [Act.put, List.getElem_toArray, List.getElem_cons_succ, List.getElem_cons_zero, List.setIfInBounds_toArray, List.set_cons_zero, List.set_cons_succ]))
        refine wpAnyH_done (by kernel_rfl) ?_ _
    all_goals
      have p0' := cB Rwa4.out p0
      have p1' := cB Rwa4.out p1
      clear hHeld
      go_wp2_with fail
      refine (ringSum_any _ _ _ _ _ bs (turned ts) _ (Q4.out.below Rwa4.out) HR7.out (by omega) (by rw [turned_length]; omega)).mono ?_
      rintro e w6 ⟨rfl, hb6⟩
      rw [HT.out.1, HT.out.2]
      replace p0' := cB hb6 p0'
      replace p1' := cB hb6 p1'
      have B6 := Lib.hid (via hb6 Rwa4.out)
      clear hb6
      obtain ⟨ft, hft⟩ : ∃ ft, ft = fitsOk n bs := ⟨_, rfl⟩
      have HFT := Lib.hid hft
      clear hft
      go_wp2_with fail
      refine (fitsOk_any _ _ _ bs _ (Q4.out.below B6.out) (by omega)).mono ?_
      rintro e w7 ⟨rfl, hb7⟩
      rw [← HFT.out]
      have B7 := Lib.hid (via (via hb7 B6.out) B4.out)
      clear hb7
      cases ft
      · go_wp2
        go_ret
        exact ⟨rfl, B7.out⟩
      · have hge := HFIT.out HFT.out.symm
        have hge2 : decide (0 ≤ sv) = true := decide_eq_true hge
        go_wp2
        go_ret
        exact ⟨rfl, B7.out⟩
  · have hc2 : 1 ≤ cg := by omega
    go_upto_region 10 with (fail)
    refine wp_region_held_drew (S := (fun w' => w'.cell? ⟨b, off, none⟩ = some (.int .i64 x))) (by kernel_rfl) ?_ (fun hHeld => ?_)
    · (try dsimp only)
      (first | done | exact cD z0)
    refine name_h (fun wa0 hwa0 => ?_)
    replace hHeld : ((fun w' => w'.cell? ⟨b, off, none⟩ = some (.int .i64 x))) wa0 := by rw [hwa0]; exact hHeld
    (have Zwa0 : w4.heap.size ≤ wa0.heap.size := (by rw [hwa0]; exact Nat.le_refl _); have Rwa0 := Lib.hid (show Below w4.heap.size w4 wa0 by rw [hwa0]; exact (Below.refl _ _).drew))
    clear hwa0
    (refine wpAnyH_take (i := 1) (v := ?tv18) rfl (by kernel_rfl) (by kernel_rfl) (by kernel_rfl) (fun _ _ _ h => h) (Or.inl ⟨by kernel_rfl, ?ty18⟩) (by assumption) ?tr18; (case ty18 => (intro w' hSw; (try dsimp only at hSw); go_simp <;> with_reducible rfl)); (try simp only [Act.put, List.getElem_toArray, List.getElem_cons_succ, List.getElem_cons_zero, List.setIfInBounds_toArray, List.set_cons_zero, List.set_cons_succ]))
    (refine wpAnyH_take (i := 2) (v := ?tv19) rfl (by kernel_rfl) (by kernel_rfl) (by kernel_rfl) (fun _ _ _ h => h) (Or.inl ⟨by kernel_rfl, ?ty19⟩) (by assumption) ?tr19; (case ty19 => (intro w' hSw; (try dsimp only at hSw); go_simp <;> with_reducible rfl)); (try simp only [Act.put, List.getElem_toArray, List.getElem_cons_succ, List.getElem_cons_zero, List.setIfInBounds_toArray, List.set_cons_zero, List.set_cons_succ]))
    (refine wpAnyH_take (i := 4) (v := ?tv20) rfl (by kernel_rfl) (by kernel_rfl) (by kernel_rfl) (fun _ _ _ h => h) (Or.inl ⟨by kernel_rfl, ?ty20⟩) (by assumption) ?tr20; (case ty20 => (intro w' hSw; (try dsimp only at hSw); go_simp <;> with_reducible rfl)); (try simp only [Act.put, List.getElem_toArray, List.getElem_cons_succ, List.getElem_cons_zero, List.setIfInBounds_toArray, List.set_cons_zero, List.set_cons_succ]))
    (refine wpAnyH_take (i := 5) (v := ?tv21) rfl (by kernel_rfl) (by kernel_rfl) (by kernel_rfl) (fun _ _ _ h => h) (Or.inl ⟨by kernel_rfl, ?ty21⟩) (by assumption) ?tr21; (case ty21 => (intro w' hSw; (try dsimp only at hSw); go_simp <;> with_reducible rfl)); (try simp only [Act.put, List.getElem_toArray, List.getElem_cons_succ, List.getElem_cons_zero, List.setIfInBounds_toArray, List.set_cons_zero, List.set_cons_succ]))
    (refine wpAnyH_take (i := 6) (v := ?tv22) rfl (by kernel_rfl) (by kernel_rfl) (by kernel_rfl) (fun _ _ _ h => h) (Or.inl ⟨by kernel_rfl, ?ty22⟩) (by assumption) ?tr22; (case ty22 => (intro w' hSw; (try dsimp only at hSw); go_simp <;> with_reducible rfl)); (try simp only [Act.put, List.getElem_toArray, List.getElem_cons_succ, List.getElem_cons_zero, List.setIfInBounds_toArray, List.set_cons_zero, List.set_cons_succ]))
    refine wpAnyH_ready (rs := [0, 7]) (by kernel_rfl) (by simp) ?_
    refine (AllReadyH.cons rfl (fun K hK => ?b23_1) (AllReadyH.cons rfl (fun K hK => ?b23_2) AllReadyH.nil))
    case' b23_2 =>
      (go_simp; refine name_k (fun wa1 hwa1 => ?_); have Zwa1 := sizeE hwa1; have Rwa1 := Lib.hid (Below.allocE Rwa0.out Rwa0.out.size hwa1); (try have Ewa1 := Lib.hid (OwnL.allocE Ewa0.out hwa1)); (try have Vwa1 := Lib.hid (OwnL.allocE Vwa0.out hwa1)); (try have Uwa1 := Lib.hid (OwnL.allocE Uwa0.out hwa1)); (try have Nwa1 := Lib.hid (Blk.allocE Nwa0.out hwa1)); have Nwa1 := Lib.hid (Blk.newE hwa1); clear hwa1)
      refine hK.out _ _ ?_ (fun hHeld => ?_)
      focus ((try dsimp only); (first | done | exact cB Rwa1.out z0))
      clear hK K
      (try simp only [Act.put, List.getElem_toArray, List.getElem_cons_succ, List.getElem_cons_zero, List.setIfInBounds_toArray, List.set_cons_zero, List.set_cons_succ])
      refine wpAnyH_ready (rs := [0]) (by kernel_rfl) (by simp) ?_
      refine (AllReadyH.cons rfl (fun K hK => ?_) AllReadyH.nil)
      (go_simp; refine name_k (fun wa2 hwa2 => ?_); have Zwa2 := sizeE hwa2; have Rwa2 := Lib.hid (Below.allocE Rwa1.out Rwa1.out.size hwa2); (try have Ewa2 := Lib.hid (OwnL.allocE Ewa1.out hwa2)); (try have Vwa2 := Lib.hid (OwnL.allocE Vwa1.out hwa2)); (try have Uwa2 := Lib.hid (OwnL.allocE Uwa1.out hwa2)); (try have Nwa2 := Lib.hid (Blk.allocE Nwa1.out hwa2)); have Ewa2 := Lib.hid (OwnL.emptyE hwa2 Rwa1.out.size); clear hwa2)
      refine hK.out _ _ ?_ (fun hHeld => ?_)
      focus ((try dsimp only); (first | done | exact cB Rwa2.out z0))
      clear hK K
      (try simp only [Act.put, List.getElem_toArray, List.getElem_cons_succ, List.getElem_cons_zero, List.setIfInBounds_toArray, List.set_cons_zero, List.set_cons_succ])
      refine wpAnyH_ready (rs := [3]) (by kernel_rfl) (by simp) ?_
      refine (AllReadyH.cons rfl (fun K hK => ?_) AllReadyH.nil)
      (refine step_pushI (by rfl) _ _ (by rfl) w4.heap.size _ [] (by rfl) Ewa2.out (some ⟨b, off + 1, none⟩) (cg - 1) (ts.length - 1) (ts.drop 1) (by rw [List.length_drop]) (by first | rfl | go_simp) (I4.out.drop1.below Rwa2.out) (fun q => by first | rfl | cases q) (by rw [List.length_drop]; simp; omega) Rwa2.out.size ?_; intro vwa3 wa3 ho hg; rw [List.nil_append] at ho; obtain ⟨T1, hT1⟩ : ∃ T1, T1 = ts.drop 1 := ⟨_, rfl⟩; rw [← hT1] at ho; have HT1 := Lib.hid hT1; have Zwa3 := hg.size; have Rwa3 := Lib.hid (Rwa2.out.trans (grownL Ewa2.out hg Rwa2.out.size)); (try have Nwa3 := Lib.hid (Nwa2.out.grown hg (by simp [Value.ownBlock]; omega))); obtain ⟨Gwa3, cwa3, rfl, _, _, _⟩ := ho.rcap; have Vwa3 := Lib.hid ho; clear ho hg hT1)
      refine hK.out _ _ ?_ (fun hHeld => ?_)
      focus ((try dsimp only); (first | done | exact cB Rwa3.out z0))
      clear hK K
      (try simp only [Act.put, List.getElem_toArray, List.getElem_cons_succ, List.getElem_cons_zero, List.setIfInBounds_toArray, List.set_cons_zero, List.set_cons_succ])
      refine wpAnyH_ready (rs := [8]) (by kernel_rfl) (by simp) ?_
      refine (AllReadyH.cons rfl (fun K hK => ?_) AllReadyH.nil)
      (refine step_pushI (by rfl) _ _ (by rfl) w4.heap.size _ T1 (by rfl) Vwa3.out _ 1 1 [x] rfl (by rfl) Nwa3.out.iat1 (fun q => by cases q) (by rw [HT1.out, List.length_drop]; simp; omega) Rwa3.out.size ?_; intro vwa4 wa4 ho hg; have Zwa4 := hg.size; have Rwa4 := Lib.hid (Rwa3.out.trans (grownL Vwa3.out hg Rwa3.out.size)); (try have Nwa4 := Lib.hid (Nwa3.out.grown hg (by simp [Value.ownBlock]; omega))); rw [HT1.out, turned_is HX.out] at ho; obtain ⟨G7, c7, rfl, hr7, _, _⟩ := ho.rcap; have HR7 := Lib.hid hr7.iat; clear hr7 ho hg)
      refine hK.out _ _ ?_ (fun hHeld => ?_)
      focus ((try dsimp only); (first | done | exact cB Rwa4.out z0))
      clear hK K
      (try simp only [Act.put, List.getElem_toArray, List.getElem_cons_succ, List.getElem_cons_zero, List.setIfInBounds_toArray, List.set_cons_zero, List.set_cons_succ])
      (refine wpAnyH_take (i := 9) (v := ?tv27) rfl (by kernel_rfl) (by kernel_rfl) (by kernel_rfl) (fun _ _ _ h => h) (Or.inl ⟨by kernel_rfl, ?ty27⟩) (by assumption) ?tr27; (case ty27 => (intro w' hSw; (try dsimp only at hSw); go_simp <;> with_reducible rfl)); (try simp only [Act.put, List.getElem_toArray, List.getElem_cons_succ, List.getElem_cons_zero, List.setIfInBounds_toArray, List.set_cons_zero, List.set_cons_succ]))
      refine wpAnyH_done (by kernel_rfl) ?_ _
    case' b23_1 =>
      (go_simp; refine name_k (fun wa1 hwa1 => ?_); have Zwa1 := sizeE hwa1; have Rwa1 := Lib.hid (Below.allocE Rwa0.out Rwa0.out.size hwa1); (try have Ewa1 := Lib.hid (OwnL.allocE Ewa0.out hwa1)); (try have Vwa1 := Lib.hid (OwnL.allocE Vwa0.out hwa1)); (try have Uwa1 := Lib.hid (OwnL.allocE Uwa0.out hwa1)); (try have Nwa1 := Lib.hid (Blk.allocE Nwa0.out hwa1)); have Ewa1 := Lib.hid (OwnL.emptyE hwa1 Rwa0.out.size); clear hwa1)
      refine hK.out _ _ ?_ (fun hHeld => ?_)
      focus ((try dsimp only); (first | done | exact cB Rwa1.out z0))
      clear hK K
      (try simp only [Act.put, List.getElem_toArray, List.getElem_cons_succ, List.getElem_cons_zero, List.setIfInBounds_toArray, List.set_cons_zero, List.set_cons_succ])
      refine wpAnyH_ready (rs := [3, 7]) (by kernel_rfl) (by simp) ?_
      refine (AllReadyH.cons rfl (fun K hK => ?b28_1) (AllReadyH.cons rfl (fun K hK => ?b28_2) AllReadyH.nil))
      case' b28_2 =>
        (go_simp; refine name_k (fun wa2 hwa2 => ?_); have Zwa2 := sizeE hwa2; have Rwa2 := Lib.hid (Below.allocE Rwa1.out Rwa1.out.size hwa2); (try have Ewa2 := Lib.hid (OwnL.allocE Ewa1.out hwa2)); (try have Vwa2 := Lib.hid (OwnL.allocE Vwa1.out hwa2)); (try have Uwa2 := Lib.hid (OwnL.allocE Uwa1.out hwa2)); (try have Nwa2 := Lib.hid (Blk.allocE Nwa1.out hwa2)); have Nwa2 := Lib.hid (Blk.newE hwa2); clear hwa2)
        refine hK.out _ _ ?_ (fun hHeld => ?_)
        focus ((try dsimp only); (first | done | exact cB Rwa2.out z0))
        clear hK K
        (try simp only [Act.put, List.getElem_toArray, List.getElem_cons_succ, List.getElem_cons_zero, List.setIfInBounds_toArray, List.set_cons_zero, List.set_cons_succ])
        refine wpAnyH_ready (rs := [3]) (by kernel_rfl) (by simp) ?_
        refine (AllReadyH.cons rfl (fun K hK => ?_) AllReadyH.nil)
        (refine step_pushI (by rfl) _ _ (by rfl) w4.heap.size _ [] (by rfl) Ewa2.out (some ⟨b, off + 1, none⟩) (cg - 1) (ts.length - 1) (ts.drop 1) (by rw [List.length_drop]) (by first | rfl | go_simp) (I4.out.drop1.below Rwa2.out) (fun q => by first | rfl | cases q) (by rw [List.length_drop]; simp; omega) Rwa2.out.size ?_; intro vwa3 wa3 ho hg; rw [List.nil_append] at ho; obtain ⟨T1, hT1⟩ : ∃ T1, T1 = ts.drop 1 := ⟨_, rfl⟩; rw [← hT1] at ho; have HT1 := Lib.hid hT1; have Zwa3 := hg.size; have Rwa3 := Lib.hid (Rwa2.out.trans (grownL Ewa2.out hg Rwa2.out.size)); (try have Nwa3 := Lib.hid (Nwa2.out.grown hg (by simp [Value.ownBlock]; omega))); obtain ⟨Gwa3, cwa3, rfl, _, _, _⟩ := ho.rcap; have Vwa3 := Lib.hid ho; clear ho hg hT1)
        refine hK.out _ _ ?_ (fun hHeld => ?_)
        focus ((try dsimp only); (first | done | exact cB Rwa3.out z0))
        clear hK K
        (try simp only [Act.put, List.getElem_toArray, List.getElem_cons_succ, List.getElem_cons_zero, List.setIfInBounds_toArray, List.set_cons_zero, List.set_cons_succ])
        refine wpAnyH_ready (rs := [8]) (by kernel_rfl) (by simp) ?_
        refine (AllReadyH.cons rfl (fun K hK => ?_) AllReadyH.nil)
        (refine step_pushI (by rfl) _ _ (by rfl) w4.heap.size _ T1 (by rfl) Vwa3.out _ 1 1 [x] rfl (by rfl) Nwa3.out.iat1 (fun q => by cases q) (by rw [HT1.out, List.length_drop]; simp; omega) Rwa3.out.size ?_; intro vwa4 wa4 ho hg; have Zwa4 := hg.size; have Rwa4 := Lib.hid (Rwa3.out.trans (grownL Vwa3.out hg Rwa3.out.size)); (try have Nwa4 := Lib.hid (Nwa3.out.grown hg (by simp [Value.ownBlock]; omega))); rw [HT1.out, turned_is HX.out] at ho; obtain ⟨G7, c7, rfl, hr7, _, _⟩ := ho.rcap; have HR7 := Lib.hid hr7.iat; clear hr7 ho hg)
        refine hK.out _ _ ?_ (fun hHeld => ?_)
        focus ((try dsimp only); (first | done | exact cB Rwa4.out z0))
        clear hK K
        (try simp only [Act.put, List.getElem_toArray, List.getElem_cons_succ, List.getElem_cons_zero, List.setIfInBounds_toArray, List.set_cons_zero, List.set_cons_succ])
        (refine wpAnyH_take (i := 9) (v := ?tv31) rfl (by kernel_rfl) (by kernel_rfl) (by kernel_rfl) (fun _ _ _ h => h) (Or.inl ⟨by kernel_rfl, ?ty31⟩) (by assumption) ?tr31; (case ty31 => (intro w' hSw; (try dsimp only at hSw); go_simp <;> with_reducible rfl)); (try simp only [Act.put, List.getElem_toArray, List.getElem_cons_succ, List.getElem_cons_zero, List.setIfInBounds_toArray, List.set_cons_zero, List.set_cons_succ]))
        refine wpAnyH_done (by kernel_rfl) ?_ _
      case' b28_1 =>
        (refine step_pushI (by rfl) _ _ (by rfl) w4.heap.size _ [] (by rfl) Ewa1.out (some ⟨b, off + 1, none⟩) (cg - 1) (ts.length - 1) (ts.drop 1) (by rw [List.length_drop]) (by first | rfl | go_simp) (I4.out.drop1.below Rwa1.out) (fun q => by first | rfl | cases q) (by rw [List.length_drop]; simp; omega) Rwa1.out.size ?_; intro vwa2 wa2 ho hg; rw [List.nil_append] at ho; obtain ⟨T1, hT1⟩ : ∃ T1, T1 = ts.drop 1 := ⟨_, rfl⟩; rw [← hT1] at ho; have HT1 := Lib.hid hT1; have Zwa2 := hg.size; have Rwa2 := Lib.hid (Rwa1.out.trans (grownL Ewa1.out hg Rwa1.out.size)); (try have Nwa2 := Lib.hid (Nwa1.out.grown hg (by simp [Value.ownBlock]; omega))); obtain ⟨Gwa2, cwa2, rfl, _, _, _⟩ := ho.rcap; have Vwa2 := Lib.hid ho; clear ho hg hT1)
        refine hK.out _ _ ?_ (fun hHeld => ?_)
        focus ((try dsimp only); (first | done | exact cB Rwa2.out z0))
        clear hK K
        (try simp only [Act.put, List.getElem_toArray, List.getElem_cons_succ, List.getElem_cons_zero, List.setIfInBounds_toArray, List.set_cons_zero, List.set_cons_succ])
        refine wpAnyH_ready (rs := [7]) (by kernel_rfl) (by simp) ?_
        refine (AllReadyH.cons rfl (fun K hK => ?_) AllReadyH.nil)
        (go_simp; refine name_k (fun wa3 hwa3 => ?_); have Zwa3 := sizeE hwa3; have Rwa3 := Lib.hid (Below.allocE Rwa2.out Rwa2.out.size hwa3); (try have Ewa3 := Lib.hid (OwnL.allocE Ewa2.out hwa3)); (try have Vwa3 := Lib.hid (OwnL.allocE Vwa2.out hwa3)); (try have Uwa3 := Lib.hid (OwnL.allocE Uwa2.out hwa3)); (try have Nwa3 := Lib.hid (Blk.allocE Nwa2.out hwa3)); have Nwa3 := Lib.hid (Blk.newE hwa3); clear hwa3)
        refine hK.out _ _ ?_ (fun hHeld => ?_)
        focus ((try dsimp only); (first | done | exact cB Rwa3.out z0))
        clear hK K
        (try simp only [Act.put, List.getElem_toArray, List.getElem_cons_succ, List.getElem_cons_zero, List.setIfInBounds_toArray, List.set_cons_zero, List.set_cons_succ])
        refine wpAnyH_ready (rs := [8]) (by kernel_rfl) (by simp) ?_
        refine (AllReadyH.cons rfl (fun K hK => ?_) AllReadyH.nil)
        (refine step_pushI (by rfl) _ _ (by rfl) w4.heap.size _ T1 (by rfl) Vwa3.out _ 1 1 [x] rfl (by rfl) Nwa3.out.iat1 (fun q => by cases q) (by rw [HT1.out, List.length_drop]; simp; omega) Rwa3.out.size ?_; intro vwa4 wa4 ho hg; have Zwa4 := hg.size; have Rwa4 := Lib.hid (Rwa3.out.trans (grownL Vwa3.out hg Rwa3.out.size)); (try have Nwa4 := Lib.hid (Nwa3.out.grown hg (by simp [Value.ownBlock]; omega))); rw [HT1.out, turned_is HX.out] at ho; obtain ⟨G7, c7, rfl, hr7, _, _⟩ := ho.rcap; have HR7 := Lib.hid hr7.iat; clear hr7 ho hg)
        refine hK.out _ _ ?_ (fun hHeld => ?_)
        focus ((try dsimp only); (first | done | exact cB Rwa4.out z0))
        clear hK K
        (try simp only [Act.put, List.getElem_toArray, List.getElem_cons_succ, List.getElem_cons_zero, List.setIfInBounds_toArray, List.set_cons_zero, List.set_cons_succ])
        (refine wpAnyH_take (i := 9) (v := ?tv34) rfl (by kernel_rfl) (by kernel_rfl) (by kernel_rfl) (fun _ _ _ h => h) (Or.inl ⟨by kernel_rfl, ?ty34⟩) (by assumption) ?tr34; (case ty34 => (intro w' hSw; (try dsimp only at hSw); go_simp <;> with_reducible rfl)); (try simp only [Act.put, List.getElem_toArray, List.getElem_cons_succ, List.getElem_cons_zero, List.setIfInBounds_toArray, List.set_cons_zero, List.set_cons_succ]))
        refine wpAnyH_done (by kernel_rfl) ?_ _
    all_goals
      have p0' := cB Rwa4.out p0
      have p1' := cB Rwa4.out p1
      clear hHeld
      go_wp2_with fail
      refine (ringSum_any _ _ _ _ _ bs (turned ts) _ (Q4.out.below Rwa4.out) HR7.out (by omega) (by rw [turned_length]; omega)).mono ?_
      rintro e w6 ⟨rfl, hb6⟩
      rw [HT.out.1, HT.out.2]
      replace p0' := cB hb6 p0'
      replace p1' := cB hb6 p1'
      have B6 := Lib.hid (via hb6 Rwa4.out)
      clear hb6
      obtain ⟨ft, hft⟩ : ∃ ft, ft = fitsOk n bs := ⟨_, rfl⟩
      have HFT := Lib.hid hft
      clear hft
      go_wp2_with fail
      refine (fitsOk_any _ _ _ bs _ (Q4.out.below B6.out) (by omega)).mono ?_
      rintro e w7 ⟨rfl, hb7⟩
      rw [← HFT.out]
      have B7 := Lib.hid (via (via hb7 B6.out) B4.out)
      clear hb7
      cases ft
      · go_wp2
        go_ret
        exact ⟨rfl, B7.out⟩
      · have hge := HFIT.out HFT.out.symm
        have hge2 : decide (0 ≤ sv) = true := decide_eq_true hge
        go_wp2
        go_ret
        exact ⟨rfl, B7.out⟩
end Go.Proofs.Ytnompncmachgjaa
