/- The contracts of spec.WithoutBound and spec.NeedlessOk: some plan, in new memory; for slices of at most a thousand bounds. -/
import Derived.Test.YtnompncmachgjaaWTightOk
import Derived.Test.YtnompncmachgjaaImplies
namespace Go.Proofs.Ytnompncmachgjaa
open Go.RowKit
set_option linter.unusedVariables false
set_option maxRecDepth 10000
set_option linter.unusedSimpArgs false

/-- Some plan, in new memory, of no more bounds, and a flag. -/
def WoutRes (bs : List Bd) (w : World) (e : Ending) (w' : World) : Prop :=
  ∃ (n' : Int) (G : Option Addr) (c : Nat) (L : List Bd) (ok : Bool), e = .returned (.tuple #[.agg #[.int .i64 n', .slice G L.length c], .bool ok]) ∧ L.length ≤ bs.length ∧ L.length ≤ c ∧ (G = none → c = 0) ∧ RB w' w.heap.size w'.heap.size G L ∧ Below w.heap.size w w'
set_option maxHeartbeats 2000000 in
theorem withoutBound_any (n : Int) (A : Option Addr) (c : Nat) (bs : List Bd) (d : Int) (w : World) (h : BAt w A bs) (hcl : bs.length ≤ c) (hlen : bs.length ≤ 1000) :
    Calls Try.prog 130 #[.agg #[.int .i64 n, .slice A bs.length c], .int .i64 d] w (WoutRes bs w) := by
  have HB0 := Lib.hid h
  clear h
  go_enter Try.func130, Try.ntmps130
  go_upto_region 1 with (fail)
  obtain ⟨w0, hw0⟩ : ∃ w0, w0 = (w.alloc (.cells #[.int .i64 n, .slice A bs.length c] 25)).alloc (.cells #[.int .i64 0, .slice none 0 0] 25) := ⟨_, rfl⟩
  have PB : Blk w0 w.heap.size 25 #[.int .i64 n, .slice A bs.length c] := by rw [hw0]; exact (Blk.new w _ _).alloc _
  have RS := Lib.hid (show Blk w0 (w.heap.size + 1) 25 #[.int .i64 0, .slice none 0 0] by rw [hw0]; exact Blk.new' (by simp) _ _)
  have BW := Lib.hid (show Below w.heap.size w w0 by rw [hw0]; exact valloc (valloc (Below.refl _ _) _) _)
  have HZ0 : w.heap.size + 1 < w0.heap.size := by rw [hw0]; simp
  have p0 : w0.cell? ⟨w.heap.size, 0, none⟩ = some (.int .i64 n) := PB.cell 0
  have p1 : w0.cell? ⟨w.heap.size, 1, none⟩ = some (.slice A bs.length c) := PB.cell 1
  have HB := Lib.hid (HB0.out.below BW.out)
  rw [← hw0]
  clear hw0 PB HB0
  go_wp2_with fail
  refine (specPlanOk_any n A c bs _ HB.out (by omega)).mono ?_; rintro e w2 ⟨rfl, hb2⟩
  have R2 := Lib.hid (RS.out.below' hb2)
  have B2 := Lib.hid (via hb2 BW.out)
  have Q2 := Lib.hid (HB.out.below hb2)
  have hz2 := hb2.size
  replace p0 := cB hb2 p0
  replace p1 := cB hb2 p1
  clear hb2 RS BW HB
  cases hp : planOk n bs
  · clear hp
    have R4 := Lib.hid R2.out
    have B4 := Lib.hid B2.out
    have hz4 : w.heap.size ≤ w2.heap.size := B4.out.size
    obtain ⟨r0, r1, f0, f1⟩ := R4.out.two
    go_wp2
    refine bodyPost_ret (v := .tuple #[.agg #[.int .i64 0, .slice none 0 0], .bool false]) (by simp [results, Try.results130, go_sem, r0, r1]) rfl ⟨0, none, 0, [], false, rfl, Nat.zero_le _, Nat.le_refl _, fun _ => rfl, .inl ⟨rfl, rfl⟩, vset (vset B4.out (by dsimp only; omega) _) (by dsimp only; omega) _⟩
  have hwl : IntKind.i64.wrap ((bs.length : Int) - 1) = (bs.length : Int) - 1 := IntWalk.i64_in _ ⟨by omega, by omega⟩
  clear hp
  cases hd : inB d 0 ((bs.length : Int) - 1)
  · have HD := Lib.hid hd
    clear hd
    go_wp2_with fail
    refine (l1In_any _ _ _ _).mono ?_; rintro e w3 ⟨rfl, hw3⟩
    have hb3 : Below w2.heap.size w2 w3 := by rw [hw3]; exact Below.refl _ _
    clear hw3
    rw [HD.out]
    have R4 := Lib.hid (R2.out.below' hb3)
    have B4 := Lib.hid (via hb3 B2.out)
    have hz4 : w.heap.size ≤ w3.heap.size := B4.out.size
    obtain ⟨r0, r1, f0, f1⟩ := R4.out.two
    go_wp2
    refine bodyPost_ret (v := .tuple #[.agg #[.int .i64 0, .slice none 0 0], .bool false]) (by simp [results, Try.results130, go_sem, r0, r1]) rfl ⟨0, none, 0, [], false, rfl, Nat.zero_le _, Nat.le_refl _, fun _ => rfl, .inl ⟨rfl, rfl⟩, vset (vset B4.out (by dsimp only; omega) _) (by dsimp only; omega) _⟩
  have HD := Lib.hid hd
  obtain ⟨hd1, hd2⟩ := (inB_iff _ _ _).1 hd
  obtain ⟨a, rfl⟩ := Int.eq_ofNat_of_zero_le hd1
  have ha : a < bs.length := by omega
  clear hd
  go_wp2_with fail
  refine (l1In_any _ _ _ _).mono ?_; rintro e w3 ⟨rfl, hw3⟩
  have hb3 : Below w2.heap.size w2 w3 := by rw [hw3]; exact Below.refl _ _
  clear hw3
  rw [HD.out]
  obtain ⟨b, off, x, rfl, hbl, hx, _, _, _, _⟩ := Q2.out.at_ ha
  have q0' := cB hb3 p0
  have q1' := cB hb3 p1
  have RS' := Lib.hid (R2.out.below' hb3)
  have BW' := Lib.hid (via hb3 B2.out)
  have HB' := Lib.hid (Q2.out.below hb3)
  have hz3 := hb3.size
  clear p0 p1 R2 B2 Q2 hb3 hx
  go_upto_region 3 with (fail)
  refine name_c (fun w0 hw0 => ?_)
  have q0 : w0.cell? ⟨w.heap.size, 0, none⟩ = some (.int .i64 n) := by rw [hw0]; exact q0'
  have q1 : w0.cell? ⟨w.heap.size, 1, none⟩ = some (.slice (some ⟨b, off, none⟩) bs.length c) := by rw [hw0]; exact q1'
  have RS := Lib.hid (show Blk w0 (w.heap.size + 1) 25 #[.int .i64 0, .slice none 0 0] by rw [hw0]; exact RS'.out)
  have BW := Lib.hid (show Below w.heap.size w w0 by rw [hw0]; exact BW'.out)
  have HB := Lib.hid (show BAt w0 (some ⟨b, off, none⟩) bs by rw [hw0]; exact HB'.out)
  have HZW : w.heap.size + 1 < w0.heap.size := by rw [hw0]; omega
  clear hw0 q0' q1' RS' BW' HB' hz3 hz2 HZ0
  have hwa : IntKind.i64.wrap ((a : Int) + 1) = (a : Int) + 1 := IntWalk.i64_in _ ⟨by omega, by omega⟩
  have i0 : (0 : Int) ≤ (a : Int) := by omega
  have i1 : (a : Int) ≤ (c : Int) := by omega
  have i2 : (0 : Int) ≤ (a : Int) + 1 := by omega
  have i3 : (a : Int) + 1 ≤ (bs.length : Int) := by omega
  have i4 : ((a : Int) + 1).toNat = a + 1 := by omega
  have i5 : (bs.length : Int) ≤ (c : Int) := by omega
  clear hwl hd1 hd2
  by_cases hcz : c = a + 1
  · subst hcz
    have i6 : (a : Int) ≤ (a : Int) + 1 := by omega
    have i7 : (bs.length : Int) ≤ (a : Int) + 1 := by omega
    refine wp_region_held_drew (S := (fun w' => w'.cell? ⟨w.heap.size, 0, none⟩ = some (.int .i64 n) ∧ w'.cell? ⟨w.heap.size, 1, none⟩ = some (.slice (some ⟨b, off, none⟩) bs.length (a + 1)))) (by kernel_rfl) ?_ (fun hHeld => ?_)
    · (try dsimp only)
      (first | done | exact ⟨cD q0, cD q1⟩)
    refine name_h (fun wa0 hwa0 => ?_)
    replace hHeld : ((fun w' => w'.cell? ⟨w.heap.size, 0, none⟩ = some (.int .i64 n) ∧ w'.cell? ⟨w.heap.size, 1, none⟩ = some (.slice (some ⟨b, off, none⟩) bs.length (a + 1)))) wa0 := by rw [hwa0]; exact hHeld
    (have Zwa0 : w0.heap.size ≤ wa0.heap.size := (by rw [hwa0]; exact Nat.le_refl _); have Rwa0 := Lib.hid (show Below w0.heap.size w0 wa0 by rw [hwa0]; exact (Below.refl _ _).drew))
    clear hwa0
    (refine wpAnyH_take (i := 0) (v := ?tv1) rfl (by kernel_rfl) (by kernel_rfl) (by kernel_rfl) (fun _ _ _ h => h) (Or.inl ⟨by kernel_rfl, ?ty1⟩) (by assumption) ?tr1; (case ty1 => (intro w' hSw; (try dsimp only at hSw); go_simp <;> with_reducible rfl)); (try simp only [Act.put, List.getElem_toArray, List.getElem_cons_succ, List.getElem_cons_zero, List.setIfInBounds_toArray, List.set_cons_zero, List.set_cons_succ]))
    (refine wpAnyH_take (i := 1) (v := ?tv2) rfl (by kernel_rfl) (by kernel_rfl) (by kernel_rfl) (fun _ _ _ h => h) (Or.inl ⟨by kernel_rfl, ?ty2⟩) (by assumption) ?tr2; (case ty2 => (intro w' hSw; (try dsimp only at hSw); go_simp <;> with_reducible rfl)); (try simp only [Act.put, List.getElem_toArray, List.getElem_cons_succ, List.getElem_cons_zero, List.setIfInBounds_toArray, List.set_cons_zero, List.set_cons_succ]))
    (refine wpAnyH_take (i := 3) (v := ?tv3) rfl (by kernel_rfl) (by kernel_rfl) (by kernel_rfl) (fun _ _ _ h => h) (Or.inl ⟨by kernel_rfl, ?ty3⟩) (by assumption) ?tr3; (case ty3 => (intro w' hSw; (try dsimp only at hSw); go_simp <;> with_reducible rfl)); (try simp only [Act.put, List.getElem_toArray, List.getElem_cons_succ, List.getElem_cons_zero, List.setIfInBounds_toArray, List.set_cons_zero, List.set_cons_succ]))
    (refine wpAnyH_take (i := 4) (v := ?tv4) rfl (by kernel_rfl) (by kernel_rfl) (by kernel_rfl) (fun _ _ _ h => h) (Or.inl ⟨by kernel_rfl, ?ty4⟩) (by assumption) ?tr4; (case ty4 => (intro w' hSw; (try dsimp only at hSw); go_simp <;> with_reducible rfl)); (try simp only [Act.put, List.getElem_toArray, List.getElem_cons_succ, List.getElem_cons_zero, List.setIfInBounds_toArray, List.set_cons_zero, List.set_cons_succ]))
    (refine wpAnyH_take (i := 5) (v := ?tv5) rfl (by kernel_rfl) (by kernel_rfl) (by kernel_rfl) (fun _ _ _ h => h) (Or.inl ⟨by kernel_rfl, ?ty5⟩) (by assumption) ?tr5; (case ty5 => (intro w' hSw; (try dsimp only at hSw); go_simp <;> with_reducible rfl)); (try simp only [Act.put, List.getElem_toArray, List.getElem_cons_succ, List.getElem_cons_zero, List.setIfInBounds_toArray, List.set_cons_zero, List.set_cons_succ]))
    (refine wpAnyH_take (i := 6) (v := ?tv6) rfl (by kernel_rfl) (by kernel_rfl) (by kernel_rfl) (fun _ _ _ h => h) (Or.inl ⟨by kernel_rfl, ?ty6⟩) (by assumption) ?tr6; (case ty6 => (intro w' hSw; (try dsimp only at hSw); go_simp <;> with_reducible rfl)); (try simp only [Act.put, List.getElem_toArray, List.getElem_cons_succ, List.getElem_cons_zero, List.setIfInBounds_toArray, List.set_cons_zero, List.set_cons_succ]))
    (refine wpAnyH_take (i := 8) (v := ?tv7) rfl (by kernel_rfl) (by kernel_rfl) (by kernel_rfl) (fun _ _ _ h => h) (Or.inl ⟨by kernel_rfl, ?ty7⟩) (by assumption) ?tr7; (case ty7 => (intro w' hSw; (try dsimp only at hSw); go_simp <;> with_reducible rfl)); (try simp only [Act.put, List.getElem_toArray, List.getElem_cons_succ, List.getElem_cons_zero, List.setIfInBounds_toArray, List.set_cons_zero, List.set_cons_succ]))
    (refine wpAnyH_take (i := 9) (v := ?tv8) rfl (by kernel_rfl) (by kernel_rfl) (by kernel_rfl) (fun _ _ _ h => h) (Or.inl ⟨by kernel_rfl, ?ty8⟩) (by assumption) ?tr8; (case ty8 => (intro w' hSw; (try dsimp only at hSw); go_simp <;> with_reducible rfl)); (try simp only [Act.put, List.getElem_toArray, List.getElem_cons_succ, List.getElem_cons_zero, List.setIfInBounds_toArray, List.set_cons_zero, List.set_cons_succ]))
    (refine wpAnyH_take (i := 10) (v := ?tv9) rfl (by kernel_rfl) (by kernel_rfl) (by kernel_rfl) (fun _ _ _ h => h) (Or.inl ⟨by kernel_rfl, ?ty9⟩) (by assumption) ?tr9; (case ty9 => (intro w' hSw; (try dsimp only at hSw); go_simp <;> with_reducible rfl)); (try simp only [Act.put, List.getElem_toArray, List.getElem_cons_succ, List.getElem_cons_zero, List.setIfInBounds_toArray, List.set_cons_zero, List.set_cons_succ]))
    (refine wpAnyH_take (i := 11) (v := ?tv10) rfl (by kernel_rfl) (by kernel_rfl) (by kernel_rfl) (fun _ _ _ h => h) (Or.inl ⟨by kernel_rfl, ?ty10⟩) (by assumption) ?tr10; (case ty10 => (intro w' hSw; (try dsimp only at hSw); go_simp <;> with_reducible rfl)); (try simp only [Act.put, List.getElem_toArray, List.getElem_cons_succ, List.getElem_cons_zero, List.setIfInBounds_toArray, List.set_cons_zero, List.set_cons_succ]))
    (refine wpAnyH_take (i := 12) (v := ?tv11) rfl (by kernel_rfl) (by kernel_rfl) (by kernel_rfl) (fun _ _ _ h => h) (Or.inl ⟨by kernel_rfl, ?ty11⟩) (by assumption) ?tr11; (case ty11 => (intro w' hSw; (try dsimp only at hSw); go_simp <;> with_reducible rfl)); (try simp only [Act.put, List.getElem_toArray, List.getElem_cons_succ, List.getElem_cons_zero, List.setIfInBounds_toArray, List.set_cons_zero, List.set_cons_succ]))
    refine wpAnyH_ready (rs := [2]) (by kernel_rfl) (by simp) ?_
    refine (AllReadyH.cons rfl (fun K hK => ?_) AllReadyH.nil)
    (go_simp; refine name_k (fun wa1 hwa1 => ?_); have Zwa1 := sizeE hwa1; have Rwa1 := Lib.hid (Below.allocE Rwa0.out Rwa0.out.size hwa1); (try have Ewa1 := Lib.hid (OwnB.allocE Ewa0.out hwa1)); (try have Vwa1 := Lib.hid (OwnB.allocE Vwa0.out hwa1)); (try have Uwa1 := Lib.hid (OwnB.allocE Uwa0.out hwa1)); (try have Nwa1 := Lib.hid (Blk.allocE Nwa0.out hwa1)); (try have Xwa1 := Lib.hid (Blk.allocE Xwa0.out hwa1)); have Ewa1 := Lib.hid (OwnB.emptyE hwa1 Rwa0.out.size); clear hwa1)
    refine hK.out _ _ ?_ (fun hHeld => ?_)
    focus ((try dsimp only); (first | done | first | exact ⟨t0, t1⟩ | exact ⟨cB Rwa1.out q0, cB Rwa1.out q1⟩))
    clear hK K
    (try simp only [Act.put, List.getElem_toArray, List.getElem_cons_succ, List.getElem_cons_zero, List.setIfInBounds_toArray, List.set_cons_zero, List.set_cons_succ])
    refine wpAnyH_ready (rs := [7]) (by kernel_rfl) (by simp) ?_
    refine (AllReadyH.cons rfl (fun K hK => ?_) AllReadyH.nil)
    (refine step_pushG (by rfl) _ _ (by rfl) w0.heap.size _ [] (by rfl) Ewa1.out (some ⟨b, off, none⟩) _ a (bs.take a) (by rw [List.length_take]; omega) (by rfl) ((HB.out.takeK a).below Rwa1.out) (fun q => by cases q) (by rw [List.length_take]; simp; omega) Rwa1.out.size ?_; intro vwa2 wa2 ho hg; rw [List.nil_append] at ho; obtain ⟨T1, hT1⟩ : ∃ T1, T1 = bs.take a := ⟨_, rfl⟩; rw [← hT1] at ho; have HT1 := Lib.hid hT1; have Zwa2 := hg.size; have Rwa2 := Lib.hid (Rwa1.out.trans (grownB Ewa1.out hg Rwa1.out.size)); (try have Nwa2 := Lib.hid (Nwa1.out.grown hg (by simp [Value.ownBlock]; omega))); (try have Xwa2 := Lib.hid (Xwa1.out.grownT Ewa1.out hg)); obtain ⟨Gwa2, cwa2, rfl, _⟩ := ho.bat; have Vwa2 := Lib.hid ho; clear ho hg hT1)
    refine hK.out _ _ ?_ (fun hHeld => ?_)
    focus ((try dsimp only); (first | done | first | exact ⟨t0, t1⟩ | exact ⟨cB Rwa2.out q0, cB Rwa2.out q1⟩))
    clear hK K
    (try simp only [Act.put, List.getElem_toArray, List.getElem_cons_succ, List.getElem_cons_zero, List.setIfInBounds_toArray, List.set_cons_zero, List.set_cons_succ])
    refine wpAnyH_ready (rs := [13]) (by kernel_rfl) (by simp) ?_
    refine (AllReadyH.cons rfl (fun K hK => ?_) AllReadyH.nil)
    (refine step_pushG (by rfl) _ _ (by rfl) w0.heap.size _ T1 (by rfl) Vwa2.out _ _ (0) (bs.drop (a + 1)) (by first | (rw [List.length_drop]; done) | (rw [List.length_drop]; omega)) (by rfl) (by first | exact (HB.out.dropK (a + 1)).below Rwa2.out | exact (BAt_nil (by omega))) (fun q => by cases q) (by rw [HT1.out, List.length_take, List.length_drop]; omega) Rwa2.out.size ?_; intro vwa3 wa3 ho hg; obtain ⟨L, hL⟩ : ∃ L, L = T1 ++ bs.drop (a + 1) := ⟨_, rfl⟩; rw [← hL] at ho; have Zwa3 := hg.size; have Rwa3 := Lib.hid (Rwa2.out.trans (grownB Vwa2.out hg Rwa2.out.size)); (try have Nwa3 := Lib.hid (Nwa2.out.grown hg (by simp [Value.ownBlock]; omega))); (try have Xwa3 := Lib.hid (Xwa2.out.grownT Vwa2.out hg)); obtain ⟨G, c2, rfl, hrb, hcc, hnn⟩ := ho.rb; have Uwa3 := Lib.hid hrb; have HNN := Lib.hid hnn; have HL := Lib.hid hL; clear ho hg hL hrb hnn)
    refine hK.out _ _ ?_ (fun hHeld => ?_)
    focus ((try dsimp only); (first | done | first | exact ⟨t0, t1⟩ | exact ⟨cB Rwa3.out q0, cB Rwa3.out q1⟩))
    clear hK K
    (try simp only [Act.put, List.getElem_toArray, List.getElem_cons_succ, List.getElem_cons_zero, List.setIfInBounds_toArray, List.set_cons_zero, List.set_cons_succ])
    (refine wpAnyH_take (i := 14) (v := ?tv15) rfl (by kernel_rfl) (by kernel_rfl) (by kernel_rfl) (fun _ _ _ h => h) (Or.inl ⟨by kernel_rfl, ?ty15⟩) (by assumption) ?tr15; (case ty15 => (intro w' hSw; (try dsimp only at hSw); go_simp <;> with_reducible rfl)); (try simp only [Act.put, List.getElem_toArray, List.getElem_cons_succ, List.getElem_cons_zero, List.setIfInBounds_toArray, List.set_cons_zero, List.set_cons_succ]))
    refine wpAnyH_ready (rs := [15]) (by kernel_rfl) (by simp) ?_
    refine (AllReadyH.cons rfl (fun K hK => ?_) AllReadyH.nil)
    (have RX := Lib.hid (RS.out.below' Rwa3.out); obtain ⟨x0, x1, fr0, fr1⟩ := RX.out.two; have BX := Lib.hid (via Rwa3.out BW.out); have u0 := cB Rwa3.out q0; have u1 := cB Rwa3.out q1; go_simp; refine name_k (fun wa4 hwa4 => ?_); have hzs : wa4.heap.size = wa3.heap.size := (by rw [hwa4, szc, szc]); have RN := Lib.hid (show Blk wa4 (w.heap.size + 1) 25 #[.int .i64 n, .slice G L.length c2] by rw [hwa4]; simpa using (RX.out.set_ 0 (.int .i64 n)).set_ 1 (.slice G L.length c2)); have UN := Lib.hid (show RB wa4 w0.heap.size wa3.heap.size G L by rw [hwa4]; exact (Uwa3.out.box RX.out).box (RX.out.set_ 0 _)); have BN := Lib.hid (show Below w.heap.size w wa4 by rw [hwa4]; exact vset (vset BX.out (by dsimp only; omega) _) (by dsimp only; omega) _); have t0 : wa4.cell? ⟨w.heap.size, 0, none⟩ = some (.int .i64 n) := (by rw [hwa4]; exact cS (cS u0 (by omega)) (by omega)); have t1 : wa4.cell? ⟨w.heap.size, 1, none⟩ = some (.slice (some ⟨b, off, none⟩) bs.length (a + 1)) := (by rw [hwa4]; exact cS (cS u1 (by omega)) (by omega)); clear hwa4 x0 x1 fr0 fr1 u0 u1)
    refine hK.out _ _ ?_ (fun hHeld => ?_)
    focus ((try dsimp only); (first | done | first | exact ⟨t0, t1⟩ | exact ⟨cB Rwa4.out q0, cB Rwa4.out q1⟩))
    clear hK K
    (try simp only [Act.put, List.getElem_toArray, List.getElem_cons_succ, List.getElem_cons_zero, List.setIfInBounds_toArray, List.set_cons_zero, List.set_cons_succ])
    (refine wpAnyH_take (i := 16) (v := ?tv17) rfl (by kernel_rfl) (by kernel_rfl) (by kernel_rfl) (fun _ _ _ h => h) (Or.inl ⟨by kernel_rfl, ?ty17⟩) (by assumption) ?tr17; (case ty17 => (intro w' hSw; (try dsimp only at hSw); go_simp <;> with_reducible rfl)); (try simp only [Act.put, List.getElem_toArray, List.getElem_cons_succ, List.getElem_cons_zero, List.setIfInBounds_toArray, List.set_cons_zero, List.set_cons_succ]))
    refine wpAnyH_done (by kernel_rfl) ?_ _
    all_goals
      have hlL : L.length ≤ bs.length := by rw [HL.out, HT1.out, List.length_append, List.length_take, List.length_drop]; omega
      obtain ⟨r0, r1, f0, f1⟩ := RN.out.two
      have HLL := Lib.hid hlL
      clear hHeld t0 t1 q0 q1 hlL HL HT1
      go_wp2
      refine bodyPost_ret (v := .tuple #[.agg #[.int .i64 n, .slice G L.length c2], .bool true]) (by simp [results, Try.results130, go_sem, r0, r1]) rfl ⟨n, G, c2, L, true, rfl, HLL.out, hcc, HNN.out, UN.out.wide (by omega) (by omega), BN.out⟩
  · have hx9 : True := trivial
    refine wp_region_held_drew (S := (fun w' => w'.cell? ⟨w.heap.size, 0, none⟩ = some (.int .i64 n) ∧ w'.cell? ⟨w.heap.size, 1, none⟩ = some (.slice (some ⟨b, off, none⟩) bs.length c))) (by kernel_rfl) ?_ (fun hHeld => ?_)
    · (try dsimp only)
      (first | done | exact ⟨cD q0, cD q1⟩)
    refine name_h (fun wa0 hwa0 => ?_)
    replace hHeld : ((fun w' => w'.cell? ⟨w.heap.size, 0, none⟩ = some (.int .i64 n) ∧ w'.cell? ⟨w.heap.size, 1, none⟩ = some (.slice (some ⟨b, off, none⟩) bs.length c))) wa0 := by rw [hwa0]; exact hHeld
    (have Zwa0 : w0.heap.size ≤ wa0.heap.size := (by rw [hwa0]; exact Nat.le_refl _); have Rwa0 := Lib.hid (show Below w0.heap.size w0 wa0 by rw [hwa0]; exact (Below.refl _ _).drew))
    clear hwa0
    (refine wpAnyH_take (i := 0) (v := ?tv18) rfl (by kernel_rfl) (by kernel_rfl) (by kernel_rfl) (fun _ _ _ h => h) (Or.inl ⟨by kernel_rfl, ?ty18⟩) (by assumption) ?tr18; (case ty18 => (intro w' hSw; (try dsimp only at hSw); go_simp <;> with_reducible rfl)); (try simp only [Act.put, List.getElem_toArray, List.getElem_cons_succ, List.getElem_cons_zero, List.setIfInBounds_toArray, List.set_cons_zero, List.set_cons_succ]))
    (refine wpAnyH_take (i := 1) (v := ?tv19) rfl (by kernel_rfl) (by kernel_rfl) (by kernel_rfl) (fun _ _ _ h => h) (Or.inl ⟨by kernel_rfl, ?ty19⟩) (by assumption) ?tr19; (case ty19 => (intro w' hSw; (try dsimp only at hSw); go_simp <;> with_reducible rfl)); (try simp only [Act.put, List.getElem_toArray, List.getElem_cons_succ, List.getElem_cons_zero, List.setIfInBounds_toArray, List.set_cons_zero, List.set_cons_succ]))
    (refine wpAnyH_take (i := 3) (v := ?tv20) rfl (by kernel_rfl) (by kernel_rfl) (by kernel_rfl) (fun _ _ _ h => h) (Or.inl ⟨by kernel_rfl, ?ty20⟩) (by assumption) ?tr20; (case ty20 => (intro w' hSw; (try dsimp only at hSw); go_simp <;> with_reducible rfl)); (try simp only [Act.put, List.getElem_toArray, List.getElem_cons_succ, List.getElem_cons_zero, List.setIfInBounds_toArray, List.set_cons_zero, List.set_cons_succ]))
    (refine wpAnyH_take (i := 4) (v := ?tv21) rfl (by kernel_rfl) (by kernel_rfl) (by kernel_rfl) (fun _ _ _ h => h) (Or.inl ⟨by kernel_rfl, ?ty21⟩) (by assumption) ?tr21; (case ty21 => (intro w' hSw; (try dsimp only at hSw); go_simp <;> with_reducible rfl)); (try simp only [Act.put, List.getElem_toArray, List.getElem_cons_succ, List.getElem_cons_zero, List.setIfInBounds_toArray, List.set_cons_zero, List.set_cons_succ]))
    (refine wpAnyH_take (i := 5) (v := ?tv22) rfl (by kernel_rfl) (by kernel_rfl) (by kernel_rfl) (fun _ _ _ h => h) (Or.inl ⟨by kernel_rfl, ?ty22⟩) (by assumption) ?tr22; (case ty22 => (intro w' hSw; (try dsimp only at hSw); go_simp <;> with_reducible rfl)); (try simp only [Act.put, List.getElem_toArray, List.getElem_cons_succ, List.getElem_cons_zero, List.setIfInBounds_toArray, List.set_cons_zero, List.set_cons_succ]))
    (refine wpAnyH_take (i := 6) (v := ?tv23) rfl (by kernel_rfl) (by kernel_rfl) (by kernel_rfl) (fun _ _ _ h => h) (Or.inl ⟨by kernel_rfl, ?ty23⟩) (by assumption) ?tr23; (case ty23 => (intro w' hSw; (try dsimp only at hSw); go_simp <;> with_reducible rfl)); (try simp only [Act.put, List.getElem_toArray, List.getElem_cons_succ, List.getElem_cons_zero, List.setIfInBounds_toArray, List.set_cons_zero, List.set_cons_succ]))
    (refine wpAnyH_take (i := 8) (v := ?tv24) rfl (by kernel_rfl) (by kernel_rfl) (by kernel_rfl) (fun _ _ _ h => h) (Or.inl ⟨by kernel_rfl, ?ty24⟩) (by assumption) ?tr24; (case ty24 => (intro w' hSw; (try dsimp only at hSw); go_simp <;> with_reducible rfl)); (try simp only [Act.put, List.getElem_toArray, List.getElem_cons_succ, List.getElem_cons_zero, List.setIfInBounds_toArray, List.set_cons_zero, List.set_cons_succ]))
    (refine wpAnyH_take (i := 9) (v := ?tv25) rfl (by kernel_rfl) (by kernel_rfl) (by kernel_rfl) (fun _ _ _ h => h) (Or.inl ⟨by kernel_rfl, ?ty25⟩) (by assumption) ?tr25; (case ty25 => (intro w' hSw; (try dsimp only at hSw); go_simp <;> with_reducible rfl)); (try simp only [Act.put, List.getElem_toArray, List.getElem_cons_succ, List.getElem_cons_zero, List.setIfInBounds_toArray, List.set_cons_zero, List.set_cons_succ]))
    (refine wpAnyH_take (i := 10) (v := ?tv26) rfl (by kernel_rfl) (by kernel_rfl) (by kernel_rfl) (fun _ _ _ h => h) (Or.inl ⟨by kernel_rfl, ?ty26⟩) (by assumption) ?tr26; (case ty26 => (intro w' hSw; (try dsimp only at hSw); go_simp <;> with_reducible rfl)); (try simp only [Act.put, List.getElem_toArray, List.getElem_cons_succ, List.getElem_cons_zero, List.setIfInBounds_toArray, List.set_cons_zero, List.set_cons_succ]))
    (refine wpAnyH_take (i := 11) (v := ?tv27) rfl (by kernel_rfl) (by kernel_rfl) (by kernel_rfl) (fun _ _ _ h => h) (Or.inl ⟨by kernel_rfl, ?ty27⟩) (by assumption) ?tr27; (case ty27 => (intro w' hSw; (try dsimp only at hSw); go_simp <;> with_reducible rfl)); (try simp only [Act.put, List.getElem_toArray, List.getElem_cons_succ, List.getElem_cons_zero, List.setIfInBounds_toArray, List.set_cons_zero, List.set_cons_succ]))
    (refine wpAnyH_take (i := 12) (v := ?tv28) rfl (by kernel_rfl) (by kernel_rfl) (by kernel_rfl) (fun _ _ _ h => h) (Or.inl ⟨by kernel_rfl, ?ty28⟩) (by assumption) ?tr28; (case ty28 => (intro w' hSw; (try dsimp only at hSw); go_simp <;> with_reducible rfl)); (try simp only [Act.put, List.getElem_toArray, List.getElem_cons_succ, List.getElem_cons_zero, List.setIfInBounds_toArray, List.set_cons_zero, List.set_cons_succ]))
    refine wpAnyH_ready (rs := [2]) (by kernel_rfl) (by simp) ?_
    refine (AllReadyH.cons rfl (fun K hK => ?_) AllReadyH.nil)
    (go_simp; refine name_k (fun wa1 hwa1 => ?_); have Zwa1 := sizeE hwa1; have Rwa1 := Lib.hid (Below.allocE Rwa0.out Rwa0.out.size hwa1); (try have Ewa1 := Lib.hid (OwnB.allocE Ewa0.out hwa1)); (try have Vwa1 := Lib.hid (OwnB.allocE Vwa0.out hwa1)); (try have Uwa1 := Lib.hid (OwnB.allocE Uwa0.out hwa1)); (try have Nwa1 := Lib.hid (Blk.allocE Nwa0.out hwa1)); (try have Xwa1 := Lib.hid (Blk.allocE Xwa0.out hwa1)); have Ewa1 := Lib.hid (OwnB.emptyE hwa1 Rwa0.out.size); clear hwa1)
    refine hK.out _ _ ?_ (fun hHeld => ?_)
    focus ((try dsimp only); (first | done | first | exact ⟨t0, t1⟩ | exact ⟨cB Rwa1.out q0, cB Rwa1.out q1⟩))
    clear hK K
    (try simp only [Act.put, List.getElem_toArray, List.getElem_cons_succ, List.getElem_cons_zero, List.setIfInBounds_toArray, List.set_cons_zero, List.set_cons_succ])
    refine wpAnyH_ready (rs := [7]) (by kernel_rfl) (by simp) ?_
    refine (AllReadyH.cons rfl (fun K hK => ?_) AllReadyH.nil)
    (refine step_pushG (by rfl) _ _ (by rfl) w0.heap.size _ [] (by rfl) Ewa1.out (some ⟨b, off, none⟩) _ a (bs.take a) (by rw [List.length_take]; omega) (by rfl) ((HB.out.takeK a).below Rwa1.out) (fun q => by cases q) (by rw [List.length_take]; simp; omega) Rwa1.out.size ?_; intro vwa2 wa2 ho hg; rw [List.nil_append] at ho; obtain ⟨T1, hT1⟩ : ∃ T1, T1 = bs.take a := ⟨_, rfl⟩; rw [← hT1] at ho; have HT1 := Lib.hid hT1; have Zwa2 := hg.size; have Rwa2 := Lib.hid (Rwa1.out.trans (grownB Ewa1.out hg Rwa1.out.size)); (try have Nwa2 := Lib.hid (Nwa1.out.grown hg (by simp [Value.ownBlock]; omega))); (try have Xwa2 := Lib.hid (Xwa1.out.grownT Ewa1.out hg)); obtain ⟨Gwa2, cwa2, rfl, _⟩ := ho.bat; have Vwa2 := Lib.hid ho; clear ho hg hT1)
    refine hK.out _ _ ?_ (fun hHeld => ?_)
    focus ((try dsimp only); (first | done | first | exact ⟨t0, t1⟩ | exact ⟨cB Rwa2.out q0, cB Rwa2.out q1⟩))
    clear hK K
    (try simp only [Act.put, List.getElem_toArray, List.getElem_cons_succ, List.getElem_cons_zero, List.setIfInBounds_toArray, List.set_cons_zero, List.set_cons_succ])
    refine wpAnyH_ready (rs := [13]) (by kernel_rfl) (by simp) ?_
    refine (AllReadyH.cons rfl (fun K hK => ?_) AllReadyH.nil)
    (refine step_pushG (by rfl) _ _ (by rfl) w0.heap.size _ T1 (by rfl) Vwa2.out _ _ (bs.length - (a + 1)) (bs.drop (a + 1)) (by first | (rw [List.length_drop]; done) | (rw [List.length_drop]; omega)) (by rfl) (by first | exact (HB.out.dropK (a + 1)).below Rwa2.out | exact (BAt_nil (by omega))) (fun q => by cases q) (by rw [HT1.out, List.length_take, List.length_drop]; omega) Rwa2.out.size ?_; intro vwa3 wa3 ho hg; obtain ⟨L, hL⟩ : ∃ L, L = T1 ++ bs.drop (a + 1) := ⟨_, rfl⟩; rw [← hL] at ho; have Zwa3 := hg.size; have Rwa3 := Lib.hid (Rwa2.out.trans (grownB Vwa2.out hg Rwa2.out.size)); (try have Nwa3 := Lib.hid (Nwa2.out.grown hg (by simp [Value.ownBlock]; omega))); (try have Xwa3 := Lib.hid (Xwa2.out.grownT Vwa2.out hg)); obtain ⟨G, c2, rfl, hrb, hcc, hnn⟩ := ho.rb; have Uwa3 := Lib.hid hrb; have HNN := Lib.hid hnn; have HL := Lib.hid hL; clear ho hg hL hrb hnn)
    refine hK.out _ _ ?_ (fun hHeld => ?_)
    focus ((try dsimp only); (first | done | first | exact ⟨t0, t1⟩ | exact ⟨cB Rwa3.out q0, cB Rwa3.out q1⟩))
    clear hK K
    (try simp only [Act.put, List.getElem_toArray, List.getElem_cons_succ, List.getElem_cons_zero, List.setIfInBounds_toArray, List.set_cons_zero, List.set_cons_succ])
    (refine wpAnyH_take (i := 14) (v := ?tv32) rfl (by kernel_rfl) (by kernel_rfl) (by kernel_rfl) (fun _ _ _ h => h) (Or.inl ⟨by kernel_rfl, ?ty32⟩) (by assumption) ?tr32; (case ty32 => (intro w' hSw; (try dsimp only at hSw); go_simp <;> with_reducible rfl)); (try simp only [Act.put, List.getElem_toArray, List.getElem_cons_succ, List.getElem_cons_zero, List.setIfInBounds_toArray, List.set_cons_zero, List.set_cons_succ]))
    refine wpAnyH_ready (rs := [15]) (by kernel_rfl) (by simp) ?_
    refine (AllReadyH.cons rfl (fun K hK => ?_) AllReadyH.nil)
    (have RX := Lib.hid (RS.out.below' Rwa3.out); obtain ⟨x0, x1, fr0, fr1⟩ := RX.out.two; have BX := Lib.hid (via Rwa3.out BW.out); have u0 := cB Rwa3.out q0; have u1 := cB Rwa3.out q1; go_simp; refine name_k (fun wa4 hwa4 => ?_); have hzs : wa4.heap.size = wa3.heap.size := (by rw [hwa4, szc, szc]); have RN := Lib.hid (show Blk wa4 (w.heap.size + 1) 25 #[.int .i64 n, .slice G L.length c2] by rw [hwa4]; simpa using (RX.out.set_ 0 (.int .i64 n)).set_ 1 (.slice G L.length c2)); have UN := Lib.hid (show RB wa4 w0.heap.size wa3.heap.size G L by rw [hwa4]; exact (Uwa3.out.box RX.out).box (RX.out.set_ 0 _)); have BN := Lib.hid (show Below w.heap.size w wa4 by rw [hwa4]; exact vset (vset BX.out (by dsimp only; omega) _) (by dsimp only; omega) _); have t0 : wa4.cell? ⟨w.heap.size, 0, none⟩ = some (.int .i64 n) := (by rw [hwa4]; exact cS (cS u0 (by omega)) (by omega)); have t1 : wa4.cell? ⟨w.heap.size, 1, none⟩ = some (.slice (some ⟨b, off, none⟩) bs.length c) := (by rw [hwa4]; exact cS (cS u1 (by omega)) (by omega)); clear hwa4 x0 x1 fr0 fr1 u0 u1)
    refine hK.out _ _ ?_ (fun hHeld => ?_)
    focus ((try dsimp only); (first | done | first | exact ⟨t0, t1⟩ | exact ⟨cB Rwa4.out q0, cB Rwa4.out q1⟩))
    clear hK K
    (try simp only [Act.put, List.getElem_toArray, List.getElem_cons_succ, List.getElem_cons_zero, List.setIfInBounds_toArray, List.set_cons_zero, List.set_cons_succ])
    (refine wpAnyH_take (i := 16) (v := ?tv34) rfl (by kernel_rfl) (by kernel_rfl) (by kernel_rfl) (fun _ _ _ h => h) (Or.inl ⟨by kernel_rfl, ?ty34⟩) (by assumption) ?tr34; (case ty34 => (intro w' hSw; (try dsimp only at hSw); go_simp <;> with_reducible rfl)); (try simp only [Act.put, List.getElem_toArray, List.getElem_cons_succ, List.getElem_cons_zero, List.setIfInBounds_toArray, List.set_cons_zero, List.set_cons_succ]))
    refine wpAnyH_done (by kernel_rfl) ?_ _
    all_goals
      have hlL : L.length ≤ bs.length := by rw [HL.out, HT1.out, List.length_append, List.length_take, List.length_drop]; omega
      obtain ⟨r0, r1, f0, f1⟩ := RN.out.two
      have HLL := Lib.hid hlL
      clear hHeld t0 t1 q0 q1 hlL HL HT1
      go_wp2
      refine bodyPost_ret (v := .tuple #[.agg #[.int .i64 n, .slice G L.length c2], .bool true]) (by simp [results, Try.results130, go_sem, r0, r1]) rfl ⟨n, G, c2, L, true, rfl, HLL.out, hcc, HNN.out, UN.out.wide (by omega) (by omega), BN.out⟩
end Go.Proofs.Ytnompncmachgjaa
