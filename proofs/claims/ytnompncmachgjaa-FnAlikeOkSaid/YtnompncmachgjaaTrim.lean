/- The contracts of spec.NeedlessOk and spec.TrimmedOf: some flag; some plan, in new memory. -/
import Derived.Test.YtnompncmachgjaaWithoutB
namespace Go.Proofs.Ytnompncmachgjaa
open Go.RowKit
set_option linter.unusedVariables false
set_option maxRecDepth 10000
set_option linter.unusedSimpArgs false

set_option maxHeartbeats 1000000 in
theorem needless_any (n : Int) (A : Option Addr) (c : Nat) (bs : List Bd) (d : Int) (w : World) (h : BAt w A bs) (hcl : bs.length ≤ c) (hlen : bs.length ≤ 1000) :
    Calls Try.prog 129 #[.agg #[.int .i64 n, .slice A bs.length c], .int .i64 d] w fun e w' => (∃ b : Bool, e = .returned (.bool b)) ∧ Below w.heap.size w w' := by
  have HB0 := Lib.hid h
  clear h
  go_enter Try.func129, Try.ntmps129
  go_wp2_with fail
  have B1 : Below w.heap.size w (w.alloc (.cells #[.int .i64 n, .slice A bs.length c] 25)) := valloc (Below.refl _ _) _
  have P1 : Blk (w.alloc (.cells #[.int .i64 n, .slice A bs.length c] 25)) w.heap.size 25 #[.int .i64 n, .slice A bs.length c] := Blk.new _ _ _
  generalize w.alloc (.cells #[.int .i64 n, .slice A bs.length c] 25) = w1 at *
  have Q1 := Lib.hid (HB0.out.below B1)
  have hzp := P1.lt
  refine (withoutBound_any n A c bs d _ Q1.out hcl hlen).mono ?_; rintro e w2 ⟨n2, G2, c2, L2, ok, rfl, l2, m2, k2, r2, hb2⟩
  have HP2 := Lib.hid (P1.below' hb2)
  have HB2 := Lib.hid (via hb2 B1)
  have HQ2 := Lib.hid (Q1.out.below hb2)
  have HR2 := Lib.hid r2.bat
  have hz2 := hb2.size
  clear P1 B1 Q1 HB0 hb2 r2 k2
  go_upto_region 2 with (fail)
  refine name_c (fun w3 hw3 => ?_)
  have PP := HP2.out.allocE hw3
  have PX := Blk.newE hw3
  have p0 : w3.cell? ⟨w.heap.size, 0, none⟩ = some (.int .i64 n) := PP.cell 0
  have p1 : w3.cell? ⟨w.heap.size, 1, none⟩ = some (.slice A bs.length c) := PP.cell 1
  have x0 : w3.cell? ⟨w2.heap.size, 0, none⟩ = some (.int .i64 n2) := PX.cell 0
  have x1 : w3.cell? ⟨w2.heap.size, 1, none⟩ = some (.slice G2 L2.length c2) := PX.cell 1
  have B3 := Lib.hid (show Below w.heap.size w w3 by rw [hw3]; exact valloc HB2.out _)
  have Q3 := Lib.hid (show BAt w3 A bs by rw [hw3]; exact HQ2.out.below (valloc (Below.refl _ _) _))
  have R3 := Lib.hid (show BAt w3 G2 L2 by rw [hw3]; exact HR2.out.below (valloc (Below.refl _ _) _))
  clear hw3 PP PX HP2 HB2 HQ2 HR2
  cases ok
  · go_wp2
    go_ret
    exact ⟨⟨_, rfl⟩, B3.out⟩
  · go_wp2_with fail
    refine (specAlikeOk_any n A c bs n2 G2 c2 L2 _ Q3.out R3.out (by omega) (by omega)).mono ?_; rintro e w4 ⟨rfl, hb4⟩
    generalize (impliesOk n n2 bs L2 && impliesOk n2 n L2 bs) = bb
    go_wp2
    go_ret
    exact ⟨⟨_, rfl⟩, via hb4 B3.out⟩
def TrimRes (w : World) (e : Ending) (w' : World) : Prop :=
  ∃ (n' : Int) (G : Option Addr) (c : Nat) (L : List Bd), e = .returned (.agg #[.int .i64 n', .slice G L.length c]) ∧ L.length ≤ 1000 ∧ RB w' w.heap.size w'.heap.size G L ∧ Below w.heap.size w w'
set_option maxHeartbeats 2000000 in
theorem trimmed_any (n : Int) (A : Option Addr) (c : Nat) (bs : List Bd) (w : World) (h : BAt w A bs) (h0 : A = none → c = 0) (hlen : bs.length ≤ 1000) :
    Calls Try.prog 109 #[.agg #[.int .i64 n, .slice A bs.length c]] w (TrimRes w) := by
  have HB0 := Lib.hid h
  have HA0 := Lib.hid h0
  clear h h0
  go_enter Try.func109, Try.ntmps109
  go_upto_region 1 with (fail)
  obtain ⟨wq, hwq⟩ : ∃ wq, wq = (w.alloc (.cells #[.int .i64 n, .slice A bs.length c] 25)).alloc (.cells #[.int .i64 0, .slice none 0 0] 25) := ⟨_, rfl⟩
  have PB : Blk wq w.heap.size 25 #[.int .i64 n, .slice A bs.length c] := by rw [hwq]; exact (Blk.new w _ _).alloc _
  have RS := Lib.hid (show Blk wq (w.heap.size + 1) 25 #[.int .i64 0, .slice none 0 0] by rw [hwq]; exact Blk.new' (by simp) _ _)
  have BW := Lib.hid (show Below w.heap.size w wq by rw [hwq]; exact valloc (valloc (Below.refl _ _) _) _)
  have HZ0 : w.heap.size + 1 < wq.heap.size := by rw [hwq]; simp
  have p0 : wq.cell? ⟨w.heap.size, 0, none⟩ = some (.int .i64 n) := PB.cell 0
  have p1 : wq.cell? ⟨w.heap.size, 1, none⟩ = some (.slice A bs.length c) := PB.cell 1
  have HB := Lib.hid (HB0.out.below BW.out)
  rw [← hwq]
  clear hwq PB HB0
  go_wp2_with fail
  refine (specPlanOk_any n A c bs _ HB.out (by omega)).mono ?_; rintro e w0 ⟨rfl, hb2⟩
  have R0 := Lib.hid (RS.out.below' hb2)
  have B0 := Lib.hid (via hb2 BW.out)
  have Q0 := Lib.hid (HB.out.below hb2)
  have hz2 := hb2.size
  replace p0 := cB hb2 p0
  replace p1 := cB hb2 p1
  clear hb2 RS BW HB
  cases hp : planOk n bs
  · clear hp
    obtain ⟨r0, r1, f0, f1⟩ := R0.out.two
    go_wp2
    refine bodyPost_ret (v := .agg #[.int .i64 0, .slice none 0 0]) (by simp [results, Try.results109, go_sem, r0, r1]) rfl ⟨0, none, 0, [], rfl, by simp, .inl ⟨rfl, rfl⟩, vset (vset B0.out (by dsimp only; omega) _) (by dsimp only; omega) _⟩
  clear hp
  go_upto_region 3 with (fail)
  go_cut [3] from 9 to 15 (fun s3 wx => ∃ (X : Nat) (G : Option Addr) (c2 : Nat) (L : List Bd), s3 = .pointer (some ⟨X, 0, none⟩) ∧ w0.heap.size ≤ X ∧ L.length = bs.length ∧ L.length ≤ c2 ∧ (G = none → c2 = 0) ∧ RB wx w0.heap.size wx.heap.size G L ∧ Blk wx X 25 #[.int .i64 n, .slice G L.length c2] ∧ Below w0.heap.size w0 wx)
  case first =>
    refine wp_region_held_drew (S := (fun w' => w'.cell? ⟨w.heap.size, 0, none⟩ = some (.int .i64 n) ∧ w'.cell? ⟨w.heap.size, 1, none⟩ = some (.slice A bs.length c))) (by kernel_rfl) ?_ (fun hHeld => ?_)
    · (try dsimp only)
      (first | done | exact ⟨cD p0, cD p1⟩)
    refine name_h (fun wa0 hwa0 => ?_)
    replace hHeld : ((fun w' => w'.cell? ⟨w.heap.size, 0, none⟩ = some (.int .i64 n) ∧ w'.cell? ⟨w.heap.size, 1, none⟩ = some (.slice A bs.length c))) wa0 := by rw [hwa0]; exact hHeld
    (have Zwa0 : w0.heap.size ≤ wa0.heap.size := (by rw [hwa0]; exact Nat.le_refl _); have Rwa0 := Lib.hid (show Below w0.heap.size w0 wa0 by rw [hwa0]; exact (Below.refl _ _).drew))
    clear hwa0
    (refine wpAnyH_take (i := 0) (v := ?tv1) rfl (by kernel_rfl) (by kernel_rfl) (by kernel_rfl) (fun _ _ _ h => h) (Or.inl ⟨by kernel_rfl, ?ty1⟩) (by assumption) ?tr1; (case ty1 => (intro w' hSw; (try dsimp only at hSw); go_simp <;> with_reducible rfl)); (try simp only [Act.put, List.getElem_toArray, List.getElem_cons_succ, List.getElem_cons_zero, List.setIfInBounds_toArray, List.set_cons_zero, List.set_cons_succ]))
    (refine wpAnyH_take (i := 1) (v := ?tv2) rfl (by kernel_rfl) (by kernel_rfl) (by kernel_rfl) (fun _ _ _ h => h) (Or.inl ⟨by kernel_rfl, ?ty2⟩) (by assumption) ?tr2; (case ty2 => (intro w' hSw; (try dsimp only at hSw); go_simp <;> with_reducible rfl)); (try simp only [Act.put, List.getElem_toArray, List.getElem_cons_succ, List.getElem_cons_zero, List.setIfInBounds_toArray, List.set_cons_zero, List.set_cons_succ]))
    (refine wpAnyH_take (i := 3) (v := ?tv3) rfl (by kernel_rfl) (by kernel_rfl) (by kernel_rfl) (fun _ _ _ h => h) (Or.inl ⟨by kernel_rfl, ?ty3⟩) (by assumption) ?tr3; (case ty3 => (intro w' hSw; (try dsimp only at hSw); go_simp <;> with_reducible rfl)); (try simp only [Act.put, List.getElem_toArray, List.getElem_cons_succ, List.getElem_cons_zero, List.setIfInBounds_toArray, List.set_cons_zero, List.set_cons_succ]))
    (refine wpAnyH_take (i := 4) (v := ?tv4) rfl (by kernel_rfl) (by kernel_rfl) (by kernel_rfl) (fun _ _ _ h => h) (Or.inl ⟨by kernel_rfl, ?ty4⟩) (by assumption) ?tr4; (case ty4 => (intro w' hSw; (try dsimp only at hSw); go_simp <;> with_reducible rfl)); (try simp only [Act.put, List.getElem_toArray, List.getElem_cons_succ, List.getElem_cons_zero, List.setIfInBounds_toArray, List.set_cons_zero, List.set_cons_succ]))
    refine wpAnyH_ready (rs := [2, 7]) (by kernel_rfl) (by simp) ?_
    refine (AllReadyH.cons rfl (fun K hK => ?b5_1) (AllReadyH.cons rfl (fun K hK => ?b5_2) AllReadyH.nil))
    case' b5_2 =>
      (go_simp; refine name_k (fun wa1 hwa1 => ?_); have Zwa1 := sizeE hwa1; have Rwa1 := Lib.hid (Below.allocE Rwa0.out Rwa0.out.size hwa1); (try have Ewa1 := Lib.hid (OwnB.allocE Ewa0.out hwa1)); (try have Vwa1 := Lib.hid (OwnB.allocE Vwa0.out hwa1)); (try have Uwa1 := Lib.hid (OwnB.allocE Uwa0.out hwa1)); (try have Nwa1 := Lib.hid (Blk.allocE Nwa0.out hwa1)); (try have Xwa1 := Lib.hid (Blk.allocE Xwa0.out hwa1)); have Xwa1 := Lib.hid (Blk.newE hwa1); clear hwa1)
      refine hK.out _ _ ?_ (fun hHeld => ?_)
      focus ((try dsimp only); (first | done | exact ⟨cB Rwa1.out p0, cB Rwa1.out p1⟩))
      clear hK K
      (try simp only [Act.put, List.getElem_toArray, List.getElem_cons_succ, List.getElem_cons_zero, List.setIfInBounds_toArray, List.set_cons_zero, List.set_cons_succ])
      refine wpAnyH_ready (rs := [2]) (by kernel_rfl) (by simp) ?_
      refine (AllReadyH.cons rfl (fun K hK => ?_) AllReadyH.nil)
      (go_simp; refine name_k (fun wa2 hwa2 => ?_); have Zwa2 := sizeE hwa2; have Rwa2 := Lib.hid (Below.allocE Rwa1.out Rwa1.out.size hwa2); (try have Ewa2 := Lib.hid (OwnB.allocE Ewa1.out hwa2)); (try have Vwa2 := Lib.hid (OwnB.allocE Vwa1.out hwa2)); (try have Uwa2 := Lib.hid (OwnB.allocE Uwa1.out hwa2)); (try have Nwa2 := Lib.hid (Blk.allocE Nwa1.out hwa2)); (try have Xwa2 := Lib.hid (Blk.allocE Xwa1.out hwa2)); have Ewa2 := Lib.hid (OwnB.emptyE hwa2 Rwa1.out.size); clear hwa2)
      refine hK.out _ _ ?_ (fun hHeld => ?_)
      focus ((try dsimp only); (first | done | exact ⟨cB Rwa2.out p0, cB Rwa2.out p1⟩))
      clear hK K
      (try simp only [Act.put, List.getElem_toArray, List.getElem_cons_succ, List.getElem_cons_zero, List.setIfInBounds_toArray, List.set_cons_zero, List.set_cons_succ])
      refine wpAnyH_ready (rs := [5]) (by kernel_rfl) (by simp) ?_
      refine (AllReadyH.cons rfl (fun K hK => ?_) AllReadyH.nil)
      (refine step_pushG (by rfl) _ _ (by rfl) w0.heap.size _ [] (by rfl) Ewa2.out A c bs.length bs rfl (by rfl) (Q0.out.below Rwa2.out) HA0.out (by simp; omega) Rwa2.out.size ?_; intro vwa3 wa3 ho hg; rw [List.nil_append] at ho; obtain ⟨L, hL⟩ : ∃ L, L = bs := ⟨_, rfl⟩; rw [← hL] at ho; have Zwa3 := hg.size; have Rwa3 := Lib.hid (Rwa2.out.trans (grownB Ewa2.out hg Rwa2.out.size)); (try have Nwa3 := Lib.hid (Nwa2.out.grown hg (by simp [Value.ownBlock]; omega))); (try have Xwa3 := Lib.hid (Xwa2.out.grownT Ewa2.out hg)); obtain ⟨G, c2, rfl, _⟩ := ho.bat; have Uwa3 := Lib.hid ho; have HL := Lib.hid hL; clear ho hg hL)
      refine hK.out _ _ ?_ (fun hHeld => ?_)
      focus ((try dsimp only); (first | done | exact ⟨cB Rwa3.out p0, cB Rwa3.out p1⟩))
      clear hK K
      (try simp only [Act.put, List.getElem_toArray, List.getElem_cons_succ, List.getElem_cons_zero, List.setIfInBounds_toArray, List.set_cons_zero, List.set_cons_succ])
      (refine wpAnyH_take (i := 6) (v := ?tv8) rfl (by kernel_rfl) (by kernel_rfl) (by kernel_rfl) (fun _ _ _ h => h) (Or.inl ⟨by kernel_rfl, ?ty8⟩) (by assumption) ?tr8; (case ty8 => (intro w' hSw; (try dsimp only at hSw); go_simp <;> with_reducible rfl)); (try simp only [Act.put, List.getElem_toArray, List.getElem_cons_succ, List.getElem_cons_zero, List.setIfInBounds_toArray, List.set_cons_zero, List.set_cons_succ]))
      refine wpAnyH_ready (rs := [8]) (by kernel_rfl) (by simp) ?_
      refine (AllReadyH.cons rfl (fun K hK => ?_) AllReadyH.nil)
      (obtain ⟨q0, q1, fr0, fr1⟩ := Xwa3.out.two; go_simp; refine name_k (fun wa4 hwa4 => ?_); obtain ⟨s1, s2, s3⟩ := storeE hwa4 Xwa3.out Uwa3.out Rwa3.out (by omega); have Uwa4 := Lib.hid s1; have Xwa4 := Lib.hid s2; have Rwa4 := Lib.hid s3; clear hwa4 s1 s2 s3 q0 q1 fr0 fr1)
      refine hK.out _ _ ?_ (fun hHeld => ?_)
      focus ((try dsimp only); (first | done | exact ⟨cB Rwa4.out p0, cB Rwa4.out p1⟩))
      clear hK K
      (try simp only [Act.put, List.getElem_toArray, List.getElem_cons_succ, List.getElem_cons_zero, List.setIfInBounds_toArray, List.set_cons_zero, List.set_cons_succ])
      refine wpAnyH_done (by kernel_rfl) ?_ _
    case' b5_1 =>
      (go_simp; refine name_k (fun wa1 hwa1 => ?_); have Zwa1 := sizeE hwa1; have Rwa1 := Lib.hid (Below.allocE Rwa0.out Rwa0.out.size hwa1); (try have Ewa1 := Lib.hid (OwnB.allocE Ewa0.out hwa1)); (try have Vwa1 := Lib.hid (OwnB.allocE Vwa0.out hwa1)); (try have Uwa1 := Lib.hid (OwnB.allocE Uwa0.out hwa1)); (try have Nwa1 := Lib.hid (Blk.allocE Nwa0.out hwa1)); (try have Xwa1 := Lib.hid (Blk.allocE Xwa0.out hwa1)); have Ewa1 := Lib.hid (OwnB.emptyE hwa1 Rwa0.out.size); clear hwa1)
      refine hK.out _ _ ?_ (fun hHeld => ?_)
      focus ((try dsimp only); (first | done | exact ⟨cB Rwa1.out p0, cB Rwa1.out p1⟩))
      clear hK K
      (try simp only [Act.put, List.getElem_toArray, List.getElem_cons_succ, List.getElem_cons_zero, List.setIfInBounds_toArray, List.set_cons_zero, List.set_cons_succ])
      refine wpAnyH_ready (rs := [5, 7]) (by kernel_rfl) (by simp) ?_
      refine (AllReadyH.cons rfl (fun K hK => ?b10_1) (AllReadyH.cons rfl (fun K hK => ?b10_2) AllReadyH.nil))
      case' b10_2 =>
        (go_simp; refine name_k (fun wa2 hwa2 => ?_); have Zwa2 := sizeE hwa2; have Rwa2 := Lib.hid (Below.allocE Rwa1.out Rwa1.out.size hwa2); (try have Ewa2 := Lib.hid (OwnB.allocE Ewa1.out hwa2)); (try have Vwa2 := Lib.hid (OwnB.allocE Vwa1.out hwa2)); (try have Uwa2 := Lib.hid (OwnB.allocE Uwa1.out hwa2)); (try have Nwa2 := Lib.hid (Blk.allocE Nwa1.out hwa2)); (try have Xwa2 := Lib.hid (Blk.allocE Xwa1.out hwa2)); have Xwa2 := Lib.hid (Blk.newE hwa2); clear hwa2)
        refine hK.out _ _ ?_ (fun hHeld => ?_)
        focus ((try dsimp only); (first | done | exact ⟨cB Rwa2.out p0, cB Rwa2.out p1⟩))
        clear hK K
        (try simp only [Act.put, List.getElem_toArray, List.getElem_cons_succ, List.getElem_cons_zero, List.setIfInBounds_toArray, List.set_cons_zero, List.set_cons_succ])
        refine wpAnyH_ready (rs := [5]) (by kernel_rfl) (by simp) ?_
        refine (AllReadyH.cons rfl (fun K hK => ?_) AllReadyH.nil)
        (refine step_pushG (by rfl) _ _ (by rfl) w0.heap.size _ [] (by rfl) Ewa2.out A c bs.length bs rfl (by rfl) (Q0.out.below Rwa2.out) HA0.out (by simp; omega) Rwa2.out.size ?_; intro vwa3 wa3 ho hg; rw [List.nil_append] at ho; obtain ⟨L, hL⟩ : ∃ L, L = bs := ⟨_, rfl⟩; rw [← hL] at ho; have Zwa3 := hg.size; have Rwa3 := Lib.hid (Rwa2.out.trans (grownB Ewa2.out hg Rwa2.out.size)); (try have Nwa3 := Lib.hid (Nwa2.out.grown hg (by simp [Value.ownBlock]; omega))); (try have Xwa3 := Lib.hid (Xwa2.out.grownT Ewa2.out hg)); obtain ⟨G, c2, rfl, _⟩ := ho.bat; have Uwa3 := Lib.hid ho; have HL := Lib.hid hL; clear ho hg hL)
        refine hK.out _ _ ?_ (fun hHeld => ?_)
        focus ((try dsimp only); (first | done | exact ⟨cB Rwa3.out p0, cB Rwa3.out p1⟩))
        clear hK K
        (try simp only [Act.put, List.getElem_toArray, List.getElem_cons_succ, List.getElem_cons_zero, List.setIfInBounds_toArray, List.set_cons_zero, List.set_cons_succ])
        (refine wpAnyH_take (i := 6) (v := ?tv12) rfl (by kernel_rfl) (by kernel_rfl) (by kernel_rfl) (fun _ _ _ h => h) (Or.inl ⟨by kernel_rfl, ?ty12⟩) (by assumption) ?tr12; (case ty12 => (intro w' hSw; (try dsimp only at hSw); go_simp <;> with_reducible rfl)); (try simp only [Act.put, List.getElem_toArray, List.getElem_cons_succ, List.getElem_cons_zero, List.setIfInBounds_toArray, List.set_cons_zero, List.set_cons_succ]))
        refine wpAnyH_ready (rs := [8]) (by kernel_rfl) (by simp) ?_
        refine (AllReadyH.cons rfl (fun K hK => ?_) AllReadyH.nil)
        (obtain ⟨q0, q1, fr0, fr1⟩ := Xwa3.out.two; go_simp; refine name_k (fun wa4 hwa4 => ?_); obtain ⟨s1, s2, s3⟩ := storeE hwa4 Xwa3.out Uwa3.out Rwa3.out (by omega); have Uwa4 := Lib.hid s1; have Xwa4 := Lib.hid s2; have Rwa4 := Lib.hid s3; clear hwa4 s1 s2 s3 q0 q1 fr0 fr1)
        refine hK.out _ _ ?_ (fun hHeld => ?_)
        focus ((try dsimp only); (first | done | exact ⟨cB Rwa4.out p0, cB Rwa4.out p1⟩))
        clear hK K
        (try simp only [Act.put, List.getElem_toArray, List.getElem_cons_succ, List.getElem_cons_zero, List.setIfInBounds_toArray, List.set_cons_zero, List.set_cons_succ])
        refine wpAnyH_done (by kernel_rfl) ?_ _
      case' b10_1 =>
        (refine step_pushG (by rfl) _ _ (by rfl) w0.heap.size _ [] (by rfl) Ewa1.out A c bs.length bs rfl (by rfl) (Q0.out.below Rwa1.out) HA0.out (by simp; omega) Rwa1.out.size ?_; intro vwa2 wa2 ho hg; rw [List.nil_append] at ho; obtain ⟨L, hL⟩ : ∃ L, L = bs := ⟨_, rfl⟩; rw [← hL] at ho; have Zwa2 := hg.size; have Rwa2 := Lib.hid (Rwa1.out.trans (grownB Ewa1.out hg Rwa1.out.size)); (try have Nwa2 := Lib.hid (Nwa1.out.grown hg (by simp [Value.ownBlock]; omega))); (try have Xwa2 := Lib.hid (Xwa1.out.grownT Ewa1.out hg)); obtain ⟨G, c2, rfl, _⟩ := ho.bat; have Uwa2 := Lib.hid ho; have HL := Lib.hid hL; clear ho hg hL)
        refine hK.out _ _ ?_ (fun hHeld => ?_)
        focus ((try dsimp only); (first | done | exact ⟨cB Rwa2.out p0, cB Rwa2.out p1⟩))
        clear hK K
        (try simp only [Act.put, List.getElem_toArray, List.getElem_cons_succ, List.getElem_cons_zero, List.setIfInBounds_toArray, List.set_cons_zero, List.set_cons_succ])
        (refine wpAnyH_take (i := 6) (v := ?tv14) rfl (by kernel_rfl) (by kernel_rfl) (by kernel_rfl) (fun _ _ _ h => h) (Or.inl ⟨by kernel_rfl, ?ty14⟩) (by assumption) ?tr14; (case ty14 => (intro w' hSw; (try dsimp only at hSw); go_simp <;> with_reducible rfl)); (try simp only [Act.put, List.getElem_toArray, List.getElem_cons_succ, List.getElem_cons_zero, List.setIfInBounds_toArray, List.set_cons_zero, List.set_cons_succ]))
        refine wpAnyH_ready (rs := [7]) (by kernel_rfl) (by simp) ?_
        refine (AllReadyH.cons rfl (fun K hK => ?_) AllReadyH.nil)
        (go_simp; refine name_k (fun wa3 hwa3 => ?_); have Zwa3 := sizeE hwa3; have Rwa3 := Lib.hid (Below.allocE Rwa2.out Rwa2.out.size hwa3); (try have Ewa3 := Lib.hid (OwnB.allocE Ewa2.out hwa3)); (try have Vwa3 := Lib.hid (OwnB.allocE Vwa2.out hwa3)); (try have Uwa3 := Lib.hid (OwnB.allocE Uwa2.out hwa3)); (try have Nwa3 := Lib.hid (Blk.allocE Nwa2.out hwa3)); (try have Xwa3 := Lib.hid (Blk.allocE Xwa2.out hwa3)); have Xwa3 := Lib.hid (Blk.newE hwa3); clear hwa3)
        refine hK.out _ _ ?_ (fun hHeld => ?_)
        focus ((try dsimp only); (first | done | exact ⟨cB Rwa3.out p0, cB Rwa3.out p1⟩))
        clear hK K
        (try simp only [Act.put, List.getElem_toArray, List.getElem_cons_succ, List.getElem_cons_zero, List.setIfInBounds_toArray, List.set_cons_zero, List.set_cons_succ])
        refine wpAnyH_ready (rs := [8]) (by kernel_rfl) (by simp) ?_
        refine (AllReadyH.cons rfl (fun K hK => ?_) AllReadyH.nil)
        (obtain ⟨q0, q1, fr0, fr1⟩ := Xwa3.out.two; go_simp; refine name_k (fun wa4 hwa4 => ?_); obtain ⟨s1, s2, s3⟩ := storeE hwa4 Xwa3.out Uwa3.out Rwa3.out (by omega); have Uwa4 := Lib.hid s1; have Xwa4 := Lib.hid s2; have Rwa4 := Lib.hid s3; clear hwa4 s1 s2 s3 q0 q1 fr0 fr1)
        refine hK.out _ _ ?_ (fun hHeld => ?_)
        focus ((try dsimp only); (first | done | exact ⟨cB Rwa4.out p0, cB Rwa4.out p1⟩))
        clear hK K
        (try simp only [Act.put, List.getElem_toArray, List.getElem_cons_succ, List.getElem_cons_zero, List.setIfInBounds_toArray, List.set_cons_zero, List.set_cons_succ])
        refine wpAnyH_done (by kernel_rfl) ?_ _
    all_goals go_wp2_with fail
    all_goals go_meet
    all_goals (obtain ⟨G', c', hv, hrb, hcc, hnn⟩ := Uwa4.out.rb)
    all_goals (obtain ⟨rfl, rfl⟩ : G = G' ∧ c2 = c' := by injection hv with e1 _ e2; exact ⟨e1, e2⟩)
    all_goals exact ⟨_, G, c2, L, rfl, by omega, by rw [HL.out], hcc, hnn, hrb, Xwa4.out, Rwa4.out⟩
  case rest =>
    obtain ⟨X, G, c2, L, rfl, hX, hLL, hcc, hnn, hrb, hQ, hb⟩ := hcut
    have RC := Lib.hid (R0.out.below' hb)
    have BC := Lib.hid (via hb B0.out)
    replace p0 := cB hb p0
    replace p1 := cB hb p1
    have HRB := Lib.hid hrb
    have HNN := Lib.hid hnn
    have HQ := Lib.hid hQ
    have hwl : IntKind.i64.wrap ((bs.length : Int) - 1) = (bs.length : Int) - 1 := IntWalk.i64_in _ ⟨by omega, by omega⟩
    have hLl : L.length ≤ 1000 := by omega
    have hXw : w.heap.size + 1 < X := by omega
    clear hrb hnn hQ hb R0 B0 Q0 hLL
    go_wp2
    clear p0 p1 hwl
    go_loopw [4] (fun v W => ∃ (i n2 : Int) (G : Option Addr) (c2 : Nat) (L : List Bd), v = .int .i64 i ∧ -1 ≤ i ∧ i ≤ 1000 ∧ L.length ≤ 1000 ∧ L.length ≤ c2 ∧ (G = none → c2 = 0) ∧ RB W w0.heap.size W.heap.size G L ∧ Blk W X 25 #[.int .i64 n2, .slice G L.length c2] ∧ Blk W (w.heap.size + 1) 25 #[.int .i64 0, .slice none 0 0] ∧ Below w.heap.size w W) (fun v _ => (intOf v + 1).toNat)
    case atStart => exact ⟨_, n, G, c2, L, rfl, by omega, by omega, hLl, hcc, HNN.out, HRB.out, HQ.out, RC.out, BC.out⟩
    case round =>
      clear HRB HNN HQ RC BC hLl hcc
      obtain ⟨i, n2, G, c2, L, rfl, hi1, hi2, hLl, hcc, hnn, hrb, hQ, hRS, hbw⟩ := hrel
      have HRB := Lib.hid hrb
      have HNN := Lib.hid hnn
      have HQ := Lib.hid hQ
      have HRS := Lib.hid hRS
      have HBW := Lib.hid hbw
      have x0 : wr.cell? ⟨X, 0, none⟩ = some (.int .i64 n2) := hQ.cell 0
      have x1 : wr.cell? ⟨X, 1, none⟩ = some (.slice G L.length c2) := hQ.cell 1
      have hzw := hbw.size
      have hXl := hQ.lt
      clear hrb hnn hQ hRS hbw
      by_cases hi : 0 ≤ i
      · have hwi : IntKind.i64.wrap (i - 1) = i - 1 := IntWalk.i64_in _ ⟨by omega, by omega⟩
        go_wp2_with fail
        refine (needless_any n2 G c2 L i _ HRB.out.bat hcc hLl).mono ?_; rintro e w3 ⟨⟨bb, rfl⟩, hb3⟩
        have B3 := Lib.hid (via hb3 HBW.out)
        have Q3 := Lib.hid (HQ.out.below' hb3)
        have S3 := Lib.hid (HRS.out.below' hb3)
        have hz3 := hb3.size
        have T3 := Lib.hid ((HRB.out.same (Same.of_below hb3 (Nat.le_refl _)) (Nat.le_refl _)).wide (Nat.le_refl _) hz3)
        replace x0 := cB hb3 x0
        replace x1 := cB hb3 x1
        clear hb3 HBW HQ HRS HRB
        cases bb
        · go_wp2
          go_roundw
          case rel => exact ⟨i - 1, n2, G, c2, L, by go_num, by omega, by omega, hLl, hcc, HNN.out, T3.out, Q3.out, S3.out, B3.out⟩
          case measure => simp [intOf]; omega
        · go_wp2_with fail
          refine (withoutBound_any n2 G c2 L i _ T3.out.bat hcc hLl).mono ?_; rintro e w5 ⟨n6, G6, c6, L6, ok6, rfl, l6, m6, k6, r6, hb5⟩
          have B5 := Lib.hid (via hb5 B3.out)
          have Q5 := Lib.hid (Q3.out.below' hb5)
          have S5 := Lib.hid (S3.out.below' hb5)
          have T5 := Lib.hid (r6.wide (lo' := w0.heap.size) (hi' := w5.heap.size) (by omega) (Nat.le_refl _))
          have K6 := Lib.hid k6
          have hz5 := hb5.size
          obtain ⟨q0, q1, f0, f1⟩ := Q5.out.two
          have Q9 := Lib.hid (show Blk ((w5.setCell ⟨X, 0, none⟩ (.int .i64 n6)).setCell ⟨X, 1, none⟩ (.slice G6 L6.length c6)) X 25 #[.int .i64 n6, .slice G6 L6.length c6] by simpa using (Q5.out.set_ 0 (.int .i64 n6)).set_ 1 (.slice G6 L6.length c6))
          have T9 := Lib.hid (show RB ((w5.setCell ⟨X, 0, none⟩ (.int .i64 n6)).setCell ⟨X, 1, none⟩ (.slice G6 L6.length c6)) w0.heap.size ((w5.setCell ⟨X, 0, none⟩ (.int .i64 n6)).setCell ⟨X, 1, none⟩ (.slice G6 L6.length c6)).heap.size G6 L6 by rw [szc, szc]; exact (T5.out.box Q5.out).box (Q5.out.set_ 0 _))
          have S9 := Lib.hid (show Blk ((w5.setCell ⟨X, 0, none⟩ (.int .i64 n6)).setCell ⟨X, 1, none⟩ (.slice G6 L6.length c6)) (w.heap.size + 1) 25 #[.int .i64 0, .slice none 0 0] from (S5.out.far (by dsimp only; omega) _).far (by dsimp only; omega) _)
          have B9 := Lib.hid (show Below w.heap.size w ((w5.setCell ⟨X, 0, none⟩ (.int .i64 n6)).setCell ⟨X, 1, none⟩ (.slice G6 L6.length c6)) from vset (vset B5.out (by dsimp only; omega) _) (by dsimp only; omega) _)
          clear hb5 r6 k6 B3 Q3 S3 T3 B5 Q5 S5 T5 x0 x1
          go_wp2
          go_roundw
          case rel => exact ⟨i - 1, n6, G6, c6, L6, by go_num, by omega, by omega, by omega, m6, K6.out, T9.out, Q9.out, S9.out, B9.out⟩
          case measure => simp [intOf]; omega
      · obtain ⟨r0, r1, f0, f1⟩ := HRS.out.two
        go_wp2
        refine bodyPost_ret (v := .agg #[.int .i64 n2, .slice G L.length c2]) (by simp [results, Try.results109, go_sem, r0, r1]) rfl ⟨n2, G, c2, L, rfl, hLl, ?_, vset (vset HBW.out (by dsimp only; omega) _) (by dsimp only; omega) _⟩
        rw [szc, szc]; exact ((HRB.out.box HRS.out).box (HRS.out.set_ 0 _)).wide (by omega) (Nat.le_refl _)
end Go.Proofs.Ytnompncmachgjaa
