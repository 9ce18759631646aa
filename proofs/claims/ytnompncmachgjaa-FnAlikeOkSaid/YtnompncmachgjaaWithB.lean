/- The contract of spec.WithBound: a new plan with one bound more, if that is one; for slices of at most a thousand bounds. -/
import Derived.Test.YtnompncmachgjaaStepKit
import Derived.Test.YtnompncmachgjaaKA
import Derived.Test.YtnompncmachgjaaDrawKit
namespace Go.Proofs.Ytnompncmachgjaa
open Go.RowKit
set_option linter.unusedVariables false
set_option maxRecDepth 10000
set_option linter.unusedSimpArgs false

def withOk (n : Int) (bs : List Bd) (x : Bd) : Bool := planOk n bs && planOk n (bs ++ [x])
/-- A plan, in new memory, and whether it is one. -/
def WithRes (n : Int) (bs : List Bd) (x : Bd) (w : World) (e : Ending) (w' : World) : Prop :=
  ∃ (n' : Int) (G : Option Addr) (c : Nat) (L : List Bd), e = .returned (.tuple #[.agg #[.int .i64 n', .slice G L.length c], .bool (withOk n bs x)]) ∧ (withOk n bs x = true → n' = n ∧ L = bs ++ [x]) ∧ (withOk n bs x = false → n' = 0 ∧ L = []) ∧ L.length ≤ c ∧ (G = none → c = 0) ∧ RB w' w.heap.size w'.heap.size G L ∧ Below w.heap.size w w'
set_option maxHeartbeats 4000000 in
theorem withBound_any (n : Int) (A : Option Addr) (c : Nat) (bs : List Bd) (f t m : Int) (w : World) (h : BAt w A bs) (h0 : A = none → c = 0) (hlen : bs.length ≤ 1000) :
    Calls Try.prog 131 #[.agg #[.int .i64 n, .slice A bs.length c], .agg #[.int .i64 f, .int .i64 t, .int .i64 m]] w (WithRes n bs ⟨f, t, m⟩ w) := by
  have HA0 := Lib.hid h0
  have HB0 := Lib.hid h
  clear h h0
  go_enter Try.func131, Try.ntmps131
  go_upto_region 1 with (fail)
  obtain ⟨w0, hw0⟩ : ∃ w0, w0 = ((w.alloc (.cells #[.int .i64 n, .slice A bs.length c] 25)).alloc (.cells #[.int .i64 f, .int .i64 t, .int .i64 m] 43)).alloc (.cells #[.int .i64 0, .slice none 0 0] 25) := ⟨_, rfl⟩
  have PB : Blk w0 w.heap.size 25 #[.int .i64 n, .slice A bs.length c] := by rw [hw0]; exact ((Blk.new w _ _).alloc _).alloc _
  have BB : Blk w0 (w.heap.size + 1) 43 #[.int .i64 f, .int .i64 t, .int .i64 m] := by rw [hw0]; exact (Blk.new' (by simp) _ _).alloc _
  have p0 : w0.cell? ⟨w.heap.size, 0, none⟩ = some (.int .i64 n) := PB.cell 0
  have p1 : w0.cell? ⟨w.heap.size, 1, none⟩ = some (.slice A bs.length c) := PB.cell 1
  have b0 : w0.cell? ⟨w.heap.size + 1, 0, none⟩ = some (.int .i64 f) := BB.cell 0
  have b1 : w0.cell? ⟨w.heap.size + 1, 1, none⟩ = some (.int .i64 t) := BB.cell 1
  have b2 : w0.cell? ⟨w.heap.size + 1, 2, none⟩ = some (.int .i64 m) := BB.cell 2
  have RS := Lib.hid (show Blk w0 (w.heap.size + 1 + 1) 25 #[.int .i64 0, .slice none 0 0] by rw [hw0]; exact Blk.new' (by simp) _ _)
  have BW := Lib.hid (show Below w.heap.size w w0 by rw [hw0]; exact valloc (valloc (valloc (Below.refl _ _) _) _) _)
  have HZ0 : w.heap.size + 2 < w0.heap.size := by rw [hw0]; simp
  have HB := Lib.hid (HB0.out.below BW.out)
  rw [← hw0]
  clear hw0 HB0 PB BB
  go_cut [6] from 7 to 16 (fun s6 wx => ∃ (X : Nat) (G : Option Addr) (c2 : Nat) (L : List Bd), s6 = .pointer (some ⟨X, 0, none⟩) ∧ w0.heap.size ≤ X ∧ L = bs ++ [⟨f, t, m⟩] ∧ OwnB wx w0.heap.size (.slice G L.length c2) L ∧ Blk wx X 25 #[.int .i64 n, .slice G L.length c2] ∧ Below w0.heap.size w0 wx)
  case first =>
    refine wp_region_held_drew (S := (fun w' => w'.cell? ⟨w.heap.size, 0, none⟩ = some (.int .i64 n) ∧ w'.cell? ⟨w.heap.size, 1, none⟩ = some (.slice A bs.length c) ∧ w'.cell? ⟨w.heap.size + 1, 0, none⟩ = some (.int .i64 f) ∧ w'.cell? ⟨w.heap.size + 1, 1, none⟩ = some (.int .i64 t) ∧ w'.cell? ⟨w.heap.size + 1, 2, none⟩ = some (.int .i64 m))) (by kernel_rfl) ?_ (fun hHeld => ?_)
    · (try dsimp only)
      (first | done | exact ⟨cD p0, cD p1, cD b0, cD b1, cD b2⟩)
    refine name_h (fun wa0 hwa0 => ?_)
    replace hHeld : ((fun w' => w'.cell? ⟨w.heap.size, 0, none⟩ = some (.int .i64 n) ∧ w'.cell? ⟨w.heap.size, 1, none⟩ = some (.slice A bs.length c) ∧ w'.cell? ⟨w.heap.size + 1, 0, none⟩ = some (.int .i64 f) ∧ w'.cell? ⟨w.heap.size + 1, 1, none⟩ = some (.int .i64 t) ∧ w'.cell? ⟨w.heap.size + 1, 2, none⟩ = some (.int .i64 m))) wa0 := by rw [hwa0]; exact hHeld
    (have Zwa0 : w0.heap.size ≤ wa0.heap.size := (by rw [hwa0]; exact Nat.le_refl _); have Rwa0 := Lib.hid (show Below w0.heap.size w0 wa0 by rw [hwa0]; exact (Below.refl _ _).drew))
    clear hwa0
    (refine wpAnyH_take (i := 0) (v := ?tv1) rfl (by kernel_rfl) (by kernel_rfl) (by kernel_rfl) (fun _ _ _ h => h) (Or.inl ⟨by kernel_rfl, ?ty1⟩) (by assumption) ?tr1; (case ty1 => (intro w' hSw; (try dsimp only at hSw); go_simp <;> with_reducible rfl)); (try simp only [Act.put, List.getElem_toArray, List.getElem_cons_succ, List.getElem_cons_zero, List.setIfInBounds_toArray, List.set_cons_zero, List.set_cons_succ]))
    (refine wpAnyH_take (i := 1) (v := ?tv2) rfl (by kernel_rfl) (by kernel_rfl) (by kernel_rfl) (fun _ _ _ h => h) (Or.inl ⟨by kernel_rfl, ?ty2⟩) (by assumption) ?tr2; (case ty2 => (intro w' hSw; (try dsimp only at hSw); go_simp <;> with_reducible rfl)); (try simp only [Act.put, List.getElem_toArray, List.getElem_cons_succ, List.getElem_cons_zero, List.setIfInBounds_toArray, List.set_cons_zero, List.set_cons_succ]))
    (refine wpAnyH_take (i := 3) (v := ?tv3) rfl (by kernel_rfl) (by kernel_rfl) (by kernel_rfl) (fun _ _ _ h => h) (Or.inl ⟨by kernel_rfl, ?ty3⟩) (by assumption) ?tr3; (case ty3 => (intro w' hSw; (try dsimp only at hSw); go_simp <;> with_reducible rfl)); (try simp only [Act.put, List.getElem_toArray, List.getElem_cons_succ, List.getElem_cons_zero, List.setIfInBounds_toArray, List.set_cons_zero, List.set_cons_succ]))
    (refine wpAnyH_take (i := 4) (v := ?tv4) rfl (by kernel_rfl) (by kernel_rfl) (by kernel_rfl) (fun _ _ _ h => h) (Or.inl ⟨by kernel_rfl, ?ty4⟩) (by assumption) ?tr4; (case ty4 => (intro w' hSw; (try dsimp only at hSw); go_simp <;> with_reducible rfl)); (try simp only [Act.put, List.getElem_toArray, List.getElem_cons_succ, List.getElem_cons_zero, List.setIfInBounds_toArray, List.set_cons_zero, List.set_cons_succ]))
    (refine wpAnyH_take (i := 6) (v := ?tv5) rfl (by kernel_rfl) (by kernel_rfl) (by kernel_rfl) (fun _ _ _ h => h) (Or.inl ⟨by kernel_rfl, ?ty5⟩) (by assumption) ?tr5; (case ty5 => (intro w' hSw; (try dsimp only at hSw); go_simp <;> with_reducible rfl)); (try simp only [Act.put, List.getElem_toArray, List.getElem_cons_succ, List.getElem_cons_zero, List.setIfInBounds_toArray, List.set_cons_zero, List.set_cons_succ]))
    refine wpAnyH_ready (rs := [2, 7, 10]) (by kernel_rfl) (by simp) ?_
    refine (AllReadyH.cons rfl (fun K hK => ?b6_1) (AllReadyH.cons rfl (fun K hK => ?b6_2) (AllReadyH.cons rfl (fun K hK => ?b6_3) AllReadyH.nil)))
    case' b6_3 =>
      (go_simp; refine name_k (fun wa1 hwa1 => ?_); have Zwa1 := sizeE hwa1; have Rwa1 := Lib.hid (Below.allocE Rwa0.out Rwa0.out.size hwa1); (try have Ewa1 := Lib.hid (OwnB.allocE Ewa0.out hwa1)); (try have Vwa1 := Lib.hid (OwnB.allocE Vwa0.out hwa1)); (try have Uwa1 := Lib.hid (OwnB.allocE Uwa0.out hwa1)); (try have Nwa1 := Lib.hid (Blk.allocE Nwa0.out hwa1)); (try have Xwa1 := Lib.hid (Blk.allocE Xwa0.out hwa1)); have Xwa1 := Lib.hid (Blk.newE hwa1); clear hwa1)
      refine hK.out _ _ ?_ (fun hHeld => ?_)
      focus ((try dsimp only); (first | done | exact ⟨cB Rwa1.out p0, cB Rwa1.out p1, cB Rwa1.out b0, cB Rwa1.out b1, cB Rwa1.out b2⟩))
      clear hK K
      (try simp only [Act.put, List.getElem_toArray, List.getElem_cons_succ, List.getElem_cons_zero, List.setIfInBounds_toArray, List.set_cons_zero, List.set_cons_succ])
      refine wpAnyH_ready (rs := [2, 7]) (by kernel_rfl) (by simp) ?_
      refine (AllReadyH.cons rfl (fun K hK => ?b7_1) (AllReadyH.cons rfl (fun K hK => ?b7_2) AllReadyH.nil))
      case' b7_2 =>
        (go_simp; refine name_k (fun wa2 hwa2 => ?_); have Zwa2 := sizeE hwa2; have Rwa2 := Lib.hid (Below.allocE Rwa1.out Rwa1.out.size hwa2); (try have Ewa2 := Lib.hid (OwnB.allocE Ewa1.out hwa2)); (try have Vwa2 := Lib.hid (OwnB.allocE Vwa1.out hwa2)); (try have Uwa2 := Lib.hid (OwnB.allocE Uwa1.out hwa2)); (try have Nwa2 := Lib.hid (Blk.allocE Nwa1.out hwa2)); (try have Xwa2 := Lib.hid (Blk.allocE Xwa1.out hwa2)); have Nwa2 := Lib.hid (Blk.newE hwa2); clear hwa2)
        refine hK.out _ _ ?_ (fun hHeld => ?_)
        focus ((try dsimp only); (first | done | exact ⟨cB Rwa2.out p0, cB Rwa2.out p1, cB Rwa2.out b0, cB Rwa2.out b1, cB Rwa2.out b2⟩))
        clear hK K
        (try simp only [Act.put, List.getElem_toArray, List.getElem_cons_succ, List.getElem_cons_zero, List.setIfInBounds_toArray, List.set_cons_zero, List.set_cons_succ])
        refine wpAnyH_ready (rs := [2]) (by kernel_rfl) (by simp) ?_
        refine (AllReadyH.cons rfl (fun K hK => ?_) AllReadyH.nil)
        (go_simp; refine name_k (fun wa3 hwa3 => ?_); have Zwa3 := sizeE hwa3; have Rwa3 := Lib.hid (Below.allocE Rwa2.out Rwa2.out.size hwa3); (try have Ewa3 := Lib.hid (OwnB.allocE Ewa2.out hwa3)); (try have Vwa3 := Lib.hid (OwnB.allocE Vwa2.out hwa3)); (try have Uwa3 := Lib.hid (OwnB.allocE Uwa2.out hwa3)); (try have Nwa3 := Lib.hid (Blk.allocE Nwa2.out hwa3)); (try have Xwa3 := Lib.hid (Blk.allocE Xwa2.out hwa3)); have Ewa3 := Lib.hid (OwnB.emptyE hwa3 Rwa2.out.size); clear hwa3)
        refine hK.out _ _ ?_ (fun hHeld => ?_)
        focus ((try dsimp only); (first | done | exact ⟨cB Rwa3.out p0, cB Rwa3.out p1, cB Rwa3.out b0, cB Rwa3.out b1, cB Rwa3.out b2⟩))
        clear hK K
        (try simp only [Act.put, List.getElem_toArray, List.getElem_cons_succ, List.getElem_cons_zero, List.setIfInBounds_toArray, List.set_cons_zero, List.set_cons_succ])
        refine wpAnyH_ready (rs := [5]) (by kernel_rfl) (by simp) ?_
        refine (AllReadyH.cons rfl (fun K hK => ?_) AllReadyH.nil)
        (refine step_pushG (by rfl) _ _ (by rfl) w0.heap.size _ [] (by rfl) Ewa3.out A c bs.length bs rfl (by rfl) (HB.out.below Rwa3.out) HA0.out (by simp; omega) Rwa3.out.size ?_; intro vwa4 wa4 ho hg; rw [List.nil_append] at ho; have Zwa4 := hg.size; have Rwa4 := Lib.hid (Rwa3.out.trans (grownB Ewa3.out hg Rwa3.out.size)); (try have Nwa4 := Lib.hid (Nwa3.out.grown hg (by simp [Value.ownBlock]; omega))); (try have Xwa4 := Lib.hid (Xwa3.out.grownT Ewa3.out hg)); obtain ⟨Gwa4, cwa4, rfl, _⟩ := ho.bat; have Vwa4 := Lib.hid ho; clear ho hg)
        refine hK.out _ _ ?_ (fun hHeld => ?_)
        focus ((try dsimp only); (first | done | exact ⟨cB Rwa4.out p0, cB Rwa4.out p1, cB Rwa4.out b0, cB Rwa4.out b1, cB Rwa4.out b2⟩))
        clear hK K
        (try simp only [Act.put, List.getElem_toArray, List.getElem_cons_succ, List.getElem_cons_zero, List.setIfInBounds_toArray, List.set_cons_zero, List.set_cons_succ])
        refine wpAnyH_ready (rs := [8]) (by kernel_rfl) (by simp) ?_
        refine (AllReadyH.cons rfl (fun K hK => ?_) AllReadyH.nil)
        (refine step_pushG (by rfl) _ _ (by rfl) w0.heap.size _ bs (by rfl) Vwa4.out _ 1 1 [⟨f, t, m⟩] rfl (by rfl) Nwa4.out.bat1 (fun q => by cases q) (by simp; omega) Rwa4.out.size ?_; intro vwa5 wa5 ho hg; obtain ⟨L, hL⟩ : ∃ L, L = bs ++ [Bd.mk f t m] := ⟨_, rfl⟩; rw [← hL] at ho; have Zwa5 := hg.size; have Rwa5 := Lib.hid (Rwa4.out.trans (grownB Vwa4.out hg Rwa4.out.size)); (try have Nwa5 := Lib.hid (Nwa4.out.grown hg (by simp [Value.ownBlock]; omega))); (try have Xwa5 := Lib.hid (Xwa4.out.grownT Vwa4.out hg)); obtain ⟨G, c2, rfl, _⟩ := ho.bat; have Uwa5 := Lib.hid ho; have HL := Lib.hid hL; clear ho hg hL)
        refine hK.out _ _ ?_ (fun hHeld => ?_)
        focus ((try dsimp only); (first | done | exact ⟨cB Rwa5.out p0, cB Rwa5.out p1, cB Rwa5.out b0, cB Rwa5.out b1, cB Rwa5.out b2⟩))
        clear hK K
        (try simp only [Act.put, List.getElem_toArray, List.getElem_cons_succ, List.getElem_cons_zero, List.setIfInBounds_toArray, List.set_cons_zero, List.set_cons_succ])
        (refine wpAnyH_take (i := 9) (v := ?tv11) rfl (by kernel_rfl) (by kernel_rfl) (by kernel_rfl) (fun _ _ _ h => h) (Or.inl ⟨by kernel_rfl, ?ty11⟩) (by assumption) ?tr11; (case ty11 => (intro w' hSw; (try dsimp only at hSw); go_simp <;> with_reducible rfl)); (try simp only [Act.put, List.getElem_toArray, List.getElem_cons_succ, List.getElem_cons_zero, List.setIfInBounds_toArray, List.set_cons_zero, List.set_cons_succ]))
        refine wpAnyH_ready (rs := [11]) (by kernel_rfl) (by simp) ?_
        refine (AllReadyH.cons rfl (fun K hK => ?_) AllReadyH.nil)
        (obtain ⟨q0, q1, fr0, fr1⟩ := Xwa5.out.two; go_simp; refine name_k (fun wa6 hwa6 => ?_); obtain ⟨s1, s2, s3⟩ := storeE hwa6 Xwa5.out Uwa5.out Rwa5.out (by omega); have Uwa6 := Lib.hid s1; have Xwa6 := Lib.hid s2; have Rwa6 := Lib.hid s3; clear hwa6 s1 s2 s3 q0 q1 fr0 fr1)
        refine hK.out _ _ ?_ (fun hHeld => ?_)
        focus ((try dsimp only); (first | done | exact ⟨cB Rwa6.out p0, cB Rwa6.out p1, cB Rwa6.out b0, cB Rwa6.out b1, cB Rwa6.out b2⟩))
        clear hK K
        (try simp only [Act.put, List.getElem_toArray, List.getElem_cons_succ, List.getElem_cons_zero, List.setIfInBounds_toArray, List.set_cons_zero, List.set_cons_succ])
        refine wpAnyH_done (by kernel_rfl) ?_ _
      case' b7_1 =>
        (go_simp; refine name_k (fun wa2 hwa2 => ?_); have Zwa2 := sizeE hwa2; have Rwa2 := Lib.hid (Below.allocE Rwa1.out Rwa1.out.size hwa2); (try have Ewa2 := Lib.hid (OwnB.allocE Ewa1.out hwa2)); (try have Vwa2 := Lib.hid (OwnB.allocE Vwa1.out hwa2)); (try have Uwa2 := Lib.hid (OwnB.allocE Uwa1.out hwa2)); (try have Nwa2 := Lib.hid (Blk.allocE Nwa1.out hwa2)); (try have Xwa2 := Lib.hid (Blk.allocE Xwa1.out hwa2)); have Ewa2 := Lib.hid (OwnB.emptyE hwa2 Rwa1.out.size); clear hwa2)
        refine hK.out _ _ ?_ (fun hHeld => ?_)
        focus ((try dsimp only); (first | done | exact ⟨cB Rwa2.out p0, cB Rwa2.out p1, cB Rwa2.out b0, cB Rwa2.out b1, cB Rwa2.out b2⟩))
        clear hK K
        (try simp only [Act.put, List.getElem_toArray, List.getElem_cons_succ, List.getElem_cons_zero, List.setIfInBounds_toArray, List.set_cons_zero, List.set_cons_succ])
        refine wpAnyH_ready (rs := [5, 7]) (by kernel_rfl) (by simp) ?_
        refine (AllReadyH.cons rfl (fun K hK => ?b13_1) (AllReadyH.cons rfl (fun K hK => ?b13_2) AllReadyH.nil))
        case' b13_2 =>
          (go_simp; refine name_k (fun wa3 hwa3 => ?_); have Zwa3 := sizeE hwa3; have Rwa3 := Lib.hid (Below.allocE Rwa2.out Rwa2.out.size hwa3); (try have Ewa3 := Lib.hid (OwnB.allocE Ewa2.out hwa3)); (try have Vwa3 := Lib.hid (OwnB.allocE Vwa2.out hwa3)); (try have Uwa3 := Lib.hid (OwnB.allocE Uwa2.out hwa3)); (try have Nwa3 := Lib.hid (Blk.allocE Nwa2.out hwa3)); (try have Xwa3 := Lib.hid (Blk.allocE Xwa2.out hwa3)); have Nwa3 := Lib.hid (Blk.newE hwa3); clear hwa3)
          refine hK.out _ _ ?_ (fun hHeld => ?_)
          focus ((try dsimp only); (first | done | exact ⟨cB Rwa3.out p0, cB Rwa3.out p1, cB Rwa3.out b0, cB Rwa3.out b1, cB Rwa3.out b2⟩))
          clear hK K
          (try simp only [Act.put, List.getElem_toArray, List.getElem_cons_succ, List.getElem_cons_zero, List.setIfInBounds_toArray, List.set_cons_zero, List.set_cons_succ])
          refine wpAnyH_ready (rs := [5]) (by kernel_rfl) (by simp) ?_
          refine (AllReadyH.cons rfl (fun K hK => ?_) AllReadyH.nil)
          (refine step_pushG (by rfl) _ _ (by rfl) w0.heap.size _ [] (by rfl) Ewa3.out A c bs.length bs rfl (by rfl) (HB.out.below Rwa3.out) HA0.out (by simp; omega) Rwa3.out.size ?_; intro vwa4 wa4 ho hg; rw [List.nil_append] at ho; have Zwa4 := hg.size; have Rwa4 := Lib.hid (Rwa3.out.trans (grownB Ewa3.out hg Rwa3.out.size)); (try have Nwa4 := Lib.hid (Nwa3.out.grown hg (by simp [Value.ownBlock]; omega))); (try have Xwa4 := Lib.hid (Xwa3.out.grownT Ewa3.out hg)); obtain ⟨Gwa4, cwa4, rfl, _⟩ := ho.bat; have Vwa4 := Lib.hid ho; clear ho hg)
          refine hK.out _ _ ?_ (fun hHeld => ?_)
          focus ((try dsimp only); (first | done | exact ⟨cB Rwa4.out p0, cB Rwa4.out p1, cB Rwa4.out b0, cB Rwa4.out b1, cB Rwa4.out b2⟩))
          clear hK K
          (try simp only [Act.put, List.getElem_toArray, List.getElem_cons_succ, List.getElem_cons_zero, List.setIfInBounds_toArray, List.set_cons_zero, List.set_cons_succ])
          refine wpAnyH_ready (rs := [8]) (by kernel_rfl) (by simp) ?_
          refine (AllReadyH.cons rfl (fun K hK => ?_) AllReadyH.nil)
          (refine step_pushG (by rfl) _ _ (by rfl) w0.heap.size _ bs (by rfl) Vwa4.out _ 1 1 [⟨f, t, m⟩] rfl (by rfl) Nwa4.out.bat1 (fun q => by cases q) (by simp; omega) Rwa4.out.size ?_; intro vwa5 wa5 ho hg; obtain ⟨L, hL⟩ : ∃ L, L = bs ++ [Bd.mk f t m] := ⟨_, rfl⟩; rw [← hL] at ho; have Zwa5 := hg.size; have Rwa5 := Lib.hid (Rwa4.out.trans (grownB Vwa4.out hg Rwa4.out.size)); (try have Nwa5 := Lib.hid (Nwa4.out.grown hg (by simp [Value.ownBlock]; omega))); (try have Xwa5 := Lib.hid (Xwa4.out.grownT Vwa4.out hg)); obtain ⟨G, c2, rfl, _⟩ := ho.bat; have Uwa5 := Lib.hid ho; have HL := Lib.hid hL; clear ho hg hL)
          refine hK.out _ _ ?_ (fun hHeld => ?_)
          focus ((try dsimp only); (first | done | exact ⟨cB Rwa5.out p0, cB Rwa5.out p1, cB Rwa5.out b0, cB Rwa5.out b1, cB Rwa5.out b2⟩))
          clear hK K
          (try simp only [Act.put, List.getElem_toArray, List.getElem_cons_succ, List.getElem_cons_zero, List.setIfInBounds_toArray, List.set_cons_zero, List.set_cons_succ])
          (refine wpAnyH_take (i := 9) (v := ?tv16) rfl (by kernel_rfl) (by kernel_rfl) (by kernel_rfl) (fun _ _ _ h => h) (Or.inl ⟨by kernel_rfl, ?ty16⟩) (by assumption) ?tr16; (case ty16 => (intro w' hSw; (try dsimp only at hSw); go_simp <;> with_reducible rfl)); (try simp only [Act.put, List.getElem_toArray, List.getElem_cons_succ, List.getElem_cons_zero, List.setIfInBounds_toArray, List.set_cons_zero, List.set_cons_succ]))
          refine wpAnyH_ready (rs := [11]) (by kernel_rfl) (by simp) ?_
          refine (AllReadyH.cons rfl (fun K hK => ?_) AllReadyH.nil)
          (obtain ⟨q0, q1, fr0, fr1⟩ := Xwa5.out.two; go_simp; refine name_k (fun wa6 hwa6 => ?_); obtain ⟨s1, s2, s3⟩ := storeE hwa6 Xwa5.out Uwa5.out Rwa5.out (by omega); have Uwa6 := Lib.hid s1; have Xwa6 := Lib.hid s2; have Rwa6 := Lib.hid s3; clear hwa6 s1 s2 s3 q0 q1 fr0 fr1)
          refine hK.out _ _ ?_ (fun hHeld => ?_)
          focus ((try dsimp only); (first | done | exact ⟨cB Rwa6.out p0, cB Rwa6.out p1, cB Rwa6.out b0, cB Rwa6.out b1, cB Rwa6.out b2⟩))
          clear hK K
          (try simp only [Act.put, List.getElem_toArray, List.getElem_cons_succ, List.getElem_cons_zero, List.setIfInBounds_toArray, List.set_cons_zero, List.set_cons_succ])
          refine wpAnyH_done (by kernel_rfl) ?_ _
        case' b13_1 =>
          (refine step_pushG (by rfl) _ _ (by rfl) w0.heap.size _ [] (by rfl) Ewa2.out A c bs.length bs rfl (by rfl) (HB.out.below Rwa2.out) HA0.out (by simp; omega) Rwa2.out.size ?_; intro vwa3 wa3 ho hg; rw [List.nil_append] at ho; have Zwa3 := hg.size; have Rwa3 := Lib.hid (Rwa2.out.trans (grownB Ewa2.out hg Rwa2.out.size)); (try have Nwa3 := Lib.hid (Nwa2.out.grown hg (by simp [Value.ownBlock]; omega))); (try have Xwa3 := Lib.hid (Xwa2.out.grownT Ewa2.out hg)); obtain ⟨Gwa3, cwa3, rfl, _⟩ := ho.bat; have Vwa3 := Lib.hid ho; clear ho hg)
          refine hK.out _ _ ?_ (fun hHeld => ?_)
          focus ((try dsimp only); (first | done | exact ⟨cB Rwa3.out p0, cB Rwa3.out p1, cB Rwa3.out b0, cB Rwa3.out b1, cB Rwa3.out b2⟩))
          clear hK K
          (try simp only [Act.put, List.getElem_toArray, List.getElem_cons_succ, List.getElem_cons_zero, List.setIfInBounds_toArray, List.set_cons_zero, List.set_cons_succ])
          refine wpAnyH_ready (rs := [7]) (by kernel_rfl) (by simp) ?_
          refine (AllReadyH.cons rfl (fun K hK => ?_) AllReadyH.nil)
          (go_simp; refine name_k (fun wa4 hwa4 => ?_); have Zwa4 := sizeE hwa4; have Rwa4 := Lib.hid (Below.allocE Rwa3.out Rwa3.out.size hwa4); (try have Ewa4 := Lib.hid (OwnB.allocE Ewa3.out hwa4)); (try have Vwa4 := Lib.hid (OwnB.allocE Vwa3.out hwa4)); (try have Uwa4 := Lib.hid (OwnB.allocE Uwa3.out hwa4)); (try have Nwa4 := Lib.hid (Blk.allocE Nwa3.out hwa4)); (try have Xwa4 := Lib.hid (Blk.allocE Xwa3.out hwa4)); have Nwa4 := Lib.hid (Blk.newE hwa4); clear hwa4)
          refine hK.out _ _ ?_ (fun hHeld => ?_)
          focus ((try dsimp only); (first | done | exact ⟨cB Rwa4.out p0, cB Rwa4.out p1, cB Rwa4.out b0, cB Rwa4.out b1, cB Rwa4.out b2⟩))
          clear hK K
          (try simp only [Act.put, List.getElem_toArray, List.getElem_cons_succ, List.getElem_cons_zero, List.setIfInBounds_toArray, List.set_cons_zero, List.set_cons_succ])
          refine wpAnyH_ready (rs := [8]) (by kernel_rfl) (by simp) ?_
          refine (AllReadyH.cons rfl (fun K hK => ?_) AllReadyH.nil)
          (refine step_pushG (by rfl) _ _ (by rfl) w0.heap.size _ bs (by rfl) Vwa4.out _ 1 1 [⟨f, t, m⟩] rfl (by rfl) Nwa4.out.bat1 (fun q => by cases q) (by simp; omega) Rwa4.out.size ?_; intro vwa5 wa5 ho hg; obtain ⟨L, hL⟩ : ∃ L, L = bs ++ [Bd.mk f t m] := ⟨_, rfl⟩; rw [← hL] at ho; have Zwa5 := hg.size; have Rwa5 := Lib.hid (Rwa4.out.trans (grownB Vwa4.out hg Rwa4.out.size)); (try have Nwa5 := Lib.hid (Nwa4.out.grown hg (by simp [Value.ownBlock]; omega))); (try have Xwa5 := Lib.hid (Xwa4.out.grownT Vwa4.out hg)); obtain ⟨G, c2, rfl, _⟩ := ho.bat; have Uwa5 := Lib.hid ho; have HL := Lib.hid hL; clear ho hg hL)
          refine hK.out _ _ ?_ (fun hHeld => ?_)
          focus ((try dsimp only); (first | done | exact ⟨cB Rwa5.out p0, cB Rwa5.out p1, cB Rwa5.out b0, cB Rwa5.out b1, cB Rwa5.out b2⟩))
          clear hK K
          (try simp only [Act.put, List.getElem_toArray, List.getElem_cons_succ, List.getElem_cons_zero, List.setIfInBounds_toArray, List.set_cons_zero, List.set_cons_succ])
          (refine wpAnyH_take (i := 9) (v := ?tv20) rfl (by kernel_rfl) (by kernel_rfl) (by kernel_rfl) (fun _ _ _ h => h) (Or.inl ⟨by kernel_rfl, ?ty20⟩) (by assumption) ?tr20; (case ty20 => (intro w' hSw; (try dsimp only at hSw); go_simp <;> with_reducible rfl)); (try simp only [Act.put, List.getElem_toArray, List.getElem_cons_succ, List.getElem_cons_zero, List.setIfInBounds_toArray, List.set_cons_zero, List.set_cons_succ]))
          refine wpAnyH_ready (rs := [11]) (by kernel_rfl) (by simp) ?_
          refine (AllReadyH.cons rfl (fun K hK => ?_) AllReadyH.nil)
          (obtain ⟨q0, q1, fr0, fr1⟩ := Xwa5.out.two; go_simp; refine name_k (fun wa6 hwa6 => ?_); obtain ⟨s1, s2, s3⟩ := storeE hwa6 Xwa5.out Uwa5.out Rwa5.out (by omega); have Uwa6 := Lib.hid s1; have Xwa6 := Lib.hid s2; have Rwa6 := Lib.hid s3; clear hwa6 s1 s2 s3 q0 q1 fr0 fr1)
          refine hK.out _ _ ?_ (fun hHeld => ?_)
          focus ((try dsimp only); (first | done | exact ⟨cB Rwa6.out p0, cB Rwa6.out p1, cB Rwa6.out b0, cB Rwa6.out b1, cB Rwa6.out b2⟩))
          clear hK K
          (try simp only [Act.put, List.getElem_toArray, List.getElem_cons_succ, List.getElem_cons_zero, List.setIfInBounds_toArray, List.set_cons_zero, List.set_cons_succ])
          refine wpAnyH_done (by kernel_rfl) ?_ _
    case' b6_2 =>
      (go_simp; refine name_k (fun wa1 hwa1 => ?_); have Zwa1 := sizeE hwa1; have Rwa1 := Lib.hid (Below.allocE Rwa0.out Rwa0.out.size hwa1); (try have Ewa1 := Lib.hid (OwnB.allocE Ewa0.out hwa1)); (try have Vwa1 := Lib.hid (OwnB.allocE Vwa0.out hwa1)); (try have Uwa1 := Lib.hid (OwnB.allocE Uwa0.out hwa1)); (try have Nwa1 := Lib.hid (Blk.allocE Nwa0.out hwa1)); (try have Xwa1 := Lib.hid (Blk.allocE Xwa0.out hwa1)); have Nwa1 := Lib.hid (Blk.newE hwa1); clear hwa1)
      refine hK.out _ _ ?_ (fun hHeld => ?_)
      focus ((try dsimp only); (first | done | exact ⟨cB Rwa1.out p0, cB Rwa1.out p1, cB Rwa1.out b0, cB Rwa1.out b1, cB Rwa1.out b2⟩))
      clear hK K
      (try simp only [Act.put, List.getElem_toArray, List.getElem_cons_succ, List.getElem_cons_zero, List.setIfInBounds_toArray, List.set_cons_zero, List.set_cons_succ])
      refine wpAnyH_ready (rs := [2, 10]) (by kernel_rfl) (by simp) ?_
      refine (AllReadyH.cons rfl (fun K hK => ?b22_1) (AllReadyH.cons rfl (fun K hK => ?b22_2) AllReadyH.nil))
      case' b22_2 =>
        (go_simp; refine name_k (fun wa2 hwa2 => ?_); have Zwa2 := sizeE hwa2; have Rwa2 := Lib.hid (Below.allocE Rwa1.out Rwa1.out.size hwa2); (try have Ewa2 := Lib.hid (OwnB.allocE Ewa1.out hwa2)); (try have Vwa2 := Lib.hid (OwnB.allocE Vwa1.out hwa2)); (try have Uwa2 := Lib.hid (OwnB.allocE Uwa1.out hwa2)); (try have Nwa2 := Lib.hid (Blk.allocE Nwa1.out hwa2)); (try have Xwa2 := Lib.hid (Blk.allocE Xwa1.out hwa2)); have Xwa2 := Lib.hid (Blk.newE hwa2); clear hwa2)
        refine hK.out _ _ ?_ (fun hHeld => ?_)
        focus ((try dsimp only); (first | done | exact ⟨cB Rwa2.out p0, cB Rwa2.out p1, cB Rwa2.out b0, cB Rwa2.out b1, cB Rwa2.out b2⟩))
        clear hK K
        (try simp only [Act.put, List.getElem_toArray, List.getElem_cons_succ, List.getElem_cons_zero, List.setIfInBounds_toArray, List.set_cons_zero, List.set_cons_succ])
        refine wpAnyH_ready (rs := [2]) (by kernel_rfl) (by simp) ?_
        refine (AllReadyH.cons rfl (fun K hK => ?_) AllReadyH.nil)
        (go_simp; refine name_k (fun wa3 hwa3 => ?_); have Zwa3 := sizeE hwa3; have Rwa3 := Lib.hid (Below.allocE Rwa2.out Rwa2.out.size hwa3); (try have Ewa3 := Lib.hid (OwnB.allocE Ewa2.out hwa3)); (try have Vwa3 := Lib.hid (OwnB.allocE Vwa2.out hwa3)); (try have Uwa3 := Lib.hid (OwnB.allocE Uwa2.out hwa3)); (try have Nwa3 := Lib.hid (Blk.allocE Nwa2.out hwa3)); (try have Xwa3 := Lib.hid (Blk.allocE Xwa2.out hwa3)); have Ewa3 := Lib.hid (OwnB.emptyE hwa3 Rwa2.out.size); clear hwa3)
        refine hK.out _ _ ?_ (fun hHeld => ?_)
        focus ((try dsimp only); (first | done | exact ⟨cB Rwa3.out p0, cB Rwa3.out p1, cB Rwa3.out b0, cB Rwa3.out b1, cB Rwa3.out b2⟩))
        clear hK K
        (try simp only [Act.put, List.getElem_toArray, List.getElem_cons_succ, List.getElem_cons_zero, List.setIfInBounds_toArray, List.set_cons_zero, List.set_cons_succ])
        refine wpAnyH_ready (rs := [5]) (by kernel_rfl) (by simp) ?_
        refine (AllReadyH.cons rfl (fun K hK => ?_) AllReadyH.nil)
        (refine step_pushG (by rfl) _ _ (by rfl) w0.heap.size _ [] (by rfl) Ewa3.out A c bs.length bs rfl (by rfl) (HB.out.below Rwa3.out) HA0.out (by simp; omega) Rwa3.out.size ?_; intro vwa4 wa4 ho hg; rw [List.nil_append] at ho; have Zwa4 := hg.size; have Rwa4 := Lib.hid (Rwa3.out.trans (grownB Ewa3.out hg Rwa3.out.size)); (try have Nwa4 := Lib.hid (Nwa3.out.grown hg (by simp [Value.ownBlock]; omega))); (try have Xwa4 := Lib.hid (Xwa3.out.grownT Ewa3.out hg)); obtain ⟨Gwa4, cwa4, rfl, _⟩ := ho.bat; have Vwa4 := Lib.hid ho; clear ho hg)
        refine hK.out _ _ ?_ (fun hHeld => ?_)
        focus ((try dsimp only); (first | done | exact ⟨cB Rwa4.out p0, cB Rwa4.out p1, cB Rwa4.out b0, cB Rwa4.out b1, cB Rwa4.out b2⟩))
        clear hK K
        (try simp only [Act.put, List.getElem_toArray, List.getElem_cons_succ, List.getElem_cons_zero, List.setIfInBounds_toArray, List.set_cons_zero, List.set_cons_succ])
        refine wpAnyH_ready (rs := [8]) (by kernel_rfl) (by simp) ?_
        refine (AllReadyH.cons rfl (fun K hK => ?_) AllReadyH.nil)
        (refine step_pushG (by rfl) _ _ (by rfl) w0.heap.size _ bs (by rfl) Vwa4.out _ 1 1 [⟨f, t, m⟩] rfl (by rfl) Nwa4.out.bat1 (fun q => by cases q) (by simp; omega) Rwa4.out.size ?_; intro vwa5 wa5 ho hg; obtain ⟨L, hL⟩ : ∃ L, L = bs ++ [Bd.mk f t m] := ⟨_, rfl⟩; rw [← hL] at ho; have Zwa5 := hg.size; have Rwa5 := Lib.hid (Rwa4.out.trans (grownB Vwa4.out hg Rwa4.out.size)); (try have Nwa5 := Lib.hid (Nwa4.out.grown hg (by simp [Value.ownBlock]; omega))); (try have Xwa5 := Lib.hid (Xwa4.out.grownT Vwa4.out hg)); obtain ⟨G, c2, rfl, _⟩ := ho.bat; have Uwa5 := Lib.hid ho; have HL := Lib.hid hL; clear ho hg hL)
        refine hK.out _ _ ?_ (fun hHeld => ?_)
        focus ((try dsimp only); (first | done | exact ⟨cB Rwa5.out p0, cB Rwa5.out p1, cB Rwa5.out b0, cB Rwa5.out b1, cB Rwa5.out b2⟩))
        clear hK K
        (try simp only [Act.put, List.getElem_toArray, List.getElem_cons_succ, List.getElem_cons_zero, List.setIfInBounds_toArray, List.set_cons_zero, List.set_cons_succ])
        (refine wpAnyH_take (i := 9) (v := ?tv26) rfl (by kernel_rfl) (by kernel_rfl) (by kernel_rfl) (fun _ _ _ h => h) (Or.inl ⟨by kernel_rfl, ?ty26⟩) (by assumption) ?tr26; (case ty26 => (intro w' hSw; (try dsimp only at hSw); go_simp <;> with_reducible rfl)); (try simp only [Act.put, List.getElem_toArray, List.getElem_cons_succ, List.getElem_cons_zero, List.setIfInBounds_toArray, List.set_cons_zero, List.set_cons_succ]))
        refine wpAnyH_ready (rs := [11]) (by kernel_rfl) (by simp) ?_
        refine (AllReadyH.cons rfl (fun K hK => ?_) AllReadyH.nil)
        (obtain ⟨q0, q1, fr0, fr1⟩ := Xwa5.out.two; go_simp; refine name_k (fun wa6 hwa6 => ?_); obtain ⟨s1, s2, s3⟩ := storeE hwa6 Xwa5.out Uwa5.out Rwa5.out (by omega); have Uwa6 := Lib.hid s1; have Xwa6 := Lib.hid s2; have Rwa6 := Lib.hid s3; clear hwa6 s1 s2 s3 q0 q1 fr0 fr1)
        refine hK.out _ _ ?_ (fun hHeld => ?_)
        focus ((try dsimp only); (first | done | exact ⟨cB Rwa6.out p0, cB Rwa6.out p1, cB Rwa6.out b0, cB Rwa6.out b1, cB Rwa6.out b2⟩))
        clear hK K
        (try simp only [Act.put, List.getElem_toArray, List.getElem_cons_succ, List.getElem_cons_zero, List.setIfInBounds_toArray, List.set_cons_zero, List.set_cons_succ])
        refine wpAnyH_done (by kernel_rfl) ?_ _
      case' b22_1 =>
        (go_simp; refine name_k (fun wa2 hwa2 => ?_); have Zwa2 := sizeE hwa2; have Rwa2 := Lib.hid (Below.allocE Rwa1.out Rwa1.out.size hwa2); (try have Ewa2 := Lib.hid (OwnB.allocE Ewa1.out hwa2)); (try have Vwa2 := Lib.hid (OwnB.allocE Vwa1.out hwa2)); (try have Uwa2 := Lib.hid (OwnB.allocE Uwa1.out hwa2)); (try have Nwa2 := Lib.hid (Blk.allocE Nwa1.out hwa2)); (try have Xwa2 := Lib.hid (Blk.allocE Xwa1.out hwa2)); have Ewa2 := Lib.hid (OwnB.emptyE hwa2 Rwa1.out.size); clear hwa2)
        refine hK.out _ _ ?_ (fun hHeld => ?_)
        focus ((try dsimp only); (first | done | exact ⟨cB Rwa2.out p0, cB Rwa2.out p1, cB Rwa2.out b0, cB Rwa2.out b1, cB Rwa2.out b2⟩))
        clear hK K
        (try simp only [Act.put, List.getElem_toArray, List.getElem_cons_succ, List.getElem_cons_zero, List.setIfInBounds_toArray, List.set_cons_zero, List.set_cons_succ])
        refine wpAnyH_ready (rs := [5, 10]) (by kernel_rfl) (by simp) ?_
        refine (AllReadyH.cons rfl (fun K hK => ?b28_1) (AllReadyH.cons rfl (fun K hK => ?b28_2) AllReadyH.nil))
        case' b28_2 =>
          (go_simp; refine name_k (fun wa3 hwa3 => ?_); have Zwa3 := sizeE hwa3; have Rwa3 := Lib.hid (Below.allocE Rwa2.out Rwa2.out.size hwa3); (try have Ewa3 := Lib.hid (OwnB.allocE Ewa2.out hwa3)); (try have Vwa3 := Lib.hid (OwnB.allocE Vwa2.out hwa3)); (try have Uwa3 := Lib.hid (OwnB.allocE Uwa2.out hwa3)); (try have Nwa3 := Lib.hid (Blk.allocE Nwa2.out hwa3)); (try have Xwa3 := Lib.hid (Blk.allocE Xwa2.out hwa3)); have Xwa3 := Lib.hid (Blk.newE hwa3); clear hwa3)
          refine hK.out _ _ ?_ (fun hHeld => ?_)
          focus ((try dsimp only); (first | done | exact ⟨cB Rwa3.out p0, cB Rwa3.out p1, cB Rwa3.out b0, cB Rwa3.out b1, cB Rwa3.out b2⟩))
          clear hK K
          (try simp only [Act.put, List.getElem_toArray, List.getElem_cons_succ, List.getElem_cons_zero, List.setIfInBounds_toArray, List.set_cons_zero, List.set_cons_succ])
          refine wpAnyH_ready (rs := [5]) (by kernel_rfl) (by simp) ?_
          refine (AllReadyH.cons rfl (fun K hK => ?_) AllReadyH.nil)
          (refine step_pushG (by rfl) _ _ (by rfl) w0.heap.size _ [] (by rfl) Ewa3.out A c bs.length bs rfl (by rfl) (HB.out.below Rwa3.out) HA0.out (by simp; omega) Rwa3.out.size ?_; intro vwa4 wa4 ho hg; rw [List.nil_append] at ho; have Zwa4 := hg.size; have Rwa4 := Lib.hid (Rwa3.out.trans (grownB Ewa3.out hg Rwa3.out.size)); (try have Nwa4 := Lib.hid (Nwa3.out.grown hg (by simp [Value.ownBlock]; omega))); (try have Xwa4 := Lib.hid (Xwa3.out.grownT Ewa3.out hg)); obtain ⟨Gwa4, cwa4, rfl, _⟩ := ho.bat; have Vwa4 := Lib.hid ho; clear ho hg)
          refine hK.out _ _ ?_ (fun hHeld => ?_)
          focus ((try dsimp only); (first | done | exact ⟨cB Rwa4.out p0, cB Rwa4.out p1, cB Rwa4.out b0, cB Rwa4.out b1, cB Rwa4.out b2⟩))
          clear hK K
          (try simp only [Act.put, List.getElem_toArray, List.getElem_cons_succ, List.getElem_cons_zero, List.setIfInBounds_toArray, List.set_cons_zero, List.set_cons_succ])
          refine wpAnyH_ready (rs := [8]) (by kernel_rfl) (by simp) ?_
          refine (AllReadyH.cons rfl (fun K hK => ?_) AllReadyH.nil)
          (refine step_pushG (by rfl) _ _ (by rfl) w0.heap.size _ bs (by rfl) Vwa4.out _ 1 1 [⟨f, t, m⟩] rfl (by rfl) Nwa4.out.bat1 (fun q => by cases q) (by simp; omega) Rwa4.out.size ?_; intro vwa5 wa5 ho hg; obtain ⟨L, hL⟩ : ∃ L, L = bs ++ [Bd.mk f t m] := ⟨_, rfl⟩; rw [← hL] at ho; have Zwa5 := hg.size; have Rwa5 := Lib.hid (Rwa4.out.trans (grownB Vwa4.out hg Rwa4.out.size)); (try have Nwa5 := Lib.hid (Nwa4.out.grown hg (by simp [Value.ownBlock]; omega))); (try have Xwa5 := Lib.hid (Xwa4.out.grownT Vwa4.out hg)); obtain ⟨G, c2, rfl, _⟩ := ho.bat; have Uwa5 := Lib.hid ho; have HL := Lib.hid hL; clear ho hg hL)
          refine hK.out _ _ ?_ (fun hHeld => ?_)
          focus ((try dsimp only); (first | done | exact ⟨cB Rwa5.out p0, cB Rwa5.out p1, cB Rwa5.out b0, cB Rwa5.out b1, cB Rwa5.out b2⟩))
          clear hK K
          (try simp only [Act.put, List.getElem_toArray, List.getElem_cons_succ, List.getElem_cons_zero, List.setIfInBounds_toArray, List.set_cons_zero, List.set_cons_succ])
          (refine wpAnyH_take (i := 9) (v := ?tv31) rfl (by kernel_rfl) (by kernel_rfl) (by kernel_rfl) (fun _ _ _ h => h) (Or.inl ⟨by kernel_rfl, ?ty31⟩) (by assumption) ?tr31; (case ty31 => (intro w' hSw; (try dsimp only at hSw); go_simp <;> with_reducible rfl)); (try simp only [Act.put, List.getElem_toArray, List.getElem_cons_succ, List.getElem_cons_zero, List.setIfInBounds_toArray, List.set_cons_zero, List.set_cons_succ]))
          refine wpAnyH_ready (rs := [11]) (by kernel_rfl) (by simp) ?_
          refine (AllReadyH.cons rfl (fun K hK => ?_) AllReadyH.nil)
          (obtain ⟨q0, q1, fr0, fr1⟩ := Xwa5.out.two; go_simp; refine name_k (fun wa6 hwa6 => ?_); obtain ⟨s1, s2, s3⟩ := storeE hwa6 Xwa5.out Uwa5.out Rwa5.out (by omega); have Uwa6 := Lib.hid s1; have Xwa6 := Lib.hid s2; have Rwa6 := Lib.hid s3; clear hwa6 s1 s2 s3 q0 q1 fr0 fr1)
          refine hK.out _ _ ?_ (fun hHeld => ?_)
          focus ((try dsimp only); (first | done | exact ⟨cB Rwa6.out p0, cB Rwa6.out p1, cB Rwa6.out b0, cB Rwa6.out b1, cB Rwa6.out b2⟩))
          clear hK K
          (try simp only [Act.put, List.getElem_toArray, List.getElem_cons_succ, List.getElem_cons_zero, List.setIfInBounds_toArray, List.set_cons_zero, List.set_cons_succ])
          refine wpAnyH_done (by kernel_rfl) ?_ _
        case' b28_1 =>
          (refine step_pushG (by rfl) _ _ (by rfl) w0.heap.size _ [] (by rfl) Ewa2.out A c bs.length bs rfl (by rfl) (HB.out.below Rwa2.out) HA0.out (by simp; omega) Rwa2.out.size ?_; intro vwa3 wa3 ho hg; rw [List.nil_append] at ho; have Zwa3 := hg.size; have Rwa3 := Lib.hid (Rwa2.out.trans (grownB Ewa2.out hg Rwa2.out.size)); (try have Nwa3 := Lib.hid (Nwa2.out.grown hg (by simp [Value.ownBlock]; omega))); (try have Xwa3 := Lib.hid (Xwa2.out.grownT Ewa2.out hg)); obtain ⟨Gwa3, cwa3, rfl, _⟩ := ho.bat; have Vwa3 := Lib.hid ho; clear ho hg)
          refine hK.out _ _ ?_ (fun hHeld => ?_)
          focus ((try dsimp only); (first | done | exact ⟨cB Rwa3.out p0, cB Rwa3.out p1, cB Rwa3.out b0, cB Rwa3.out b1, cB Rwa3.out b2⟩))
          clear hK K
          (try simp only [Act.put, List.getElem_toArray, List.getElem_cons_succ, List.getElem_cons_zero, List.setIfInBounds_toArray, List.set_cons_zero, List.set_cons_succ])
          refine wpAnyH_ready (rs := [8, 10]) (by kernel_rfl) (by simp) ?_
          refine (AllReadyH.cons rfl (fun K hK => ?b33_1) (AllReadyH.cons rfl (fun K hK => ?b33_2) AllReadyH.nil))
          case' b33_2 =>
            (go_simp; refine name_k (fun wa4 hwa4 => ?_); have Zwa4 := sizeE hwa4; have Rwa4 := Lib.hid (Below.allocE Rwa3.out Rwa3.out.size hwa4); (try have Ewa4 := Lib.hid (OwnB.allocE Ewa3.out hwa4)); (try have Vwa4 := Lib.hid (OwnB.allocE Vwa3.out hwa4)); (try have Uwa4 := Lib.hid (OwnB.allocE Uwa3.out hwa4)); (try have Nwa4 := Lib.hid (Blk.allocE Nwa3.out hwa4)); (try have Xwa4 := Lib.hid (Blk.allocE Xwa3.out hwa4)); have Xwa4 := Lib.hid (Blk.newE hwa4); clear hwa4)
            refine hK.out _ _ ?_ (fun hHeld => ?_)
            focus ((try dsimp only); (first | done | exact ⟨cB Rwa4.out p0, cB Rwa4.out p1, cB Rwa4.out b0, cB Rwa4.out b1, cB Rwa4.out b2⟩))
            clear hK K
            (try simp only [Act.put, List.getElem_toArray, List.getElem_cons_succ, List.getElem_cons_zero, List.setIfInBounds_toArray, List.set_cons_zero, List.set_cons_succ])
            refine wpAnyH_ready (rs := [8]) (by kernel_rfl) (by simp) ?_
            refine (AllReadyH.cons rfl (fun K hK => ?_) AllReadyH.nil)
            (refine step_pushG (by rfl) _ _ (by rfl) w0.heap.size _ bs (by rfl) Vwa4.out _ 1 1 [⟨f, t, m⟩] rfl (by rfl) Nwa4.out.bat1 (fun q => by cases q) (by simp; omega) Rwa4.out.size ?_; intro vwa5 wa5 ho hg; obtain ⟨L, hL⟩ : ∃ L, L = bs ++ [Bd.mk f t m] := ⟨_, rfl⟩; rw [← hL] at ho; have Zwa5 := hg.size; have Rwa5 := Lib.hid (Rwa4.out.trans (grownB Vwa4.out hg Rwa4.out.size)); (try have Nwa5 := Lib.hid (Nwa4.out.grown hg (by simp [Value.ownBlock]; omega))); (try have Xwa5 := Lib.hid (Xwa4.out.grownT Vwa4.out hg)); obtain ⟨G, c2, rfl, _⟩ := ho.bat; have Uwa5 := Lib.hid ho; have HL := Lib.hid hL; clear ho hg hL)
            refine hK.out _ _ ?_ (fun hHeld => ?_)
            focus ((try dsimp only); (first | done | exact ⟨cB Rwa5.out p0, cB Rwa5.out p1, cB Rwa5.out b0, cB Rwa5.out b1, cB Rwa5.out b2⟩))
            clear hK K
            (try simp only [Act.put, List.getElem_toArray, List.getElem_cons_succ, List.getElem_cons_zero, List.setIfInBounds_toArray, List.set_cons_zero, List.set_cons_succ])
            (refine wpAnyH_take (i := 9) (v := ?tv35) rfl (by kernel_rfl) (by kernel_rfl) (by kernel_rfl) (fun _ _ _ h => h) (Or.inl ⟨by kernel_rfl, ?ty35⟩) (by assumption) ?tr35; (case ty35 => (intro w' hSw; (try dsimp only at hSw); go_simp <;> with_reducible rfl)); (try simp only [Act.put, List.getElem_toArray, List.getElem_cons_succ, List.getElem_cons_zero, List.setIfInBounds_toArray, List.set_cons_zero, List.set_cons_succ]))
            refine wpAnyH_ready (rs := [11]) (by kernel_rfl) (by simp) ?_
            refine (AllReadyH.cons rfl (fun K hK => ?_) AllReadyH.nil)
            (obtain ⟨q0, q1, fr0, fr1⟩ := Xwa5.out.two; go_simp; refine name_k (fun wa6 hwa6 => ?_); obtain ⟨s1, s2, s3⟩ := storeE hwa6 Xwa5.out Uwa5.out Rwa5.out (by omega); have Uwa6 := Lib.hid s1; have Xwa6 := Lib.hid s2; have Rwa6 := Lib.hid s3; clear hwa6 s1 s2 s3 q0 q1 fr0 fr1)
            refine hK.out _ _ ?_ (fun hHeld => ?_)
            focus ((try dsimp only); (first | done | exact ⟨cB Rwa6.out p0, cB Rwa6.out p1, cB Rwa6.out b0, cB Rwa6.out b1, cB Rwa6.out b2⟩))
            clear hK K
            (try simp only [Act.put, List.getElem_toArray, List.getElem_cons_succ, List.getElem_cons_zero, List.setIfInBounds_toArray, List.set_cons_zero, List.set_cons_succ])
            refine wpAnyH_done (by kernel_rfl) ?_ _
          case' b33_1 =>
            (refine step_pushG (by rfl) _ _ (by rfl) w0.heap.size _ bs (by rfl) Vwa3.out _ 1 1 [⟨f, t, m⟩] rfl (by rfl) Nwa3.out.bat1 (fun q => by cases q) (by simp; omega) Rwa3.out.size ?_; intro vwa4 wa4 ho hg; obtain ⟨L, hL⟩ : ∃ L, L = bs ++ [Bd.mk f t m] := ⟨_, rfl⟩; rw [← hL] at ho; have Zwa4 := hg.size; have Rwa4 := Lib.hid (Rwa3.out.trans (grownB Vwa3.out hg Rwa3.out.size)); (try have Nwa4 := Lib.hid (Nwa3.out.grown hg (by simp [Value.ownBlock]; omega))); (try have Xwa4 := Lib.hid (Xwa3.out.grownT Vwa3.out hg)); obtain ⟨G, c2, rfl, _⟩ := ho.bat; have Uwa4 := Lib.hid ho; have HL := Lib.hid hL; clear ho hg hL)
            refine hK.out _ _ ?_ (fun hHeld => ?_)
            focus ((try dsimp only); (first | done | exact ⟨cB Rwa4.out p0, cB Rwa4.out p1, cB Rwa4.out b0, cB Rwa4.out b1, cB Rwa4.out b2⟩))
            clear hK K
            (try simp only [Act.put, List.getElem_toArray, List.getElem_cons_succ, List.getElem_cons_zero, List.setIfInBounds_toArray, List.set_cons_zero, List.set_cons_succ])
            (refine wpAnyH_take (i := 9) (v := ?tv37) rfl (by kernel_rfl) (by kernel_rfl) (by kernel_rfl) (fun _ _ _ h => h) (Or.inl ⟨by kernel_rfl, ?ty37⟩) (by assumption) ?tr37; (case ty37 => (intro w' hSw; (try dsimp only at hSw); go_simp <;> with_reducible rfl)); (try simp only [Act.put, List.getElem_toArray, List.getElem_cons_succ, List.getElem_cons_zero, List.setIfInBounds_toArray, List.set_cons_zero, List.set_cons_succ]))
            refine wpAnyH_ready (rs := [10]) (by kernel_rfl) (by simp) ?_
            refine (AllReadyH.cons rfl (fun K hK => ?_) AllReadyH.nil)
            (go_simp; refine name_k (fun wa5 hwa5 => ?_); have Zwa5 := sizeE hwa5; have Rwa5 := Lib.hid (Below.allocE Rwa4.out Rwa4.out.size hwa5); (try have Ewa5 := Lib.hid (OwnB.allocE Ewa4.out hwa5)); (try have Vwa5 := Lib.hid (OwnB.allocE Vwa4.out hwa5)); (try have Uwa5 := Lib.hid (OwnB.allocE Uwa4.out hwa5)); (try have Nwa5 := Lib.hid (Blk.allocE Nwa4.out hwa5)); (try have Xwa5 := Lib.hid (Blk.allocE Xwa4.out hwa5)); have Xwa5 := Lib.hid (Blk.newE hwa5); clear hwa5)
            refine hK.out _ _ ?_ (fun hHeld => ?_)
            focus ((try dsimp only); (first | done | exact ⟨cB Rwa5.out p0, cB Rwa5.out p1, cB Rwa5.out b0, cB Rwa5.out b1, cB Rwa5.out b2⟩))
            clear hK K
            (try simp only [Act.put, List.getElem_toArray, List.getElem_cons_succ, List.getElem_cons_zero, List.setIfInBounds_toArray, List.set_cons_zero, List.set_cons_succ])
            refine wpAnyH_ready (rs := [11]) (by kernel_rfl) (by simp) ?_
            refine (AllReadyH.cons rfl (fun K hK => ?_) AllReadyH.nil)
            (obtain ⟨q0, q1, fr0, fr1⟩ := Xwa5.out.two; go_simp; refine name_k (fun wa6 hwa6 => ?_); obtain ⟨s1, s2, s3⟩ := storeE hwa6 Xwa5.out Uwa5.out Rwa5.out (by omega); have Uwa6 := Lib.hid s1; have Xwa6 := Lib.hid s2; have Rwa6 := Lib.hid s3; clear hwa6 s1 s2 s3 q0 q1 fr0 fr1)
            refine hK.out _ _ ?_ (fun hHeld => ?_)
            focus ((try dsimp only); (first | done | exact ⟨cB Rwa6.out p0, cB Rwa6.out p1, cB Rwa6.out b0, cB Rwa6.out b1, cB Rwa6.out b2⟩))
            clear hK K
            (try simp only [Act.put, List.getElem_toArray, List.getElem_cons_succ, List.getElem_cons_zero, List.setIfInBounds_toArray, List.set_cons_zero, List.set_cons_succ])
            refine wpAnyH_done (by kernel_rfl) ?_ _
    case' b6_1 =>
      (go_simp; refine name_k (fun wa1 hwa1 => ?_); have Zwa1 := sizeE hwa1; have Rwa1 := Lib.hid (Below.allocE Rwa0.out Rwa0.out.size hwa1); (try have Ewa1 := Lib.hid (OwnB.allocE Ewa0.out hwa1)); (try have Vwa1 := Lib.hid (OwnB.allocE Vwa0.out hwa1)); (try have Uwa1 := Lib.hid (OwnB.allocE Uwa0.out hwa1)); (try have Nwa1 := Lib.hid (Blk.allocE Nwa0.out hwa1)); (try have Xwa1 := Lib.hid (Blk.allocE Xwa0.out hwa1)); have Ewa1 := Lib.hid (OwnB.emptyE hwa1 Rwa0.out.size); clear hwa1)
      refine hK.out _ _ ?_ (fun hHeld => ?_)
      focus ((try dsimp only); (first | done | exact ⟨cB Rwa1.out p0, cB Rwa1.out p1, cB Rwa1.out b0, cB Rwa1.out b1, cB Rwa1.out b2⟩))
      clear hK K
      (try simp only [Act.put, List.getElem_toArray, List.getElem_cons_succ, List.getElem_cons_zero, List.setIfInBounds_toArray, List.set_cons_zero, List.set_cons_succ])
      refine wpAnyH_ready (rs := [5, 7, 10]) (by kernel_rfl) (by simp) ?_
      refine (AllReadyH.cons rfl (fun K hK => ?b40_1) (AllReadyH.cons rfl (fun K hK => ?b40_2) (AllReadyH.cons rfl (fun K hK => ?b40_3) AllReadyH.nil)))
      case' b40_3 =>
        (go_simp; refine name_k (fun wa2 hwa2 => ?_); have Zwa2 := sizeE hwa2; have Rwa2 := Lib.hid (Below.allocE Rwa1.out Rwa1.out.size hwa2); (try have Ewa2 := Lib.hid (OwnB.allocE Ewa1.out hwa2)); (try have Vwa2 := Lib.hid (OwnB.allocE Vwa1.out hwa2)); (try have Uwa2 := Lib.hid (OwnB.allocE Uwa1.out hwa2)); (try have Nwa2 := Lib.hid (Blk.allocE Nwa1.out hwa2)); (try have Xwa2 := Lib.hid (Blk.allocE Xwa1.out hwa2)); have Xwa2 := Lib.hid (Blk.newE hwa2); clear hwa2)
        refine hK.out _ _ ?_ (fun hHeld => ?_)
        focus ((try dsimp only); (first | done | exact ⟨cB Rwa2.out p0, cB Rwa2.out p1, cB Rwa2.out b0, cB Rwa2.out b1, cB Rwa2.out b2⟩))
        clear hK K
        (try simp only [Act.put, List.getElem_toArray, List.getElem_cons_succ, List.getElem_cons_zero, List.setIfInBounds_toArray, List.set_cons_zero, List.set_cons_succ])
        refine wpAnyH_ready (rs := [5, 7]) (by kernel_rfl) (by simp) ?_
        refine (AllReadyH.cons rfl (fun K hK => ?b41_1) (AllReadyH.cons rfl (fun K hK => ?b41_2) AllReadyH.nil))
        case' b41_2 =>
          (go_simp; refine name_k (fun wa3 hwa3 => ?_); have Zwa3 := sizeE hwa3; have Rwa3 := Lib.hid (Below.allocE Rwa2.out Rwa2.out.size hwa3); (try have Ewa3 := Lib.hid (OwnB.allocE Ewa2.out hwa3)); (try have Vwa3 := Lib.hid (OwnB.allocE Vwa2.out hwa3)); (try have Uwa3 := Lib.hid (OwnB.allocE Uwa2.out hwa3)); (try have Nwa3 := Lib.hid (Blk.allocE Nwa2.out hwa3)); (try have Xwa3 := Lib.hid (Blk.allocE Xwa2.out hwa3)); have Nwa3 := Lib.hid (Blk.newE hwa3); clear hwa3)
          refine hK.out _ _ ?_ (fun hHeld => ?_)
          focus ((try dsimp only); (first | done | exact ⟨cB Rwa3.out p0, cB Rwa3.out p1, cB Rwa3.out b0, cB Rwa3.out b1, cB Rwa3.out b2⟩))
          clear hK K
          (try simp only [Act.put, List.getElem_toArray, List.getElem_cons_succ, List.getElem_cons_zero, List.setIfInBounds_toArray, List.set_cons_zero, List.set_cons_succ])
          refine wpAnyH_ready (rs := [5]) (by kernel_rfl) (by simp) ?_
          refine (AllReadyH.cons rfl (fun K hK => ?_) AllReadyH.nil)
          (refine step_pushG (by rfl) _ _ (by rfl) w0.heap.size _ [] (by rfl) Ewa3.out A c bs.length bs rfl (by rfl) (HB.out.below Rwa3.out) HA0.out (by simp; omega) Rwa3.out.size ?_; intro vwa4 wa4 ho hg; rw [List.nil_append] at ho; have Zwa4 := hg.size; have Rwa4 := Lib.hid (Rwa3.out.trans (grownB Ewa3.out hg Rwa3.out.size)); (try have Nwa4 := Lib.hid (Nwa3.out.grown hg (by simp [Value.ownBlock]; omega))); (try have Xwa4 := Lib.hid (Xwa3.out.grownT Ewa3.out hg)); obtain ⟨Gwa4, cwa4, rfl, _⟩ := ho.bat; have Vwa4 := Lib.hid ho; clear ho hg)
          refine hK.out _ _ ?_ (fun hHeld => ?_)
          focus ((try dsimp only); (first | done | exact ⟨cB Rwa4.out p0, cB Rwa4.out p1, cB Rwa4.out b0, cB Rwa4.out b1, cB Rwa4.out b2⟩))
          clear hK K
          (try simp only [Act.put, List.getElem_toArray, List.getElem_cons_succ, List.getElem_cons_zero, List.setIfInBounds_toArray, List.set_cons_zero, List.set_cons_succ])
          refine wpAnyH_ready (rs := [8]) (by kernel_rfl) (by simp) ?_
          refine (AllReadyH.cons rfl (fun K hK => ?_) AllReadyH.nil)
          (refine step_pushG (by rfl) _ _ (by rfl) w0.heap.size _ bs (by rfl) Vwa4.out _ 1 1 [⟨f, t, m⟩] rfl (by rfl) Nwa4.out.bat1 (fun q => by cases q) (by simp; omega) Rwa4.out.size ?_; intro vwa5 wa5 ho hg; obtain ⟨L, hL⟩ : ∃ L, L = bs ++ [Bd.mk f t m] := ⟨_, rfl⟩; rw [← hL] at ho; have Zwa5 := hg.size; have Rwa5 := Lib.hid (Rwa4.out.trans (grownB Vwa4.out hg Rwa4.out.size)); (try have Nwa5 := Lib.hid (Nwa4.out.grown hg (by simp [Value.ownBlock]; omega))); (try have Xwa5 := Lib.hid (Xwa4.out.grownT Vwa4.out hg)); obtain ⟨G, c2, rfl, _⟩ := ho.bat; have Uwa5 := Lib.hid ho; have HL := Lib.hid hL; clear ho hg hL)
          refine hK.out _ _ ?_ (fun hHeld => ?_)
          focus ((try dsimp only); (first | done | exact ⟨cB Rwa5.out p0, cB Rwa5.out p1, cB Rwa5.out b0, cB Rwa5.out b1, cB Rwa5.out b2⟩))
          clear hK K
          (try simp only [Act.put, List.getElem_toArray, List.getElem_cons_succ, List.getElem_cons_zero, List.setIfInBounds_toArray, List.set_cons_zero, List.set_cons_succ])
          (refine wpAnyH_take (i := 9) (v := ?tv44) rfl (by kernel_rfl) (by kernel_rfl) (by kernel_rfl) (fun _ _ _ h => h) (Or.inl ⟨by kernel_rfl, ?ty44⟩) (by assumption) ?tr44; (case ty44 => (intro w' hSw; (try dsimp only at hSw); go_simp <;> with_reducible rfl)); (try simp only [Act.put, List.getElem_toArray, List.getElem_cons_succ, List.getElem_cons_zero, List.setIfInBounds_toArray, List.set_cons_zero, List.set_cons_succ]))
          refine wpAnyH_ready (rs := [11]) (by kernel_rfl) (by simp) ?_
          refine (AllReadyH.cons rfl (fun K hK => ?_) AllReadyH.nil)
          (obtain ⟨q0, q1, fr0, fr1⟩ := Xwa5.out.two; go_simp; refine name_k (fun wa6 hwa6 => ?_); obtain ⟨s1, s2, s3⟩ := storeE hwa6 Xwa5.out Uwa5.out Rwa5.out (by omega); have Uwa6 := Lib.hid s1; have Xwa6 := Lib.hid s2; have Rwa6 := Lib.hid s3; clear hwa6 s1 s2 s3 q0 q1 fr0 fr1)
          refine hK.out _ _ ?_ (fun hHeld => ?_)
          focus ((try dsimp only); (first | done | exact ⟨cB Rwa6.out p0, cB Rwa6.out p1, cB Rwa6.out b0, cB Rwa6.out b1, cB Rwa6.out b2⟩))
          clear hK K
          (try simp only [Act.put, List.getElem_toArray, List.getElem_cons_succ, List.getElem_cons_zero, List.setIfInBounds_toArray, List.set_cons_zero, List.set_cons_succ])
          refine wpAnyH_done (by kernel_rfl) ?_ _
        case' b41_1 =>
          (refine step_pushG (by rfl) _ _ (by rfl) w0.heap.size _ [] (by rfl) Ewa2.out A c bs.length bs rfl (by rfl) (HB.out.below Rwa2.out) HA0.out (by simp; omega) Rwa2.out.size ?_; intro vwa3 wa3 ho hg; rw [List.nil_append] at ho; have Zwa3 := hg.size; have Rwa3 := Lib.hid (Rwa2.out.trans (grownB Ewa2.out hg Rwa2.out.size)); (try have Nwa3 := Lib.hid (Nwa2.out.grown hg (by simp [Value.ownBlock]; omega))); (try have Xwa3 := Lib.hid (Xwa2.out.grownT Ewa2.out hg)); obtain ⟨Gwa3, cwa3, rfl, _⟩ := ho.bat; have Vwa3 := Lib.hid ho; clear ho hg)
          refine hK.out _ _ ?_ (fun hHeld => ?_)
          focus ((try dsimp only); (first | done | exact ⟨cB Rwa3.out p0, cB Rwa3.out p1, cB Rwa3.out b0, cB Rwa3.out b1, cB Rwa3.out b2⟩))
          clear hK K
          (try simp only [Act.put, List.getElem_toArray, List.getElem_cons_succ, List.getElem_cons_zero, List.setIfInBounds_toArray, List.set_cons_zero, List.set_cons_succ])
          refine wpAnyH_ready (rs := [7]) (by kernel_rfl) (by simp) ?_
          refine (AllReadyH.cons rfl (fun K hK => ?_) AllReadyH.nil)
          (go_simp; refine name_k (fun wa4 hwa4 => ?_); have Zwa4 := sizeE hwa4; have Rwa4 := Lib.hid (Below.allocE Rwa3.out Rwa3.out.size hwa4); (try have Ewa4 := Lib.hid (OwnB.allocE Ewa3.out hwa4)); (try have Vwa4 := Lib.hid (OwnB.allocE Vwa3.out hwa4)); (try have Uwa4 := Lib.hid (OwnB.allocE Uwa3.out hwa4)); (try have Nwa4 := Lib.hid (Blk.allocE Nwa3.out hwa4)); (try have Xwa4 := Lib.hid (Blk.allocE Xwa3.out hwa4)); have Nwa4 := Lib.hid (Blk.newE hwa4); clear hwa4)
          refine hK.out _ _ ?_ (fun hHeld => ?_)
          focus ((try dsimp only); (first | done | exact ⟨cB Rwa4.out p0, cB Rwa4.out p1, cB Rwa4.out b0, cB Rwa4.out b1, cB Rwa4.out b2⟩))
          clear hK K
          (try simp only [Act.put, List.getElem_toArray, List.getElem_cons_succ, List.getElem_cons_zero, List.setIfInBounds_toArray, List.set_cons_zero, List.set_cons_succ])
          refine wpAnyH_ready (rs := [8]) (by kernel_rfl) (by simp) ?_
          refine (AllReadyH.cons rfl (fun K hK => ?_) AllReadyH.nil)
          (refine step_pushG (by rfl) _ _ (by rfl) w0.heap.size _ bs (by rfl) Vwa4.out _ 1 1 [⟨f, t, m⟩] rfl (by rfl) Nwa4.out.bat1 (fun q => by cases q) (by simp; omega) Rwa4.out.size ?_; intro vwa5 wa5 ho hg; obtain ⟨L, hL⟩ : ∃ L, L = bs ++ [Bd.mk f t m] := ⟨_, rfl⟩; rw [← hL] at ho; have Zwa5 := hg.size; have Rwa5 := Lib.hid (Rwa4.out.trans (grownB Vwa4.out hg Rwa4.out.size)); (try have Nwa5 := Lib.hid (Nwa4.out.grown hg (by simp [Value.ownBlock]; omega))); (try have Xwa5 := Lib.hid (Xwa4.out.grownT Vwa4.out hg)); obtain ⟨G, c2, rfl, _⟩ := ho.bat; have Uwa5 := Lib.hid ho; have HL := Lib.hid hL; clear ho hg hL)
          refine hK.out _ _ ?_ (fun hHeld => ?_)
          focus ((try dsimp only); (first | done | exact ⟨cB Rwa5.out p0, cB Rwa5.out p1, cB Rwa5.out b0, cB Rwa5.out b1, cB Rwa5.out b2⟩))
          clear hK K
          (try simp only [Act.put, List.getElem_toArray, List.getElem_cons_succ, List.getElem_cons_zero, List.setIfInBounds_toArray, List.set_cons_zero, List.set_cons_succ])
          (refine wpAnyH_take (i := 9) (v := ?tv48) rfl (by kernel_rfl) (by kernel_rfl) (by kernel_rfl) (fun _ _ _ h => h) (Or.inl ⟨by kernel_rfl, ?ty48⟩) (by assumption) ?tr48; (case ty48 => (intro w' hSw; (try dsimp only at hSw); go_simp <;> with_reducible rfl)); (try simp only [Act.put, List.getElem_toArray, List.getElem_cons_succ, List.getElem_cons_zero, List.setIfInBounds_toArray, List.set_cons_zero, List.set_cons_succ]))
          refine wpAnyH_ready (rs := [11]) (by kernel_rfl) (by simp) ?_
          refine (AllReadyH.cons rfl (fun K hK => ?_) AllReadyH.nil)
          (obtain ⟨q0, q1, fr0, fr1⟩ := Xwa5.out.two; go_simp; refine name_k (fun wa6 hwa6 => ?_); obtain ⟨s1, s2, s3⟩ := storeE hwa6 Xwa5.out Uwa5.out Rwa5.out (by omega); have Uwa6 := Lib.hid s1; have Xwa6 := Lib.hid s2; have Rwa6 := Lib.hid s3; clear hwa6 s1 s2 s3 q0 q1 fr0 fr1)
          refine hK.out _ _ ?_ (fun hHeld => ?_)
          focus ((try dsimp only); (first | done | exact ⟨cB Rwa6.out p0, cB Rwa6.out p1, cB Rwa6.out b0, cB Rwa6.out b1, cB Rwa6.out b2⟩))
          clear hK K
          (try simp only [Act.put, List.getElem_toArray, List.getElem_cons_succ, List.getElem_cons_zero, List.setIfInBounds_toArray, List.set_cons_zero, List.set_cons_succ])
          refine wpAnyH_done (by kernel_rfl) ?_ _
      case' b40_2 =>
        (go_simp; refine name_k (fun wa2 hwa2 => ?_); have Zwa2 := sizeE hwa2; have Rwa2 := Lib.hid (Below.allocE Rwa1.out Rwa1.out.size hwa2); (try have Ewa2 := Lib.hid (OwnB.allocE Ewa1.out hwa2)); (try have Vwa2 := Lib.hid (OwnB.allocE Vwa1.out hwa2)); (try have Uwa2 := Lib.hid (OwnB.allocE Uwa1.out hwa2)); (try have Nwa2 := Lib.hid (Blk.allocE Nwa1.out hwa2)); (try have Xwa2 := Lib.hid (Blk.allocE Xwa1.out hwa2)); have Nwa2 := Lib.hid (Blk.newE hwa2); clear hwa2)
        refine hK.out _ _ ?_ (fun hHeld => ?_)
        focus ((try dsimp only); (first | done | exact ⟨cB Rwa2.out p0, cB Rwa2.out p1, cB Rwa2.out b0, cB Rwa2.out b1, cB Rwa2.out b2⟩))
        clear hK K
        (try simp only [Act.put, List.getElem_toArray, List.getElem_cons_succ, List.getElem_cons_zero, List.setIfInBounds_toArray, List.set_cons_zero, List.set_cons_succ])
        refine wpAnyH_ready (rs := [5, 10]) (by kernel_rfl) (by simp) ?_
        refine (AllReadyH.cons rfl (fun K hK => ?b50_1) (AllReadyH.cons rfl (fun K hK => ?b50_2) AllReadyH.nil))
        case' b50_2 =>
          (go_simp; refine name_k (fun wa3 hwa3 => ?_); have Zwa3 := sizeE hwa3; have Rwa3 := Lib.hid (Below.allocE Rwa2.out Rwa2.out.size hwa3); (try have Ewa3 := Lib.hid (OwnB.allocE Ewa2.out hwa3)); (try have Vwa3 := Lib.hid (OwnB.allocE Vwa2.out hwa3)); (try have Uwa3 := Lib.hid (OwnB.allocE Uwa2.out hwa3)); (try have Nwa3 := Lib.hid (Blk.allocE Nwa2.out hwa3)); (try have Xwa3 := Lib.hid (Blk.allocE Xwa2.out hwa3)); have Xwa3 := Lib.hid (Blk.newE hwa3); clear hwa3)
          refine hK.out _ _ ?_ (fun hHeld => ?_)
          focus ((try dsimp only); (first | done | exact ⟨cB Rwa3.out p0, cB Rwa3.out p1, cB Rwa3.out b0, cB Rwa3.out b1, cB Rwa3.out b2⟩))
          clear hK K
          (try simp only [Act.put, List.getElem_toArray, List.getElem_cons_succ, List.getElem_cons_zero, List.setIfInBounds_toArray, List.set_cons_zero, List.set_cons_succ])
          refine wpAnyH_ready (rs := [5]) (by kernel_rfl) (by simp) ?_
          refine (AllReadyH.cons rfl (fun K hK => ?_) AllReadyH.nil)
          (refine step_pushG (by rfl) _ _ (by rfl) w0.heap.size _ [] (by rfl) Ewa3.out A c bs.length bs rfl (by rfl) (HB.out.below Rwa3.out) HA0.out (by simp; omega) Rwa3.out.size ?_; intro vwa4 wa4 ho hg; rw [List.nil_append] at ho; have Zwa4 := hg.size; have Rwa4 := Lib.hid (Rwa3.out.trans (grownB Ewa3.out hg Rwa3.out.size)); (try have Nwa4 := Lib.hid (Nwa3.out.grown hg (by simp [Value.ownBlock]; omega))); (try have Xwa4 := Lib.hid (Xwa3.out.grownT Ewa3.out hg)); obtain ⟨Gwa4, cwa4, rfl, _⟩ := ho.bat; have Vwa4 := Lib.hid ho; clear ho hg)
          refine hK.out _ _ ?_ (fun hHeld => ?_)
          focus ((try dsimp only); (first | done | exact ⟨cB Rwa4.out p0, cB Rwa4.out p1, cB Rwa4.out b0, cB Rwa4.out b1, cB Rwa4.out b2⟩))
          clear hK K
          (try simp only [Act.put, List.getElem_toArray, List.getElem_cons_succ, List.getElem_cons_zero, List.setIfInBounds_toArray, List.set_cons_zero, List.set_cons_succ])
          refine wpAnyH_ready (rs := [8]) (by kernel_rfl) (by simp) ?_
          refine (AllReadyH.cons rfl (fun K hK => ?_) AllReadyH.nil)
          (refine step_pushG (by rfl) _ _ (by rfl) w0.heap.size _ bs (by rfl) Vwa4.out _ 1 1 [⟨f, t, m⟩] rfl (by rfl) Nwa4.out.bat1 (fun q => by cases q) (by simp; omega) Rwa4.out.size ?_; intro vwa5 wa5 ho hg; obtain ⟨L, hL⟩ : ∃ L, L = bs ++ [Bd.mk f t m] := ⟨_, rfl⟩; rw [← hL] at ho; have Zwa5 := hg.size; have Rwa5 := Lib.hid (Rwa4.out.trans (grownB Vwa4.out hg Rwa4.out.size)); (try have Nwa5 := Lib.hid (Nwa4.out.grown hg (by simp [Value.ownBlock]; omega))); (try have Xwa5 := Lib.hid (Xwa4.out.grownT Vwa4.out hg)); obtain ⟨G, c2, rfl, _⟩ := ho.bat; have Uwa5 := Lib.hid ho; have HL := Lib.hid hL; clear ho hg hL)
          refine hK.out _ _ ?_ (fun hHeld => ?_)
          focus ((try dsimp only); (first | done | exact ⟨cB Rwa5.out p0, cB Rwa5.out p1, cB Rwa5.out b0, cB Rwa5.out b1, cB Rwa5.out b2⟩))
          clear hK K
          (try simp only [Act.put, List.getElem_toArray, List.getElem_cons_succ, List.getElem_cons_zero, List.setIfInBounds_toArray, List.set_cons_zero, List.set_cons_succ])
          (refine wpAnyH_take (i := 9) (v := ?tv53) rfl (by kernel_rfl) (by kernel_rfl) (by kernel_rfl) (fun _ _ _ h => h) (Or.inl ⟨by kernel_rfl, ?ty53⟩) (by assumption) ?tr53; (case ty53 => (intro w' hSw; (try dsimp only at hSw); go_simp <;> with_reducible rfl)); (try simp only [Act.put, List.getElem_toArray, List.getElem_cons_succ, List.getElem_cons_zero, List.setIfInBounds_toArray, List.set_cons_zero, List.set_cons_succ]))
          refine wpAnyH_ready (rs := [11]) (by kernel_rfl) (by simp) ?_
          refine (AllReadyH.cons rfl (fun K hK => ?_) AllReadyH.nil)
          (obtain ⟨q0, q1, fr0, fr1⟩ := Xwa5.out.two; go_simp; refine name_k (fun wa6 hwa6 => ?_); obtain ⟨s1, s2, s3⟩ := storeE hwa6 Xwa5.out Uwa5.out Rwa5.out (by omega); have Uwa6 := Lib.hid s1; have Xwa6 := Lib.hid s2; have Rwa6 := Lib.hid s3; clear hwa6 s1 s2 s3 q0 q1 fr0 fr1)
          refine hK.out _ _ ?_ (fun hHeld => ?_)
          focus ((try dsimp only); (first | done | exact ⟨cB Rwa6.out p0, cB Rwa6.out p1, cB Rwa6.out b0, cB Rwa6.out b1, cB Rwa6.out b2⟩))
          clear hK K
          (try simp only [Act.put, List.getElem_toArray, List.getElem_cons_succ, List.getElem_cons_zero, List.setIfInBounds_toArray, List.set_cons_zero, List.set_cons_succ])
          refine wpAnyH_done (by kernel_rfl) ?_ _
        case' b50_1 =>
          (refine step_pushG (by rfl) _ _ (by rfl) w0.heap.size _ [] (by rfl) Ewa2.out A c bs.length bs rfl (by rfl) (HB.out.below Rwa2.out) HA0.out (by simp; omega) Rwa2.out.size ?_; intro vwa3 wa3 ho hg; rw [List.nil_append] at ho; have Zwa3 := hg.size; have Rwa3 := Lib.hid (Rwa2.out.trans (grownB Ewa2.out hg Rwa2.out.size)); (try have Nwa3 := Lib.hid (Nwa2.out.grown hg (by simp [Value.ownBlock]; omega))); (try have Xwa3 := Lib.hid (Xwa2.out.grownT Ewa2.out hg)); obtain ⟨Gwa3, cwa3, rfl, _⟩ := ho.bat; have Vwa3 := Lib.hid ho; clear ho hg)
          refine hK.out _ _ ?_ (fun hHeld => ?_)
          focus ((try dsimp only); (first | done | exact ⟨cB Rwa3.out p0, cB Rwa3.out p1, cB Rwa3.out b0, cB Rwa3.out b1, cB Rwa3.out b2⟩))
          clear hK K
          (try simp only [Act.put, List.getElem_toArray, List.getElem_cons_succ, List.getElem_cons_zero, List.setIfInBounds_toArray, List.set_cons_zero, List.set_cons_succ])
          refine wpAnyH_ready (rs := [8, 10]) (by kernel_rfl) (by simp) ?_
          refine (AllReadyH.cons rfl (fun K hK => ?b55_1) (AllReadyH.cons rfl (fun K hK => ?b55_2) AllReadyH.nil))
          case' b55_2 =>
            (go_simp; refine name_k (fun wa4 hwa4 => ?_); have Zwa4 := sizeE hwa4; have Rwa4 := Lib.hid (Below.allocE Rwa3.out Rwa3.out.size hwa4); (try have Ewa4 := Lib.hid (OwnB.allocE Ewa3.out hwa4)); (try have Vwa4 := Lib.hid (OwnB.allocE Vwa3.out hwa4)); (try have Uwa4 := Lib.hid (OwnB.allocE Uwa3.out hwa4)); (try have Nwa4 := Lib.hid (Blk.allocE Nwa3.out hwa4)); (try have Xwa4 := Lib.hid (Blk.allocE Xwa3.out hwa4)); have Xwa4 := Lib.hid (Blk.newE hwa4); clear hwa4)
            refine hK.out _ _ ?_ (fun hHeld => ?_)
            focus ((try dsimp only); (first | done | exact ⟨cB Rwa4.out p0, cB Rwa4.out p1, cB Rwa4.out b0, cB Rwa4.out b1, cB Rwa4.out b2⟩))
            clear hK K
            (try simp only [Act.put, List.getElem_toArray, List.getElem_cons_succ, List.getElem_cons_zero, List.setIfInBounds_toArray, List.set_cons_zero, List.set_cons_succ])
            refine wpAnyH_ready (rs := [8]) (by kernel_rfl) (by simp) ?_
            refine (AllReadyH.cons rfl (fun K hK => ?_) AllReadyH.nil)
            (refine step_pushG (by rfl) _ _ (by rfl) w0.heap.size _ bs (by rfl) Vwa4.out _ 1 1 [⟨f, t, m⟩] rfl (by rfl) Nwa4.out.bat1 (fun q => by cases q) (by simp; omega) Rwa4.out.size ?_; intro vwa5 wa5 ho hg; obtain ⟨L, hL⟩ : ∃ L, L = bs ++ [Bd.mk f t m] := ⟨_, rfl⟩; rw [← hL] at ho; have Zwa5 := hg.size; have Rwa5 := Lib.hid (Rwa4.out.trans (grownB Vwa4.out hg Rwa4.out.size)); (try have Nwa5 := Lib.hid (Nwa4.out.grown hg (by simp [Value.ownBlock]; omega))); (try have Xwa5 := Lib.hid (Xwa4.out.grownT Vwa4.out hg)); obtain ⟨G, c2, rfl, _⟩ := ho.bat; have Uwa5 := Lib.hid ho; have HL := Lib.hid hL; clear ho hg hL)
            refine hK.out _ _ ?_ (fun hHeld => ?_)
            focus ((try dsimp only); (first | done | exact ⟨cB Rwa5.out p0, cB Rwa5.out p1, cB Rwa5.out b0, cB Rwa5.out b1, cB Rwa5.out b2⟩))
            clear hK K
            (try simp only [Act.put, List.getElem_toArray, List.getElem_cons_succ, List.getElem_cons_zero, List.setIfInBounds_toArray, List.set_cons_zero, List.set_cons_succ])
            (refine wpAnyH_take (i := 9) (v := ?tv57) rfl (by kernel_rfl) (by kernel_rfl) (by kernel_rfl) (fun _ _ _ h => h) (Or.inl ⟨by kernel_rfl, ?ty57⟩) (by assumption) ?tr57; (case ty57 => (intro w' hSw; (try dsimp only at hSw); go_simp <;> with_reducible rfl)); (try simp only [Act.put, List.getElem_toArray, List.getElem_cons_succ, List.getElem_cons_zero, List.setIfInBounds_toArray, List.set_cons_zero, List.set_cons_succ]))
            refine wpAnyH_ready (rs := [11]) (by kernel_rfl) (by simp) ?_
            refine (AllReadyH.cons rfl (fun K hK => ?_) AllReadyH.nil)
            (obtain ⟨q0, q1, fr0, fr1⟩ := Xwa5.out.two; go_simp; refine name_k (fun wa6 hwa6 => ?_); obtain ⟨s1, s2, s3⟩ := storeE hwa6 Xwa5.out Uwa5.out Rwa5.out (by omega); have Uwa6 := Lib.hid s1; have Xwa6 := Lib.hid s2; have Rwa6 := Lib.hid s3; clear hwa6 s1 s2 s3 q0 q1 fr0 fr1)
            refine hK.out _ _ ?_ (fun hHeld => ?_)
            focus ((try dsimp only); (first | done | exact ⟨cB Rwa6.out p0, cB Rwa6.out p1, cB Rwa6.out b0, cB Rwa6.out b1, cB Rwa6.out b2⟩))
            clear hK K
            (try simp only [Act.put, List.getElem_toArray, List.getElem_cons_succ, List.getElem_cons_zero, List.setIfInBounds_toArray, List.set_cons_zero, List.set_cons_succ])
            refine wpAnyH_done (by kernel_rfl) ?_ _
          case' b55_1 =>
            (refine step_pushG (by rfl) _ _ (by rfl) w0.heap.size _ bs (by rfl) Vwa3.out _ 1 1 [⟨f, t, m⟩] rfl (by rfl) Nwa3.out.bat1 (fun q => by cases q) (by simp; omega) Rwa3.out.size ?_; intro vwa4 wa4 ho hg; obtain ⟨L, hL⟩ : ∃ L, L = bs ++ [Bd.mk f t m] := ⟨_, rfl⟩; rw [← hL] at ho; have Zwa4 := hg.size; have Rwa4 := Lib.hid (Rwa3.out.trans (grownB Vwa3.out hg Rwa3.out.size)); (try have Nwa4 := Lib.hid (Nwa3.out.grown hg (by simp [Value.ownBlock]; omega))); (try have Xwa4 := Lib.hid (Xwa3.out.grownT Vwa3.out hg)); obtain ⟨G, c2, rfl, _⟩ := ho.bat; have Uwa4 := Lib.hid ho; have HL := Lib.hid hL; clear ho hg hL)
            refine hK.out _ _ ?_ (fun hHeld => ?_)
            focus ((try dsimp only); (first | done | exact ⟨cB Rwa4.out p0, cB Rwa4.out p1, cB Rwa4.out b0, cB Rwa4.out b1, cB Rwa4.out b2⟩))
            clear hK K
            (try simp only [Act.put, List.getElem_toArray, List.getElem_cons_succ, List.getElem_cons_zero, List.setIfInBounds_toArray, List.set_cons_zero, List.set_cons_succ])
            (refine wpAnyH_take (i := 9) (v := ?tv59) rfl (by kernel_rfl) (by kernel_rfl) (by kernel_rfl) (fun _ _ _ h => h) (Or.inl ⟨by kernel_rfl, ?ty59⟩) (by assumption) ?tr59; (case ty59 => (intro w' hSw; (try dsimp only at hSw); go_simp <;> with_reducible rfl)); (try simp only [Act.put, List.getElem_toArray, List.getElem_cons_succ, List.getElem_cons_zero, List.setIfInBounds_toArray, List.set_cons_zero, List.set_cons_succ]))
            refine wpAnyH_ready (rs := [10]) (by kernel_rfl) (by simp) ?_
            refine (AllReadyH.cons rfl (fun K hK => ?_) AllReadyH.nil)
            (go_simp; refine name_k (fun wa5 hwa5 => ?_); have Zwa5 := sizeE hwa5; have Rwa5 := Lib.hid (Below.allocE Rwa4.out Rwa4.out.size hwa5); (try have Ewa5 := Lib.hid (OwnB.allocE Ewa4.out hwa5)); (try have Vwa5 := Lib.hid (OwnB.allocE Vwa4.out hwa5)); (try have Uwa5 := Lib.hid (OwnB.allocE Uwa4.out hwa5)); (try have Nwa5 := Lib.hid (Blk.allocE Nwa4.out hwa5)); (try have Xwa5 := Lib.hid (Blk.allocE Xwa4.out hwa5)); have Xwa5 := Lib.hid (Blk.newE hwa5); clear hwa5)
            refine hK.out _ _ ?_ (fun hHeld => ?_)
            focus ((try dsimp only); (first | done | exact ⟨cB Rwa5.out p0, cB Rwa5.out p1, cB Rwa5.out b0, cB Rwa5.out b1, cB Rwa5.out b2⟩))
            clear hK K
            (try simp only [Act.put, List.getElem_toArray, List.getElem_cons_succ, List.getElem_cons_zero, List.setIfInBounds_toArray, List.set_cons_zero, List.set_cons_succ])
            refine wpAnyH_ready (rs := [11]) (by kernel_rfl) (by simp) ?_
            refine (AllReadyH.cons rfl (fun K hK => ?_) AllReadyH.nil)
            (obtain ⟨q0, q1, fr0, fr1⟩ := Xwa5.out.two; go_simp; refine name_k (fun wa6 hwa6 => ?_); obtain ⟨s1, s2, s3⟩ := storeE hwa6 Xwa5.out Uwa5.out Rwa5.out (by omega); have Uwa6 := Lib.hid s1; have Xwa6 := Lib.hid s2; have Rwa6 := Lib.hid s3; clear hwa6 s1 s2 s3 q0 q1 fr0 fr1)
            refine hK.out _ _ ?_ (fun hHeld => ?_)
            focus ((try dsimp only); (first | done | exact ⟨cB Rwa6.out p0, cB Rwa6.out p1, cB Rwa6.out b0, cB Rwa6.out b1, cB Rwa6.out b2⟩))
            clear hK K
            (try simp only [Act.put, List.getElem_toArray, List.getElem_cons_succ, List.getElem_cons_zero, List.setIfInBounds_toArray, List.set_cons_zero, List.set_cons_succ])
            refine wpAnyH_done (by kernel_rfl) ?_ _
      case' b40_1 =>
        (refine step_pushG (by rfl) _ _ (by rfl) w0.heap.size _ [] (by rfl) Ewa1.out A c bs.length bs rfl (by rfl) (HB.out.below Rwa1.out) HA0.out (by simp; omega) Rwa1.out.size ?_; intro vwa2 wa2 ho hg; rw [List.nil_append] at ho; have Zwa2 := hg.size; have Rwa2 := Lib.hid (Rwa1.out.trans (grownB Ewa1.out hg Rwa1.out.size)); (try have Nwa2 := Lib.hid (Nwa1.out.grown hg (by simp [Value.ownBlock]; omega))); (try have Xwa2 := Lib.hid (Xwa1.out.grownT Ewa1.out hg)); obtain ⟨Gwa2, cwa2, rfl, _⟩ := ho.bat; have Vwa2 := Lib.hid ho; clear ho hg)
        refine hK.out _ _ ?_ (fun hHeld => ?_)
        focus ((try dsimp only); (first | done | exact ⟨cB Rwa2.out p0, cB Rwa2.out p1, cB Rwa2.out b0, cB Rwa2.out b1, cB Rwa2.out b2⟩))
        clear hK K
        (try simp only [Act.put, List.getElem_toArray, List.getElem_cons_succ, List.getElem_cons_zero, List.setIfInBounds_toArray, List.set_cons_zero, List.set_cons_succ])
        refine wpAnyH_ready (rs := [7, 10]) (by kernel_rfl) (by simp) ?_
        refine (AllReadyH.cons rfl (fun K hK => ?b62_1) (AllReadyH.cons rfl (fun K hK => ?b62_2) AllReadyH.nil))
        case' b62_2 =>
          (go_simp; refine name_k (fun wa3 hwa3 => ?_); have Zwa3 := sizeE hwa3; have Rwa3 := Lib.hid (Below.allocE Rwa2.out Rwa2.out.size hwa3); (try have Ewa3 := Lib.hid (OwnB.allocE Ewa2.out hwa3)); (try have Vwa3 := Lib.hid (OwnB.allocE Vwa2.out hwa3)); (try have Uwa3 := Lib.hid (OwnB.allocE Uwa2.out hwa3)); (try have Nwa3 := Lib.hid (Blk.allocE Nwa2.out hwa3)); (try have Xwa3 := Lib.hid (Blk.allocE Xwa2.out hwa3)); have Xwa3 := Lib.hid (Blk.newE hwa3); clear hwa3)
          refine hK.out _ _ ?_ (fun hHeld => ?_)
          focus ((try dsimp only); (first | done | exact ⟨cB Rwa3.out p0, cB Rwa3.out p1, cB Rwa3.out b0, cB Rwa3.out b1, cB Rwa3.out b2⟩))
          clear hK K
          (try simp only [Act.put, List.getElem_toArray, List.getElem_cons_succ, List.getElem_cons_zero, List.setIfInBounds_toArray, List.set_cons_zero, List.set_cons_succ])
          refine wpAnyH_ready (rs := [7]) (by kernel_rfl) (by simp) ?_
          refine (AllReadyH.cons rfl (fun K hK => ?_) AllReadyH.nil)
          (go_simp; refine name_k (fun wa4 hwa4 => ?_); have Zwa4 := sizeE hwa4; have Rwa4 := Lib.hid (Below.allocE Rwa3.out Rwa3.out.size hwa4); (try have Ewa4 := Lib.hid (OwnB.allocE Ewa3.out hwa4)); (try have Vwa4 := Lib.hid (OwnB.allocE Vwa3.out hwa4)); (try have Uwa4 := Lib.hid (OwnB.allocE Uwa3.out hwa4)); (try have Nwa4 := Lib.hid (Blk.allocE Nwa3.out hwa4)); (try have Xwa4 := Lib.hid (Blk.allocE Xwa3.out hwa4)); have Nwa4 := Lib.hid (Blk.newE hwa4); clear hwa4)
          refine hK.out _ _ ?_ (fun hHeld => ?_)
          focus ((try dsimp only); (first | done | exact ⟨cB Rwa4.out p0, cB Rwa4.out p1, cB Rwa4.out b0, cB Rwa4.out b1, cB Rwa4.out b2⟩))
          clear hK K
          (try simp only [Act.put, List.getElem_toArray, List.getElem_cons_succ, List.getElem_cons_zero, List.setIfInBounds_toArray, List.set_cons_zero, List.set_cons_succ])
          refine wpAnyH_ready (rs := [8]) (by kernel_rfl) (by simp) ?_
          refine (AllReadyH.cons rfl (fun K hK => ?_) AllReadyH.nil)
          (refine step_pushG (by rfl) _ _ (by rfl) w0.heap.size _ bs (by rfl) Vwa4.out _ 1 1 [⟨f, t, m⟩] rfl (by rfl) Nwa4.out.bat1 (fun q => by cases q) (by simp; omega) Rwa4.out.size ?_; intro vwa5 wa5 ho hg; obtain ⟨L, hL⟩ : ∃ L, L = bs ++ [Bd.mk f t m] := ⟨_, rfl⟩; rw [← hL] at ho; have Zwa5 := hg.size; have Rwa5 := Lib.hid (Rwa4.out.trans (grownB Vwa4.out hg Rwa4.out.size)); (try have Nwa5 := Lib.hid (Nwa4.out.grown hg (by simp [Value.ownBlock]; omega))); (try have Xwa5 := Lib.hid (Xwa4.out.grownT Vwa4.out hg)); obtain ⟨G, c2, rfl, _⟩ := ho.bat; have Uwa5 := Lib.hid ho; have HL := Lib.hid hL; clear ho hg hL)
          refine hK.out _ _ ?_ (fun hHeld => ?_)
          focus ((try dsimp only); (first | done | exact ⟨cB Rwa5.out p0, cB Rwa5.out p1, cB Rwa5.out b0, cB Rwa5.out b1, cB Rwa5.out b2⟩))
          clear hK K
          (try simp only [Act.put, List.getElem_toArray, List.getElem_cons_succ, List.getElem_cons_zero, List.setIfInBounds_toArray, List.set_cons_zero, List.set_cons_succ])
          (refine wpAnyH_take (i := 9) (v := ?tv65) rfl (by kernel_rfl) (by kernel_rfl) (by kernel_rfl) (fun _ _ _ h => h) (Or.inl ⟨by kernel_rfl, ?ty65⟩) (by assumption) ?tr65; (case ty65 => (intro w' hSw; (try dsimp only at hSw); go_simp <;> with_reducible rfl)); (try simp only [Act.put, List.getElem_toArray, List.getElem_cons_succ, List.getElem_cons_zero, List.setIfInBounds_toArray, List.set_cons_zero, List.set_cons_succ]))
          refine wpAnyH_ready (rs := [11]) (by kernel_rfl) (by simp) ?_
          refine (AllReadyH.cons rfl (fun K hK => ?_) AllReadyH.nil)
          (obtain ⟨q0, q1, fr0, fr1⟩ := Xwa5.out.two; go_simp; refine name_k (fun wa6 hwa6 => ?_); obtain ⟨s1, s2, s3⟩ := storeE hwa6 Xwa5.out Uwa5.out Rwa5.out (by omega); have Uwa6 := Lib.hid s1; have Xwa6 := Lib.hid s2; have Rwa6 := Lib.hid s3; clear hwa6 s1 s2 s3 q0 q1 fr0 fr1)
          refine hK.out _ _ ?_ (fun hHeld => ?_)
          focus ((try dsimp only); (first | done | exact ⟨cB Rwa6.out p0, cB Rwa6.out p1, cB Rwa6.out b0, cB Rwa6.out b1, cB Rwa6.out b2⟩))
          clear hK K
          (try simp only [Act.put, List.getElem_toArray, List.getElem_cons_succ, List.getElem_cons_zero, List.setIfInBounds_toArray, List.set_cons_zero, List.set_cons_succ])
          refine wpAnyH_done (by kernel_rfl) ?_ _
        case' b62_1 =>
          (go_simp; refine name_k (fun wa3 hwa3 => ?_); have Zwa3 := sizeE hwa3; have Rwa3 := Lib.hid (Below.allocE Rwa2.out Rwa2.out.size hwa3); (try have Ewa3 := Lib.hid (OwnB.allocE Ewa2.out hwa3)); (try have Vwa3 := Lib.hid (OwnB.allocE Vwa2.out hwa3)); (try have Uwa3 := Lib.hid (OwnB.allocE Uwa2.out hwa3)); (try have Nwa3 := Lib.hid (Blk.allocE Nwa2.out hwa3)); (try have Xwa3 := Lib.hid (Blk.allocE Xwa2.out hwa3)); have Nwa3 := Lib.hid (Blk.newE hwa3); clear hwa3)
          refine hK.out _ _ ?_ (fun hHeld => ?_)
          focus ((try dsimp only); (first | done | exact ⟨cB Rwa3.out p0, cB Rwa3.out p1, cB Rwa3.out b0, cB Rwa3.out b1, cB Rwa3.out b2⟩))
          clear hK K
          (try simp only [Act.put, List.getElem_toArray, List.getElem_cons_succ, List.getElem_cons_zero, List.setIfInBounds_toArray, List.set_cons_zero, List.set_cons_succ])
          refine wpAnyH_ready (rs := [8, 10]) (by kernel_rfl) (by simp) ?_
          refine (AllReadyH.cons rfl (fun K hK => ?b67_1) (AllReadyH.cons rfl (fun K hK => ?b67_2) AllReadyH.nil))
          case' b67_2 =>
            (go_simp; refine name_k (fun wa4 hwa4 => ?_); have Zwa4 := sizeE hwa4; have Rwa4 := Lib.hid (Below.allocE Rwa3.out Rwa3.out.size hwa4); (try have Ewa4 := Lib.hid (OwnB.allocE Ewa3.out hwa4)); (try have Vwa4 := Lib.hid (OwnB.allocE Vwa3.out hwa4)); (try have Uwa4 := Lib.hid (OwnB.allocE Uwa3.out hwa4)); (try have Nwa4 := Lib.hid (Blk.allocE Nwa3.out hwa4)); (try have Xwa4 := Lib.hid (Blk.allocE Xwa3.out hwa4)); have Xwa4 := Lib.hid (Blk.newE hwa4); clear hwa4)
            refine hK.out _ _ ?_ (fun hHeld => ?_)
            focus ((try dsimp only); (first | done | exact ⟨cB Rwa4.out p0, cB Rwa4.out p1, cB Rwa4.out b0, cB Rwa4.out b1, cB Rwa4.out b2⟩))
            clear hK K
            (try simp only [Act.put, List.getElem_toArray, List.getElem_cons_succ, List.getElem_cons_zero, List.setIfInBounds_toArray, List.set_cons_zero, List.set_cons_succ])
            refine wpAnyH_ready (rs := [8]) (by kernel_rfl) (by simp) ?_
            refine (AllReadyH.cons rfl (fun K hK => ?_) AllReadyH.nil)
            (refine step_pushG (by rfl) _ _ (by rfl) w0.heap.size _ bs (by rfl) Vwa4.out _ 1 1 [⟨f, t, m⟩] rfl (by rfl) Nwa4.out.bat1 (fun q => by cases q) (by simp; omega) Rwa4.out.size ?_; intro vwa5 wa5 ho hg; obtain ⟨L, hL⟩ : ∃ L, L = bs ++ [Bd.mk f t m] := ⟨_, rfl⟩; rw [← hL] at ho; have Zwa5 := hg.size; have Rwa5 := Lib.hid (Rwa4.out.trans (grownB Vwa4.out hg Rwa4.out.size)); (try have Nwa5 := Lib.hid (Nwa4.out.grown hg (by simp [Value.ownBlock]; omega))); (try have Xwa5 := Lib.hid (Xwa4.out.grownT Vwa4.out hg)); obtain ⟨G, c2, rfl, _⟩ := ho.bat; have Uwa5 := Lib.hid ho; have HL := Lib.hid hL; clear ho hg hL)
            refine hK.out _ _ ?_ (fun hHeld => ?_)
            focus ((try dsimp only); (first | done | exact ⟨cB Rwa5.out p0, cB Rwa5.out p1, cB Rwa5.out b0, cB Rwa5.out b1, cB Rwa5.out b2⟩))
            clear hK K
            (try simp only [Act.put, List.getElem_toArray, List.getElem_cons_succ, List.getElem_cons_zero, List.setIfInBounds_toArray, List.set_cons_zero, List.set_cons_succ])
            (refine wpAnyH_take (i := 9) (v := ?tv69) rfl (by kernel_rfl) (by kernel_rfl) (by kernel_rfl) (fun _ _ _ h => h) (Or.inl ⟨by kernel_rfl, ?ty69⟩) (by assumption) ?tr69; (case ty69 => (intro w' hSw; (try dsimp only at hSw); go_simp <;> with_reducible rfl)); (try simp only [Act.put, List.getElem_toArray, List.getElem_cons_succ, List.getElem_cons_zero, List.setIfInBounds_toArray, List.set_cons_zero, List.set_cons_succ]))
            refine wpAnyH_ready (rs := [11]) (by kernel_rfl) (by simp) ?_
            refine (AllReadyH.cons rfl (fun K hK => ?_) AllReadyH.nil)
            (obtain ⟨q0, q1, fr0, fr1⟩ := Xwa5.out.two; go_simp; refine name_k (fun wa6 hwa6 => ?_); obtain ⟨s1, s2, s3⟩ := storeE hwa6 Xwa5.out Uwa5.out Rwa5.out (by omega); have Uwa6 := Lib.hid s1; have Xwa6 := Lib.hid s2; have Rwa6 := Lib.hid s3; clear hwa6 s1 s2 s3 q0 q1 fr0 fr1)
            refine hK.out _ _ ?_ (fun hHeld => ?_)
            focus ((try dsimp only); (first | done | exact ⟨cB Rwa6.out p0, cB Rwa6.out p1, cB Rwa6.out b0, cB Rwa6.out b1, cB Rwa6.out b2⟩))
            clear hK K
            (try simp only [Act.put, List.getElem_toArray, List.getElem_cons_succ, List.getElem_cons_zero, List.setIfInBounds_toArray, List.set_cons_zero, List.set_cons_succ])
            refine wpAnyH_done (by kernel_rfl) ?_ _
          case' b67_1 =>
            (refine step_pushG (by rfl) _ _ (by rfl) w0.heap.size _ bs (by rfl) Vwa3.out _ 1 1 [⟨f, t, m⟩] rfl (by rfl) Nwa3.out.bat1 (fun q => by cases q) (by simp; omega) Rwa3.out.size ?_; intro vwa4 wa4 ho hg; obtain ⟨L, hL⟩ : ∃ L, L = bs ++ [Bd.mk f t m] := ⟨_, rfl⟩; rw [← hL] at ho; have Zwa4 := hg.size; have Rwa4 := Lib.hid (Rwa3.out.trans (grownB Vwa3.out hg Rwa3.out.size)); (try have Nwa4 := Lib.hid (Nwa3.out.grown hg (by simp [Value.ownBlock]; omega))); (try have Xwa4 := Lib.hid (Xwa3.out.grownT Vwa3.out hg)); obtain ⟨G, c2, rfl, _⟩ := ho.bat; have Uwa4 := Lib.hid ho; have HL := Lib.hid hL; clear ho hg hL)
            refine hK.out _ _ ?_ (fun hHeld => ?_)
            focus ((try dsimp only); (first | done | exact ⟨cB Rwa4.out p0, cB Rwa4.out p1, cB Rwa4.out b0, cB Rwa4.out b1, cB Rwa4.out b2⟩))
            clear hK K
            (try simp only [Act.put, List.getElem_toArray, List.getElem_cons_succ, List.getElem_cons_zero, List.setIfInBounds_toArray, List.set_cons_zero, List.set_cons_succ])
            (refine wpAnyH_take (i := 9) (v := ?tv71) rfl (by kernel_rfl) (by kernel_rfl) (by kernel_rfl) (fun _ _ _ h => h) (Or.inl ⟨by kernel_rfl, ?ty71⟩) (by assumption) ?tr71; (case ty71 => (intro w' hSw; (try dsimp only at hSw); go_simp <;> with_reducible rfl)); (try simp only [Act.put, List.getElem_toArray, List.getElem_cons_succ, List.getElem_cons_zero, List.setIfInBounds_toArray, List.set_cons_zero, List.set_cons_succ]))
            refine wpAnyH_ready (rs := [10]) (by kernel_rfl) (by simp) ?_
            refine (AllReadyH.cons rfl (fun K hK => ?_) AllReadyH.nil)
            (go_simp; refine name_k (fun wa5 hwa5 => ?_); have Zwa5 := sizeE hwa5; have Rwa5 := Lib.hid (Below.allocE Rwa4.out Rwa4.out.size hwa5); (try have Ewa5 := Lib.hid (OwnB.allocE Ewa4.out hwa5)); (try have Vwa5 := Lib.hid (OwnB.allocE Vwa4.out hwa5)); (try have Uwa5 := Lib.hid (OwnB.allocE Uwa4.out hwa5)); (try have Nwa5 := Lib.hid (Blk.allocE Nwa4.out hwa5)); (try have Xwa5 := Lib.hid (Blk.allocE Xwa4.out hwa5)); have Xwa5 := Lib.hid (Blk.newE hwa5); clear hwa5)
            refine hK.out _ _ ?_ (fun hHeld => ?_)
            focus ((try dsimp only); (first | done | exact ⟨cB Rwa5.out p0, cB Rwa5.out p1, cB Rwa5.out b0, cB Rwa5.out b1, cB Rwa5.out b2⟩))
            clear hK K
            (try simp only [Act.put, List.getElem_toArray, List.getElem_cons_succ, List.getElem_cons_zero, List.setIfInBounds_toArray, List.set_cons_zero, List.set_cons_succ])
            refine wpAnyH_ready (rs := [11]) (by kernel_rfl) (by simp) ?_
            refine (AllReadyH.cons rfl (fun K hK => ?_) AllReadyH.nil)
            (obtain ⟨q0, q1, fr0, fr1⟩ := Xwa5.out.two; go_simp; refine name_k (fun wa6 hwa6 => ?_); obtain ⟨s1, s2, s3⟩ := storeE hwa6 Xwa5.out Uwa5.out Rwa5.out (by omega); have Uwa6 := Lib.hid s1; have Xwa6 := Lib.hid s2; have Rwa6 := Lib.hid s3; clear hwa6 s1 s2 s3 q0 q1 fr0 fr1)
            refine hK.out _ _ ?_ (fun hHeld => ?_)
            focus ((try dsimp only); (first | done | exact ⟨cB Rwa6.out p0, cB Rwa6.out p1, cB Rwa6.out b0, cB Rwa6.out b1, cB Rwa6.out b2⟩))
            clear hK K
            (try simp only [Act.put, List.getElem_toArray, List.getElem_cons_succ, List.getElem_cons_zero, List.setIfInBounds_toArray, List.set_cons_zero, List.set_cons_succ])
            refine wpAnyH_done (by kernel_rfl) ?_ _
    all_goals go_wp2_with fail
    all_goals go_meet
    all_goals exact ⟨_, G, c2, L, rfl, by omega, HL.out, Uwa6.out, Xwa6.out, Rwa6.out⟩
  case rest =>
    obtain ⟨X, G, c2, L, rfl, hX, hL, hO, hQ, hb⟩ := hcut
    have q0 : wc.cell? ⟨X, 0, none⟩ = some (.int .i64 n) := hQ.cell 0
    have q1 : wc.cell? ⟨X, 1, none⟩ = some (.slice G L.length c2) := hQ.cell 1
    obtain ⟨G', c', hv, hrb, hcc, hnn⟩ := hO.rb
    obtain ⟨rfl, rfl⟩ : G = G' ∧ c2 = c' := by injection hv with e1 _ e2; exact ⟨e1, e2⟩
    have HL := Lib.hid hL
    have hll : L.length ≤ 1001 := by rw [hL, List.length_append, List.length_singleton]; omega
    have HRB := Lib.hid hrb
    have HNN := Lib.hid hnn
    replace p0 := cB hb p0
    replace p1 := cB hb p1
    have RC := Lib.hid (RS.out.below' hb)
    have BC := Lib.hid (via hb BW.out)
    have HBC := Lib.hid (HB.out.below hb)
    have hzc := hb.size
    clear hO hQ hL hrb hnn hv hb b0 b1 b2 RS BW HB
    cases hp : planOk n bs
    · have EW : withOk n bs ⟨f, t, m⟩ = false := by simp [withOk, hp]
      go_wp2_with fail
      refine (specPlanOk_any n A c bs _ HBC.out (by omega)).mono ?_; rintro e w3 ⟨rfl, hb3⟩
      rw [hp]
      have R4 := Lib.hid (RC.out.below' hb3); have B4 := Lib.hid (via hb3 BC.out); have hz4 := hb3.size; obtain ⟨r0, r1, f0, f1⟩ := R4.out.two; clear hb3; go_wp2; refine bodyPost_ret (v := .tuple #[.agg #[.int .i64 0, .slice none 0 0], .bool false]) (by simp [results, Try.results131, go_sem, r0, r1]) rfl ⟨0, none, 0, [], by rw [EW]; rfl, fun q => (by rw [EW] at q; cases q), fun _ => ⟨rfl, rfl⟩, Nat.le_refl _, fun _ => rfl, .inl ⟨rfl, rfl⟩, vset (vset B4.out (by dsimp only; omega) _) (by dsimp only; omega) _⟩
    · go_wp2_with fail
      refine (specPlanOk_any n A c bs _ HBC.out (by omega)).mono ?_; rintro e w3 ⟨rfl, hb3⟩
      rw [hp]
      replace q0 := cB hb3 q0
      replace q1 := cB hb3 q1
      have HR3 := Lib.hid (HRB.out.same (Same.of_below hb3 (Nat.le_refl _)) (Nat.le_refl _))
      have hz3 := hb3.size
      cases hq : planOk n L
      · have EW : withOk n bs ⟨f, t, m⟩ = false := by rw [HL.out] at hq; simp [withOk, hp, hq]
        clear hp
        go_wp2_with fail
        refine (specPlanOk_any n G c2 L _ HR3.out.bat (by omega)).mono ?_; rintro e w4 ⟨rfl, hb4⟩
        rw [hq]
        have R4 := Lib.hid ((RC.out.below' hb3).below' hb4); have B4 := Lib.hid (via hb4 (via hb3 BC.out)); have hz4 := hb4.size; obtain ⟨r0, r1, f0, f1⟩ := R4.out.two; clear hb4; go_wp2; refine bodyPost_ret (v := .tuple #[.agg #[.int .i64 0, .slice none 0 0], .bool false]) (by simp [results, Try.results131, go_sem, r0, r1]) rfl ⟨0, none, 0, [], by rw [EW]; rfl, fun q => (by rw [EW] at q; cases q), fun _ => ⟨rfl, rfl⟩, Nat.le_refl _, fun _ => rfl, .inl ⟨rfl, rfl⟩, vset (vset B4.out (by dsimp only; omega) _) (by dsimp only; omega) _⟩
      · have EW : withOk n bs ⟨f, t, m⟩ = true := by rw [HL.out] at hq; simp [withOk, hp, hq]
        clear hp
        go_wp2_with fail
        refine (specPlanOk_any n G c2 L _ HR3.out.bat (by omega)).mono ?_; rintro e w4 ⟨rfl, hb4⟩
        rw [hq]
        replace q0 := cB hb4 q0
        replace q1 := cB hb4 q1
        have R4 := Lib.hid ((RC.out.below' hb3).below' hb4)
        have B4 := Lib.hid (via hb4 (via hb3 BC.out))
        have hz4 := hb4.size
        have HR4 := Lib.hid ((HR3.out.same (Same.of_below hb4 (by omega)) (by omega)).wide (lo' := w.heap.size) (hi' := w4.heap.size) (by omega) (by omega))
        obtain ⟨r0, r1, f0, f1⟩ := R4.out.two
        clear hb3 hb4 hq
        go_wp2
        refine bodyPost_ret (v := .tuple #[.agg #[.int .i64 n, .slice G L.length c2], .bool true]) (by simp [results, Try.results131, go_sem, r0, r1]) rfl ⟨n, G, c2, L, by rw [EW], fun _ => ⟨rfl, HL.out⟩, fun q => (by rw [EW] at q; cases q), hcc, HNN.out, ?_, vset (vset B4.out (by dsimp only; omega) _) (by dsimp only; omega) _⟩
        rw [szc, szc]; exact (HR4.out.box R4.out).box (R4.out.set_ 0 _)
end Go.Proofs.Ytnompncmachgjaa
