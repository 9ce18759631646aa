/- The contracts of spec.l20Tight and spec.DrawBadRing: some plan in new memory. -/
import Derived.Test.YtnompncmachgjaaDrawJoin
namespace Go.Proofs.Ytnompncmachgjaa
open Go.RowKit
set_option linter.unusedVariables false
set_option maxRecDepth 10000
set_option linter.unusedSimpArgs false

/-- Some plan, its bounds in new memory; the reader has gone on, and nothing else has turned. -/
def DrewT (base g q : Nat) (w : World) (e : Ending) (w' : World) : Prop :=
  ∃ (n : Int) (A : Option Addr) (c : Nat) (bs : List Bd), e = .returned (.agg #[.int .i64 n, .slice A bs.length c]) ∧ (0 ≤ n ∧ n ≤ 7 ∧ bs.length ≤ 16) ∧ bs.length ≤ c ∧ (A = none → c = 0) ∧ RB w' w.heap.size w'.heap.size A bs ∧ Rd w' base g (q + 150) ∧ Only g (g + 1) w w'
theorem t_end {base g q q' P : Nat} {n : Int} {A : Option Addr} {c : Nat} {bs : List Bd} {w W : World} {e : Ending} {u0 u1 : Value} (hf : 0 ≤ n ∧ n ≤ 7 ∧ bs.length ≤ 16) (hc : bs.length ≤ c) (hn : A = none → c = 0) (hD : Dr base g q' w W P n A c bs) (hq : q' ≤ q + 150) (he : e = .returned (.agg #[.int .i64 n, .slice A bs.length c])) :
    DrewT base g q w e ((W.setCell ⟨w.heap.size, 0, none⟩ u0).setCell ⟨w.heap.size, 1, none⟩ u1) := by
  obtain ⟨h1, h2, h3⟩ := hD.end_ (u0 := u0) (u1 := u1) rfl
  exact ⟨n, A, c, bs, he, hf, hc, hn, h1, h2.mono hq, h3⟩
theorem Same.cells {lo hi b : Nat} {w w1 : World} (hs : Same lo hi w w1) (hh : hi ≤ w.heap.size) (h1 : lo ≤ b) (h2 : b < hi) (k : Nat) : w1.cell? ⟨b, k, none⟩ = w.cell? ⟨b, k, none⟩ := by
  have := (hs.out hh).2 b h1 h2
  simp only [World.cell?, this]
theorem RB.lo {w : World} {lo hi b off : Nat} {bs : List Bd} (h : RB w lo hi (some ⟨b, off, none⟩) bs) : lo ≤ b ∧ b < hi := by
  rcases h with ⟨h, _⟩ | ⟨g, cs, e, h1, h2, _⟩
  · cases h
  · cases e; exact ⟨h1, h2⟩
theorem Dr.farB {base g q P X : Nat} {w0 w w' : World} {n : Int} {A : Option Addr} {c : Nat} {bs : List Bd} {u0 u1 u2 : Value} (e : w' = ((w.setCell ⟨X, 0, none⟩ u0).setCell ⟨X, 1, none⟩ u1).setCell ⟨X, 2, none⟩ u2) (h : Dr base g q w0 w P n A c bs) (hB : w0.heap.size < X) (hne : X ≠ P) (hrb : RB w' (w0.heap.size + 1) w'.heap.size A bs) : Dr base g q w0 w' P n A c bs := by
  subst e
  have h1 := h.hg
  exact ⟨((h.res.far (by dsimp only; omega) u0).far (by dsimp only; omega) u1).far (by dsimp only; omega) u2, ((h.box.far (by dsimp only; exact fun e => hne e.symm) u0).far (by dsimp only; exact fun e => hne e.symm) u1).far (by dsimp only; exact fun e => hne e.symm) u2, hrb, h.rd.same ((((Same.refl _ _ _).set_ (.inr (by dsimp only; omega)) _).set_ (.inr (by dsimp only; omega)) _).set_ (.inr (by dsimp only; omega)) _), ((h.only.new (by dsimp only; omega) u0).new (by dsimp only; omega) u1).new (by dsimp only; omega) u2, h.hP, h.hg⟩
theorem RB.allocE {w w' : World} {lo : Nat} {A : Option Addr} {bs : List Bd} {o : Obj} (e : w' = w.alloc o) (h : RB w lo w.heap.size A bs) : RB w' lo w'.heap.size A bs := by
  subst e
  exact (h.same ((Same.refl _ _ _).alloc _) (Nat.le_refl _)).wide (Nat.le_refl _) (by simp)
set_option maxHeartbeats 4000000 in
theorem tight_draw (base g q : Nat) (nn : Int) (w : World) (h : Rd w base g q) (hq : q ≤ 80000) (hn1 : 1 ≤ nn) (hn2 : nn ≤ 1000) :
    Calls Try.prog 112 #[.pointer (some ⟨g, 0, none⟩), .int .i64 nn] w (DrewT base g q w) := by
  have hg := h.lt
  go_enter Try.func112, Try.ntmps112
  go_wp2_with fail
  refine (plan_any base g q nn _ (h.alloc _) (by omega) (by omega) (by omega)).mono ?_; rintro e w1 ⟨m, A, c, bs, rfl, hf, hc, hn, hrb, hrd, ho⟩
  have HN := Lib.hid hn
  have D0 := Lib.hid (Dr.start (n := m) (c := c) rfl hg hrb hrd ho)
  have hz1 := ho.size
  simp only [sz] at hz1
  clear ho hrb hrd hn h
  go_wp2_with fail
  obtain ⟨w2, hw2⟩ : ∃ w2, w2 = w1.alloc (.cells #[.int .i64 m, .slice A bs.length c] 25) := ⟨_, rfl⟩
  have D2 := Lib.hid (show Dr base g _ w w2 w1.heap.size m A c bs by rw [hw2]; exact D0.out)
  rw [← hw2]
  clear hw2 D0
  have p0 := D2.out.p0
  have p1 := D2.out.p1
  have hneR : ¬ w.heap.size = w1.heap.size := by omega
  have hzP := D2.out.lt
  have hl16 := hf.2.2.1
  have HF := Lib.hid (show 0 ≤ m ∧ m ≤ 7 ∧ bs.length ≤ 16 from ⟨hf.1, hf.2.1, hf.2.2.1⟩)
  clear hf
  go_wp2_with fail
  refine (pick_any base g _ 3 _ D2.out.rd (by omega)).mono ?_; rintro e w3 ⟨k3, rfl, k30, k31, _, hr3, ho3, hs3⟩
  have D3 := Lib.hid (D2.out.pick hr3 ho3)
  clear hr3 ho3 hs3 k31 D2 p0 p1 hzP
  have p0 := D3.out.p0
  have p1 := D3.out.p1
  by_cases hk3 : k3 = 0
  · subst hk3
    obtain ⟨r0, r1, f0, f1⟩ := D3.out.res.two
    go_wp2
    refine bodyPost_ret (v := .agg #[.int .i64 m, .slice A bs.length c]) (by simp [results, Try.results112, go_sem, r0, r1]) rfl (t_end HF.out hc HN.out D3.out (by omega) rfl)
  have hk3' : 0 < k3 := by omega
  have hk3'' : decide (0 < k3) = true := decide_eq_true hk3'
  clear hk3
  go_wp2_with fail
  refine (specPlanOk_any m A c bs _ D3.out.bat (by omega)).mono ?_; rintro e w4 ⟨rfl, hb4⟩
  have D4 := Lib.hid (D3.out.below hb4)
  clear hb4 D3 p0 p1
  have p0 := D4.out.p0
  have p1 := D4.out.p1
  cases hp : planOk m bs
  · clear hp
    obtain ⟨r0, r1, f0, f1⟩ := D4.out.res.two
    go_wp2
    refine bodyPost_ret (v := .agg #[.int .i64 m, .slice A bs.length c]) (by simp [results, Try.results112, go_sem, r0, r1]) rfl (t_end HF.out hc HN.out D4.out (by omega) rfl)
  have HP := Lib.hid hp
  clear hp
  by_cases hl0 : bs.length = 0
  · have hgd : decide ((0 : Int) < (bs.length : Int)) = false := decide_eq_false (by omega)
    have hgd2 : decide (0 < bs.length) = false := decide_eq_false (by omega)
    have hgd3 : ¬ 0 < bs.length := by omega
    clear hl0
    obtain ⟨r0, r1, f0, f1⟩ := D4.out.res.two
    go_wp2
    refine bodyPost_ret (v := .agg #[.int .i64 m, .slice A bs.length c]) (by simp [results, Try.results112, go_sem, r0, r1]) rfl (t_end HF.out hc HN.out D4.out (by omega) rfl)
  have hgd3 : 0 < bs.length := by omega
  have hgd : decide ((0 : Int) < (bs.length : Int)) = true := decide_eq_true (by omega)
  have hgd2 : decide (0 < bs.length) = true := decide_eq_true hgd3
  clear hl0
  obtain ⟨b, off, x00, rfl, hbl, _⟩ := D4.out.bat.at_ hgd3
  obtain ⟨hb1, hb2⟩ := D4.out.rb.lo
  have hz4 := D4.out.lt
  have hzP := D4.out.hP
  have hgw := D4.out.hg
  go_upto_region 3 with (fail)
  clear hgd hgd2 hk3' hk3''
  refine wp_region_held_drew (S := (fun w' => w'.cell? ⟨w1.heap.size, 0, none⟩ = some (.int .i64 m) ∧ w'.cell? ⟨w1.heap.size, 1, none⟩ = some (.slice (some ⟨b, off, none⟩) bs.length c) ∧ ∀ k, w'.cell? ⟨b, k, none⟩ = w4.cell? ⟨b, k, none⟩)) (by kernel_rfl) ?_ (fun hHeld => ?_)
  · (try dsimp only)
    (first | done | exact ⟨cD p0, cD p1, fun _ => rfl⟩)
  refine name_h (fun wa0 hwa0 => ?_)
  replace hHeld : ((fun w' => w'.cell? ⟨w1.heap.size, 0, none⟩ = some (.int .i64 m) ∧ w'.cell? ⟨w1.heap.size, 1, none⟩ = some (.slice (some ⟨b, off, none⟩) bs.length c) ∧ ∀ k, w'.cell? ⟨b, k, none⟩ = w4.cell? ⟨b, k, none⟩)) wa0 := by rw [hwa0]; exact hHeld
  (have Dwa0 := Lib.hid (D4.out.drewE hwa0); have Swa0 := Lib.hid (show Same (w.heap.size + 1) w4.heap.size w4 wa0 by rw [hwa0]; exact (Same.refl _ _ _).drew); have Zwa0 : w4.heap.size ≤ wa0.heap.size := (by rw [hwa0]; exact Nat.le_refl _))
  clear hwa0
  (refine wpAnyH_take (i := 0) (v := ?tv1) rfl (by kernel_rfl) (by kernel_rfl) (by kernel_rfl) (fun _ _ _ h => h) (Or.inl ⟨by kernel_rfl, ?ty1⟩) (by assumption) ?tr1; (case ty1 => (intro w' hSw; (try dsimp only at hSw); go_simp <;> with_reducible rfl)); (try simp only [Act.put, List.getElem_toArray, List.getElem_cons_succ, List.getElem_cons_zero, List.setIfInBounds_toArray, List.set_cons_zero, List.set_cons_succ]))
  (refine wpAnyH_take (i := 1) (v := ?tv2) rfl (by kernel_rfl) (by kernel_rfl) (by kernel_rfl) (fun _ _ _ h => h) (Or.inl ⟨by kernel_rfl, ?ty2⟩) (by assumption) ?tr2; (case ty2 => (intro w' hSw; (try dsimp only at hSw); go_simp <;> with_reducible rfl)); (try simp only [Act.put, List.getElem_toArray, List.getElem_cons_succ, List.getElem_cons_zero, List.setIfInBounds_toArray, List.set_cons_zero, List.set_cons_succ]))
  (refine wpAnyH_take (i := 2) (v := ?tv3) rfl (by kernel_rfl) (by kernel_rfl) (by kernel_rfl) (fun _ _ _ h => h) (Or.inl ⟨by kernel_rfl, ?ty3⟩) (by assumption) ?tr3; (case ty3 => (intro w' hSw; (try dsimp only at hSw); go_simp <;> with_reducible rfl)); (try simp only [Act.put, List.getElem_toArray, List.getElem_cons_succ, List.getElem_cons_zero, List.setIfInBounds_toArray, List.set_cons_zero, List.set_cons_succ]))
  (refine wpAnyH_take (i := 3) (v := ?tv4) rfl (by kernel_rfl) (by kernel_rfl) (by kernel_rfl) (fun _ _ _ h => h) (Or.inl ⟨by kernel_rfl, ?ty4⟩) (by assumption) ?tr4; (case ty4 => (intro w' hSw; (try dsimp only at hSw); go_simp <;> with_reducible rfl)); (try simp only [Act.put, List.getElem_toArray, List.getElem_cons_succ, List.getElem_cons_zero, List.setIfInBounds_toArray, List.set_cons_zero, List.set_cons_succ]))
  (refine wpAnyH_take (i := 4) (v := ?tv5) rfl (by kernel_rfl) (by kernel_rfl) (by kernel_rfl) (fun _ _ _ h => h) (Or.inl ⟨by kernel_rfl, ?ty5⟩) (by assumption) ?tr5; (case ty5 => (intro w' hSw; (try dsimp only at hSw); go_simp <;> with_reducible rfl)); (try simp only [Act.put, List.getElem_toArray, List.getElem_cons_succ, List.getElem_cons_zero, List.setIfInBounds_toArray, List.set_cons_zero, List.set_cons_succ]))
  (refine wpAnyH_take (i := 5) (v := ?tv6) rfl (by kernel_rfl) (by kernel_rfl) (by kernel_rfl) (fun _ _ _ h => h) (Or.inl ⟨by kernel_rfl, ?ty6⟩) (by assumption) ?tr6; (case ty6 => (intro w' hSw; (try dsimp only at hSw); go_simp <;> with_reducible rfl)); (try simp only [Act.put, List.getElem_toArray, List.getElem_cons_succ, List.getElem_cons_zero, List.setIfInBounds_toArray, List.set_cons_zero, List.set_cons_succ]))
  refine wpAnyH_ready (rs := [6, 9]) (by kernel_rfl) (by simp) ?_
  refine (AllReadyH.cons rfl (fun K hK => ?b7_1) (AllReadyH.cons rfl (fun K hK => ?b7_2) AllReadyH.nil))
  case' b7_2 =>
    (go_simp; refine name_k (fun wa1 hwa1 => ?_); have Dwa1 := Lib.hid (Dwa0.out.allocE hwa1); have Swa1 := Lib.hid (show Same (w.heap.size + 1) w4.heap.size w4 wa1 by rw [hwa1]; exact Swa0.out.alloc _); have Xwa1 := Lib.hid (Blk.newE hwa1); have Zwa1 := Nat.le_trans Zwa0 (Nat.le_of_lt (sizeE hwa1)); obtain ⟨X, hX⟩ : ∃ X, X = wa0.heap.size := ⟨_, rfl⟩; rw [← hX] at Xwa1 ⊢; have HXg : w4.heap.size ≤ X := (by omega); clear hwa1 hX)
    refine hK.out _ _ ?_ (fun hHeld => ?_)
    focus ((try dsimp only); (first | done | exact ⟨Dwa1.out.p0, Dwa1.out.p1, Swa1.out.cells (Nat.le_refl _) hb1 hb2⟩))
    clear hK K
    (try simp only [Act.put, List.getElem_toArray, List.getElem_cons_succ, List.getElem_cons_zero, List.setIfInBounds_toArray, List.set_cons_zero, List.set_cons_succ])
    refine wpAnyH_ready (rs := [6]) (by kernel_rfl) (by simp) ?_
    refine (AllReadyH.cons rfl (fun K hK => ?_) AllReadyH.nil)
    (go_simp; go_at_call 108; refine (pick_any base g _ _ _ Dwa1.out.rd (by omega)).mono ?_; rintro e wa2 ⟨k5, rfl, k50, k51, _, hr5, ho5, hs5⟩; (try go_wp2_with fail); have K5 := k51 (by omega); obtain ⟨kk, hkk⟩ := Int.eq_ofNat_of_zero_le k50; subst hkk; have Dwa2 := Lib.hid (Dwa1.out.pick hr5 ho5); have Swa2 := Lib.hid (Same.only ho5 (.inr (by omega)) Swa1.out); (try have Xwa2 := Lib.hid (Xwa1.out.only ho5 (.inr (by omega)))); have Zwa2 := Nat.le_trans Zwa1 ho5.size; have hk5 : kk < bs.length := (by omega); obtain ⟨b', off', x, eA, _, hx, hxm, c0, c1, c2⟩ := D4.out.bat.at_ hk5; cases eA; have hxin := (planOk_of HP.out).2.2.2 x hxm; obtain ⟨f, t, mm⟩ := x; simp only at c0 c1 c2 hxin; have hwm : IntKind.i64.wrap (-mm) = -mm := IntWalk.i64_in _ ⟨by omega, by omega⟩; clear hr5 ho5 hs5 k51 hx hxm)
    refine hK.out _ _ ?_ (fun hHeld => ?_)
    focus ((try dsimp only); (first | done | exact ⟨Dwa2.out.p0, Dwa2.out.p1, Swa2.out.cells (Nat.le_refl _) hb1 hb2⟩))
    clear hK K
    (try simp only [Act.put, List.getElem_toArray, List.getElem_cons_succ, List.getElem_cons_zero, List.setIfInBounds_toArray, List.set_cons_zero, List.set_cons_succ])
    (refine wpAnyH_take (i := 7) (v := ?tv9) rfl (by kernel_rfl) (by kernel_rfl) (by kernel_rfl) (fun _ _ _ h => h) (Or.inl ⟨by kernel_rfl, ?ty9⟩) (by assumption) ?tr9; (case ty9 => (intro w' hSw; (try dsimp only at hSw); go_simp <;> with_reducible rfl)); (try simp only [Act.put, List.getElem_toArray, List.getElem_cons_succ, List.getElem_cons_zero, List.setIfInBounds_toArray, List.set_cons_zero, List.set_cons_succ]))
    (refine wpAnyH_take (i := 8) (v := ?tv10) rfl (by kernel_rfl) (by kernel_rfl) (by kernel_rfl) (fun _ _ _ h => h) (Or.inl ⟨by kernel_rfl, ?ty10⟩) (by assumption) ?tr10; (case ty10 => (intro w' hSw; (try dsimp only at hSw); go_simp <;> with_reducible rfl)); (try simp only [Act.put, List.getElem_toArray, List.getElem_cons_succ, List.getElem_cons_zero, List.setIfInBounds_toArray, List.set_cons_zero, List.set_cons_succ]))
    refine wpAnyH_ready (rs := [10]) (by kernel_rfl) (by simp) ?_
    refine (AllReadyH.cons rfl (fun K hK => ?_) AllReadyH.nil)
    (have q0 := Xwa2.out.cell 0; have q1 := Xwa2.out.cell 1; have q2 := Xwa2.out.cell 2; have fr0 := Xwa2.out.frozen 0; have fr1 := Xwa2.out.frozen 1; have fr2 := Xwa2.out.frozen 2; go_simp; refine name_k (fun wa3 hwa3 => ?_); have Swa3 := Lib.hid (show Same (w.heap.size + 1) w4.heap.size w4 wa3 by rw [hwa3]; exact ((Swa2.out.set_ (.inr (by dsimp only; omega)) _).set_ (.inr (by dsimp only; omega)) _).set_ (.inr (by dsimp only; omega)) _); have hzs : wa3.heap.size = wa2.heap.size := (by rw [hwa3, szc, szc, szc]); have Dwa3 := Lib.hid (Dr.farB hwa3 Dwa2.out (by omega) (by omega) ((D4.out.rb.same Swa3.out (Nat.le_refl _)).wide (Nat.le_refl _) (by omega))); have Xwa3 := Lib.hid (show Blk wa3 X 43 #[.int .i64 f, .int .i64 t, .int .i64 mm] by rw [hwa3]; simpa using ((Xwa2.out.set_ 0 (.int .i64 f)).set_ 1 (.int .i64 t)).set_ 2 (.int .i64 mm)); have hXl := Xwa3.out.lt; clear hwa3 q0 q1 q2 fr0 fr1 fr2)
    refine hK.out _ _ ?_ (fun hHeld => ?_)
    focus ((try dsimp only); (first | done | exact ⟨Dwa3.out.p0, Dwa3.out.p1, Swa3.out.cells (Nat.le_refl _) hb1 hb2⟩))
    clear hK K
    (try simp only [Act.put, List.getElem_toArray, List.getElem_cons_succ, List.getElem_cons_zero, List.setIfInBounds_toArray, List.set_cons_zero, List.set_cons_succ])
    refine wpAnyH_done (by kernel_rfl) ?_ _
  case' b7_1 =>
    (go_simp; go_at_call 108; refine (pick_any base g _ _ _ Dwa0.out.rd (by omega)).mono ?_; rintro e wa1 ⟨k5, rfl, k50, k51, _, hr5, ho5, hs5⟩; (try go_wp2_with fail); have K5 := k51 (by omega); obtain ⟨kk, hkk⟩ := Int.eq_ofNat_of_zero_le k50; subst hkk; have Dwa1 := Lib.hid (Dwa0.out.pick hr5 ho5); have Swa1 := Lib.hid (Same.only ho5 (.inr (by omega)) Swa0.out); (try have Xwa1 := Lib.hid (Xwa0.out.only ho5 (.inr (by omega)))); have Zwa1 := Nat.le_trans Zwa0 ho5.size; have hk5 : kk < bs.length := (by omega); obtain ⟨b', off', x, eA, _, hx, hxm, c0, c1, c2⟩ := D4.out.bat.at_ hk5; cases eA; have hxin := (planOk_of HP.out).2.2.2 x hxm; obtain ⟨f, t, mm⟩ := x; simp only at c0 c1 c2 hxin; have hwm : IntKind.i64.wrap (-mm) = -mm := IntWalk.i64_in _ ⟨by omega, by omega⟩; clear hr5 ho5 hs5 k51 hx hxm)
    refine hK.out _ _ ?_ (fun hHeld => ?_)
    focus ((try dsimp only); (first | done | exact ⟨Dwa1.out.p0, Dwa1.out.p1, Swa1.out.cells (Nat.le_refl _) hb1 hb2⟩))
    clear hK K
    (try simp only [Act.put, List.getElem_toArray, List.getElem_cons_succ, List.getElem_cons_zero, List.setIfInBounds_toArray, List.set_cons_zero, List.set_cons_succ])
    (refine wpAnyH_take (i := 7) (v := ?tv12) rfl (by kernel_rfl) (by kernel_rfl) (by kernel_rfl) (fun _ _ _ h => h) (Or.inl ⟨by kernel_rfl, ?ty12⟩) (by assumption) ?tr12; (case ty12 => (intro w' hSw; (try dsimp only at hSw); go_simp <;> with_reducible rfl)); (try simp only [Act.put, List.getElem_toArray, List.getElem_cons_succ, List.getElem_cons_zero, List.setIfInBounds_toArray, List.set_cons_zero, List.set_cons_succ]))
    (refine wpAnyH_take (i := 8) (v := ?tv13) rfl (by kernel_rfl) (by kernel_rfl) (by kernel_rfl) (fun _ _ _ h => h) (Or.inl ⟨by kernel_rfl, ?ty13⟩) (by assumption) ?tr13; (case ty13 => (intro w' hSw; (try dsimp only at hSw); go_simp <;> with_reducible rfl)); (try simp only [Act.put, List.getElem_toArray, List.getElem_cons_succ, List.getElem_cons_zero, List.setIfInBounds_toArray, List.set_cons_zero, List.set_cons_succ]))
    refine wpAnyH_ready (rs := [9]) (by kernel_rfl) (by simp) ?_
    refine (AllReadyH.cons rfl (fun K hK => ?_) AllReadyH.nil)
    (go_simp; refine name_k (fun wa2 hwa2 => ?_); have Dwa2 := Lib.hid (Dwa1.out.allocE hwa2); have Swa2 := Lib.hid (show Same (w.heap.size + 1) w4.heap.size w4 wa2 by rw [hwa2]; exact Swa1.out.alloc _); have Xwa2 := Lib.hid (Blk.newE hwa2); have Zwa2 := Nat.le_trans Zwa1 (Nat.le_of_lt (sizeE hwa2)); obtain ⟨X, hX⟩ : ∃ X, X = wa1.heap.size := ⟨_, rfl⟩; rw [← hX] at Xwa2 ⊢; have HXg : w4.heap.size ≤ X := (by omega); clear hwa2 hX)
    refine hK.out _ _ ?_ (fun hHeld => ?_)
    focus ((try dsimp only); (first | done | exact ⟨Dwa2.out.p0, Dwa2.out.p1, Swa2.out.cells (Nat.le_refl _) hb1 hb2⟩))
    clear hK K
    (try simp only [Act.put, List.getElem_toArray, List.getElem_cons_succ, List.getElem_cons_zero, List.setIfInBounds_toArray, List.set_cons_zero, List.set_cons_succ])
    refine wpAnyH_ready (rs := [10]) (by kernel_rfl) (by simp) ?_
    refine (AllReadyH.cons rfl (fun K hK => ?_) AllReadyH.nil)
    (have q0 := Xwa2.out.cell 0; have q1 := Xwa2.out.cell 1; have q2 := Xwa2.out.cell 2; have fr0 := Xwa2.out.frozen 0; have fr1 := Xwa2.out.frozen 1; have fr2 := Xwa2.out.frozen 2; go_simp; refine name_k (fun wa3 hwa3 => ?_); have Swa3 := Lib.hid (show Same (w.heap.size + 1) w4.heap.size w4 wa3 by rw [hwa3]; exact ((Swa2.out.set_ (.inr (by dsimp only; omega)) _).set_ (.inr (by dsimp only; omega)) _).set_ (.inr (by dsimp only; omega)) _); have hzs : wa3.heap.size = wa2.heap.size := (by rw [hwa3, szc, szc, szc]); have Dwa3 := Lib.hid (Dr.farB hwa3 Dwa2.out (by omega) (by omega) ((D4.out.rb.same Swa3.out (Nat.le_refl _)).wide (Nat.le_refl _) (by omega))); have Xwa3 := Lib.hid (show Blk wa3 X 43 #[.int .i64 f, .int .i64 t, .int .i64 mm] by rw [hwa3]; simpa using ((Xwa2.out.set_ 0 (.int .i64 f)).set_ 1 (.int .i64 t)).set_ 2 (.int .i64 mm)); have hXl := Xwa3.out.lt; clear hwa3 q0 q1 q2 fr0 fr1 fr2)
    refine hK.out _ _ ?_ (fun hHeld => ?_)
    focus ((try dsimp only); (first | done | exact ⟨Dwa3.out.p0, Dwa3.out.p1, Swa3.out.cells (Nat.le_refl _) hb1 hb2⟩))
    clear hK K
    (try simp only [Act.put, List.getElem_toArray, List.getElem_cons_succ, List.getElem_cons_zero, List.setIfInBounds_toArray, List.set_cons_zero, List.set_cons_succ])
    refine wpAnyH_done (by kernel_rfl) ?_ _
  · skip
    have p0 := Dwa3.out.p0
    have p1 := Dwa3.out.p1
    have x0 : wa3.cell? ⟨X, 0, none⟩ = some (.int .i64 f) := Xwa3.out.cell 0
    have x1 : wa3.cell? ⟨X, 1, none⟩ = some (.int .i64 t) := Xwa3.out.cell 1
    have x2 : wa3.cell? ⟨X, 2, none⟩ = some (.int .i64 mm) := Xwa3.out.cell 2
    clear hHeld c0 c1 c2
    go_upto_region 4 with (fail)
    refine wp_region_held_drew (S := (fun w' => w'.cell? ⟨w1.heap.size, 0, none⟩ = some (.int .i64 m) ∧ w'.cell? ⟨w1.heap.size, 1, none⟩ = some (.slice (some ⟨b, off, none⟩) bs.length c) ∧ w'.cell? ⟨X, 0, none⟩ = some (.int .i64 f) ∧ w'.cell? ⟨X, 1, none⟩ = some (.int .i64 t) ∧ w'.cell? ⟨X, 2, none⟩ = some (.int .i64 mm))) (by kernel_rfl) ?_ (fun hHeld => ?_)
    · (try dsimp only)
      (first | done | exact ⟨cD p0, cD p1, cD x0, cD x1, cD x2⟩)
    refine name_h (fun wb0 hwb0 => ?_)
    replace hHeld : ((fun w' => w'.cell? ⟨w1.heap.size, 0, none⟩ = some (.int .i64 m) ∧ w'.cell? ⟨w1.heap.size, 1, none⟩ = some (.slice (some ⟨b, off, none⟩) bs.length c) ∧ w'.cell? ⟨X, 0, none⟩ = some (.int .i64 f) ∧ w'.cell? ⟨X, 1, none⟩ = some (.int .i64 t) ∧ w'.cell? ⟨X, 2, none⟩ = some (.int .i64 mm))) wb0 := by rw [hwb0]; exact hHeld
    (have Dwb0 := Lib.hid (Dwa3.out.drewE hwb0); have Xwb0 := Lib.hid (Xwa3.out.drewE hwb0); have Zwb0 : wa3.heap.size ≤ wb0.heap.size := (by rw [hwb0]; exact Nat.le_refl _))
    clear hwb0
    (refine wpAnyH_take (i := 0) (v := ?tv16) rfl (by kernel_rfl) (by kernel_rfl) (by kernel_rfl) (fun _ _ _ h => h) (Or.inl ⟨by kernel_rfl, ?ty16⟩) (by assumption) ?tr16; (case ty16 => (intro w' hSw; (try dsimp only at hSw); go_simp <;> with_reducible rfl)); (try simp only [Act.put, List.getElem_toArray, List.getElem_cons_succ, List.getElem_cons_zero, List.setIfInBounds_toArray, List.set_cons_zero, List.set_cons_succ]))
    (refine wpAnyH_take (i := 1) (v := ?tv17) rfl (by kernel_rfl) (by kernel_rfl) (by kernel_rfl) (fun _ _ _ h => h) (Or.inl ⟨by kernel_rfl, ?ty17⟩) (by assumption) ?tr17; (case ty17 => (intro w' hSw; (try dsimp only at hSw); go_simp <;> with_reducible rfl)); (try simp only [Act.put, List.getElem_toArray, List.getElem_cons_succ, List.getElem_cons_zero, List.setIfInBounds_toArray, List.set_cons_zero, List.set_cons_succ]))
    (refine wpAnyH_take (i := 2) (v := ?tv18) rfl (by kernel_rfl) (by kernel_rfl) (by kernel_rfl) (fun _ _ _ h => h) (Or.inl ⟨by kernel_rfl, ?ty18⟩) (by assumption) ?tr18; (case ty18 => (intro w' hSw; (try dsimp only at hSw); go_simp <;> with_reducible rfl)); (try simp only [Act.put, List.getElem_toArray, List.getElem_cons_succ, List.getElem_cons_zero, List.setIfInBounds_toArray, List.set_cons_zero, List.set_cons_succ]))
    (refine wpAnyH_take (i := 3) (v := ?tv19) rfl (by kernel_rfl) (by kernel_rfl) (by kernel_rfl) (fun _ _ _ h => h) (Or.inl ⟨by kernel_rfl, ?ty19⟩) (by assumption) ?tr19; (case ty19 => (intro w' hSw; (try dsimp only at hSw); go_simp <;> with_reducible rfl)); (try simp only [Act.put, List.getElem_toArray, List.getElem_cons_succ, List.getElem_cons_zero, List.setIfInBounds_toArray, List.set_cons_zero, List.set_cons_succ]))
    (refine wpAnyH_take (i := 4) (v := ?tv20) rfl (by kernel_rfl) (by kernel_rfl) (by kernel_rfl) (fun _ _ _ h => h) (Or.inl ⟨by kernel_rfl, ?ty20⟩) (by assumption) ?tr20; (case ty20 => (intro w' hSw; (try dsimp only at hSw); go_simp <;> with_reducible rfl)); (try simp only [Act.put, List.getElem_toArray, List.getElem_cons_succ, List.getElem_cons_zero, List.setIfInBounds_toArray, List.set_cons_zero, List.set_cons_succ]))
    (refine wpAnyH_take (i := 5) (v := ?tv21) rfl (by kernel_rfl) (by kernel_rfl) (by kernel_rfl) (fun _ _ _ h => h) (Or.inl ⟨by kernel_rfl, ?ty21⟩) (by assumption) ?tr21; (case ty21 => (intro w' hSw; (try dsimp only at hSw); go_simp <;> with_reducible rfl)); (try simp only [Act.put, List.getElem_toArray, List.getElem_cons_succ, List.getElem_cons_zero, List.setIfInBounds_toArray, List.set_cons_zero, List.set_cons_succ]))
    (refine wpAnyH_take (i := 6) (v := ?tv22) rfl (by kernel_rfl) (by kernel_rfl) (by kernel_rfl) (fun _ _ _ h => h) (Or.inl ⟨by kernel_rfl, ?ty22⟩) (by assumption) ?tr22; (case ty22 => (intro w' hSw; (try dsimp only at hSw); go_simp <;> with_reducible rfl)); (try simp only [Act.put, List.getElem_toArray, List.getElem_cons_succ, List.getElem_cons_zero, List.setIfInBounds_toArray, List.set_cons_zero, List.set_cons_succ]))
    (refine wpAnyH_take (i := 7) (v := ?tv23) rfl (by kernel_rfl) (by kernel_rfl) (by kernel_rfl) (fun _ _ _ h => h) (Or.inl ⟨by kernel_rfl, ?ty23⟩) (by assumption) ?tr23; (case ty23 => (intro w' hSw; (try dsimp only at hSw); go_simp <;> with_reducible rfl)); (try simp only [Act.put, List.getElem_toArray, List.getElem_cons_succ, List.getElem_cons_zero, List.setIfInBounds_toArray, List.set_cons_zero, List.set_cons_succ]))
    (refine wpAnyH_take (i := 8) (v := ?tv24) rfl (by kernel_rfl) (by kernel_rfl) (by kernel_rfl) (fun _ _ _ h => h) (Or.inl ⟨by kernel_rfl, ?ty24⟩) (by assumption) ?tr24; (case ty24 => (intro w' hSw; (try dsimp only at hSw); go_simp <;> with_reducible rfl)); (try simp only [Act.put, List.getElem_toArray, List.getElem_cons_succ, List.getElem_cons_zero, List.setIfInBounds_toArray, List.set_cons_zero, List.set_cons_succ]))
    refine wpAnyH_ready (rs := [9, 16]) (by kernel_rfl) (by simp) ?_
    refine (AllReadyH.cons rfl (fun K hK => ?b25_1) (AllReadyH.cons rfl (fun K hK => ?b25_2) AllReadyH.nil))
    case' b25_2 =>
      (go_simp; refine name_k (fun wb1 hwb1 => ?_); have Dwb1 := Lib.hid (Dwb0.out.allocE hwb1); have Xwb1 := Lib.hid (Xwb0.out.allocE hwb1); have Qwb1 := Lib.hid (Blk.newE hwb1); (try have Rwb1 := Lib.hid (Rwb0.out.allocE hwb1)); have Zwb1 := Nat.le_trans Zwb0 (Nat.le_of_lt (sizeE hwb1)); obtain ⟨Y, hY⟩ : ∃ Y, Y = wb0.heap.size := ⟨_, rfl⟩; rw [← hY] at Qwb1 ⊢; have HYg : wa3.heap.size ≤ Y := (by omega); clear hwb1 hY)
      refine hK.out _ _ ?_ (fun hHeld => ?_)
      focus ((try dsimp only); (first | done | exact ⟨Dwb1.out.p0, Dwb1.out.p1, Xwb1.out.cell 0, Xwb1.out.cell 1, Xwb1.out.cell 2⟩))
      clear hK K
      (try simp only [Act.put, List.getElem_toArray, List.getElem_cons_succ, List.getElem_cons_zero, List.setIfInBounds_toArray, List.set_cons_zero, List.set_cons_succ])
      refine wpAnyH_ready (rs := [9]) (by kernel_rfl) (by simp) ?_
      refine (AllReadyH.cons rfl (fun K hK => ?_) AllReadyH.nil)
      (go_simp; go_at_call 108; refine (pick_any base g _ 4 _ Dwb1.out.rd (by omega)).mono ?_; rintro e wb2 ⟨k6, rfl, k60, k61, _, hr6, ho6, hs6⟩; (try go_wp2_with fail); have K6 := k61 (by omega); have hw6 : IntKind.i64.wrap (-mm - k6) = -mm - k6 := IntWalk.i64_in _ ⟨by omega, by omega⟩; have Dwb2 := Lib.hid (Dwb1.out.pick hr6 ho6); have Xwb2 := Lib.hid (Xwb1.out.only ho6 (.inr (by omega))); (try have Qwb2 := Lib.hid (Qwb1.out.only ho6 (.inr (by omega)))); have Zwb2 := Nat.le_trans Zwb1 ho6.size; clear hr6 ho6 hs6 k61)
      refine hK.out _ _ ?_ (fun hHeld => ?_)
      focus ((try dsimp only); (first | done | exact ⟨Dwb2.out.p0, Dwb2.out.p1, Xwb2.out.cell 0, Xwb2.out.cell 1, Xwb2.out.cell 2⟩))
      clear hK K
      (try simp only [Act.put, List.getElem_toArray, List.getElem_cons_succ, List.getElem_cons_zero, List.setIfInBounds_toArray, List.set_cons_zero, List.set_cons_succ])
      (refine wpAnyH_take (i := 10) (v := ?tv27) rfl (by kernel_rfl) (by kernel_rfl) (by kernel_rfl) (fun _ _ _ h => h) (Or.inl ⟨by kernel_rfl, ?ty27⟩) (by assumption) ?tr27; (case ty27 => (intro w' hSw; (try dsimp only at hSw); go_simp <;> with_reducible rfl)); (try simp only [Act.put, List.getElem_toArray, List.getElem_cons_succ, List.getElem_cons_zero, List.setIfInBounds_toArray, List.set_cons_zero, List.set_cons_succ]))
      (refine wpAnyH_take (i := 11) (v := ?tv28) rfl (by kernel_rfl) (by kernel_rfl) (by kernel_rfl) (fun _ _ _ h => h) (Or.inl ⟨by kernel_rfl, ?ty28⟩) (by assumption) ?tr28; (case ty28 => (intro w' hSw; (try dsimp only at hSw); go_simp <;> with_reducible rfl)); (try simp only [Act.put, List.getElem_toArray, List.getElem_cons_succ, List.getElem_cons_zero, List.setIfInBounds_toArray, List.set_cons_zero, List.set_cons_succ]))
      refine wpAnyH_ready (rs := [12]) (by kernel_rfl) (by simp) ?_
      refine (AllReadyH.cons rfl (fun K hK => ?_) AllReadyH.nil)
      (go_simp; go_at_call 131; refine (withBound_any _ _ _ bs t f (-mm - k6) _ Dwb2.out.bat HN.out (by omega)).mono ?_; rintro e wb3 ⟨n7, G7, c7, L7, rfl, y7, z7, l7, m7, r7, hb7⟩; (try go_wp2_with fail); have Dwb3 := Lib.hid (Dwb2.out.below hb7); have Xwb3 := Lib.hid (Xwb2.out.below' hb7); (try have Qwb3 := Lib.hid (Qwb2.out.below' hb7)); have Y7 := Lib.hid y7; have M7 := Lib.hid m7; have Rwb3 := Lib.hid (r7.wide (lo' := w.heap.size + 1) (hi' := wb3.heap.size) (by omega) (Nat.le_refl _)); have Zwb3 := Nat.le_trans Zwb2 hb7.size; clear y7 z7 m7 r7 hb7)
      refine hK.out _ _ ?_ (fun hHeld => ?_)
      focus ((try dsimp only); (first | done | exact ⟨Dwb3.out.p0, Dwb3.out.p1, Xwb3.out.cell 0, Xwb3.out.cell 1, Xwb3.out.cell 2⟩))
      clear hK K
      (try simp only [Act.put, List.getElem_toArray, List.getElem_cons_succ, List.getElem_cons_zero, List.setIfInBounds_toArray, List.set_cons_zero, List.set_cons_succ])
      (refine wpAnyH_take (i := 13) (v := ?tv30) rfl (by kernel_rfl) (by kernel_rfl) (by kernel_rfl) (fun _ _ _ h => h) (Or.inl ⟨by kernel_rfl, ?ty30⟩) (by assumption) ?tr30; (case ty30 => (intro w' hSw; (try dsimp only at hSw); go_simp <;> with_reducible rfl)); (try simp only [Act.put, List.getElem_toArray, List.getElem_cons_succ, List.getElem_cons_zero, List.setIfInBounds_toArray, List.set_cons_zero, List.set_cons_succ]))
      (refine wpAnyH_take (i := 14) (v := ?tv31) rfl (by kernel_rfl) (by kernel_rfl) (by kernel_rfl) (fun _ _ _ h => h) (Or.inl ⟨by kernel_rfl, ?ty31⟩) (by assumption) ?tr31; (case ty31 => (intro w' hSw; (try dsimp only at hSw); go_simp <;> with_reducible rfl)); (try simp only [Act.put, List.getElem_toArray, List.getElem_cons_succ, List.getElem_cons_zero, List.setIfInBounds_toArray, List.set_cons_zero, List.set_cons_succ]))
      (refine wpAnyH_take (i := 15) (v := ?tv32) rfl (by kernel_rfl) (by kernel_rfl) (by kernel_rfl) (fun _ _ _ h => h) (Or.inl ⟨by kernel_rfl, ?ty32⟩) (by assumption) ?tr32; (case ty32 => (intro w' hSw; (try dsimp only at hSw); go_simp <;> with_reducible rfl)); (try simp only [Act.put, List.getElem_toArray, List.getElem_cons_succ, List.getElem_cons_zero, List.setIfInBounds_toArray, List.set_cons_zero, List.set_cons_succ]))
      refine wpAnyH_ready (rs := [17]) (by kernel_rfl) (by simp) ?_
      refine (AllReadyH.cons rfl (fun K hK => ?_) AllReadyH.nil)
      (obtain ⟨q0, q1, fr0, fr1⟩ := Qwb3.out.two; go_simp; refine name_k (fun wb4 hwb4 => ?_); obtain ⟨s1, s2, s3, s4⟩ := Dr.far2 hwb4 Dwb3.out Qwb3.out (by omega) (by omega); have Dwb4 := Lib.hid s1; have Xwb4 := Lib.hid (show Blk wb4 X 43 #[.int .i64 f, .int .i64 t, .int .i64 mm] by rw [hwb4]; exact (Xwb3.out.far (by dsimp only; omega) _).far (by dsimp only; omega) _); have Qwb4 := Lib.hid s2; have R8 := Lib.hid (s3 _ _ _ _ Rwb3.out); have SZ8 := Lib.hid s4; clear hwb4 s1 s2 s3 s4 q0 q1 fr0 fr1)
      refine hK.out _ _ ?_ (fun hHeld => ?_)
      focus ((try dsimp only); (first | done | exact ⟨Dwb4.out.p0, Dwb4.out.p1, Xwb4.out.cell 0, Xwb4.out.cell 1, Xwb4.out.cell 2⟩))
      clear hK K
      (try simp only [Act.put, List.getElem_toArray, List.getElem_cons_succ, List.getElem_cons_zero, List.setIfInBounds_toArray, List.set_cons_zero, List.set_cons_succ])
      (refine wpAnyH_take (i := 18) (v := ?tv34) rfl (by kernel_rfl) (by kernel_rfl) (by kernel_rfl) (fun _ _ _ h => h) (Or.inl ⟨by kernel_rfl, ?ty34⟩) (by assumption) ?tr34; (case ty34 => (intro w' hSw; (try dsimp only at hSw); go_simp <;> with_reducible rfl)); (try simp only [Act.put, List.getElem_toArray, List.getElem_cons_succ, List.getElem_cons_zero, List.setIfInBounds_toArray, List.set_cons_zero, List.set_cons_succ]))
      refine wpAnyH_done (by kernel_rfl) ?_ _
    case' b25_1 =>
      (go_simp; go_at_call 108; refine (pick_any base g _ 4 _ Dwb0.out.rd (by omega)).mono ?_; rintro e wb1 ⟨k6, rfl, k60, k61, _, hr6, ho6, hs6⟩; (try go_wp2_with fail); have K6 := k61 (by omega); have hw6 : IntKind.i64.wrap (-mm - k6) = -mm - k6 := IntWalk.i64_in _ ⟨by omega, by omega⟩; have Dwb1 := Lib.hid (Dwb0.out.pick hr6 ho6); have Xwb1 := Lib.hid (Xwb0.out.only ho6 (.inr (by omega))); (try have Qwb1 := Lib.hid (Qwb0.out.only ho6 (.inr (by omega)))); have Zwb1 := Nat.le_trans Zwb0 ho6.size; clear hr6 ho6 hs6 k61)
      refine hK.out _ _ ?_ (fun hHeld => ?_)
      focus ((try dsimp only); (first | done | exact ⟨Dwb1.out.p0, Dwb1.out.p1, Xwb1.out.cell 0, Xwb1.out.cell 1, Xwb1.out.cell 2⟩))
      clear hK K
      (try simp only [Act.put, List.getElem_toArray, List.getElem_cons_succ, List.getElem_cons_zero, List.setIfInBounds_toArray, List.set_cons_zero, List.set_cons_succ])
      (refine wpAnyH_take (i := 10) (v := ?tv35) rfl (by kernel_rfl) (by kernel_rfl) (by kernel_rfl) (fun _ _ _ h => h) (Or.inl ⟨by kernel_rfl, ?ty35⟩) (by assumption) ?tr35; (case ty35 => (intro w' hSw; (try dsimp only at hSw); go_simp <;> with_reducible rfl)); (try simp only [Act.put, List.getElem_toArray, List.getElem_cons_succ, List.getElem_cons_zero, List.setIfInBounds_toArray, List.set_cons_zero, List.set_cons_succ]))
      (refine wpAnyH_take (i := 11) (v := ?tv36) rfl (by kernel_rfl) (by kernel_rfl) (by kernel_rfl) (fun _ _ _ h => h) (Or.inl ⟨by kernel_rfl, ?ty36⟩) (by assumption) ?tr36; (case ty36 => (intro w' hSw; (try dsimp only at hSw); go_simp <;> with_reducible rfl)); (try simp only [Act.put, List.getElem_toArray, List.getElem_cons_succ, List.getElem_cons_zero, List.setIfInBounds_toArray, List.set_cons_zero, List.set_cons_succ]))
      refine wpAnyH_ready (rs := [12, 16]) (by kernel_rfl) (by simp) ?_
      refine (AllReadyH.cons rfl (fun K hK => ?b37_1) (AllReadyH.cons rfl (fun K hK => ?b37_2) AllReadyH.nil))
      case' b37_2 =>
        (go_simp; refine name_k (fun wb2 hwb2 => ?_); have Dwb2 := Lib.hid (Dwb1.out.allocE hwb2); have Xwb2 := Lib.hid (Xwb1.out.allocE hwb2); have Qwb2 := Lib.hid (Blk.newE hwb2); (try have Rwb2 := Lib.hid (Rwb1.out.allocE hwb2)); have Zwb2 := Nat.le_trans Zwb1 (Nat.le_of_lt (sizeE hwb2)); obtain ⟨Y, hY⟩ : ∃ Y, Y = wb1.heap.size := ⟨_, rfl⟩; rw [← hY] at Qwb2 ⊢; have HYg : wa3.heap.size ≤ Y := (by omega); clear hwb2 hY)
        refine hK.out _ _ ?_ (fun hHeld => ?_)
        focus ((try dsimp only); (first | done | exact ⟨Dwb2.out.p0, Dwb2.out.p1, Xwb2.out.cell 0, Xwb2.out.cell 1, Xwb2.out.cell 2⟩))
        clear hK K
        (try simp only [Act.put, List.getElem_toArray, List.getElem_cons_succ, List.getElem_cons_zero, List.setIfInBounds_toArray, List.set_cons_zero, List.set_cons_succ])
        refine wpAnyH_ready (rs := [12]) (by kernel_rfl) (by simp) ?_
        refine (AllReadyH.cons rfl (fun K hK => ?_) AllReadyH.nil)
        (go_simp; go_at_call 131; refine (withBound_any _ _ _ bs t f (-mm - k6) _ Dwb2.out.bat HN.out (by omega)).mono ?_; rintro e wb3 ⟨n7, G7, c7, L7, rfl, y7, z7, l7, m7, r7, hb7⟩; (try go_wp2_with fail); have Dwb3 := Lib.hid (Dwb2.out.below hb7); have Xwb3 := Lib.hid (Xwb2.out.below' hb7); (try have Qwb3 := Lib.hid (Qwb2.out.below' hb7)); have Y7 := Lib.hid y7; have M7 := Lib.hid m7; have Rwb3 := Lib.hid (r7.wide (lo' := w.heap.size + 1) (hi' := wb3.heap.size) (by omega) (Nat.le_refl _)); have Zwb3 := Nat.le_trans Zwb2 hb7.size; clear y7 z7 m7 r7 hb7)
        refine hK.out _ _ ?_ (fun hHeld => ?_)
        focus ((try dsimp only); (first | done | exact ⟨Dwb3.out.p0, Dwb3.out.p1, Xwb3.out.cell 0, Xwb3.out.cell 1, Xwb3.out.cell 2⟩))
        clear hK K
        (try simp only [Act.put, List.getElem_toArray, List.getElem_cons_succ, List.getElem_cons_zero, List.setIfInBounds_toArray, List.set_cons_zero, List.set_cons_succ])
        (refine wpAnyH_take (i := 13) (v := ?tv39) rfl (by kernel_rfl) (by kernel_rfl) (by kernel_rfl) (fun _ _ _ h => h) (Or.inl ⟨by kernel_rfl, ?ty39⟩) (by assumption) ?tr39; (case ty39 => (intro w' hSw; (try dsimp only at hSw); go_simp <;> with_reducible rfl)); (try simp only [Act.put, List.getElem_toArray, List.getElem_cons_succ, List.getElem_cons_zero, List.setIfInBounds_toArray, List.set_cons_zero, List.set_cons_succ]))
        (refine wpAnyH_take (i := 14) (v := ?tv40) rfl (by kernel_rfl) (by kernel_rfl) (by kernel_rfl) (fun _ _ _ h => h) (Or.inl ⟨by kernel_rfl, ?ty40⟩) (by assumption) ?tr40; (case ty40 => (intro w' hSw; (try dsimp only at hSw); go_simp <;> with_reducible rfl)); (try simp only [Act.put, List.getElem_toArray, List.getElem_cons_succ, List.getElem_cons_zero, List.setIfInBounds_toArray, List.set_cons_zero, List.set_cons_succ]))
        (refine wpAnyH_take (i := 15) (v := ?tv41) rfl (by kernel_rfl) (by kernel_rfl) (by kernel_rfl) (fun _ _ _ h => h) (Or.inl ⟨by kernel_rfl, ?ty41⟩) (by assumption) ?tr41; (case ty41 => (intro w' hSw; (try dsimp only at hSw); go_simp <;> with_reducible rfl)); (try simp only [Act.put, List.getElem_toArray, List.getElem_cons_succ, List.getElem_cons_zero, List.setIfInBounds_toArray, List.set_cons_zero, List.set_cons_succ]))
        refine wpAnyH_ready (rs := [17]) (by kernel_rfl) (by simp) ?_
        refine (AllReadyH.cons rfl (fun K hK => ?_) AllReadyH.nil)
        (obtain ⟨q0, q1, fr0, fr1⟩ := Qwb3.out.two; go_simp; refine name_k (fun wb4 hwb4 => ?_); obtain ⟨s1, s2, s3, s4⟩ := Dr.far2 hwb4 Dwb3.out Qwb3.out (by omega) (by omega); have Dwb4 := Lib.hid s1; have Xwb4 := Lib.hid (show Blk wb4 X 43 #[.int .i64 f, .int .i64 t, .int .i64 mm] by rw [hwb4]; exact (Xwb3.out.far (by dsimp only; omega) _).far (by dsimp only; omega) _); have Qwb4 := Lib.hid s2; have R8 := Lib.hid (s3 _ _ _ _ Rwb3.out); have SZ8 := Lib.hid s4; clear hwb4 s1 s2 s3 s4 q0 q1 fr0 fr1)
        refine hK.out _ _ ?_ (fun hHeld => ?_)
        focus ((try dsimp only); (first | done | exact ⟨Dwb4.out.p0, Dwb4.out.p1, Xwb4.out.cell 0, Xwb4.out.cell 1, Xwb4.out.cell 2⟩))
        clear hK K
        (try simp only [Act.put, List.getElem_toArray, List.getElem_cons_succ, List.getElem_cons_zero, List.setIfInBounds_toArray, List.set_cons_zero, List.set_cons_succ])
        (refine wpAnyH_take (i := 18) (v := ?tv43) rfl (by kernel_rfl) (by kernel_rfl) (by kernel_rfl) (fun _ _ _ h => h) (Or.inl ⟨by kernel_rfl, ?ty43⟩) (by assumption) ?tr43; (case ty43 => (intro w' hSw; (try dsimp only at hSw); go_simp <;> with_reducible rfl)); (try simp only [Act.put, List.getElem_toArray, List.getElem_cons_succ, List.getElem_cons_zero, List.setIfInBounds_toArray, List.set_cons_zero, List.set_cons_succ]))
        refine wpAnyH_done (by kernel_rfl) ?_ _
      case' b37_1 =>
        (go_simp; go_at_call 131; refine (withBound_any _ _ _ bs t f (-mm - k6) _ Dwb1.out.bat HN.out (by omega)).mono ?_; rintro e wb2 ⟨n7, G7, c7, L7, rfl, y7, z7, l7, m7, r7, hb7⟩; (try go_wp2_with fail); have Dwb2 := Lib.hid (Dwb1.out.below hb7); have Xwb2 := Lib.hid (Xwb1.out.below' hb7); (try have Qwb2 := Lib.hid (Qwb1.out.below' hb7)); have Y7 := Lib.hid y7; have M7 := Lib.hid m7; have Rwb2 := Lib.hid (r7.wide (lo' := w.heap.size + 1) (hi' := wb2.heap.size) (by omega) (Nat.le_refl _)); have Zwb2 := Nat.le_trans Zwb1 hb7.size; clear y7 z7 m7 r7 hb7)
        refine hK.out _ _ ?_ (fun hHeld => ?_)
        focus ((try dsimp only); (first | done | exact ⟨Dwb2.out.p0, Dwb2.out.p1, Xwb2.out.cell 0, Xwb2.out.cell 1, Xwb2.out.cell 2⟩))
        clear hK K
        (try simp only [Act.put, List.getElem_toArray, List.getElem_cons_succ, List.getElem_cons_zero, List.setIfInBounds_toArray, List.set_cons_zero, List.set_cons_succ])
        (refine wpAnyH_take (i := 13) (v := ?tv44) rfl (by kernel_rfl) (by kernel_rfl) (by kernel_rfl) (fun _ _ _ h => h) (Or.inl ⟨by kernel_rfl, ?ty44⟩) (by assumption) ?tr44; (case ty44 => (intro w' hSw; (try dsimp only at hSw); go_simp <;> with_reducible rfl)); (try simp only [Act.put, List.getElem_toArray, List.getElem_cons_succ, List.getElem_cons_zero, List.setIfInBounds_toArray, List.set_cons_zero, List.set_cons_succ]))
        (refine wpAnyH_take (i := 14) (v := ?tv45) rfl (by kernel_rfl) (by kernel_rfl) (by kernel_rfl) (fun _ _ _ h => h) (Or.inl ⟨by kernel_rfl, ?ty45⟩) (by assumption) ?tr45; (case ty45 => (intro w' hSw; (try dsimp only at hSw); go_simp <;> with_reducible rfl)); (try simp only [Act.put, List.getElem_toArray, List.getElem_cons_succ, List.getElem_cons_zero, List.setIfInBounds_toArray, List.set_cons_zero, List.set_cons_succ]))
        (refine wpAnyH_take (i := 15) (v := ?tv46) rfl (by kernel_rfl) (by kernel_rfl) (by kernel_rfl) (fun _ _ _ h => h) (Or.inl ⟨by kernel_rfl, ?ty46⟩) (by assumption) ?tr46; (case ty46 => (intro w' hSw; (try dsimp only at hSw); go_simp <;> with_reducible rfl)); (try simp only [Act.put, List.getElem_toArray, List.getElem_cons_succ, List.getElem_cons_zero, List.setIfInBounds_toArray, List.set_cons_zero, List.set_cons_succ]))
        refine wpAnyH_ready (rs := [16]) (by kernel_rfl) (by simp) ?_
        refine (AllReadyH.cons rfl (fun K hK => ?_) AllReadyH.nil)
        (go_simp; refine name_k (fun wb3 hwb3 => ?_); have Dwb3 := Lib.hid (Dwb2.out.allocE hwb3); have Xwb3 := Lib.hid (Xwb2.out.allocE hwb3); have Qwb3 := Lib.hid (Blk.newE hwb3); (try have Rwb3 := Lib.hid (Rwb2.out.allocE hwb3)); have Zwb3 := Nat.le_trans Zwb2 (Nat.le_of_lt (sizeE hwb3)); obtain ⟨Y, hY⟩ : ∃ Y, Y = wb2.heap.size := ⟨_, rfl⟩; rw [← hY] at Qwb3 ⊢; have HYg : wa3.heap.size ≤ Y := (by omega); clear hwb3 hY)
        refine hK.out _ _ ?_ (fun hHeld => ?_)
        focus ((try dsimp only); (first | done | exact ⟨Dwb3.out.p0, Dwb3.out.p1, Xwb3.out.cell 0, Xwb3.out.cell 1, Xwb3.out.cell 2⟩))
        clear hK K
        (try simp only [Act.put, List.getElem_toArray, List.getElem_cons_succ, List.getElem_cons_zero, List.setIfInBounds_toArray, List.set_cons_zero, List.set_cons_succ])
        refine wpAnyH_ready (rs := [17]) (by kernel_rfl) (by simp) ?_
        refine (AllReadyH.cons rfl (fun K hK => ?_) AllReadyH.nil)
        (obtain ⟨q0, q1, fr0, fr1⟩ := Qwb3.out.two; go_simp; refine name_k (fun wb4 hwb4 => ?_); obtain ⟨s1, s2, s3, s4⟩ := Dr.far2 hwb4 Dwb3.out Qwb3.out (by omega) (by omega); have Dwb4 := Lib.hid s1; have Xwb4 := Lib.hid (show Blk wb4 X 43 #[.int .i64 f, .int .i64 t, .int .i64 mm] by rw [hwb4]; exact (Xwb3.out.far (by dsimp only; omega) _).far (by dsimp only; omega) _); have Qwb4 := Lib.hid s2; have R8 := Lib.hid (s3 _ _ _ _ Rwb3.out); have SZ8 := Lib.hid s4; clear hwb4 s1 s2 s3 s4 q0 q1 fr0 fr1)
        refine hK.out _ _ ?_ (fun hHeld => ?_)
        focus ((try dsimp only); (first | done | exact ⟨Dwb4.out.p0, Dwb4.out.p1, Xwb4.out.cell 0, Xwb4.out.cell 1, Xwb4.out.cell 2⟩))
        clear hK K
        (try simp only [Act.put, List.getElem_toArray, List.getElem_cons_succ, List.getElem_cons_zero, List.setIfInBounds_toArray, List.set_cons_zero, List.set_cons_succ])
        (refine wpAnyH_take (i := 18) (v := ?tv49) rfl (by kernel_rfl) (by kernel_rfl) (by kernel_rfl) (fun _ _ _ h => h) (Or.inl ⟨by kernel_rfl, ?ty49⟩) (by assumption) ?tr49; (case ty49 => (intro w' hSw; (try dsimp only at hSw); go_simp <;> with_reducible rfl)); (try simp only [Act.put, List.getElem_toArray, List.getElem_cons_succ, List.getElem_cons_zero, List.setIfInBounds_toArray, List.set_cons_zero, List.set_cons_succ]))
        refine wpAnyH_done (by kernel_rfl) ?_ _
    all_goals clear hHeld
    all_goals clear p0 p1 x0 x1 x2
    all_goals (obtain ⟨ok7, hok7⟩ : ∃ bb, bb = withOk m bs ⟨t, f, -mm - k6⟩ := ⟨_, rfl⟩)
    all_goals rw [← hok7]
    all_goals have HOK7 := Lib.hid hok7
    all_goals clear hok7 hw6 hwm
    all_goals have p0 := Dwb4.out.p0
    all_goals have p1 := Dwb4.out.p1
    all_goals (obtain ⟨r0, r1, f0, f1⟩ := Dwb4.out.res.two)
    all_goals (obtain ⟨q0, q1, fr0, fr1⟩ := Qwb4.out.two)
    all_goals
      cases ok7
      · go_wp2
        refine bodyPost_ret (v := .agg #[.int .i64 m, .slice (some ⟨b, off, none⟩) bs.length c]) (by simp [results, Try.results112, go_sem, r0, r1]) rfl (t_end HF.out hc HN.out Dwb4.out (by omega) rfl)
      · have hY7 := Y7.out HOK7.out.symm
        obtain ⟨e7, hL7⟩ := hY7
        subst e7
        have hp9 : planOk n7 L7 = true := by rw [hL7]; have h9 := HOK7.out.symm; simp only [withOk, Bool.and_eq_true] at h9; exact h9.2
        have hl9 := (planOk_of hp9).2.2.1
        have HF9 := Lib.hid (show 0 ≤ n7 ∧ n7 ≤ 7 ∧ L7.length ≤ 16 from ⟨HF.out.1, HF.out.2.1, hl9⟩)
        clear hL7 hp9
        go_wp2
        refine bodyPost_ret (v := .agg #[.int .i64 n7, .slice G7 L7.length c7]) (by simp [results, Try.results112, go_sem, r0, r1]) rfl (t_end HF9.out l7 M7.out (P := Y) ⟨Dwb4.out.res, Qwb4.out, by rw [SZ8.out]; exact R8.out, Dwb4.out.rd, Dwb4.out.only, by omega, Dwb4.out.hg⟩ (by omega) rfl)
  · skip
    have p0 := Dwa3.out.p0
    have p1 := Dwa3.out.p1
    have x0 : wa3.cell? ⟨X, 0, none⟩ = some (.int .i64 f) := Xwa3.out.cell 0
    have x1 : wa3.cell? ⟨X, 1, none⟩ = some (.int .i64 t) := Xwa3.out.cell 1
    have x2 : wa3.cell? ⟨X, 2, none⟩ = some (.int .i64 mm) := Xwa3.out.cell 2
    clear hHeld c0 c1 c2
    go_upto_region 4 with (fail)
    refine wp_region_held_drew (S := (fun w' => w'.cell? ⟨w1.heap.size, 0, none⟩ = some (.int .i64 m) ∧ w'.cell? ⟨w1.heap.size, 1, none⟩ = some (.slice (some ⟨b, off, none⟩) bs.length c) ∧ w'.cell? ⟨X, 0, none⟩ = some (.int .i64 f) ∧ w'.cell? ⟨X, 1, none⟩ = some (.int .i64 t) ∧ w'.cell? ⟨X, 2, none⟩ = some (.int .i64 mm))) (by kernel_rfl) ?_ (fun hHeld => ?_)
    · (try dsimp only)
      (first | done | exact ⟨cD p0, cD p1, cD x0, cD x1, cD x2⟩)
    refine name_h (fun wb0 hwb0 => ?_)
    replace hHeld : ((fun w' => w'.cell? ⟨w1.heap.size, 0, none⟩ = some (.int .i64 m) ∧ w'.cell? ⟨w1.heap.size, 1, none⟩ = some (.slice (some ⟨b, off, none⟩) bs.length c) ∧ w'.cell? ⟨X, 0, none⟩ = some (.int .i64 f) ∧ w'.cell? ⟨X, 1, none⟩ = some (.int .i64 t) ∧ w'.cell? ⟨X, 2, none⟩ = some (.int .i64 mm))) wb0 := by rw [hwb0]; exact hHeld
    (have Dwb0 := Lib.hid (Dwa3.out.drewE hwb0); have Xwb0 := Lib.hid (Xwa3.out.drewE hwb0); have Zwb0 : wa3.heap.size ≤ wb0.heap.size := (by rw [hwb0]; exact Nat.le_refl _))
    clear hwb0
    (refine wpAnyH_take (i := 0) (v := ?tv50) rfl (by kernel_rfl) (by kernel_rfl) (by kernel_rfl) (fun _ _ _ h => h) (Or.inl ⟨by kernel_rfl, ?ty50⟩) (by assumption) ?tr50; (case ty50 => (intro w' hSw; (try dsimp only at hSw); go_simp <;> with_reducible rfl)); (try simp only [Act.put, List.getElem_toArray, List.getElem_cons_succ, List.getElem_cons_zero, List.setIfInBounds_toArray, List.set_cons_zero, List.set_cons_succ]))
    (refine wpAnyH_take (i := 1) (v := ?tv51) rfl (by kernel_rfl) (by kernel_rfl) (by kernel_rfl) (fun _ _ _ h => h) (Or.inl ⟨by kernel_rfl, ?ty51⟩) (by assumption) ?tr51; (case ty51 => (intro w' hSw; (try dsimp only at hSw); go_simp <;> with_reducible rfl)); (try simp only [Act.put, List.getElem_toArray, List.getElem_cons_succ, List.getElem_cons_zero, List.setIfInBounds_toArray, List.set_cons_zero, List.set_cons_succ]))
    (refine wpAnyH_take (i := 2) (v := ?tv52) rfl (by kernel_rfl) (by kernel_rfl) (by kernel_rfl) (fun _ _ _ h => h) (Or.inl ⟨by kernel_rfl, ?ty52⟩) (by assumption) ?tr52; (case ty52 => (intro w' hSw; (try dsimp only at hSw); go_simp <;> with_reducible rfl)); (try simp only [Act.put, List.getElem_toArray, List.getElem_cons_succ, List.getElem_cons_zero, List.setIfInBounds_toArray, List.set_cons_zero, List.set_cons_succ]))
    (refine wpAnyH_take (i := 3) (v := ?tv53) rfl (by kernel_rfl) (by kernel_rfl) (by kernel_rfl) (fun _ _ _ h => h) (Or.inl ⟨by kernel_rfl, ?ty53⟩) (by assumption) ?tr53; (case ty53 => (intro w' hSw; (try dsimp only at hSw); go_simp <;> with_reducible rfl)); (try simp only [Act.put, List.getElem_toArray, List.getElem_cons_succ, List.getElem_cons_zero, List.setIfInBounds_toArray, List.set_cons_zero, List.set_cons_succ]))
    (refine wpAnyH_take (i := 4) (v := ?tv54) rfl (by kernel_rfl) (by kernel_rfl) (by kernel_rfl) (fun _ _ _ h => h) (Or.inl ⟨by kernel_rfl, ?ty54⟩) (by assumption) ?tr54; (case ty54 => (intro w' hSw; (try dsimp only at hSw); go_simp <;> with_reducible rfl)); (try simp only [Act.put, List.getElem_toArray, List.getElem_cons_succ, List.getElem_cons_zero, List.setIfInBounds_toArray, List.set_cons_zero, List.set_cons_succ]))
    (refine wpAnyH_take (i := 5) (v := ?tv55) rfl (by kernel_rfl) (by kernel_rfl) (by kernel_rfl) (fun _ _ _ h => h) (Or.inl ⟨by kernel_rfl, ?ty55⟩) (by assumption) ?tr55; (case ty55 => (intro w' hSw; (try dsimp only at hSw); go_simp <;> with_reducible rfl)); (try simp only [Act.put, List.getElem_toArray, List.getElem_cons_succ, List.getElem_cons_zero, List.setIfInBounds_toArray, List.set_cons_zero, List.set_cons_succ]))
    (refine wpAnyH_take (i := 6) (v := ?tv56) rfl (by kernel_rfl) (by kernel_rfl) (by kernel_rfl) (fun _ _ _ h => h) (Or.inl ⟨by kernel_rfl, ?ty56⟩) (by assumption) ?tr56; (case ty56 => (intro w' hSw; (try dsimp only at hSw); go_simp <;> with_reducible rfl)); (try simp only [Act.put, List.getElem_toArray, List.getElem_cons_succ, List.getElem_cons_zero, List.setIfInBounds_toArray, List.set_cons_zero, List.set_cons_succ]))
    (refine wpAnyH_take (i := 7) (v := ?tv57) rfl (by kernel_rfl) (by kernel_rfl) (by kernel_rfl) (fun _ _ _ h => h) (Or.inl ⟨by kernel_rfl, ?ty57⟩) (by assumption) ?tr57; (case ty57 => (intro w' hSw; (try dsimp only at hSw); go_simp <;> with_reducible rfl)); (try simp only [Act.put, List.getElem_toArray, List.getElem_cons_succ, List.getElem_cons_zero, List.setIfInBounds_toArray, List.set_cons_zero, List.set_cons_succ]))
    (refine wpAnyH_take (i := 8) (v := ?tv58) rfl (by kernel_rfl) (by kernel_rfl) (by kernel_rfl) (fun _ _ _ h => h) (Or.inl ⟨by kernel_rfl, ?ty58⟩) (by assumption) ?tr58; (case ty58 => (intro w' hSw; (try dsimp only at hSw); go_simp <;> with_reducible rfl)); (try simp only [Act.put, List.getElem_toArray, List.getElem_cons_succ, List.getElem_cons_zero, List.setIfInBounds_toArray, List.set_cons_zero, List.set_cons_succ]))
    refine wpAnyH_ready (rs := [9, 16]) (by kernel_rfl) (by simp) ?_
    refine (AllReadyH.cons rfl (fun K hK => ?b59_1) (AllReadyH.cons rfl (fun K hK => ?b59_2) AllReadyH.nil))
    case' b59_2 =>
      (go_simp; refine name_k (fun wb1 hwb1 => ?_); have Dwb1 := Lib.hid (Dwb0.out.allocE hwb1); have Xwb1 := Lib.hid (Xwb0.out.allocE hwb1); have Qwb1 := Lib.hid (Blk.newE hwb1); (try have Rwb1 := Lib.hid (Rwb0.out.allocE hwb1)); have Zwb1 := Nat.le_trans Zwb0 (Nat.le_of_lt (sizeE hwb1)); obtain ⟨Y, hY⟩ : ∃ Y, Y = wb0.heap.size := ⟨_, rfl⟩; rw [← hY] at Qwb1 ⊢; have HYg : wa3.heap.size ≤ Y := (by omega); clear hwb1 hY)
      refine hK.out _ _ ?_ (fun hHeld => ?_)
      focus ((try dsimp only); (first | done | exact ⟨Dwb1.out.p0, Dwb1.out.p1, Xwb1.out.cell 0, Xwb1.out.cell 1, Xwb1.out.cell 2⟩))
      clear hK K
      (try simp only [Act.put, List.getElem_toArray, List.getElem_cons_succ, List.getElem_cons_zero, List.setIfInBounds_toArray, List.set_cons_zero, List.set_cons_succ])
      refine wpAnyH_ready (rs := [9]) (by kernel_rfl) (by simp) ?_
      refine (AllReadyH.cons rfl (fun K hK => ?_) AllReadyH.nil)
      (go_simp; go_at_call 108; refine (pick_any base g _ 4 _ Dwb1.out.rd (by omega)).mono ?_; rintro e wb2 ⟨k6, rfl, k60, k61, _, hr6, ho6, hs6⟩; (try go_wp2_with fail); have K6 := k61 (by omega); have hw6 : IntKind.i64.wrap (-mm - k6) = -mm - k6 := IntWalk.i64_in _ ⟨by omega, by omega⟩; have Dwb2 := Lib.hid (Dwb1.out.pick hr6 ho6); have Xwb2 := Lib.hid (Xwb1.out.only ho6 (.inr (by omega))); (try have Qwb2 := Lib.hid (Qwb1.out.only ho6 (.inr (by omega)))); have Zwb2 := Nat.le_trans Zwb1 ho6.size; clear hr6 ho6 hs6 k61)
      refine hK.out _ _ ?_ (fun hHeld => ?_)
      focus ((try dsimp only); (first | done | exact ⟨Dwb2.out.p0, Dwb2.out.p1, Xwb2.out.cell 0, Xwb2.out.cell 1, Xwb2.out.cell 2⟩))
      clear hK K
      (try simp only [Act.put, List.getElem_toArray, List.getElem_cons_succ, List.getElem_cons_zero, List.setIfInBounds_toArray, List.set_cons_zero, List.set_cons_succ])
      (refine wpAnyH_take (i := 10) (v := ?tv61) rfl (by kernel_rfl) (by kernel_rfl) (by kernel_rfl) (fun _ _ _ h => h) (Or.inl ⟨by kernel_rfl, ?ty61⟩) (by assumption) ?tr61; (case ty61 => (intro w' hSw; (try dsimp only at hSw); go_simp <;> with_reducible rfl)); (try simp only [Act.put, List.getElem_toArray, List.getElem_cons_succ, List.getElem_cons_zero, List.setIfInBounds_toArray, List.set_cons_zero, List.set_cons_succ]))
      (refine wpAnyH_take (i := 11) (v := ?tv62) rfl (by kernel_rfl) (by kernel_rfl) (by kernel_rfl) (fun _ _ _ h => h) (Or.inl ⟨by kernel_rfl, ?ty62⟩) (by assumption) ?tr62; (case ty62 => (intro w' hSw; (try dsimp only at hSw); go_simp <;> with_reducible rfl)); (try simp only [Act.put, List.getElem_toArray, List.getElem_cons_succ, List.getElem_cons_zero, List.setIfInBounds_toArray, List.set_cons_zero, List.set_cons_succ]))
      refine wpAnyH_ready (rs := [12]) (by kernel_rfl) (by simp) ?_
      refine (AllReadyH.cons rfl (fun K hK => ?_) AllReadyH.nil)
      (go_simp; go_at_call 131; refine (withBound_any _ _ _ bs t f (-mm - k6) _ Dwb2.out.bat HN.out (by omega)).mono ?_; rintro e wb3 ⟨n7, G7, c7, L7, rfl, y7, z7, l7, m7, r7, hb7⟩; (try go_wp2_with fail); have Dwb3 := Lib.hid (Dwb2.out.below hb7); have Xwb3 := Lib.hid (Xwb2.out.below' hb7); (try have Qwb3 := Lib.hid (Qwb2.out.below' hb7)); have Y7 := Lib.hid y7; have M7 := Lib.hid m7; have Rwb3 := Lib.hid (r7.wide (lo' := w.heap.size + 1) (hi' := wb3.heap.size) (by omega) (Nat.le_refl _)); have Zwb3 := Nat.le_trans Zwb2 hb7.size; clear y7 z7 m7 r7 hb7)
      refine hK.out _ _ ?_ (fun hHeld => ?_)
      focus ((try dsimp only); (first | done | exact ⟨Dwb3.out.p0, Dwb3.out.p1, Xwb3.out.cell 0, Xwb3.out.cell 1, Xwb3.out.cell 2⟩))
      clear hK K
      (try simp only [Act.put, List.getElem_toArray, List.getElem_cons_succ, List.getElem_cons_zero, List.setIfInBounds_toArray, List.set_cons_zero, List.set_cons_succ])
      (refine wpAnyH_take (i := 13) (v := ?tv64) rfl (by kernel_rfl) (by kernel_rfl) (by kernel_rfl) (fun _ _ _ h => h) (Or.inl ⟨by kernel_rfl, ?ty64⟩) (by assumption) ?tr64; (case ty64 => (intro w' hSw; (try dsimp only at hSw); go_simp <;> with_reducible rfl)); (try simp only [Act.put, List.getElem_toArray, List.getElem_cons_succ, List.getElem_cons_zero, List.setIfInBounds_toArray, List.set_cons_zero, List.set_cons_succ]))
      (refine wpAnyH_take (i := 14) (v := ?tv65) rfl (by kernel_rfl) (by kernel_rfl) (by kernel_rfl) (fun _ _ _ h => h) (Or.inl ⟨by kernel_rfl, ?ty65⟩) (by assumption) ?tr65; (case ty65 => (intro w' hSw; (try dsimp only at hSw); go_simp <;> with_reducible rfl)); (try simp only [Act.put, List.getElem_toArray, List.getElem_cons_succ, List.getElem_cons_zero, List.setIfInBounds_toArray, List.set_cons_zero, List.set_cons_succ]))
      (refine wpAnyH_take (i := 15) (v := ?tv66) rfl (by kernel_rfl) (by kernel_rfl) (by kernel_rfl) (fun _ _ _ h => h) (Or.inl ⟨by kernel_rfl, ?ty66⟩) (by assumption) ?tr66; (case ty66 => (intro w' hSw; (try dsimp only at hSw); go_simp <;> with_reducible rfl)); (try simp only [Act.put, List.getElem_toArray, List.getElem_cons_succ, List.getElem_cons_zero, List.setIfInBounds_toArray, List.set_cons_zero, List.set_cons_succ]))
      refine wpAnyH_ready (rs := [17]) (by kernel_rfl) (by simp) ?_
      refine (AllReadyH.cons rfl (fun K hK => ?_) AllReadyH.nil)
      (obtain ⟨q0, q1, fr0, fr1⟩ := Qwb3.out.two; go_simp; refine name_k (fun wb4 hwb4 => ?_); obtain ⟨s1, s2, s3, s4⟩ := Dr.far2 hwb4 Dwb3.out Qwb3.out (by omega) (by omega); have Dwb4 := Lib.hid s1; have Xwb4 := Lib.hid (show Blk wb4 X 43 #[.int .i64 f, .int .i64 t, .int .i64 mm] by rw [hwb4]; exact (Xwb3.out.far (by dsimp only; omega) _).far (by dsimp only; omega) _); have Qwb4 := Lib.hid s2; have R8 := Lib.hid (s3 _ _ _ _ Rwb3.out); have SZ8 := Lib.hid s4; clear hwb4 s1 s2 s3 s4 q0 q1 fr0 fr1)
      refine hK.out _ _ ?_ (fun hHeld => ?_)
      focus ((try dsimp only); (first | done | exact ⟨Dwb4.out.p0, Dwb4.out.p1, Xwb4.out.cell 0, Xwb4.out.cell 1, Xwb4.out.cell 2⟩))
      clear hK K
      (try simp only [Act.put, List.getElem_toArray, List.getElem_cons_succ, List.getElem_cons_zero, List.setIfInBounds_toArray, List.set_cons_zero, List.set_cons_succ])
      (refine wpAnyH_take (i := 18) (v := ?tv68) rfl (by kernel_rfl) (by kernel_rfl) (by kernel_rfl) (fun _ _ _ h => h) (Or.inl ⟨by kernel_rfl, ?ty68⟩) (by assumption) ?tr68; (case ty68 => (intro w' hSw; (try dsimp only at hSw); go_simp <;> with_reducible rfl)); (try simp only [Act.put, List.getElem_toArray, List.getElem_cons_succ, List.getElem_cons_zero, List.setIfInBounds_toArray, List.set_cons_zero, List.set_cons_succ]))
      refine wpAnyH_done (by kernel_rfl) ?_ _
    case' b59_1 =>
      (go_simp; go_at_call 108; refine (pick_any base g _ 4 _ Dwb0.out.rd (by omega)).mono ?_; rintro e wb1 ⟨k6, rfl, k60, k61, _, hr6, ho6, hs6⟩; (try go_wp2_with fail); have K6 := k61 (by omega); have hw6 : IntKind.i64.wrap (-mm - k6) = -mm - k6 := IntWalk.i64_in _ ⟨by omega, by omega⟩; have Dwb1 := Lib.hid (Dwb0.out.pick hr6 ho6); have Xwb1 := Lib.hid (Xwb0.out.only ho6 (.inr (by omega))); (try have Qwb1 := Lib.hid (Qwb0.out.only ho6 (.inr (by omega)))); have Zwb1 := Nat.le_trans Zwb0 ho6.size; clear hr6 ho6 hs6 k61)
      refine hK.out _ _ ?_ (fun hHeld => ?_)
      focus ((try dsimp only); (first | done | exact ⟨Dwb1.out.p0, Dwb1.out.p1, Xwb1.out.cell 0, Xwb1.out.cell 1, Xwb1.out.cell 2⟩))
      clear hK K
      (try simp only [Act.put, List.getElem_toArray, List.getElem_cons_succ, List.getElem_cons_zero, List.setIfInBounds_toArray, List.set_cons_zero, List.set_cons_succ])
      (refine wpAnyH_take (i := 10) (v := ?tv69) rfl (by kernel_rfl) (by kernel_rfl) (by kernel_rfl) (fun _ _ _ h => h) (Or.inl ⟨by kernel_rfl, ?ty69⟩) (by assumption) ?tr69; (case ty69 => (intro w' hSw; (try dsimp only at hSw); go_simp <;> with_reducible rfl)); (try simp only [Act.put, List.getElem_toArray, List.getElem_cons_succ, List.getElem_cons_zero, List.setIfInBounds_toArray, List.set_cons_zero, List.set_cons_succ]))
      (refine wpAnyH_take (i := 11) (v := ?tv70) rfl (by kernel_rfl) (by kernel_rfl) (by kernel_rfl) (fun _ _ _ h => h) (Or.inl ⟨by kernel_rfl, ?ty70⟩) (by assumption) ?tr70; (case ty70 => (intro w' hSw; (try dsimp only at hSw); go_simp <;> with_reducible rfl)); (try simp only [Act.put, List.getElem_toArray, List.getElem_cons_succ, List.getElem_cons_zero, List.setIfInBounds_toArray, List.set_cons_zero, List.set_cons_succ]))
      refine wpAnyH_ready (rs := [12, 16]) (by kernel_rfl) (by simp) ?_
      refine (AllReadyH.cons rfl (fun K hK => ?b71_1) (AllReadyH.cons rfl (fun K hK => ?b71_2) AllReadyH.nil))
      case' b71_2 =>
        (go_simp; refine name_k (fun wb2 hwb2 => ?_); have Dwb2 := Lib.hid (Dwb1.out.allocE hwb2); have Xwb2 := Lib.hid (Xwb1.out.allocE hwb2); have Qwb2 := Lib.hid (Blk.newE hwb2); (try have Rwb2 := Lib.hid (Rwb1.out.allocE hwb2)); have Zwb2 := Nat.le_trans Zwb1 (Nat.le_of_lt (sizeE hwb2)); obtain ⟨Y, hY⟩ : ∃ Y, Y = wb1.heap.size := ⟨_, rfl⟩; rw [← hY] at Qwb2 ⊢; have HYg : wa3.heap.size ≤ Y := (by omega); clear hwb2 hY)
        refine hK.out _ _ ?_ (fun hHeld => ?_)
        focus ((try dsimp only); (first | done | exact ⟨Dwb2.out.p0, Dwb2.out.p1, Xwb2.out.cell 0, Xwb2.out.cell 1, Xwb2.out.cell 2⟩))
        clear hK K
        (try simp only [Act.put, List.getElem_toArray, List.getElem_cons_succ, List.getElem_cons_zero, List.setIfInBounds_toArray, List.set_cons_zero, List.set_cons_succ])
        refine wpAnyH_ready (rs := [12]) (by kernel_rfl) (by simp) ?_
        refine (AllReadyH.cons rfl (fun K hK => ?_) AllReadyH.nil)
        (go_simp; go_at_call 131; refine (withBound_any _ _ _ bs t f (-mm - k6) _ Dwb2.out.bat HN.out (by omega)).mono ?_; rintro e wb3 ⟨n7, G7, c7, L7, rfl, y7, z7, l7, m7, r7, hb7⟩; (try go_wp2_with fail); have Dwb3 := Lib.hid (Dwb2.out.below hb7); have Xwb3 := Lib.hid (Xwb2.out.below' hb7); (try have Qwb3 := Lib.hid (Qwb2.out.below' hb7)); have Y7 := Lib.hid y7; have M7 := Lib.hid m7; have Rwb3 := Lib.hid (r7.wide (lo' := w.heap.size + 1) (hi' := wb3.heap.size) (by omega) (Nat.le_refl _)); have Zwb3 := Nat.le_trans Zwb2 hb7.size; clear y7 z7 m7 r7 hb7)
        refine hK.out _ _ ?_ (fun hHeld => ?_)
        focus ((try dsimp only); (first | done | exact ⟨Dwb3.out.p0, Dwb3.out.p1, Xwb3.out.cell 0, Xwb3.out.cell 1, Xwb3.out.cell 2⟩))
        clear hK K
        (try simp only [Act.put, List.getElem_toArray, List.getElem_cons_succ, List.getElem_cons_zero, List.setIfInBounds_toArray, List.set_cons_zero, List.set_cons_succ])
        (refine wpAnyH_take (i := 13) (v := ?tv73) rfl (by kernel_rfl) (by kernel_rfl) (by kernel_rfl) (fun _ _ _ h => h) (Or.inl ⟨by kernel_rfl, ?ty73⟩) (by assumption) ?tr73; (case ty73 => (intro w' hSw; (try dsimp only at hSw); go_simp <;> with_reducible rfl)); (try simp only [Act.put, List.getElem_toArray, List.getElem_cons_succ, List.getElem_cons_zero, List.setIfInBounds_toArray, List.set_cons_zero, List.set_cons_succ]))
        (refine wpAnyH_take (i := 14) (v := ?tv74) rfl (by kernel_rfl) (by kernel_rfl) (by kernel_rfl) (fun _ _ _ h => h) (Or.inl ⟨by kernel_rfl, ?ty74⟩) (by assumption) ?tr74; (case ty74 => (intro w' hSw; (try dsimp only at hSw); go_simp <;> with_reducible rfl)); (try simp only [Act.put, List.getElem_toArray, List.getElem_cons_succ, List.getElem_cons_zero, List.setIfInBounds_toArray, List.set_cons_zero, List.set_cons_succ]))
        (refine wpAnyH_take (i := 15) (v := ?tv75) rfl (by kernel_rfl) (by kernel_rfl) (by kernel_rfl) (fun _ _ _ h => h) (Or.inl ⟨by kernel_rfl, ?ty75⟩) (by assumption) ?tr75; (case ty75 => (intro w' hSw; (try dsimp only at hSw); go_simp <;> with_reducible rfl)); (try simp only [Act.put, List.getElem_toArray, List.getElem_cons_succ, List.getElem_cons_zero, List.setIfInBounds_toArray, List.set_cons_zero, List.set_cons_succ]))
        refine wpAnyH_ready (rs := [17]) (by kernel_rfl) (by simp) ?_
        refine (AllReadyH.cons rfl (fun K hK => ?_) AllReadyH.nil)
        (obtain ⟨q0, q1, fr0, fr1⟩ := Qwb3.out.two; go_simp; refine name_k (fun wb4 hwb4 => ?_); obtain ⟨s1, s2, s3, s4⟩ := Dr.far2 hwb4 Dwb3.out Qwb3.out (by omega) (by omega); have Dwb4 := Lib.hid s1; have Xwb4 := Lib.hid (show Blk wb4 X 43 #[.int .i64 f, .int .i64 t, .int .i64 mm] by rw [hwb4]; exact (Xwb3.out.far (by dsimp only; omega) _).far (by dsimp only; omega) _); have Qwb4 := Lib.hid s2; have R8 := Lib.hid (s3 _ _ _ _ Rwb3.out); have SZ8 := Lib.hid s4; clear hwb4 s1 s2 s3 s4 q0 q1 fr0 fr1)
        refine hK.out _ _ ?_ (fun hHeld => ?_)
        focus ((try dsimp only); (first | done | exact ⟨Dwb4.out.p0, Dwb4.out.p1, Xwb4.out.cell 0, Xwb4.out.cell 1, Xwb4.out.cell 2⟩))
        clear hK K
        (try simp only [Act.put, List.getElem_toArray, List.getElem_cons_succ, List.getElem_cons_zero, List.setIfInBounds_toArray, List.set_cons_zero, List.set_cons_succ])
        (refine wpAnyH_take (i := 18) (v := ?tv77) rfl (by kernel_rfl) (by kernel_rfl) (by kernel_rfl) (fun _ _ _ h => h) (Or.inl ⟨by kernel_rfl, ?ty77⟩) (by assumption) ?tr77; (case ty77 => (intro w' hSw; (try dsimp only at hSw); go_simp <;> with_reducible rfl)); (try simp only [Act.put, List.getElem_toArray, List.getElem_cons_succ, List.getElem_cons_zero, List.setIfInBounds_toArray, List.set_cons_zero, List.set_cons_succ]))
        refine wpAnyH_done (by kernel_rfl) ?_ _
      case' b71_1 =>
        (go_simp; go_at_call 131; refine (withBound_any _ _ _ bs t f (-mm - k6) _ Dwb1.out.bat HN.out (by omega)).mono ?_; rintro e wb2 ⟨n7, G7, c7, L7, rfl, y7, z7, l7, m7, r7, hb7⟩; (try go_wp2_with fail); have Dwb2 := Lib.hid (Dwb1.out.below hb7); have Xwb2 := Lib.hid (Xwb1.out.below' hb7); (try have Qwb2 := Lib.hid (Qwb1.out.below' hb7)); have Y7 := Lib.hid y7; have M7 := Lib.hid m7; have Rwb2 := Lib.hid (r7.wide (lo' := w.heap.size + 1) (hi' := wb2.heap.size) (by omega) (Nat.le_refl _)); have Zwb2 := Nat.le_trans Zwb1 hb7.size; clear y7 z7 m7 r7 hb7)
        refine hK.out _ _ ?_ (fun hHeld => ?_)
        focus ((try dsimp only); (first | done | exact ⟨Dwb2.out.p0, Dwb2.out.p1, Xwb2.out.cell 0, Xwb2.out.cell 1, Xwb2.out.cell 2⟩))
        clear hK K
        (try simp only [Act.put, List.getElem_toArray, List.getElem_cons_succ, List.getElem_cons_zero, List.setIfInBounds_toArray, List.set_cons_zero, List.set_cons_succ])
        (refine wpAnyH_take (i := 13) (v := ?tv78) rfl (by kernel_rfl) (by kernel_rfl) (by kernel_rfl) (fun _ _ _ h => h) (Or.inl ⟨by kernel_rfl, ?ty78⟩) (by assumption) ?tr78; (case ty78 => (intro w' hSw; (try dsimp only at hSw); go_simp <;> with_reducible rfl)); (try simp only [Act.put, List.getElem_toArray, List.getElem_cons_succ, List.getElem_cons_zero, List.setIfInBounds_toArray, List.set_cons_zero, List.set_cons_succ]))
        (refine wpAnyH_take (i := 14) (v := ?tv79) rfl (by kernel_rfl) (by kernel_rfl) (by kernel_rfl) (fun _ _ _ h => h) (Or.inl ⟨by kernel_rfl, ?ty79⟩) (by assumption) ?tr79; (case ty79 => (intro w' hSw; (try dsimp only at hSw); go_simp <;> with_reducible rfl)); (try simp only [Act.put, List.getElem_toArray, List.getElem_cons_succ, List.getElem_cons_zero, List.setIfInBounds_toArray, List.set_cons_zero, List.set_cons_succ]))
        (refine wpAnyH_take (i := 15) (v := ?tv80) rfl (by kernel_rfl) (by kernel_rfl) (by kernel_rfl) (fun _ _ _ h => h) (Or.inl ⟨by kernel_rfl, ?ty80⟩) (by assumption) ?tr80; (case ty80 => (intro w' hSw; (try dsimp only at hSw); go_simp <;> with_reducible rfl)); (try simp only [Act.put, List.getElem_toArray, List.getElem_cons_succ, List.getElem_cons_zero, List.setIfInBounds_toArray, List.set_cons_zero, List.set_cons_succ]))
        refine wpAnyH_ready (rs := [16]) (by kernel_rfl) (by simp) ?_
        refine (AllReadyH.cons rfl (fun K hK => ?_) AllReadyH.nil)
        (go_simp; refine name_k (fun wb3 hwb3 => ?_); have Dwb3 := Lib.hid (Dwb2.out.allocE hwb3); have Xwb3 := Lib.hid (Xwb2.out.allocE hwb3); have Qwb3 := Lib.hid (Blk.newE hwb3); (try have Rwb3 := Lib.hid (Rwb2.out.allocE hwb3)); have Zwb3 := Nat.le_trans Zwb2 (Nat.le_of_lt (sizeE hwb3)); obtain ⟨Y, hY⟩ : ∃ Y, Y = wb2.heap.size := ⟨_, rfl⟩; rw [← hY] at Qwb3 ⊢; have HYg : wa3.heap.size ≤ Y := (by omega); clear hwb3 hY)
        refine hK.out _ _ ?_ (fun hHeld => ?_)
        focus ((try dsimp only); (first | done | exact ⟨Dwb3.out.p0, Dwb3.out.p1, Xwb3.out.cell 0, Xwb3.out.cell 1, Xwb3.out.cell 2⟩))
        clear hK K
        (try simp only [Act.put, List.getElem_toArray, List.getElem_cons_succ, List.getElem_cons_zero, List.setIfInBounds_toArray, List.set_cons_zero, List.set_cons_succ])
        refine wpAnyH_ready (rs := [17]) (by kernel_rfl) (by simp) ?_
        refine (AllReadyH.cons rfl (fun K hK => ?_) AllReadyH.nil)
        (obtain ⟨q0, q1, fr0, fr1⟩ := Qwb3.out.two; go_simp; refine name_k (fun wb4 hwb4 => ?_); obtain ⟨s1, s2, s3, s4⟩ := Dr.far2 hwb4 Dwb3.out Qwb3.out (by omega) (by omega); have Dwb4 := Lib.hid s1; have Xwb4 := Lib.hid (show Blk wb4 X 43 #[.int .i64 f, .int .i64 t, .int .i64 mm] by rw [hwb4]; exact (Xwb3.out.far (by dsimp only; omega) _).far (by dsimp only; omega) _); have Qwb4 := Lib.hid s2; have R8 := Lib.hid (s3 _ _ _ _ Rwb3.out); have SZ8 := Lib.hid s4; clear hwb4 s1 s2 s3 s4 q0 q1 fr0 fr1)
        refine hK.out _ _ ?_ (fun hHeld => ?_)
        focus ((try dsimp only); (first | done | exact ⟨Dwb4.out.p0, Dwb4.out.p1, Xwb4.out.cell 0, Xwb4.out.cell 1, Xwb4.out.cell 2⟩))
        clear hK K
        (try simp only [Act.put, List.getElem_toArray, List.getElem_cons_succ, List.getElem_cons_zero, List.setIfInBounds_toArray, List.set_cons_zero, List.set_cons_succ])
        (refine wpAnyH_take (i := 18) (v := ?tv83) rfl (by kernel_rfl) (by kernel_rfl) (by kernel_rfl) (fun _ _ _ h => h) (Or.inl ⟨by kernel_rfl, ?ty83⟩) (by assumption) ?tr83; (case ty83 => (intro w' hSw; (try dsimp only at hSw); go_simp <;> with_reducible rfl)); (try simp only [Act.put, List.getElem_toArray, List.getElem_cons_succ, List.getElem_cons_zero, List.setIfInBounds_toArray, List.set_cons_zero, List.set_cons_succ]))
        refine wpAnyH_done (by kernel_rfl) ?_ _
    all_goals clear hHeld
    all_goals clear p0 p1 x0 x1 x2
    all_goals (obtain ⟨ok7, hok7⟩ : ∃ bb, bb = withOk m bs ⟨t, f, -mm - k6⟩ := ⟨_, rfl⟩)
    all_goals rw [← hok7]
    all_goals have HOK7 := Lib.hid hok7
    all_goals clear hok7 hw6 hwm
    all_goals have p0 := Dwb4.out.p0
    all_goals have p1 := Dwb4.out.p1
    all_goals (obtain ⟨r0, r1, f0, f1⟩ := Dwb4.out.res.two)
    all_goals (obtain ⟨q0, q1, fr0, fr1⟩ := Qwb4.out.two)
    all_goals
      cases ok7
      · go_wp2
        refine bodyPost_ret (v := .agg #[.int .i64 m, .slice (some ⟨b, off, none⟩) bs.length c]) (by simp [results, Try.results112, go_sem, r0, r1]) rfl (t_end HF.out hc HN.out Dwb4.out (by omega) rfl)
      · have hY7 := Y7.out HOK7.out.symm
        obtain ⟨e7, hL7⟩ := hY7
        subst e7
        have hp9 : planOk n7 L7 = true := by rw [hL7]; have h9 := HOK7.out.symm; simp only [withOk, Bool.and_eq_true] at h9; exact h9.2
        have hl9 := (planOk_of hp9).2.2.1
        have HF9 := Lib.hid (show 0 ≤ n7 ∧ n7 ≤ 7 ∧ L7.length ≤ 16 from ⟨HF.out.1, HF.out.2.1, hl9⟩)
        clear hL7 hp9
        go_wp2
        refine bodyPost_ret (v := .agg #[.int .i64 n7, .slice G7 L7.length c7]) (by simp [results, Try.results112, go_sem, r0, r1]) rfl (t_end HF9.out l7 M7.out (P := Y) ⟨Dwb4.out.res, Qwb4.out, by rw [SZ8.out]; exact R8.out, Dwb4.out.rd, Dwb4.out.only, by omega, Dwb4.out.hg⟩ (by omega) rfl)
def DrawnT (w : World) (e : Ending) (w' : World) : Prop :=
  ∃ (n : Int) (A : Option Addr) (c : Nat) (bs : List Bd), e = .returned (.agg #[.int .i64 n, .slice A bs.length c]) ∧ (0 ≤ n ∧ n ≤ 7 ∧ bs.length ≤ 16) ∧ bs.length ≤ c ∧ (A = none → c = 0) ∧ RB w' w.heap.size w'.heap.size A bs ∧ Below w.heap.size w w'
set_option maxHeartbeats 1000000 in
theorem drawBadRing_any (A : Option Addr) (c : Nat) (xs : List Int) (w : World) (h : Bytes w A c xs) : Calls Try.prog 61 #[.slice A xs.length c] w (DrawnT w) := by
  go_enter Try.func61, Try.ntmps61
  go_wp2_with fail
  refine (open_of (h.alloc _)).mono ?_; rintro e w1 ⟨g, rfl, hr1, hb1, hg1⟩
  have hgb := hr1.base_le
  have hz1 := hb1.size
  simp only [sz] at hgb hz1
  go_wp2_with fail
  refine (tight_draw _ g 0 _ w1 hr1 (by omega) (by omega) (by omega)).mono ?_; rintro e w2 ⟨n, A2, c2, bs, rfl, hf, hc, hn, hrb, hrd, ho⟩
  have qb := code_res rfl hb1 (by omega) ho
  have q0 : w2.cell? ⟨w.heap.size, 0, none⟩ = some (.int .i64 0) := qb.cell 0
  have q1 : w2.cell? ⟨w.heap.size, 1, none⟩ = some (.slice none 0 0) := qb.cell 1
  have f0 := qb.frozen 0
  have f1 := qb.frozen 1
  have HE := Lib.hid (fun u0 u1 => code_end (u0 := u0) (u1 := u1) rfl hb1 (by omega) ho hrb)
  have HN := Lib.hid hn
  have HF := Lib.hid hf
  clear hb1 ho hrb hn qb hr1 hrd hf
  go_wp2
  refine bodyPost_ret (v := .agg #[.int .i64 n, .slice A2 bs.length c2]) (by simp [results, Try.results61, go_sem, q0, q1]) rfl ⟨n, A2, c2, bs, rfl, HF.out, hc, HN.out, (HE.out _ _).1, (HE.out _ _).2⟩
end Go.Proofs.Ytnompncmachgjaa
