/- Contracts of spec.l20Diff and spec.DrawMayBeOk: some plan, two points and a number. -/
import Derived.Test.YtnompncmachgjaaDrawJoin
import Derived.Test.YtnompncmachgjaaKF
import Derived.Test.YtnompncmachgjaaPlainL3
namespace Go.Proofs.Ytnompncmachgjaa
open Go.RowKit
set_option linter.unusedVariables false
set_option maxRecDepth 10000
set_option linter.unusedSimpArgs false

def DrewDiff (base g q : Nat) (w : World) (e : Ending) (w' : World) : Prop :=
  ∃ (n : Int) (A : Option Addr) (c : Nat) (bs : List Bd) (a b d : Int), e = .returned (.tuple #[.agg #[.int .i64 n, .slice A bs.length c], .int .i64 a, .int .i64 b, .int .i64 d]) ∧ PlanFacts n bs ∧ bs.length ≤ c ∧ (A = none → c = 0) ∧ (0 ≤ a ∧ 0 ≤ b ∧ -2000 ≤ d ∧ d ≤ 5000) ∧ RB w' w.heap.size w'.heap.size A bs ∧ Rd w' base g (q + 170) ∧ Only g (g + 1) w w'
def DrawnDiff (w : World) (e : Ending) (w' : World) : Prop :=
  ∃ (n : Int) (A : Option Addr) (c : Nat) (bs : List Bd) (a b d : Int), e = .returned (.tuple #[.agg #[.int .i64 n, .slice A bs.length c], .int .i64 a, .int .i64 b, .int .i64 d]) ∧ PlanFacts n bs ∧ bs.length ≤ c ∧ (A = none → c = 0) ∧ (0 ≤ a ∧ 0 ≤ b ∧ -2000 ≤ d ∧ d ≤ 5000) ∧ RB w' w.heap.size w'.heap.size A bs ∧ Below w.heap.size w w'
theorem diff_end {base g q q' P : Nat} {n : Int} {A : Option Addr} {c : Nat} {bs : List Bd} {a b d : Int} {w W : World} {e : Ending} {u0 u1 : Value} (hf : PlanFacts n bs) (hc : bs.length ≤ c) (hn : A = none → c = 0) (hd : 0 ≤ a ∧ 0 ≤ b ∧ -2000 ≤ d ∧ d ≤ 5000) (hD : Dr base g q' w W P n A c bs) (hq : q' ≤ q + 170) (he : e = .returned (.tuple #[.agg #[.int .i64 n, .slice A bs.length c], .int .i64 a, .int .i64 b, .int .i64 d])) :
    DrewDiff base g q w e ((W.setCell ⟨w.heap.size, 0, none⟩ u0).setCell ⟨w.heap.size, 1, none⟩ u1) := by
  obtain ⟨h1, h2, h3⟩ := hD.end_ (u0 := u0) (u1 := u1) rfl
  exact ⟨n, A, c, bs, a, b, d, he, hf, hc, hn, hd, h1, h2.mono hq, h3⟩
theorem mostV_any (n : Int) (bs : List Bd) (f t : Int) : -495 ≤ mostV n bs f t ∧ mostV n bs f t ≤ 495 := by
  cases h : mostB n bs f t
  · rw [(most_none h).1]; omega
  · exact mostV_bound h
set_option maxHeartbeats 4000000 in
theorem diff_any (base g q : Nat) (w : World) (h : Rd w base g q) (hq : q ≤ 70000) :
    Calls Try.prog 98 #[.pointer (some ⟨g, 0, none⟩)] w (DrewDiff base g q w) := by
  have hg := h.lt
  go_enter Try.func98, Try.ntmps98
  go_wp2_with fail
  refine (joined_any base g q 12 _ (h.alloc _) (by omega) (by omega) (by omega)).mono ?_; rintro e w1 ⟨m, A, c, bs, rfl, hf, hc, hn, hrb, hrd, ho⟩
  have HN := Lib.hid hn
  have D0 := Lib.hid (Dr.start (n := m) (c := c) rfl hg hrb hrd ho)
  have hz1 := ho.size
  simp only [sz] at hz1
  clear ho hrb hrd hn h
  go_upto_region 2 with (fail)
  refine name_c (fun w2 hw2 => ?_)
  have D2 := Lib.hid (show Dr base g _ w w2 w1.heap.size m A c bs by rw [hw2]; exact D0.out)
  clear hw2 D0
  have p0 := D2.out.p0
  have p1 := D2.out.p1
  have hneR : ¬ w.heap.size = w1.heap.size := by omega
  have hzP := D2.out.lt
  have hm7 := hf.2.1
  have hl16 := hf.2.2.1
  have HF := Lib.hid hf
  clear hf
  by_cases hd1 : m < 1
  · go_wp2_with fail
    refine (pick_any base g _ _ _ D2.out.rd (by omega)).mono ?_; rintro e w3 ⟨a, rfl, a0, a1, _, hr3, ho3, hs3⟩
    have D3 := Lib.hid (D2.out.pick hr3 ho3)
    have a2 := a1 (by omega)
    clear hr3 ho3 hs3 a1 p0 p1
    have p0 := D3.out.p0
    have p1 := D3.out.p1
    go_wp2_with fail
    refine (pick_any base g _ _ _ D3.out.rd (by omega)).mono ?_; rintro e w4 ⟨k4, rfl, k40, k41, _, hr4, ho4, hs4⟩
    have D4 := Lib.hid (D3.out.pick hr4 ho4)
    have k42 := k41 (by omega)
    clear hr4 ho4 hs4 k41 p0 p1 D3
    go_wp2_with fail
    refine (pick_any base g _ 40 _ D4.out.rd (by omega)).mono ?_; rintro e w5 ⟨k5, rfl, k50, k51, _, hr5, ho5, hs5⟩
    have D5 := Lib.hid (D4.out.pick hr5 ho5)
    have k52 := k51 (by omega)
    clear hr5 ho5 hs5 k51 D4
    have hx5 : 0 ≤ k5 / 39 ∧ k5 / 39 ≤ 1 := by omega
    have e1 : IntKind.i64.wrap (k5.tdiv 39) = k5 / 39 := by rw [Int.tdiv_eq_ediv_of_nonneg k50]; exact IntWalk.i64_in _ ⟨by omega, by omega⟩
    have e2 : IntKind.i64.wrap (k5 / 39 * 7) = k5 / 39 * 7 := IntWalk.i64_in _ ⟨by omega, by omega⟩
    have e3 : IntKind.i64.wrap (k4 + k5 / 39 * 7) = k4 + k5 / 39 * 7 := IntWalk.i64_in _ ⟨by omega, by omega⟩
    go_wp2_with fail
    refine (pick_any base g _ 40 _ D5.out.rd (by omega)).mono ?_; rintro e w6 ⟨k7, rfl, k70, k71, _, hr6, ho6, hs6⟩
    have D6 := Lib.hid (D5.out.pick hr6 ho6)
    have k72 := k71 (by omega)
    clear hr6 ho6 hs6 k71 D5 e1 e2 e3
    obtain ⟨b, hb⟩ : ∃ b, b = k4 + k5 / 39 * 7 := ⟨_, rfl⟩
    rw [← hb]
    have b0 : 0 ≤ b := by omega
    clear hb
    have p0 := D6.out.p0
    have p1 := D6.out.p1
    have hwn : IntKind.i64.wrap (k7 - 15) = k7 - 15 := IntWalk.i64_in _ ⟨by omega, by omega⟩
    go_wp2_with fail
    refine (specMostOf_any m A c bs a b _ D6.out.bat (by omega)).mono ?_; rintro e w7 ⟨rfl, hb7⟩
    have D7 := Lib.hid (D6.out.below hb7)
    clear hb7 D6 p0 p1 hwn
    have hmv := mostV_any m bs a b
    generalize mostV m bs a b = mv at *
    generalize mostB m bs a b = mb at *
    cases mb
    · go_upto_region 8 with (fail)
      refine name_c (fun w9 hw9 => ?_)
      have D9 := Lib.hid (show Dr base g _ w w9 w1.heap.size m A c bs by rw [hw9]; exact D7.out)
      clear hw9 D7
      have p0 := D9.out.p0
      have p1 := D9.out.p1
      refine wp_region_held_drew (S := (fun w' => w'.cell? ⟨w1.heap.size, 0, none⟩ = some (.int .i64 m) ∧ w'.cell? ⟨w1.heap.size, 1, none⟩ = some (.slice A bs.length c))) (by kernel_rfl) ?_ (fun hHeld => ?_)
      · (try dsimp only)
        (first | done | exact ⟨cD p0, cD p1⟩)
      refine name_h (fun wa0 hwa0 => ?_)
      replace hHeld : ((fun w' => w'.cell? ⟨w1.heap.size, 0, none⟩ = some (.int .i64 m) ∧ w'.cell? ⟨w1.heap.size, 1, none⟩ = some (.slice A bs.length c))) wa0 := by rw [hwa0]; exact hHeld
      (have Dwa0 := Lib.hid (D9.out.drewE hwa0))
      clear hwa0
      (refine wpAnyH_take (i := 0) (v := ?tv1) rfl (by kernel_rfl) (by kernel_rfl) (by kernel_rfl) (fun _ _ _ h => h) (Or.inl ⟨by kernel_rfl, ?ty1⟩) (by assumption) ?tr1; (case ty1 => (intro w' hSw; (try dsimp only at hSw); go_simp <;> with_reducible rfl)); (try simp only [Act.put, List.getElem_toArray, List.getElem_cons_succ, List.getElem_cons_zero, List.setIfInBounds_toArray, List.set_cons_zero, List.set_cons_succ]))
      (refine wpAnyH_take (i := 1) (v := ?tv2) rfl (by kernel_rfl) (by kernel_rfl) (by kernel_rfl) (fun _ _ _ h => h) (Or.inl ⟨by kernel_rfl, ?ty2⟩) (by assumption) ?tr2; (case ty2 => (intro w' hSw; (try dsimp only at hSw); go_simp <;> with_reducible rfl)); (try simp only [Act.put, List.getElem_toArray, List.getElem_cons_succ, List.getElem_cons_zero, List.setIfInBounds_toArray, List.set_cons_zero, List.set_cons_succ]))
      (refine wpAnyH_take (i := 2) (v := ?tv3) rfl (by kernel_rfl) (by kernel_rfl) (by kernel_rfl) (fun _ _ _ h => h) (Or.inl ⟨by kernel_rfl, ?ty3⟩) (by assumption) ?tr3; (case ty3 => (intro w' hSw; (try dsimp only at hSw); go_simp <;> with_reducible rfl)); (try simp only [Act.put, List.getElem_toArray, List.getElem_cons_succ, List.getElem_cons_zero, List.setIfInBounds_toArray, List.set_cons_zero, List.set_cons_succ]))
      (refine wpAnyH_take (i := 3) (v := ?tv4) rfl (by kernel_rfl) (by kernel_rfl) (by kernel_rfl) (fun _ _ _ h => h) (Or.inl ⟨by kernel_rfl, ?ty4⟩) (by assumption) ?tr4; (case ty4 => (intro w' hSw; (try dsimp only at hSw); go_simp <;> with_reducible rfl)); (try simp only [Act.put, List.getElem_toArray, List.getElem_cons_succ, List.getElem_cons_zero, List.setIfInBounds_toArray, List.set_cons_zero, List.set_cons_succ]))
      (refine wpAnyH_take (i := 4) (v := ?tv5) rfl (by kernel_rfl) (by kernel_rfl) (by kernel_rfl) (fun _ _ _ h => h) (Or.inl ⟨by kernel_rfl, ?ty5⟩) (by assumption) ?tr5; (case ty5 => (intro w' hSw; (try dsimp only at hSw); go_simp <;> with_reducible rfl)); (try simp only [Act.put, List.getElem_toArray, List.getElem_cons_succ, List.getElem_cons_zero, List.setIfInBounds_toArray, List.set_cons_zero, List.set_cons_succ]))
      refine wpAnyH_ready (rs := [5]) (by kernel_rfl) (by simp) ?_
      refine (AllReadyH.cons rfl (fun K hK => ?_) AllReadyH.nil)
      (go_simp; go_at_call 108; refine (pick_any base g _ 60 _ Dwa0.out.rd (by omega)).mono ?_; rintro e wa1 ⟨k6, rfl, k60, k61, _, hr4, ho4, hs4⟩; (try go_wp2_with fail); have K6 := k61 (by omega); have Dwa1 := Lib.hid (Dwa0.out.pick hr4 ho4); clear hr4 ho4 hs4 k61)
      refine hK.out _ _ ?_ (fun hHeld => ?_)
      focus ((try dsimp only); (first | done | first | exact ⟨t0, t1⟩ | exact ⟨Dwa1.out.p0, Dwa1.out.p1⟩))
      clear hK K
      (try simp only [Act.put, List.getElem_toArray, List.getElem_cons_succ, List.getElem_cons_zero, List.setIfInBounds_toArray, List.set_cons_zero, List.set_cons_succ])
      (refine wpAnyH_take (i := 6) (v := ?tv7) rfl (by kernel_rfl) (by kernel_rfl) (by kernel_rfl) (fun _ _ _ h => h) (Or.inl ⟨by kernel_rfl, ?ty7⟩) (by assumption) ?tr7; (case ty7 => (intro w' hSw; (try dsimp only at hSw); go_simp <;> with_reducible rfl)); (try simp only [Act.put, List.getElem_toArray, List.getElem_cons_succ, List.getElem_cons_zero, List.setIfInBounds_toArray, List.set_cons_zero, List.set_cons_succ]))
      (refine wpAnyH_take (i := 7) (v := ?tv8) rfl (by kernel_rfl) (by kernel_rfl) (by kernel_rfl) (fun _ _ _ h => h) (Or.inl ⟨by kernel_rfl, ?ty8⟩) (by assumption) ?tr8; (case ty8 => (intro w' hSw; (try dsimp only at hSw); go_simp <;> with_reducible rfl)); (try simp only [Act.put, List.getElem_toArray, List.getElem_cons_succ, List.getElem_cons_zero, List.setIfInBounds_toArray, List.set_cons_zero, List.set_cons_succ]))
      (refine wpAnyH_take (i := 8) (v := ?tv9) rfl (by kernel_rfl) (by kernel_rfl) (by kernel_rfl) (fun _ _ _ h => h) (Or.inl ⟨by kernel_rfl, ?ty9⟩) (by assumption) ?tr9; (case ty9 => (intro w' hSw; (try dsimp only at hSw); go_simp <;> with_reducible rfl)); (try simp only [Act.put, List.getElem_toArray, List.getElem_cons_succ, List.getElem_cons_zero, List.setIfInBounds_toArray, List.set_cons_zero, List.set_cons_succ]))
      refine wpAnyH_ready (rs := [9]) (by kernel_rfl) (by simp) ?_
      refine (AllReadyH.cons rfl (fun K hK => ?_) AllReadyH.nil)
      (obtain ⟨q0, q1, fr0, fr1⟩ := Dwa1.out.res.two; have hP := Dwa1.out.hP; go_simp; refine name_k (fun wa2 hwa2 => ?_); have Wwa2 := Lib.hid hwa2; have Dwa2 := Dwa1; have t0 : wa2.cell? ⟨w1.heap.size, 0, none⟩ = some (.int .i64 m) := (by rw [hwa2]; exact cS (cS Dwa1.out.p0 (by omega)) (by omega)); have t1 : wa2.cell? ⟨w1.heap.size, 1, none⟩ = some (.slice A bs.length c) := (by rw [hwa2]; exact cS (cS Dwa1.out.p1 (by omega)) (by omega)); clear hwa2 q0 q1 fr0 fr1)
      refine hK.out _ _ ?_ (fun hHeld => ?_)
      focus ((try dsimp only); (first | done | first | exact ⟨t0, t1⟩ | exact ⟨Dwa2.out.p0, Dwa2.out.p1⟩))
      clear hK K
      (try simp only [Act.put, List.getElem_toArray, List.getElem_cons_succ, List.getElem_cons_zero, List.setIfInBounds_toArray, List.set_cons_zero, List.set_cons_succ])
      (refine wpAnyH_take (i := 10) (v := ?tv11) rfl (by kernel_rfl) (by kernel_rfl) (by kernel_rfl) (fun _ _ _ h => h) (Or.inl ⟨by kernel_rfl, ?ty11⟩) (by assumption) ?tr11; (case ty11 => (intro w' hSw; (try dsimp only at hSw); go_simp <;> with_reducible rfl)); (try simp only [Act.put, List.getElem_toArray, List.getElem_cons_succ, List.getElem_cons_zero, List.setIfInBounds_toArray, List.set_cons_zero, List.set_cons_succ]))
      (refine wpAnyH_take (i := 11) (v := ?tv12) rfl (by kernel_rfl) (by kernel_rfl) (by kernel_rfl) (fun _ _ _ h => h) (Or.inl ⟨by kernel_rfl, ?ty12⟩) (by assumption) ?tr12; (case ty12 => (intro w' hSw; (try dsimp only at hSw); go_simp <;> with_reducible rfl)); (try simp only [Act.put, List.getElem_toArray, List.getElem_cons_succ, List.getElem_cons_zero, List.setIfInBounds_toArray, List.set_cons_zero, List.set_cons_succ]))
      (refine wpAnyH_take (i := 12) (v := ?tv13) rfl (by kernel_rfl) (by kernel_rfl) (by kernel_rfl) (fun _ _ _ h => h) (Or.inl ⟨by kernel_rfl, ?ty13⟩) (by assumption) ?tr13; (case ty13 => (intro w' hSw; (try dsimp only at hSw); go_simp <;> with_reducible rfl)); (try simp only [Act.put, List.getElem_toArray, List.getElem_cons_succ, List.getElem_cons_zero, List.setIfInBounds_toArray, List.set_cons_zero, List.set_cons_succ]))
      refine wpAnyH_done (by kernel_rfl) ?_ _
      have hx6 : 0 ≤ k6 / 59 ∧ k6 / 59 ≤ 1 := by omega
      rw [Int.tdiv_eq_ediv_of_nonneg (a := k6) (b := 59) k60, IntWalk.i64_in (k6 / 59) ⟨by omega, by omega⟩, IntWalk.i64_in (k6 / 59 * 3000) ⟨by omega, by omega⟩, IntWalk.i64_in ((k7 - 15) + k6 / 59 * 3000) ⟨by omega, by omega⟩]
      have R3 := Lib.hid Dwa1.out.res
      have u0 : wa2.cell? ⟨w.heap.size, 0, none⟩ = some (.int .i64 m) := by rw [Wwa2.out]; exact (((R3.out.set_ 0 _).set_ 1 _).cell 0)
      have u1 : wa2.cell? ⟨w.heap.size, 1, none⟩ = some (.slice A bs.length c) := by rw [Wwa2.out]; exact (((R3.out.set_ 0 _).set_ 1 _).cell 1)
      clear t0 t1 p0 p1
      go_wp2
      refine bodyPost_ret (v := .tuple #[.agg #[.int .i64 m, .slice A bs.length c], .int .i64 a, .int .i64 b, .int .i64 ((k7 - 15) + k6 / 59 * 3000)]) (by simp [results, Try.results98, go_sem, u0, u1]) rfl ?_
      rw [Wwa2.out]
      exact diff_end HF.out hc HN.out ⟨a0, b0, by omega, by omega⟩ Dwa1.out (by omega) rfl
    · go_wp2_with fail
      refine (pick_any base g _ 2 _ D7.out.rd (by omega)).mono ?_; rintro e w8 ⟨k8, rfl, k80, k81, _, hr8, ho8, hs8⟩
      have D8 := Lib.hid (D7.out.pick hr8 ho8)
      have k82 := k81 (by omega)
      clear hr8 ho8 hs8 k81 D7
      by_cases h8 : k8 = 0
      · have h8' : (k8 == 0) = true := by simpa using h8
        clear h8
        go_wp2_with fail
        refine (pick_any base g _ 2 _ D8.out.rd (by omega)).mono ?_; rintro e w10 ⟨k9, rfl, k90, k91, _, hr9, ho9, hs9⟩
        have D10 := Lib.hid (D8.out.pick hr9 ho9)
        have k92 := k91 (by omega)
        have hwm : IntKind.i64.wrap (mv + k9) = mv + k9 := IntWalk.i64_in _ ⟨by omega, by omega⟩
        clear hr9 ho9 hs9 k91 D8
        go_upto_region 8 with (fail)
        refine name_c (fun w9 hw9 => ?_)
        have D9 := Lib.hid (show Dr base g _ w w9 w1.heap.size m A c bs by rw [hw9]; exact D10.out)
        clear hw9 D10 hwm
        have p0 := D9.out.p0
        have p1 := D9.out.p1
        refine wp_region_held_drew (S := (fun w' => w'.cell? ⟨w1.heap.size, 0, none⟩ = some (.int .i64 m) ∧ w'.cell? ⟨w1.heap.size, 1, none⟩ = some (.slice A bs.length c))) (by kernel_rfl) ?_ (fun hHeld => ?_)
        · (try dsimp only)
          (first | done | exact ⟨cD p0, cD p1⟩)
        refine name_h (fun wa0 hwa0 => ?_)
        replace hHeld : ((fun w' => w'.cell? ⟨w1.heap.size, 0, none⟩ = some (.int .i64 m) ∧ w'.cell? ⟨w1.heap.size, 1, none⟩ = some (.slice A bs.length c))) wa0 := by rw [hwa0]; exact hHeld
        (have Dwa0 := Lib.hid (D9.out.drewE hwa0))
        clear hwa0
        (refine wpAnyH_take (i := 0) (v := ?tv14) rfl (by kernel_rfl) (by kernel_rfl) (by kernel_rfl) (fun _ _ _ h => h) (Or.inl ⟨by kernel_rfl, ?ty14⟩) (by assumption) ?tr14; (case ty14 => (intro w' hSw; (try dsimp only at hSw); go_simp <;> with_reducible rfl)); (try simp only [Act.put, List.getElem_toArray, List.getElem_cons_succ, List.getElem_cons_zero, List.setIfInBounds_toArray, List.set_cons_zero, List.set_cons_succ]))
        (refine wpAnyH_take (i := 1) (v := ?tv15) rfl (by kernel_rfl) (by kernel_rfl) (by kernel_rfl) (fun _ _ _ h => h) (Or.inl ⟨by kernel_rfl, ?ty15⟩) (by assumption) ?tr15; (case ty15 => (intro w' hSw; (try dsimp only at hSw); go_simp <;> with_reducible rfl)); (try simp only [Act.put, List.getElem_toArray, List.getElem_cons_succ, List.getElem_cons_zero, List.setIfInBounds_toArray, List.set_cons_zero, List.set_cons_succ]))
        (refine wpAnyH_take (i := 2) (v := ?tv16) rfl (by kernel_rfl) (by kernel_rfl) (by kernel_rfl) (fun _ _ _ h => h) (Or.inl ⟨by kernel_rfl, ?ty16⟩) (by assumption) ?tr16; (case ty16 => (intro w' hSw; (try dsimp only at hSw); go_simp <;> with_reducible rfl)); (try simp only [Act.put, List.getElem_toArray, List.getElem_cons_succ, List.getElem_cons_zero, List.setIfInBounds_toArray, List.set_cons_zero, List.set_cons_succ]))
        (refine wpAnyH_take (i := 3) (v := ?tv17) rfl (by kernel_rfl) (by kernel_rfl) (by kernel_rfl) (fun _ _ _ h => h) (Or.inl ⟨by kernel_rfl, ?ty17⟩) (by assumption) ?tr17; (case ty17 => (intro w' hSw; (try dsimp only at hSw); go_simp <;> with_reducible rfl)); (try simp only [Act.put, List.getElem_toArray, List.getElem_cons_succ, List.getElem_cons_zero, List.setIfInBounds_toArray, List.set_cons_zero, List.set_cons_succ]))
        (refine wpAnyH_take (i := 4) (v := ?tv18) rfl (by kernel_rfl) (by kernel_rfl) (by kernel_rfl) (fun _ _ _ h => h) (Or.inl ⟨by kernel_rfl, ?ty18⟩) (by assumption) ?tr18; (case ty18 => (intro w' hSw; (try dsimp only at hSw); go_simp <;> with_reducible rfl)); (try simp only [Act.put, List.getElem_toArray, List.getElem_cons_succ, List.getElem_cons_zero, List.setIfInBounds_toArray, List.set_cons_zero, List.set_cons_succ]))
        refine wpAnyH_ready (rs := [5]) (by kernel_rfl) (by simp) ?_
        refine (AllReadyH.cons rfl (fun K hK => ?_) AllReadyH.nil)
        (go_simp; go_at_call 108; refine (pick_any base g _ 60 _ Dwa0.out.rd (by omega)).mono ?_; rintro e wa1 ⟨k6, rfl, k60, k61, _, hr4, ho4, hs4⟩; (try go_wp2_with fail); have K6 := k61 (by omega); have Dwa1 := Lib.hid (Dwa0.out.pick hr4 ho4); clear hr4 ho4 hs4 k61)
        refine hK.out _ _ ?_ (fun hHeld => ?_)
        focus ((try dsimp only); (first | done | first | exact ⟨t0, t1⟩ | exact ⟨Dwa1.out.p0, Dwa1.out.p1⟩))
        clear hK K
        (try simp only [Act.put, List.getElem_toArray, List.getElem_cons_succ, List.getElem_cons_zero, List.setIfInBounds_toArray, List.set_cons_zero, List.set_cons_succ])
        (refine wpAnyH_take (i := 6) (v := ?tv20) rfl (by kernel_rfl) (by kernel_rfl) (by kernel_rfl) (fun _ _ _ h => h) (Or.inl ⟨by kernel_rfl, ?ty20⟩) (by assumption) ?tr20; (case ty20 => (intro w' hSw; (try dsimp only at hSw); go_simp <;> with_reducible rfl)); (try simp only [Act.put, List.getElem_toArray, List.getElem_cons_succ, List.getElem_cons_zero, List.setIfInBounds_toArray, List.set_cons_zero, List.set_cons_succ]))
        (refine wpAnyH_take (i := 7) (v := ?tv21) rfl (by kernel_rfl) (by kernel_rfl) (by kernel_rfl) (fun _ _ _ h => h) (Or.inl ⟨by kernel_rfl, ?ty21⟩) (by assumption) ?tr21; (case ty21 => (intro w' hSw; (try dsimp only at hSw); go_simp <;> with_reducible rfl)); (try simp only [Act.put, List.getElem_toArray, List.getElem_cons_succ, List.getElem_cons_zero, List.setIfInBounds_toArray, List.set_cons_zero, List.set_cons_succ]))
        (refine wpAnyH_take (i := 8) (v := ?tv22) rfl (by kernel_rfl) (by kernel_rfl) (by kernel_rfl) (fun _ _ _ h => h) (Or.inl ⟨by kernel_rfl, ?ty22⟩) (by assumption) ?tr22; (case ty22 => (intro w' hSw; (try dsimp only at hSw); go_simp <;> with_reducible rfl)); (try simp only [Act.put, List.getElem_toArray, List.getElem_cons_succ, List.getElem_cons_zero, List.setIfInBounds_toArray, List.set_cons_zero, List.set_cons_succ]))
        refine wpAnyH_ready (rs := [9]) (by kernel_rfl) (by simp) ?_
        refine (AllReadyH.cons rfl (fun K hK => ?_) AllReadyH.nil)
        (obtain ⟨q0, q1, fr0, fr1⟩ := Dwa1.out.res.two; have hP := Dwa1.out.hP; go_simp; refine name_k (fun wa2 hwa2 => ?_); have Wwa2 := Lib.hid hwa2; have Dwa2 := Dwa1; have t0 : wa2.cell? ⟨w1.heap.size, 0, none⟩ = some (.int .i64 m) := (by rw [hwa2]; exact cS (cS Dwa1.out.p0 (by omega)) (by omega)); have t1 : wa2.cell? ⟨w1.heap.size, 1, none⟩ = some (.slice A bs.length c) := (by rw [hwa2]; exact cS (cS Dwa1.out.p1 (by omega)) (by omega)); clear hwa2 q0 q1 fr0 fr1)
        refine hK.out _ _ ?_ (fun hHeld => ?_)
        focus ((try dsimp only); (first | done | first | exact ⟨t0, t1⟩ | exact ⟨Dwa2.out.p0, Dwa2.out.p1⟩))
        clear hK K
        (try simp only [Act.put, List.getElem_toArray, List.getElem_cons_succ, List.getElem_cons_zero, List.setIfInBounds_toArray, List.set_cons_zero, List.set_cons_succ])
        (refine wpAnyH_take (i := 10) (v := ?tv24) rfl (by kernel_rfl) (by kernel_rfl) (by kernel_rfl) (fun _ _ _ h => h) (Or.inl ⟨by kernel_rfl, ?ty24⟩) (by assumption) ?tr24; (case ty24 => (intro w' hSw; (try dsimp only at hSw); go_simp <;> with_reducible rfl)); (try simp only [Act.put, List.getElem_toArray, List.getElem_cons_succ, List.getElem_cons_zero, List.setIfInBounds_toArray, List.set_cons_zero, List.set_cons_succ]))
        (refine wpAnyH_take (i := 11) (v := ?tv25) rfl (by kernel_rfl) (by kernel_rfl) (by kernel_rfl) (fun _ _ _ h => h) (Or.inl ⟨by kernel_rfl, ?ty25⟩) (by assumption) ?tr25; (case ty25 => (intro w' hSw; (try dsimp only at hSw); go_simp <;> with_reducible rfl)); (try simp only [Act.put, List.getElem_toArray, List.getElem_cons_succ, List.getElem_cons_zero, List.setIfInBounds_toArray, List.set_cons_zero, List.set_cons_succ]))
        (refine wpAnyH_take (i := 12) (v := ?tv26) rfl (by kernel_rfl) (by kernel_rfl) (by kernel_rfl) (fun _ _ _ h => h) (Or.inl ⟨by kernel_rfl, ?ty26⟩) (by assumption) ?tr26; (case ty26 => (intro w' hSw; (try dsimp only at hSw); go_simp <;> with_reducible rfl)); (try simp only [Act.put, List.getElem_toArray, List.getElem_cons_succ, List.getElem_cons_zero, List.setIfInBounds_toArray, List.set_cons_zero, List.set_cons_succ]))
        refine wpAnyH_done (by kernel_rfl) ?_ _
        have hx6 : 0 ≤ k6 / 59 ∧ k6 / 59 ≤ 1 := by omega
        rw [Int.tdiv_eq_ediv_of_nonneg (a := k6) (b := 59) k60, IntWalk.i64_in (k6 / 59) ⟨by omega, by omega⟩, IntWalk.i64_in (k6 / 59 * 3000) ⟨by omega, by omega⟩, IntWalk.i64_in ((mv + k9) + k6 / 59 * 3000) ⟨by omega, by omega⟩]
        have R3 := Lib.hid Dwa1.out.res
        have u0 : wa2.cell? ⟨w.heap.size, 0, none⟩ = some (.int .i64 m) := by rw [Wwa2.out]; exact (((R3.out.set_ 0 _).set_ 1 _).cell 0)
        have u1 : wa2.cell? ⟨w.heap.size, 1, none⟩ = some (.slice A bs.length c) := by rw [Wwa2.out]; exact (((R3.out.set_ 0 _).set_ 1 _).cell 1)
        clear t0 t1 p0 p1
        go_wp2
        refine bodyPost_ret (v := .tuple #[.agg #[.int .i64 m, .slice A bs.length c], .int .i64 a, .int .i64 b, .int .i64 ((mv + k9) + k6 / 59 * 3000)]) (by simp [results, Try.results98, go_sem, u0, u1]) rfl ?_
        rw [Wwa2.out]
        exact diff_end HF.out hc HN.out ⟨a0, b0, by omega, by omega⟩ Dwa1.out (by omega) rfl
      · have h8' : (k8 == 0) = false := beq_eq_false_iff_ne.2 h8
        clear h8
        go_upto_region 8 with (fail)
        refine name_c (fun w9 hw9 => ?_)
        have D9 := Lib.hid (show Dr base g _ w w9 w1.heap.size m A c bs by rw [hw9]; exact D8.out)
        clear hw9 D8
        have p0 := D9.out.p0
        have p1 := D9.out.p1
        refine wp_region_held_drew (S := (fun w' => w'.cell? ⟨w1.heap.size, 0, none⟩ = some (.int .i64 m) ∧ w'.cell? ⟨w1.heap.size, 1, none⟩ = some (.slice A bs.length c))) (by kernel_rfl) ?_ (fun hHeld => ?_)
        · (try dsimp only)
          (first | done | exact ⟨cD p0, cD p1⟩)
        refine name_h (fun wa0 hwa0 => ?_)
        replace hHeld : ((fun w' => w'.cell? ⟨w1.heap.size, 0, none⟩ = some (.int .i64 m) ∧ w'.cell? ⟨w1.heap.size, 1, none⟩ = some (.slice A bs.length c))) wa0 := by rw [hwa0]; exact hHeld
        (have Dwa0 := Lib.hid (D9.out.drewE hwa0))
        clear hwa0
        (refine wpAnyH_take (i := 0) (v := ?tv27) rfl (by kernel_rfl) (by kernel_rfl) (by kernel_rfl) (fun _ _ _ h => h) (Or.inl ⟨by kernel_rfl, ?ty27⟩) (by assumption) ?tr27; (case ty27 => (intro w' hSw; (try dsimp only at hSw); go_simp <;> with_reducible rfl)); (try simp only [Act.put, List.getElem_toArray, List.getElem_cons_succ, List.getElem_cons_zero, List.setIfInBounds_toArray, List.set_cons_zero, List.set_cons_succ]))
        (refine wpAnyH_take (i := 1) (v := ?tv28) rfl (by kernel_rfl) (by kernel_rfl) (by kernel_rfl) (fun _ _ _ h => h) (Or.inl ⟨by kernel_rfl, ?ty28⟩) (by assumption) ?tr28; (case ty28 => (intro w' hSw; (try dsimp only at hSw); go_simp <;> with_reducible rfl)); (try simp only [Act.put, List.getElem_toArray, List.getElem_cons_succ, List.getElem_cons_zero, List.setIfInBounds_toArray, List.set_cons_zero, List.set_cons_succ]))
        (refine wpAnyH_take (i := 2) (v := ?tv29) rfl (by kernel_rfl) (by kernel_rfl) (by kernel_rfl) (fun _ _ _ h => h) (Or.inl ⟨by kernel_rfl, ?ty29⟩) (by assumption) ?tr29; (case ty29 => (intro w' hSw; (try dsimp only at hSw); go_simp <;> with_reducible rfl)); (try simp only [Act.put, List.getElem_toArray, List.getElem_cons_succ, List.getElem_cons_zero, List.setIfInBounds_toArray, List.set_cons_zero, List.set_cons_succ]))
        (refine wpAnyH_take (i := 3) (v := ?tv30) rfl (by kernel_rfl) (by kernel_rfl) (by kernel_rfl) (fun _ _ _ h => h) (Or.inl ⟨by kernel_rfl, ?ty30⟩) (by assumption) ?tr30; (case ty30 => (intro w' hSw; (try dsimp only at hSw); go_simp <;> with_reducible rfl)); (try simp only [Act.put, List.getElem_toArray, List.getElem_cons_succ, List.getElem_cons_zero, List.setIfInBounds_toArray, List.set_cons_zero, List.set_cons_succ]))
        (refine wpAnyH_take (i := 4) (v := ?tv31) rfl (by kernel_rfl) (by kernel_rfl) (by kernel_rfl) (fun _ _ _ h => h) (Or.inl ⟨by kernel_rfl, ?ty31⟩) (by assumption) ?tr31; (case ty31 => (intro w' hSw; (try dsimp only at hSw); go_simp <;> with_reducible rfl)); (try simp only [Act.put, List.getElem_toArray, List.getElem_cons_succ, List.getElem_cons_zero, List.setIfInBounds_toArray, List.set_cons_zero, List.set_cons_succ]))
        refine wpAnyH_ready (rs := [5]) (by kernel_rfl) (by simp) ?_
        refine (AllReadyH.cons rfl (fun K hK => ?_) AllReadyH.nil)
        (go_simp; go_at_call 108; refine (pick_any base g _ 60 _ Dwa0.out.rd (by omega)).mono ?_; rintro e wa1 ⟨k6, rfl, k60, k61, _, hr4, ho4, hs4⟩; (try go_wp2_with fail); have K6 := k61 (by omega); have Dwa1 := Lib.hid (Dwa0.out.pick hr4 ho4); clear hr4 ho4 hs4 k61)
        refine hK.out _ _ ?_ (fun hHeld => ?_)
        focus ((try dsimp only); (first | done | first | exact ⟨t0, t1⟩ | exact ⟨Dwa1.out.p0, Dwa1.out.p1⟩))
        clear hK K
        (try simp only [Act.put, List.getElem_toArray, List.getElem_cons_succ, List.getElem_cons_zero, List.setIfInBounds_toArray, List.set_cons_zero, List.set_cons_succ])
        (refine wpAnyH_take (i := 6) (v := ?tv33) rfl (by kernel_rfl) (by kernel_rfl) (by kernel_rfl) (fun _ _ _ h => h) (Or.inl ⟨by kernel_rfl, ?ty33⟩) (by assumption) ?tr33; (case ty33 => (intro w' hSw; (try dsimp only at hSw); go_simp <;> with_reducible rfl)); (try simp only [Act.put, List.getElem_toArray, List.getElem_cons_succ, List.getElem_cons_zero, List.setIfInBounds_toArray, List.set_cons_zero, List.set_cons_succ]))
        (refine wpAnyH_take (i := 7) (v := ?tv34) rfl (by kernel_rfl) (by kernel_rfl) (by kernel_rfl) (fun _ _ _ h => h) (Or.inl ⟨by kernel_rfl, ?ty34⟩) (by assumption) ?tr34; (case ty34 => (intro w' hSw; (try dsimp only at hSw); go_simp <;> with_reducible rfl)); (try simp only [Act.put, List.getElem_toArray, List.getElem_cons_succ, List.getElem_cons_zero, List.setIfInBounds_toArray, List.set_cons_zero, List.set_cons_succ]))
        (refine wpAnyH_take (i := 8) (v := ?tv35) rfl (by kernel_rfl) (by kernel_rfl) (by kernel_rfl) (fun _ _ _ h => h) (Or.inl ⟨by kernel_rfl, ?ty35⟩) (by assumption) ?tr35; (case ty35 => (intro w' hSw; (try dsimp only at hSw); go_simp <;> with_reducible rfl)); (try simp only [Act.put, List.getElem_toArray, List.getElem_cons_succ, List.getElem_cons_zero, List.setIfInBounds_toArray, List.set_cons_zero, List.set_cons_succ]))
        refine wpAnyH_ready (rs := [9]) (by kernel_rfl) (by simp) ?_
        refine (AllReadyH.cons rfl (fun K hK => ?_) AllReadyH.nil)
        (obtain ⟨q0, q1, fr0, fr1⟩ := Dwa1.out.res.two; have hP := Dwa1.out.hP; go_simp; refine name_k (fun wa2 hwa2 => ?_); have Wwa2 := Lib.hid hwa2; have Dwa2 := Dwa1; have t0 : wa2.cell? ⟨w1.heap.size, 0, none⟩ = some (.int .i64 m) := (by rw [hwa2]; exact cS (cS Dwa1.out.p0 (by omega)) (by omega)); have t1 : wa2.cell? ⟨w1.heap.size, 1, none⟩ = some (.slice A bs.length c) := (by rw [hwa2]; exact cS (cS Dwa1.out.p1 (by omega)) (by omega)); clear hwa2 q0 q1 fr0 fr1)
        refine hK.out _ _ ?_ (fun hHeld => ?_)
        focus ((try dsimp only); (first | done | first | exact ⟨t0, t1⟩ | exact ⟨Dwa2.out.p0, Dwa2.out.p1⟩))
        clear hK K
        (try simp only [Act.put, List.getElem_toArray, List.getElem_cons_succ, List.getElem_cons_zero, List.setIfInBounds_toArray, List.set_cons_zero, List.set_cons_succ])
        (refine wpAnyH_take (i := 10) (v := ?tv37) rfl (by kernel_rfl) (by kernel_rfl) (by kernel_rfl) (fun _ _ _ h => h) (Or.inl ⟨by kernel_rfl, ?ty37⟩) (by assumption) ?tr37; (case ty37 => (intro w' hSw; (try dsimp only at hSw); go_simp <;> with_reducible rfl)); (try simp only [Act.put, List.getElem_toArray, List.getElem_cons_succ, List.getElem_cons_zero, List.setIfInBounds_toArray, List.set_cons_zero, List.set_cons_succ]))
        (refine wpAnyH_take (i := 11) (v := ?tv38) rfl (by kernel_rfl) (by kernel_rfl) (by kernel_rfl) (fun _ _ _ h => h) (Or.inl ⟨by kernel_rfl, ?ty38⟩) (by assumption) ?tr38; (case ty38 => (intro w' hSw; (try dsimp only at hSw); go_simp <;> with_reducible rfl)); (try simp only [Act.put, List.getElem_toArray, List.getElem_cons_succ, List.getElem_cons_zero, List.setIfInBounds_toArray, List.set_cons_zero, List.set_cons_succ]))
        (refine wpAnyH_take (i := 12) (v := ?tv39) rfl (by kernel_rfl) (by kernel_rfl) (by kernel_rfl) (fun _ _ _ h => h) (Or.inl ⟨by kernel_rfl, ?ty39⟩) (by assumption) ?tr39; (case ty39 => (intro w' hSw; (try dsimp only at hSw); go_simp <;> with_reducible rfl)); (try simp only [Act.put, List.getElem_toArray, List.getElem_cons_succ, List.getElem_cons_zero, List.setIfInBounds_toArray, List.set_cons_zero, List.set_cons_succ]))
        refine wpAnyH_done (by kernel_rfl) ?_ _
        have hx6 : 0 ≤ k6 / 59 ∧ k6 / 59 ≤ 1 := by omega
        rw [Int.tdiv_eq_ediv_of_nonneg (a := k6) (b := 59) k60, IntWalk.i64_in (k6 / 59) ⟨by omega, by omega⟩, IntWalk.i64_in (k6 / 59 * 3000) ⟨by omega, by omega⟩, IntWalk.i64_in ((k7 - 15) + k6 / 59 * 3000) ⟨by omega, by omega⟩]
        have R3 := Lib.hid Dwa1.out.res
        have u0 : wa2.cell? ⟨w.heap.size, 0, none⟩ = some (.int .i64 m) := by rw [Wwa2.out]; exact (((R3.out.set_ 0 _).set_ 1 _).cell 0)
        have u1 : wa2.cell? ⟨w.heap.size, 1, none⟩ = some (.slice A bs.length c) := by rw [Wwa2.out]; exact (((R3.out.set_ 0 _).set_ 1 _).cell 1)
        clear t0 t1 p0 p1
        go_wp2
        refine bodyPost_ret (v := .tuple #[.agg #[.int .i64 m, .slice A bs.length c], .int .i64 a, .int .i64 b, .int .i64 ((k7 - 15) + k6 / 59 * 3000)]) (by simp [results, Try.results98, go_sem, u0, u1]) rfl ?_
        rw [Wwa2.out]
        exact diff_end HF.out hc HN.out ⟨a0, b0, by omega, by omega⟩ Dwa1.out (by omega) rfl
  · go_wp2_with fail
    refine (pick_any base g _ _ _ D2.out.rd (by omega)).mono ?_; rintro e w3 ⟨a, rfl, a0, a1, _, hr3, ho3, hs3⟩
    have D3 := Lib.hid (D2.out.pick hr3 ho3)
    have a2 := a1 (by omega)
    clear hr3 ho3 hs3 a1 p0 p1
    have p0 := D3.out.p0
    have p1 := D3.out.p1
    go_wp2_with fail
    refine (pick_any base g _ _ _ D3.out.rd (by omega)).mono ?_; rintro e w4 ⟨k4, rfl, k40, k41, _, hr4, ho4, hs4⟩
    have D4 := Lib.hid (D3.out.pick hr4 ho4)
    have k42 := k41 (by omega)
    clear hr4 ho4 hs4 k41 p0 p1 D3
    go_wp2_with fail
    refine (pick_any base g _ 40 _ D4.out.rd (by omega)).mono ?_; rintro e w5 ⟨k5, rfl, k50, k51, _, hr5, ho5, hs5⟩
    have D5 := Lib.hid (D4.out.pick hr5 ho5)
    have k52 := k51 (by omega)
    clear hr5 ho5 hs5 k51 D4
    have hx5 : 0 ≤ k5 / 39 ∧ k5 / 39 ≤ 1 := by omega
    have e1 : IntKind.i64.wrap (k5.tdiv 39) = k5 / 39 := by rw [Int.tdiv_eq_ediv_of_nonneg k50]; exact IntWalk.i64_in _ ⟨by omega, by omega⟩
    have e2 : IntKind.i64.wrap (k5 / 39 * 7) = k5 / 39 * 7 := IntWalk.i64_in _ ⟨by omega, by omega⟩
    have e3 : IntKind.i64.wrap (k4 + k5 / 39 * 7) = k4 + k5 / 39 * 7 := IntWalk.i64_in _ ⟨by omega, by omega⟩
    go_wp2_with fail
    refine (pick_any base g _ 40 _ D5.out.rd (by omega)).mono ?_; rintro e w6 ⟨k7, rfl, k70, k71, _, hr6, ho6, hs6⟩
    have D6 := Lib.hid (D5.out.pick hr6 ho6)
    have k72 := k71 (by omega)
    clear hr6 ho6 hs6 k71 D5 e1 e2 e3
    obtain ⟨b, hb⟩ : ∃ b, b = k4 + k5 / 39 * 7 := ⟨_, rfl⟩
    rw [← hb]
    have b0 : 0 ≤ b := by omega
    clear hb
    have p0 := D6.out.p0
    have p1 := D6.out.p1
    have hwn : IntKind.i64.wrap (k7 - 15) = k7 - 15 := IntWalk.i64_in _ ⟨by omega, by omega⟩
    go_wp2_with fail
    refine (specMostOf_any m A c bs a b _ D6.out.bat (by omega)).mono ?_; rintro e w7 ⟨rfl, hb7⟩
    have D7 := Lib.hid (D6.out.below hb7)
    clear hb7 D6 p0 p1 hwn
    have hmv := mostV_any m bs a b
    generalize mostV m bs a b = mv at *
    generalize mostB m bs a b = mb at *
    cases mb
    · go_upto_region 8 with (fail)
      refine name_c (fun w9 hw9 => ?_)
      have D9 := Lib.hid (show Dr base g _ w w9 w1.heap.size m A c bs by rw [hw9]; exact D7.out)
      clear hw9 D7
      have p0 := D9.out.p0
      have p1 := D9.out.p1
      refine wp_region_held_drew (S := (fun w' => w'.cell? ⟨w1.heap.size, 0, none⟩ = some (.int .i64 m) ∧ w'.cell? ⟨w1.heap.size, 1, none⟩ = some (.slice A bs.length c))) (by kernel_rfl) ?_ (fun hHeld => ?_)
      · (try dsimp only)
        (first | done | exact ⟨cD p0, cD p1⟩)
      refine name_h (fun wa0 hwa0 => ?_)
      replace hHeld : ((fun w' => w'.cell? ⟨w1.heap.size, 0, none⟩ = some (.int .i64 m) ∧ w'.cell? ⟨w1.heap.size, 1, none⟩ = some (.slice A bs.length c))) wa0 := by rw [hwa0]; exact hHeld
      (have Dwa0 := Lib.hid (D9.out.drewE hwa0))
      clear hwa0
      (refine wpAnyH_take (i := 0) (v := ?tv40) rfl (by kernel_rfl) (by kernel_rfl) (by kernel_rfl) (fun _ _ _ h => h) (Or.inl ⟨by kernel_rfl, ?ty40⟩) (by assumption) ?tr40; (case ty40 => (intro w' hSw; (try dsimp only at hSw); go_simp <;> with_reducible rfl)); (try simp only [Act.put, List.getElem_toArray, List.getElem_cons_succ, List.getElem_cons_zero, List.setIfInBounds_toArray, List.set_cons_zero, List.set_cons_succ]))
      (refine wpAnyH_take (i := 1) (v := ?tv41) rfl (by kernel_rfl) (by kernel_rfl) (by kernel_rfl) (fun _ _ _ h => h) (Or.inl ⟨by kernel_rfl, ?ty41⟩) (by assumption) ?tr41; (case ty41 => (intro w' hSw; (try dsimp only at hSw); go_simp <;> with_reducible rfl)); (try simp only [Act.put, List.getElem_toArray, List.getElem_cons_succ, List.getElem_cons_zero, List.setIfInBounds_toArray, List.set_cons_zero, List.set_cons_succ]))
      (refine wpAnyH_take (i := 2) (v := ?tv42) rfl (by kernel_rfl) (by kernel_rfl) (by kernel_rfl) (fun _ _ _ h => h) (Or.inl ⟨by kernel_rfl, ?ty42⟩) (by assumption) ?tr42; (case ty42 => (intro w' hSw; (try dsimp only at hSw); go_simp <;> with_reducible rfl)); (try simp only [Act.put, List.getElem_toArray, List.getElem_cons_succ, List.getElem_cons_zero, List.setIfInBounds_toArray, List.set_cons_zero, List.set_cons_succ]))
      (refine wpAnyH_take (i := 3) (v := ?tv43) rfl (by kernel_rfl) (by kernel_rfl) (by kernel_rfl) (fun _ _ _ h => h) (Or.inl ⟨by kernel_rfl, ?ty43⟩) (by assumption) ?tr43; (case ty43 => (intro w' hSw; (try dsimp only at hSw); go_simp <;> with_reducible rfl)); (try simp only [Act.put, List.getElem_toArray, List.getElem_cons_succ, List.getElem_cons_zero, List.setIfInBounds_toArray, List.set_cons_zero, List.set_cons_succ]))
      (refine wpAnyH_take (i := 4) (v := ?tv44) rfl (by kernel_rfl) (by kernel_rfl) (by kernel_rfl) (fun _ _ _ h => h) (Or.inl ⟨by kernel_rfl, ?ty44⟩) (by assumption) ?tr44; (case ty44 => (intro w' hSw; (try dsimp only at hSw); go_simp <;> with_reducible rfl)); (try simp only [Act.put, List.getElem_toArray, List.getElem_cons_succ, List.getElem_cons_zero, List.setIfInBounds_toArray, List.set_cons_zero, List.set_cons_succ]))
      refine wpAnyH_ready (rs := [5]) (by kernel_rfl) (by simp) ?_
      refine (AllReadyH.cons rfl (fun K hK => ?_) AllReadyH.nil)
      (go_simp; go_at_call 108; refine (pick_any base g _ 60 _ Dwa0.out.rd (by omega)).mono ?_; rintro e wa1 ⟨k6, rfl, k60, k61, _, hr4, ho4, hs4⟩; (try go_wp2_with fail); have K6 := k61 (by omega); have Dwa1 := Lib.hid (Dwa0.out.pick hr4 ho4); clear hr4 ho4 hs4 k61)
      refine hK.out _ _ ?_ (fun hHeld => ?_)
      focus ((try dsimp only); (first | done | first | exact ⟨t0, t1⟩ | exact ⟨Dwa1.out.p0, Dwa1.out.p1⟩))
      clear hK K
      (try simp only [Act.put, List.getElem_toArray, List.getElem_cons_succ, List.getElem_cons_zero, List.setIfInBounds_toArray, List.set_cons_zero, List.set_cons_succ])
      (refine wpAnyH_take (i := 6) (v := ?tv46) rfl (by kernel_rfl) (by kernel_rfl) (by kernel_rfl) (fun _ _ _ h => h) (Or.inl ⟨by kernel_rfl, ?ty46⟩) (by assumption) ?tr46; (case ty46 => (intro w' hSw; (try dsimp only at hSw); go_simp <;> with_reducible rfl)); (try simp only [Act.put, List.getElem_toArray, List.getElem_cons_succ, List.getElem_cons_zero, List.setIfInBounds_toArray, List.set_cons_zero, List.set_cons_succ]))
      (refine wpAnyH_take (i := 7) (v := ?tv47) rfl (by kernel_rfl) (by kernel_rfl) (by kernel_rfl) (fun _ _ _ h => h) (Or.inl ⟨by kernel_rfl, ?ty47⟩) (by assumption) ?tr47; (case ty47 => (intro w' hSw; (try dsimp only at hSw); go_simp <;> with_reducible rfl)); (try simp only [Act.put, List.getElem_toArray, List.getElem_cons_succ, List.getElem_cons_zero, List.setIfInBounds_toArray, List.set_cons_zero, List.set_cons_succ]))
      (refine wpAnyH_take (i := 8) (v := ?tv48) rfl (by kernel_rfl) (by kernel_rfl) (by kernel_rfl) (fun _ _ _ h => h) (Or.inl ⟨by kernel_rfl, ?ty48⟩) (by assumption) ?tr48; (case ty48 => (intro w' hSw; (try dsimp only at hSw); go_simp <;> with_reducible rfl)); (try simp only [Act.put, List.getElem_toArray, List.getElem_cons_succ, List.getElem_cons_zero, List.setIfInBounds_toArray, List.set_cons_zero, List.set_cons_succ]))
      refine wpAnyH_ready (rs := [9]) (by kernel_rfl) (by simp) ?_
      refine (AllReadyH.cons rfl (fun K hK => ?_) AllReadyH.nil)
      (obtain ⟨q0, q1, fr0, fr1⟩ := Dwa1.out.res.two; have hP := Dwa1.out.hP; go_simp; refine name_k (fun wa2 hwa2 => ?_); have Wwa2 := Lib.hid hwa2; have Dwa2 := Dwa1; have t0 : wa2.cell? ⟨w1.heap.size, 0, none⟩ = some (.int .i64 m) := (by rw [hwa2]; exact cS (cS Dwa1.out.p0 (by omega)) (by omega)); have t1 : wa2.cell? ⟨w1.heap.size, 1, none⟩ = some (.slice A bs.length c) := (by rw [hwa2]; exact cS (cS Dwa1.out.p1 (by omega)) (by omega)); clear hwa2 q0 q1 fr0 fr1)
      refine hK.out _ _ ?_ (fun hHeld => ?_)
      focus ((try dsimp only); (first | done | first | exact ⟨t0, t1⟩ | exact ⟨Dwa2.out.p0, Dwa2.out.p1⟩))
      clear hK K
      (try simp only [Act.put, List.getElem_toArray, List.getElem_cons_succ, List.getElem_cons_zero, List.setIfInBounds_toArray, List.set_cons_zero, List.set_cons_succ])
      (refine wpAnyH_take (i := 10) (v := ?tv50) rfl (by kernel_rfl) (by kernel_rfl) (by kernel_rfl) (fun _ _ _ h => h) (Or.inl ⟨by kernel_rfl, ?ty50⟩) (by assumption) ?tr50; (case ty50 => (intro w' hSw; (try dsimp only at hSw); go_simp <;> with_reducible rfl)); (try simp only [Act.put, List.getElem_toArray, List.getElem_cons_succ, List.getElem_cons_zero, List.setIfInBounds_toArray, List.set_cons_zero, List.set_cons_succ]))
      (refine wpAnyH_take (i := 11) (v := ?tv51) rfl (by kernel_rfl) (by kernel_rfl) (by kernel_rfl) (fun _ _ _ h => h) (Or.inl ⟨by kernel_rfl, ?ty51⟩) (by assumption) ?tr51; (case ty51 => (intro w' hSw; (try dsimp only at hSw); go_simp <;> with_reducible rfl)); (try simp only [Act.put, List.getElem_toArray, List.getElem_cons_succ, List.getElem_cons_zero, List.setIfInBounds_toArray, List.set_cons_zero, List.set_cons_succ]))
      (refine wpAnyH_take (i := 12) (v := ?tv52) rfl (by kernel_rfl) (by kernel_rfl) (by kernel_rfl) (fun _ _ _ h => h) (Or.inl ⟨by kernel_rfl, ?ty52⟩) (by assumption) ?tr52; (case ty52 => (intro w' hSw; (try dsimp only at hSw); go_simp <;> with_reducible rfl)); (try simp only [Act.put, List.getElem_toArray, List.getElem_cons_succ, List.getElem_cons_zero, List.setIfInBounds_toArray, List.set_cons_zero, List.set_cons_succ]))
      refine wpAnyH_done (by kernel_rfl) ?_ _
      have hx6 : 0 ≤ k6 / 59 ∧ k6 / 59 ≤ 1 := by omega
      rw [Int.tdiv_eq_ediv_of_nonneg (a := k6) (b := 59) k60, IntWalk.i64_in (k6 / 59) ⟨by omega, by omega⟩, IntWalk.i64_in (k6 / 59 * 3000) ⟨by omega, by omega⟩, IntWalk.i64_in ((k7 - 15) + k6 / 59 * 3000) ⟨by omega, by omega⟩]
      have R3 := Lib.hid Dwa1.out.res
      have u0 : wa2.cell? ⟨w.heap.size, 0, none⟩ = some (.int .i64 m) := by rw [Wwa2.out]; exact (((R3.out.set_ 0 _).set_ 1 _).cell 0)
      have u1 : wa2.cell? ⟨w.heap.size, 1, none⟩ = some (.slice A bs.length c) := by rw [Wwa2.out]; exact (((R3.out.set_ 0 _).set_ 1 _).cell 1)
      clear t0 t1 p0 p1
      go_wp2
      refine bodyPost_ret (v := .tuple #[.agg #[.int .i64 m, .slice A bs.length c], .int .i64 a, .int .i64 b, .int .i64 ((k7 - 15) + k6 / 59 * 3000)]) (by simp [results, Try.results98, go_sem, u0, u1]) rfl ?_
      rw [Wwa2.out]
      exact diff_end HF.out hc HN.out ⟨a0, b0, by omega, by omega⟩ Dwa1.out (by omega) rfl
    · go_wp2_with fail
      refine (pick_any base g _ 2 _ D7.out.rd (by omega)).mono ?_; rintro e w8 ⟨k8, rfl, k80, k81, _, hr8, ho8, hs8⟩
      have D8 := Lib.hid (D7.out.pick hr8 ho8)
      have k82 := k81 (by omega)
      clear hr8 ho8 hs8 k81 D7
      by_cases h8 : k8 = 0
      · have h8' : (k8 == 0) = true := by simpa using h8
        clear h8
        go_wp2_with fail
        refine (pick_any base g _ 2 _ D8.out.rd (by omega)).mono ?_; rintro e w10 ⟨k9, rfl, k90, k91, _, hr9, ho9, hs9⟩
        have D10 := Lib.hid (D8.out.pick hr9 ho9)
        have k92 := k91 (by omega)
        have hwm : IntKind.i64.wrap (mv + k9) = mv + k9 := IntWalk.i64_in _ ⟨by omega, by omega⟩
        clear hr9 ho9 hs9 k91 D8
        go_upto_region 8 with (fail)
        refine name_c (fun w9 hw9 => ?_)
        have D9 := Lib.hid (show Dr base g _ w w9 w1.heap.size m A c bs by rw [hw9]; exact D10.out)
        clear hw9 D10 hwm
        have p0 := D9.out.p0
        have p1 := D9.out.p1
        refine wp_region_held_drew (S := (fun w' => w'.cell? ⟨w1.heap.size, 0, none⟩ = some (.int .i64 m) ∧ w'.cell? ⟨w1.heap.size, 1, none⟩ = some (.slice A bs.length c))) (by kernel_rfl) ?_ (fun hHeld => ?_)
        · (try dsimp only)
          (first | done | exact ⟨cD p0, cD p1⟩)
        refine name_h (fun wa0 hwa0 => ?_)
        replace hHeld : ((fun w' => w'.cell? ⟨w1.heap.size, 0, none⟩ = some (.int .i64 m) ∧ w'.cell? ⟨w1.heap.size, 1, none⟩ = some (.slice A bs.length c))) wa0 := by rw [hwa0]; exact hHeld
        (have Dwa0 := Lib.hid (D9.out.drewE hwa0))
        clear hwa0
        (refine wpAnyH_take (i := 0) (v := ?tv53) rfl (by kernel_rfl) (by kernel_rfl) (by kernel_rfl) (fun _ _ _ h => h) (Or.inl ⟨by kernel_rfl, ?ty53⟩) (by assumption) ?tr53; (case ty53 => (intro w' hSw; (try dsimp only at hSw); go_simp <;> with_reducible rfl)); (try simp only [Act.put, List.getElem_toArray, List.getElem_cons_succ, List.getElem_cons_zero, List.setIfInBounds_toArray, List.set_cons_zero, List.set_cons_succ]))
        (refine wpAnyH_take (i := 1) (v := ?tv54) rfl (by kernel_rfl) (by kernel_rfl) (by kernel_rfl) (fun _ _ _ h => h) (Or.inl ⟨by kernel_rfl, ?ty54⟩) (by assumption) ?tr54; (case ty54 => (intro w' hSw; (try dsimp only at hSw); go_simp <;> with_reducible rfl)); (try simp only [Act.put, List.getElem_toArray, List.getElem_cons_succ, List.getElem_cons_zero, List.setIfInBounds_toArray, List.set_cons_zero, List.set_cons_succ]))
        (refine wpAnyH_take (i := 2) (v := ?tv55) rfl (by kernel_rfl) (by kernel_rfl) (by kernel_rfl) (fun _ _ _ h => h) (Or.inl ⟨by kernel_rfl, ?ty55⟩) (by assumption) ?tr55; (case ty55 => (intro w' hSw; (try dsimp only at hSw); go_simp <;> with_reducible rfl)); (try simp only [Act.put, List.getElem_toArray, List.getElem_cons_succ, List.getElem_cons_zero, List.setIfInBounds_toArray, List.set_cons_zero, List.set_cons_succ]))
        (refine wpAnyH_take (i := 3) (v := ?tv56) rfl (by kernel_rfl) (by kernel_rfl) (by kernel_rfl) (fun _ _ _ h => h) (Or.inl ⟨by kernel_rfl, ?ty56⟩) (by assumption) ?tr56; (case ty56 => (intro w' hSw; (try dsimp only at hSw); go_simp <;> with_reducible rfl)); (try simp only [Act.put, List.getElem_toArray, List.getElem_cons_succ, List.getElem_cons_zero, List.setIfInBounds_toArray, List.set_cons_zero, List.set_cons_succ]))
        (refine wpAnyH_take (i := 4) (v := ?tv57) rfl (by kernel_rfl) (by kernel_rfl) (by kernel_rfl) (fun _ _ _ h => h) (Or.inl ⟨by kernel_rfl, ?ty57⟩) (by assumption) ?tr57; (case ty57 => (intro w' hSw; (try dsimp only at hSw); go_simp <;> with_reducible rfl)); (try simp only [Act.put, List.getElem_toArray, List.getElem_cons_succ, List.getElem_cons_zero, List.setIfInBounds_toArray, List.set_cons_zero, List.set_cons_succ]))
        refine wpAnyH_ready (rs := [5]) (by kernel_rfl) (by simp) ?_
        refine (AllReadyH.cons rfl (fun K hK => ?_) AllReadyH.nil)
        (go_simp; go_at_call 108; refine (pick_any base g _ 60 _ Dwa0.out.rd (by omega)).mono ?_; rintro e wa1 ⟨k6, rfl, k60, k61, _, hr4, ho4, hs4⟩; (try go_wp2_with fail); have K6 := k61 (by omega); have Dwa1 := Lib.hid (Dwa0.out.pick hr4 ho4); clear hr4 ho4 hs4 k61)
        refine hK.out _ _ ?_ (fun hHeld => ?_)
        focus ((try dsimp only); (first | done | first | exact ⟨t0, t1⟩ | exact ⟨Dwa1.out.p0, Dwa1.out.p1⟩))
        clear hK K
        (try simp only [Act.put, List.getElem_toArray, List.getElem_cons_succ, List.getElem_cons_zero, List.setIfInBounds_toArray, List.set_cons_zero, List.set_cons_succ])
        (refine wpAnyH_take (i := 6) (v := ?tv59) rfl (by kernel_rfl) (by kernel_rfl) (by kernel_rfl) (fun _ _ _ h => h) (Or.inl ⟨by kernel_rfl, ?ty59⟩) (by assumption) ?tr59; (case ty59 => (intro w' hSw; (try dsimp only at hSw); go_simp <;> with_reducible rfl)); (try simp only [Act.put, List.getElem_toArray, List.getElem_cons_succ, List.getElem_cons_zero, List.setIfInBounds_toArray, List.set_cons_zero, List.set_cons_succ]))
        (refine wpAnyH_take (i := 7) (v := ?tv60) rfl (by kernel_rfl) (by kernel_rfl) (by kernel_rfl) (fun _ _ _ h => h) (Or.inl ⟨by kernel_rfl, ?ty60⟩) (by assumption) ?tr60; (case ty60 => (intro w' hSw; (try dsimp only at hSw); go_simp <;> with_reducible rfl)); (try simp only [Act.put, List.getElem_toArray, List.getElem_cons_succ, List.getElem_cons_zero, List.setIfInBounds_toArray, List.set_cons_zero, List.set_cons_succ]))
        (refine wpAnyH_take (i := 8) (v := ?tv61) rfl (by kernel_rfl) (by kernel_rfl) (by kernel_rfl) (fun _ _ _ h => h) (Or.inl ⟨by kernel_rfl, ?ty61⟩) (by assumption) ?tr61; (case ty61 => (intro w' hSw; (try dsimp only at hSw); go_simp <;> with_reducible rfl)); (try simp only [Act.put, List.getElem_toArray, List.getElem_cons_succ, List.getElem_cons_zero, List.setIfInBounds_toArray, List.set_cons_zero, List.set_cons_succ]))
        refine wpAnyH_ready (rs := [9]) (by kernel_rfl) (by simp) ?_
        refine (AllReadyH.cons rfl (fun K hK => ?_) AllReadyH.nil)
        (obtain ⟨q0, q1, fr0, fr1⟩ := Dwa1.out.res.two; have hP := Dwa1.out.hP; go_simp; refine name_k (fun wa2 hwa2 => ?_); have Wwa2 := Lib.hid hwa2; have Dwa2 := Dwa1; have t0 : wa2.cell? ⟨w1.heap.size, 0, none⟩ = some (.int .i64 m) := (by rw [hwa2]; exact cS (cS Dwa1.out.p0 (by omega)) (by omega)); have t1 : wa2.cell? ⟨w1.heap.size, 1, none⟩ = some (.slice A bs.length c) := (by rw [hwa2]; exact cS (cS Dwa1.out.p1 (by omega)) (by omega)); clear hwa2 q0 q1 fr0 fr1)
        refine hK.out _ _ ?_ (fun hHeld => ?_)
        focus ((try dsimp only); (first | done | first | exact ⟨t0, t1⟩ | exact ⟨Dwa2.out.p0, Dwa2.out.p1⟩))
        clear hK K
        (try simp only [Act.put, List.getElem_toArray, List.getElem_cons_succ, List.getElem_cons_zero, List.setIfInBounds_toArray, List.set_cons_zero, List.set_cons_succ])
        (refine wpAnyH_take (i := 10) (v := ?tv63) rfl (by kernel_rfl) (by kernel_rfl) (by kernel_rfl) (fun _ _ _ h => h) (Or.inl ⟨by kernel_rfl, ?ty63⟩) (by assumption) ?tr63; (case ty63 => (intro w' hSw; (try dsimp only at hSw); go_simp <;> with_reducible rfl)); (try simp only [Act.put, List.getElem_toArray, List.getElem_cons_succ, List.getElem_cons_zero, List.setIfInBounds_toArray, List.set_cons_zero, List.set_cons_succ]))
        (refine wpAnyH_take (i := 11) (v := ?tv64) rfl (by kernel_rfl) (by kernel_rfl) (by kernel_rfl) (fun _ _ _ h => h) (Or.inl ⟨by kernel_rfl, ?ty64⟩) (by assumption) ?tr64; (case ty64 => (intro w' hSw; (try dsimp only at hSw); go_simp <;> with_reducible rfl)); (try simp only [Act.put, List.getElem_toArray, List.getElem_cons_succ, List.getElem_cons_zero, List.setIfInBounds_toArray, List.set_cons_zero, List.set_cons_succ]))
        (refine wpAnyH_take (i := 12) (v := ?tv65) rfl (by kernel_rfl) (by kernel_rfl) (by kernel_rfl) (fun _ _ _ h => h) (Or.inl ⟨by kernel_rfl, ?ty65⟩) (by assumption) ?tr65; (case ty65 => (intro w' hSw; (try dsimp only at hSw); go_simp <;> with_reducible rfl)); (try simp only [Act.put, List.getElem_toArray, List.getElem_cons_succ, List.getElem_cons_zero, List.setIfInBounds_toArray, List.set_cons_zero, List.set_cons_succ]))
        refine wpAnyH_done (by kernel_rfl) ?_ _
        have hx6 : 0 ≤ k6 / 59 ∧ k6 / 59 ≤ 1 := by omega
        rw [Int.tdiv_eq_ediv_of_nonneg (a := k6) (b := 59) k60, IntWalk.i64_in (k6 / 59) ⟨by omega, by omega⟩, IntWalk.i64_in (k6 / 59 * 3000) ⟨by omega, by omega⟩, IntWalk.i64_in ((mv + k9) + k6 / 59 * 3000) ⟨by omega, by omega⟩]
        have R3 := Lib.hid Dwa1.out.res
        have u0 : wa2.cell? ⟨w.heap.size, 0, none⟩ = some (.int .i64 m) := by rw [Wwa2.out]; exact (((R3.out.set_ 0 _).set_ 1 _).cell 0)
        have u1 : wa2.cell? ⟨w.heap.size, 1, none⟩ = some (.slice A bs.length c) := by rw [Wwa2.out]; exact (((R3.out.set_ 0 _).set_ 1 _).cell 1)
        clear t0 t1 p0 p1
        go_wp2
        refine bodyPost_ret (v := .tuple #[.agg #[.int .i64 m, .slice A bs.length c], .int .i64 a, .int .i64 b, .int .i64 ((mv + k9) + k6 / 59 * 3000)]) (by simp [results, Try.results98, go_sem, u0, u1]) rfl ?_
        rw [Wwa2.out]
        exact diff_end HF.out hc HN.out ⟨a0, b0, by omega, by omega⟩ Dwa1.out (by omega) rfl
      · have h8' : (k8 == 0) = false := beq_eq_false_iff_ne.2 h8
        clear h8
        go_upto_region 8 with (fail)
        refine name_c (fun w9 hw9 => ?_)
        have D9 := Lib.hid (show Dr base g _ w w9 w1.heap.size m A c bs by rw [hw9]; exact D8.out)
        clear hw9 D8
        have p0 := D9.out.p0
        have p1 := D9.out.p1
        refine wp_region_held_drew (S := (fun w' => w'.cell? ⟨w1.heap.size, 0, none⟩ = some (.int .i64 m) ∧ w'.cell? ⟨w1.heap.size, 1, none⟩ = some (.slice A bs.length c))) (by kernel_rfl) ?_ (fun hHeld => ?_)
        · (try dsimp only)
          (first | done | exact ⟨cD p0, cD p1⟩)
        refine name_h (fun wa0 hwa0 => ?_)
        replace hHeld : ((fun w' => w'.cell? ⟨w1.heap.size, 0, none⟩ = some (.int .i64 m) ∧ w'.cell? ⟨w1.heap.size, 1, none⟩ = some (.slice A bs.length c))) wa0 := by rw [hwa0]; exact hHeld
        (have Dwa0 := Lib.hid (D9.out.drewE hwa0))
        clear hwa0
        (refine wpAnyH_take (i := 0) (v := ?tv66) rfl (by kernel_rfl) (by kernel_rfl) (by kernel_rfl) (fun _ _ _ h => h) (Or.inl ⟨by kernel_rfl, ?ty66⟩) (by assumption) ?tr66; (case ty66 => (intro w' hSw; (try dsimp only at hSw); go_simp <;> with_reducible rfl)); (try simp only [Act.put, List.getElem_toArray, List.getElem_cons_succ, List.getElem_cons_zero, List.setIfInBounds_toArray, List.set_cons_zero, List.set_cons_succ]))
        (refine wpAnyH_take (i := 1) (v := ?tv67) rfl (by kernel_rfl) (by kernel_rfl) (by kernel_rfl) (fun _ _ _ h => h) (Or.inl ⟨by kernel_rfl, ?ty67⟩) (by assumption) ?tr67; (case ty67 => (intro w' hSw; (try dsimp only at hSw); go_simp <;> with_reducible rfl)); (try simp only [Act.put, List.getElem_toArray, List.getElem_cons_succ, List.getElem_cons_zero, List.setIfInBounds_toArray, List.set_cons_zero, List.set_cons_succ]))
        (refine wpAnyH_take (i := 2) (v := ?tv68) rfl (by kernel_rfl) (by kernel_rfl) (by kernel_rfl) (fun _ _ _ h => h) (Or.inl ⟨by kernel_rfl, ?ty68⟩) (by assumption) ?tr68; (case ty68 => (intro w' hSw; (try dsimp only at hSw); go_simp <;> with_reducible rfl)); (try simp only [Act.put, List.getElem_toArray, List.getElem_cons_succ, List.getElem_cons_zero, List.setIfInBounds_toArray, List.set_cons_zero, List.set_cons_succ]))
        (refine wpAnyH_take (i := 3) (v := ?tv69) rfl (by kernel_rfl) (by kernel_rfl) (by kernel_rfl) (fun _ _ _ h => h) (Or.inl ⟨by kernel_rfl, ?ty69⟩) (by assumption) ?tr69; (case ty69 => (intro w' hSw; (try dsimp only at hSw); go_simp <;> with_reducible rfl)); (try simp only [Act.put, List.getElem_toArray, List.getElem_cons_succ, List.getElem_cons_zero, List.setIfInBounds_toArray, List.set_cons_zero, List.set_cons_succ]))
        (refine wpAnyH_take (i := 4) (v := ?tv70) rfl (by kernel_rfl) (by kernel_rfl) (by kernel_rfl) (fun _ _ _ h => h) (Or.inl ⟨by kernel_rfl, ?ty70⟩) (by assumption) ?tr70; (case ty70 => (intro w' hSw; (try dsimp only at hSw); go_simp <;> with_reducible rfl)); (try simp only [Act.put, List.getElem_toArray, List.getElem_cons_succ, List.getElem_cons_zero, List.setIfInBounds_toArray, List.set_cons_zero, List.set_cons_succ]))
        refine wpAnyH_ready (rs := [5]) (by kernel_rfl) (by simp) ?_
        refine (AllReadyH.cons rfl (fun K hK => ?_) AllReadyH.nil)
        (go_simp; go_at_call 108; refine (pick_any base g _ 60 _ Dwa0.out.rd (by omega)).mono ?_; rintro e wa1 ⟨k6, rfl, k60, k61, _, hr4, ho4, hs4⟩; (try go_wp2_with fail); have K6 := k61 (by omega); have Dwa1 := Lib.hid (Dwa0.out.pick hr4 ho4); clear hr4 ho4 hs4 k61)
        refine hK.out _ _ ?_ (fun hHeld => ?_)
        focus ((try dsimp only); (first | done | first | exact ⟨t0, t1⟩ | exact ⟨Dwa1.out.p0, Dwa1.out.p1⟩))
        clear hK K
        (try simp only [Act.put, List.getElem_toArray, List.getElem_cons_succ, List.getElem_cons_zero, List.setIfInBounds_toArray, List.set_cons_zero, List.set_cons_succ])
        (refine wpAnyH_take (i := 6) (v := ?tv72) rfl (by kernel_rfl) (by kernel_rfl) (by kernel_rfl) (fun _ _ _ h => h) (Or.inl ⟨by kernel_rfl, ?ty72⟩) (by assumption) ?tr72; (case ty72 => (intro w' hSw; (try dsimp only at hSw); go_simp <;> with_reducible rfl)); (try simp only [Act.put, List.getElem_toArray, List.getElem_cons_succ, List.getElem_cons_zero, List.setIfInBounds_toArray, List.set_cons_zero, List.set_cons_succ]))
        (refine wpAnyH_take (i := 7) (v := ?tv73) rfl (by kernel_rfl) (by kernel_rfl) (by kernel_rfl) (fun _ _ _ h => h) (Or.inl ⟨by kernel_rfl, ?ty73⟩) (by assumption) ?tr73; (case ty73 => (intro w' hSw; (try dsimp only at hSw); go_simp <;> with_reducible rfl)); (try simp only [Act.put, List.getElem_toArray, List.getElem_cons_succ, List.getElem_cons_zero, List.setIfInBounds_toArray, List.set_cons_zero, List.set_cons_succ]))
        (refine wpAnyH_take (i := 8) (v := ?tv74) rfl (by kernel_rfl) (by kernel_rfl) (by kernel_rfl) (fun _ _ _ h => h) (Or.inl ⟨by kernel_rfl, ?ty74⟩) (by assumption) ?tr74; (case ty74 => (intro w' hSw; (try dsimp only at hSw); go_simp <;> with_reducible rfl)); (try simp only [Act.put, List.getElem_toArray, List.getElem_cons_succ, List.getElem_cons_zero, List.setIfInBounds_toArray, List.set_cons_zero, List.set_cons_succ]))
        refine wpAnyH_ready (rs := [9]) (by kernel_rfl) (by simp) ?_
        refine (AllReadyH.cons rfl (fun K hK => ?_) AllReadyH.nil)
        (obtain ⟨q0, q1, fr0, fr1⟩ := Dwa1.out.res.two; have hP := Dwa1.out.hP; go_simp; refine name_k (fun wa2 hwa2 => ?_); have Wwa2 := Lib.hid hwa2; have Dwa2 := Dwa1; have t0 : wa2.cell? ⟨w1.heap.size, 0, none⟩ = some (.int .i64 m) := (by rw [hwa2]; exact cS (cS Dwa1.out.p0 (by omega)) (by omega)); have t1 : wa2.cell? ⟨w1.heap.size, 1, none⟩ = some (.slice A bs.length c) := (by rw [hwa2]; exact cS (cS Dwa1.out.p1 (by omega)) (by omega)); clear hwa2 q0 q1 fr0 fr1)
        refine hK.out _ _ ?_ (fun hHeld => ?_)
        focus ((try dsimp only); (first | done | first | exact ⟨t0, t1⟩ | exact ⟨Dwa2.out.p0, Dwa2.out.p1⟩))
        clear hK K
        (try simp only [Act.put, List.getElem_toArray, List.getElem_cons_succ, List.getElem_cons_zero, List.setIfInBounds_toArray, List.set_cons_zero, List.set_cons_succ])
        (refine wpAnyH_take (i := 10) (v := ?tv76) rfl (by kernel_rfl) (by kernel_rfl) (by kernel_rfl) (fun _ _ _ h => h) (Or.inl ⟨by kernel_rfl, ?ty76⟩) (by assumption) ?tr76; (case ty76 => (intro w' hSw; (try dsimp only at hSw); go_simp <;> with_reducible rfl)); (try simp only [Act.put, List.getElem_toArray, List.getElem_cons_succ, List.getElem_cons_zero, List.setIfInBounds_toArray, List.set_cons_zero, List.set_cons_succ]))
        (refine wpAnyH_take (i := 11) (v := ?tv77) rfl (by kernel_rfl) (by kernel_rfl) (by kernel_rfl) (fun _ _ _ h => h) (Or.inl ⟨by kernel_rfl, ?ty77⟩) (by assumption) ?tr77; (case ty77 => (intro w' hSw; (try dsimp only at hSw); go_simp <;> with_reducible rfl)); (try simp only [Act.put, List.getElem_toArray, List.getElem_cons_succ, List.getElem_cons_zero, List.setIfInBounds_toArray, List.set_cons_zero, List.set_cons_succ]))
        (refine wpAnyH_take (i := 12) (v := ?tv78) rfl (by kernel_rfl) (by kernel_rfl) (by kernel_rfl) (fun _ _ _ h => h) (Or.inl ⟨by kernel_rfl, ?ty78⟩) (by assumption) ?tr78; (case ty78 => (intro w' hSw; (try dsimp only at hSw); go_simp <;> with_reducible rfl)); (try simp only [Act.put, List.getElem_toArray, List.getElem_cons_succ, List.getElem_cons_zero, List.setIfInBounds_toArray, List.set_cons_zero, List.set_cons_succ]))
        refine wpAnyH_done (by kernel_rfl) ?_ _
        have hx6 : 0 ≤ k6 / 59 ∧ k6 / 59 ≤ 1 := by omega
        rw [Int.tdiv_eq_ediv_of_nonneg (a := k6) (b := 59) k60, IntWalk.i64_in (k6 / 59) ⟨by omega, by omega⟩, IntWalk.i64_in (k6 / 59 * 3000) ⟨by omega, by omega⟩, IntWalk.i64_in ((k7 - 15) + k6 / 59 * 3000) ⟨by omega, by omega⟩]
        have R3 := Lib.hid Dwa1.out.res
        have u0 : wa2.cell? ⟨w.heap.size, 0, none⟩ = some (.int .i64 m) := by rw [Wwa2.out]; exact (((R3.out.set_ 0 _).set_ 1 _).cell 0)
        have u1 : wa2.cell? ⟨w.heap.size, 1, none⟩ = some (.slice A bs.length c) := by rw [Wwa2.out]; exact (((R3.out.set_ 0 _).set_ 1 _).cell 1)
        clear t0 t1 p0 p1
        go_wp2
        refine bodyPost_ret (v := .tuple #[.agg #[.int .i64 m, .slice A bs.length c], .int .i64 a, .int .i64 b, .int .i64 ((k7 - 15) + k6 / 59 * 3000)]) (by simp [results, Try.results98, go_sem, u0, u1]) rfl ?_
        rw [Wwa2.out]
        exact diff_end HF.out hc HN.out ⟨a0, b0, by omega, by omega⟩ Dwa1.out (by omega) rfl
theorem drawMayBeOk_any (A : Option Addr) (c : Nat) (xs : List Int) (w : World) (h : Bytes w A c xs) : Calls Try.prog 42 #[.slice A xs.length c] w (DrawnDiff w) := by
  go_enter Try.func42, Try.ntmps42
  go_wp2_with fail
  refine (open_of (h.alloc _)).mono ?_; rintro e w1 ⟨g, rfl, hr1, hb1, hg1⟩
  have hgb := hr1.base_le
  have hz1 := hb1.size
  simp only [sz] at hgb hz1
  go_wp2_with fail
  refine (diff_any _ g 0 w1 hr1 (by omega)).mono ?_; rintro e w2 ⟨n, A2, c2, bs, a, b, d, rfl, hf, hc, hn, hds, hrb, hrd, ho⟩
  have qb := code_res rfl hb1 (by omega) ho
  have q0 : w2.cell? ⟨w.heap.size, 0, none⟩ = some (.int .i64 0) := qb.cell 0
  have q1 : w2.cell? ⟨w.heap.size, 1, none⟩ = some (.slice none 0 0) := qb.cell 1
  have f0 := qb.frozen 0
  have f1 := qb.frozen 1
  have HE := Lib.hid (fun u0 u1 => code_end (u0 := u0) (u1 := u1) rfl hb1 (by omega) ho hrb)
  have HN := Lib.hid hn
  have HDS := Lib.hid hds
  clear hb1 ho hrb hn qb hr1 hrd hds
  go_wp2
  refine bodyPost_ret (v := .tuple #[.agg #[.int .i64 n, .slice A2 bs.length c2], .int .i64 a, .int .i64 b, .int .i64 d]) (by simp [results, Try.results42, go_sem, q0, q1]) rfl ⟨n, A2, c2, bs, a, b, d, rfl, hf, hc, HN.out, HDS.out, (HE.out _ _).1, (HE.out _ _).2⟩
end Go.Proofs.Ytnompncmachgjaa
