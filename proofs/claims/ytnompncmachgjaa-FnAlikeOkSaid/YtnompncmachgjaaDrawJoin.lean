/- The contract of spec.l20Joined: it draws some plan, of at most sixteen bounds, in new memory. -/
import Derived.Test.YtnompncmachgjaaWithB
namespace Go.Proofs.Ytnompncmachgjaa
open Go.RowKit
set_option linter.unusedVariables false
set_option maxRecDepth 10000
set_option linter.unusedSimpArgs false

/-- Some plan, its bounds in new memory; the reader has gone on, and nothing else has turned. -/
def DrewJ (base g q : Nat) (w : World) (e : Ending) (w' : World) : Prop :=
  ∃ (n : Int) (A : Option Addr) (c : Nat) (bs : List Bd), e = .returned (.agg #[.int .i64 n, .slice A bs.length c]) ∧ PlanFacts n bs ∧ bs.length ≤ c ∧ (A = none → c = 0) ∧ RB w' w.heap.size w'.heap.size A bs ∧ Rd w' base g (q + 150) ∧ Only g (g + 1) w w'
theorem j_end {base g q q' P : Nat} {n : Int} {A : Option Addr} {c : Nat} {bs : List Bd} {w W : World} {e : Ending} {u0 u1 : Value} (hf : PlanFacts n bs) (hc : bs.length ≤ c) (hn : A = none → c = 0) (hD : Dr base g q' w W P n A c bs) (hq : q' ≤ q + 150) (he : e = .returned (.agg #[.int .i64 n, .slice A bs.length c])) :
    DrewJ base g q w e ((W.setCell ⟨w.heap.size, 0, none⟩ u0).setCell ⟨w.heap.size, 1, none⟩ u1) := by
  obtain ⟨h1, h2, h3⟩ := hD.end_ (u0 := u0) (u1 := u1) rfl
  exact ⟨n, A, c, bs, he, hf, hc, hn, h1, h2.mono hq, h3⟩
theorem facts_with {n : Int} {bs : List Bd} {x : Bd} (h : withOk n bs x = true) (hb : ∀ y ∈ bs, -63 ≤ y.m ∧ y.m ≤ 63) (hx : -63 ≤ x.m ∧ x.m ≤ 63) : planOk n (bs ++ [x]) = true ∧ ∀ y ∈ bs ++ [x], -63 ≤ y.m ∧ y.m ≤ 63 := by
  simp only [withOk, Bool.and_eq_true] at h
  refine ⟨h.2, fun y hy => ?_⟩
  rcases List.mem_append.1 hy with hy | hy
  · exact hb y hy
  · simp at hy; subst hy; exact hx
theorem facts_of {n : Int} {bs : List Bd} (h : planOk n bs = true) (hb : ∀ y ∈ bs, -63 ≤ y.m ∧ y.m ≤ 63) : PlanFacts n bs := by
  obtain ⟨h1, h2, h3, _⟩ := planOk_of h
  exact ⟨by omega, by omega, h3, fun _ => hb⟩
set_option maxHeartbeats 4000000 in
theorem joined_any (base g q : Nat) (nn : Int) (w : World) (h : Rd w base g q) (hq : q ≤ 80000) (hn1 : 1 ≤ nn) (hn2 : nn ≤ 1000) :
    Calls Try.prog 114 #[.pointer (some ⟨g, 0, none⟩), .int .i64 nn] w (DrewJ base g q w) := by
  have hg := h.lt
  go_enter Try.func114, Try.ntmps114
  go_wp2_with fail
  refine (plan_any base g q nn _ (h.alloc _) (by omega) (by omega) (by omega)).mono ?_; rintro e w1 ⟨m, A, c, bs, rfl, hf, hc, hn, hrb, hrd, ho⟩
  have HN := Lib.hid hn
  have D0 := Lib.hid (Dr.start (n := m) (c := c) rfl hg hrb hrd ho)
  have hz1 := ho.size
  simp only [sz] at hz1
  clear ho hrb hrd hn h
  go_wp2_with fail
  obtain ⟨w2, hw2⟩ : ∃ w2, w2 = w1.alloc (.cells #[.int .i64 m, .slice A bs.length c] 25) := ⟨_, rfl⟩
  have D2 := Lib.hid (show Dr base g _ w w2 w1.heap.size m A c bs by rw [hw2]; exact D0.out)
  rw [← hw2]
  clear hw2 D0
  have p0 := D2.out.p0
  have p1 := D2.out.p1
  have hneR : ¬ w.heap.size = w1.heap.size := by omega
  have hzP := D2.out.lt
  have HF := Lib.hid hf
  clear hf
  go_wp2_with fail
  refine (pick_any base g _ 3 _ D2.out.rd (by omega)).mono ?_; rintro e w3 ⟨k3, rfl, k30, k31, _, hr3, ho3, hs3⟩
  have D3 := Lib.hid (D2.out.pick hr3 ho3)
  have hl16 := HF.out.2.2.1
  clear hr3 ho3 hs3 k31 D2 p0 p1 hzP
  have p0 := D3.out.p0
  have p1 := D3.out.p1
  by_cases hk3 : k3 = 0
  · obtain ⟨r0, r1, f0, f1⟩ := D3.out.res.two
    subst hk3
    go_wp2
    refine bodyPost_ret (v := .agg #[.int .i64 m, .slice A bs.length c]) (by simp [results, Try.results114, go_sem, r0, r1]) rfl (j_end HF.out hc HN.out D3.out (by omega) rfl)
  · have hk3' : (k3 == 0) = false := beq_eq_false_iff_ne.2 hk3
    clear hk3
    go_wp2_with fail
    refine (specPlanOk_any m A c bs _ D3.out.bat (by omega)).mono ?_; rintro e w4 ⟨rfl, hb4⟩
    have D4 := Lib.hid (D3.out.below hb4)
    clear hb4 D3 p0 p1 hk3'
    have p0 := D4.out.p0
    have p1 := D4.out.p1
    cases hp : planOk m bs
    · obtain ⟨r0, r1, f0, f1⟩ := D4.out.res.two
      clear hp
      go_wp2
      refine bodyPost_ret (v := .agg #[.int .i64 m, .slice A bs.length c]) (by simp [results, Try.results114, go_sem, r0, r1]) rfl (j_end HF.out hc HN.out D4.out (by omega) rfl)
    · obtain ⟨hm1, hm6, _, _⟩ := planOk_of hp
      obtain ⟨N, rfl⟩ := Int.eq_ofNat_of_zero_le (show 0 ≤ m by omega)
      have HP := Lib.hid hp
      have HM := Lib.hid (HF.out.2.2.2 hp)
      clear hp HF
      go_wp2
      go_loopw [6] (fun k W => ∃ (kk : Nat) (A : Option Addr) (c : Nat) (bs : List Bd), 1 ≤ kk ∧ kk ≤ N ∧ k = .int .i64 kk ∧ planOk N bs = true ∧ (∀ y ∈ bs, -63 ≤ y.m ∧ y.m ≤ 63) ∧ bs.length ≤ c ∧ (A = none → c = 0) ∧ Dr base g (q + 101 + 2 * kk) w W w1.heap.size N A c bs) (fun k _ => N - (intOf k).toNat)
      case atStart => exact ⟨1, A, c, bs, Nat.le_refl _, by omega, rfl, HP.out, HM.out, hc, HN.out, D4.out.mono (by omega)⟩
      case round =>
        clear hc HN HM HP D4 p0 p1 hl16
        obtain ⟨k, A, c, bs, hk1, hk, rfl, hp, hm, hc, hn, hD⟩ := hrel
        obtain ⟨_, _, hl16, _⟩ := planOk_of hp
        have HP := Lib.hid hp
        have HM := Lib.hid hm
        have HN := Lib.hid hn
        have DR := Lib.hid hD
        have p0 := hD.p0
        have p1 := hD.p1
        clear hp hm hn hD
        by_cases hlt : k < N
        · go_wp2_with fail
          refine (pick_any base g _ 12 _ DR.out.rd (by omega)).mono ?_; rintro e w5 ⟨a, rfl, a0, a1, _, hr5, ho5, hs5⟩
          have D5 := Lib.hid (DR.out.pick hr5 ho5)
          have a2 := a1 (by omega)
          clear hr5 ho5 hs5 a1 DR p0 p1
          have p0 := D5.out.p0
          have p1 := D5.out.p1
          have hwa : IntKind.i64.wrap (-a) = -a := IntWalk.i64_in _ ⟨by omega, by omega⟩
          go_wp2_with fail
          refine (withBound_any _ A c bs k 0 (-a) _ D5.out.bat HN.out (by omega)).mono ?_; rintro e w6 ⟨n6, G6, c6, L6, rfl, y6, z6, l6, m6, r6, hb6⟩
          have hz5 := D5.out.lt
          have hzP := D5.out.hP
          have hgw := D5.out.hg
          have hz6 := hb6.size
          have D6 := Lib.hid (D5.out.below hb6)
          have R6 := Lib.hid r6
          have Y6 := Lib.hid y6
          have M6 := Lib.hid m6
          clear hb6 r6 y6 z6 m6 D5 p0 p1 hwa
          obtain ⟨ok6, hok6⟩ : ∃ b, b = withOk N bs ⟨k, 0, -a⟩ := ⟨_, rfl⟩
          rw [← hok6]
          have HOK6 := Lib.hid hok6
          clear hok6
          go_upto_region 9 with (fail)
          refine name_c (fun w7 hw7 => ?_)
          have D7 := Lib.hid (D6.out.allocE hw7)
          have X7 := Lib.hid (Blk.newE hw7)
          have hz7 := sizeE hw7
          have R7 := Lib.hid (show RB w7 (w.heap.size + 1) w7.heap.size G6 L6 by subst hw7; exact (R6.out.same ((Same.refl _ _ _).alloc _) (Nat.le_refl _)).wide (by omega) (by simp))
          clear hw7 D6 R6
          cases ok6
          · go_upto_region 11 with (fail)
            have D8 := Lib.hid D7.out
            have X8 := Lib.hid X7.out
            have HP8 := Lib.hid HP.out
            have HM8 := Lib.hid HM.out
            have HN8 := Lib.hid HN.out
            have hc8 := hc
            have hl8 := hl16
            clear D7 X7 R7 HP HM HN hc hl16
            have p0 := D8.out.p0
            have p1 := D8.out.p1
            refine wp_region_held_drew (S := (fun w' => w'.cell? ⟨w1.heap.size, 0, none⟩ = some (.int .i64 N) ∧ w'.cell? ⟨w1.heap.size, 1, none⟩ = some (.slice A bs.length c))) (by kernel_rfl) ?_ (fun hHeld => ?_)
            · (try dsimp only)
              (first | done | exact ⟨cD p0, cD p1⟩)
            refine name_h (fun wb0 hwb0 => ?_)
            replace hHeld : ((fun w' => w'.cell? ⟨w1.heap.size, 0, none⟩ = some (.int .i64 N) ∧ w'.cell? ⟨w1.heap.size, 1, none⟩ = some (.slice A bs.length c))) wb0 := by rw [hwb0]; exact hHeld
            (have Dwb0 := Lib.hid (D8.out.drewE hwb0); have Xwb0 := Lib.hid (X8.out.drewE hwb0))
            clear hwb0
            (refine wpAnyH_take (i := 0) (v := ?tv1) rfl (by kernel_rfl) (by kernel_rfl) (by kernel_rfl) (fun _ _ _ h => h) (Or.inl ⟨by kernel_rfl, ?ty1⟩) (by assumption) ?tr1; (case ty1 => (intro w' hSw; (try dsimp only at hSw); go_simp <;> with_reducible rfl)); (try simp only [Act.put, List.getElem_toArray, List.getElem_cons_succ, List.getElem_cons_zero, List.setIfInBounds_toArray, List.set_cons_zero, List.set_cons_succ]))
            (refine wpAnyH_take (i := 1) (v := ?tv2) rfl (by kernel_rfl) (by kernel_rfl) (by kernel_rfl) (fun _ _ _ h => h) (Or.inl ⟨by kernel_rfl, ?ty2⟩) (by assumption) ?tr2; (case ty2 => (intro w' hSw; (try dsimp only at hSw); go_simp <;> with_reducible rfl)); (try simp only [Act.put, List.getElem_toArray, List.getElem_cons_succ, List.getElem_cons_zero, List.setIfInBounds_toArray, List.set_cons_zero, List.set_cons_succ]))
            (refine wpAnyH_take (i := 2) (v := ?tv3) rfl (by kernel_rfl) (by kernel_rfl) (by kernel_rfl) (fun _ _ _ h => h) (Or.inl ⟨by kernel_rfl, ?ty3⟩) (by assumption) ?tr3; (case ty3 => (intro w' hSw; (try dsimp only at hSw); go_simp <;> with_reducible rfl)); (try simp only [Act.put, List.getElem_toArray, List.getElem_cons_succ, List.getElem_cons_zero, List.setIfInBounds_toArray, List.set_cons_zero, List.set_cons_succ]))
            (refine wpAnyH_take (i := 3) (v := ?tv4) rfl (by kernel_rfl) (by kernel_rfl) (by kernel_rfl) (fun _ _ _ h => h) (Or.inl ⟨by kernel_rfl, ?ty4⟩) (by assumption) ?tr4; (case ty4 => (intro w' hSw; (try dsimp only at hSw); go_simp <;> with_reducible rfl)); (try simp only [Act.put, List.getElem_toArray, List.getElem_cons_succ, List.getElem_cons_zero, List.setIfInBounds_toArray, List.set_cons_zero, List.set_cons_succ]))
            refine wpAnyH_ready (rs := [4]) (by kernel_rfl) (by simp) ?_
            refine (AllReadyH.cons rfl (fun K hK => ?_) AllReadyH.nil)
            (go_simp; go_at_call 108; refine (pick_any base g _ 12 _ Dwb0.out.rd (by omega)).mono ?_; rintro e wb1 ⟨k4, rfl, k40, k41, _, hr4, ho4, hs4⟩; (try go_wp2_with fail); have K4 := k41 (by omega); have hw4 : IntKind.i64.wrap (a + k4) = a + k4 := IntWalk.i64_in _ ⟨by omega, by omega⟩; have Dwb1 := Lib.hid (Dwb0.out.pick hr4 ho4); have Xwb1 := Lib.hid (Xwb0.out.only ho4 (.inr (by omega))); have hzb := ho4.size; have hzc := Dwb1.out.lt; clear hr4 ho4 hs4 k41)
            refine hK.out _ _ ?_ (fun hHeld => ?_)
            focus ((try dsimp only); (first | done | exact ⟨Dwb1.out.p0, Dwb1.out.p1⟩))
            clear hK K
            (try simp only [Act.put, List.getElem_toArray, List.getElem_cons_succ, List.getElem_cons_zero, List.setIfInBounds_toArray, List.set_cons_zero, List.set_cons_succ])
            (refine wpAnyH_take (i := 5) (v := ?tv6) rfl (by kernel_rfl) (by kernel_rfl) (by kernel_rfl) (fun _ _ _ h => h) (Or.inl ⟨by kernel_rfl, ?ty6⟩) (by assumption) ?tr6; (case ty6 => (intro w' hSw; (try dsimp only at hSw); go_simp <;> with_reducible rfl)); (try simp only [Act.put, List.getElem_toArray, List.getElem_cons_succ, List.getElem_cons_zero, List.setIfInBounds_toArray, List.set_cons_zero, List.set_cons_succ]))
            (refine wpAnyH_take (i := 6) (v := ?tv7) rfl (by kernel_rfl) (by kernel_rfl) (by kernel_rfl) (fun _ _ _ h => h) (Or.inl ⟨by kernel_rfl, ?ty7⟩) (by assumption) ?tr7; (case ty7 => (intro w' hSw; (try dsimp only at hSw); go_simp <;> with_reducible rfl)); (try simp only [Act.put, List.getElem_toArray, List.getElem_cons_succ, List.getElem_cons_zero, List.setIfInBounds_toArray, List.set_cons_zero, List.set_cons_succ]))
            refine wpAnyH_ready (rs := [7]) (by kernel_rfl) (by simp) ?_
            refine (AllReadyH.cons rfl (fun K hK => ?_) AllReadyH.nil)
            (go_simp; go_at_call 131; refine (withBound_any _ _ _ bs 0 k (a + k4) _ Dwb1.out.bat HN8.out (by omega)).mono ?_; rintro e wb2 ⟨n7, G7, c7, L7, rfl, y7, z7, l7, m7, r7, hb7⟩; (try go_wp2_with fail); have Dwb2 := Lib.hid (Dwb1.out.below hb7); have Xwb2 := Lib.hid (Xwb1.out.below' hb7); have Y7 := Lib.hid y7; have M7 := Lib.hid m7; have R7 := Lib.hid (r7.wide (lo' := w.heap.size + 1) (hi' := wb2.heap.size) (by omega) (Nat.le_refl _)); clear y7 z7 m7 r7 hb7)
            refine hK.out _ _ ?_ (fun hHeld => ?_)
            focus ((try dsimp only); (first | done | exact ⟨Dwb2.out.p0, Dwb2.out.p1⟩))
            clear hK K
            (try simp only [Act.put, List.getElem_toArray, List.getElem_cons_succ, List.getElem_cons_zero, List.setIfInBounds_toArray, List.set_cons_zero, List.set_cons_succ])
            (refine wpAnyH_take (i := 8) (v := ?tv9) rfl (by kernel_rfl) (by kernel_rfl) (by kernel_rfl) (fun _ _ _ h => h) (Or.inl ⟨by kernel_rfl, ?ty9⟩) (by assumption) ?tr9; (case ty9 => (intro w' hSw; (try dsimp only at hSw); go_simp <;> with_reducible rfl)); (try simp only [Act.put, List.getElem_toArray, List.getElem_cons_succ, List.getElem_cons_zero, List.setIfInBounds_toArray, List.set_cons_zero, List.set_cons_succ]))
            (refine wpAnyH_take (i := 9) (v := ?tv10) rfl (by kernel_rfl) (by kernel_rfl) (by kernel_rfl) (fun _ _ _ h => h) (Or.inl ⟨by kernel_rfl, ?ty10⟩) (by assumption) ?tr10; (case ty10 => (intro w' hSw; (try dsimp only at hSw); go_simp <;> with_reducible rfl)); (try simp only [Act.put, List.getElem_toArray, List.getElem_cons_succ, List.getElem_cons_zero, List.setIfInBounds_toArray, List.set_cons_zero, List.set_cons_succ]))
            (refine wpAnyH_take (i := 10) (v := ?tv11) rfl (by kernel_rfl) (by kernel_rfl) (by kernel_rfl) (fun _ _ _ h => h) (Or.inl ⟨by kernel_rfl, ?ty11⟩) (by assumption) ?tr11; (case ty11 => (intro w' hSw; (try dsimp only at hSw); go_simp <;> with_reducible rfl)); (try simp only [Act.put, List.getElem_toArray, List.getElem_cons_succ, List.getElem_cons_zero, List.setIfInBounds_toArray, List.set_cons_zero, List.set_cons_succ]))
            refine wpAnyH_ready (rs := [11]) (by kernel_rfl) (by simp) ?_
            refine (AllReadyH.cons rfl (fun K hK => ?_) AllReadyH.nil)
            (obtain ⟨q0, q1, fr0, fr1⟩ := Xwb2.out.two; go_simp; refine name_k (fun wb3 hwb3 => ?_); obtain ⟨s1, s2, s3, s4⟩ := Dr.far2 hwb3 Dwb2.out Xwb2.out (by omega) (by omega); have Dwb3 := Lib.hid s1; have Xwb3 := Lib.hid s2; have R8 := Lib.hid (s3 _ _ _ _ R7.out); have SZ8 := Lib.hid s4; clear hwb3 s1 s2 s3 s4 q0 q1 fr0 fr1)
            refine hK.out _ _ ?_ (fun hHeld => ?_)
            focus ((try dsimp only); (first | done | exact ⟨Dwb3.out.p0, Dwb3.out.p1⟩))
            clear hK K
            (try simp only [Act.put, List.getElem_toArray, List.getElem_cons_succ, List.getElem_cons_zero, List.setIfInBounds_toArray, List.set_cons_zero, List.set_cons_succ])
            (refine wpAnyH_take (i := 12) (v := ?tv13) rfl (by kernel_rfl) (by kernel_rfl) (by kernel_rfl) (fun _ _ _ h => h) (Or.inl ⟨by kernel_rfl, ?ty13⟩) (by assumption) ?tr13; (case ty13 => (intro w' hSw; (try dsimp only at hSw); go_simp <;> with_reducible rfl)); (try simp only [Act.put, List.getElem_toArray, List.getElem_cons_succ, List.getElem_cons_zero, List.setIfInBounds_toArray, List.set_cons_zero, List.set_cons_succ]))
            refine wpAnyH_done (by kernel_rfl) ?_ _
            clear p0 p1
            obtain ⟨ok7, hok7⟩ : ∃ b, b = withOk N bs ⟨0, k, a + k4⟩ := ⟨_, rfl⟩
            rw [← hok7]
            have HOK7 := Lib.hid hok7
            clear hok7 hw4
            cases ok7
            · go_wp2
              go_roundw
              case rel => exact ⟨k + 1, A, c, bs, by omega, by omega, by go_num, HP8.out, HM8.out, hc8, HN8.out, Dwb3.out.mono (by omega)⟩
              case measure => simp [intOf]; omega
            · obtain ⟨rfl, hL7⟩ := Y7.out HOK7.out.symm
              obtain ⟨hp9, hm9⟩ := facts_with HOK7.out.symm HM8.out ⟨by dsimp only; omega, by dsimp only; omega⟩
              rw [← hL7] at hp9 hm9
              obtain ⟨q0, q1, fr0, fr1⟩ := Xwb3.out.two
              have g0 := Dwb3.out.g0
              have g1 := Dwb3.out.g1
              have p0 := Dwb3.out.p0
              have p1 := Dwb3.out.p1
              have HL7 := Lib.hid hL7
              have HP9 := Lib.hid hp9
              have HM9 := Lib.hid hm9
              clear hL7 hp9 hm9
              go_wp2
              go_roundw
              case rel => exact ⟨k + 1, G7, c7, L7, by omega, by omega, by go_num, HP9.out, HM9.out, l7, M7.out, (Dwb3.out.put (by rw [SZ8.out]; exact R8.out)).mono (by omega)⟩
              case measure => simp [intOf]; omega
          · obtain ⟨rfl, hL6⟩ := Y6.out HOK6.out.symm
            obtain ⟨hp8, hm8⟩ := facts_with HOK6.out.symm HM.out ⟨by dsimp only; omega, by dsimp only; omega⟩
            rw [← hL6] at hp8 hm8
            have hl8 := (planOk_of hp8).2.2.1
            obtain ⟨q0, q1, fr0, fr1⟩ := X7.out.two
            have g0 := D7.out.g0
            have g1 := D7.out.g1
            have p0 := D7.out.p0
            have p1 := D7.out.p1
            have HL6 := Lib.hid hL6
            have HP8 := Lib.hid hp8
            have HM8 := Lib.hid hm8
            have HN8 := Lib.hid M6.out
            have hc8 := l6
            clear hL6 hp8 hm8
            go_upto_region 11 with (fail)
            refine name_c (fun w8 hw8 => ?_)
            obtain ⟨s1, s2⟩ := Dr.putE (c' := c6) hw8 D7.out R7.out X7.out (by omega)
            have D8 := Lib.hid s1
            have X8 := Lib.hid s2
            clear hw8 s1 s2 q0 q1 fr0 fr1 g0 g1 p0 p1 D7 X7 R7 HP HM HN
            have p0 := D8.out.p0
            have p1 := D8.out.p1
            refine wp_region_held_drew (S := (fun w' => w'.cell? ⟨w1.heap.size, 0, none⟩ = some (.int .i64 N) ∧ w'.cell? ⟨w1.heap.size, 1, none⟩ = some (.slice G6 L6.length c6))) (by kernel_rfl) ?_ (fun hHeld => ?_)
            · (try dsimp only)
              (first | done | exact ⟨cD p0, cD p1⟩)
            refine name_h (fun wb0 hwb0 => ?_)
            replace hHeld : ((fun w' => w'.cell? ⟨w1.heap.size, 0, none⟩ = some (.int .i64 N) ∧ w'.cell? ⟨w1.heap.size, 1, none⟩ = some (.slice G6 L6.length c6))) wb0 := by rw [hwb0]; exact hHeld
            (have Dwb0 := Lib.hid (D8.out.drewE hwb0); have Xwb0 := Lib.hid (X8.out.drewE hwb0))
            clear hwb0
            (refine wpAnyH_take (i := 0) (v := ?tv14) rfl (by kernel_rfl) (by kernel_rfl) (by kernel_rfl) (fun _ _ _ h => h) (Or.inl ⟨by kernel_rfl, ?ty14⟩) (by assumption) ?tr14; (case ty14 => (intro w' hSw; (try dsimp only at hSw); go_simp <;> with_reducible rfl)); (try simp only [Act.put, List.getElem_toArray, List.getElem_cons_succ, List.getElem_cons_zero, List.setIfInBounds_toArray, List.set_cons_zero, List.set_cons_succ]))
            (refine wpAnyH_take (i := 1) (v := ?tv15) rfl (by kernel_rfl) (by kernel_rfl) (by kernel_rfl) (fun _ _ _ h => h) (Or.inl ⟨by kernel_rfl, ?ty15⟩) (by assumption) ?tr15; (case ty15 => (intro w' hSw; (try dsimp only at hSw); go_simp <;> with_reducible rfl)); (try simp only [Act.put, List.getElem_toArray, List.getElem_cons_succ, List.getElem_cons_zero, List.setIfInBounds_toArray, List.set_cons_zero, List.set_cons_succ]))
            (refine wpAnyH_take (i := 2) (v := ?tv16) rfl (by kernel_rfl) (by kernel_rfl) (by kernel_rfl) (fun _ _ _ h => h) (Or.inl ⟨by kernel_rfl, ?ty16⟩) (by assumption) ?tr16; (case ty16 => (intro w' hSw; (try dsimp only at hSw); go_simp <;> with_reducible rfl)); (try simp only [Act.put, List.getElem_toArray, List.getElem_cons_succ, List.getElem_cons_zero, List.setIfInBounds_toArray, List.set_cons_zero, List.set_cons_succ]))
            (refine wpAnyH_take (i := 3) (v := ?tv17) rfl (by kernel_rfl) (by kernel_rfl) (by kernel_rfl) (fun _ _ _ h => h) (Or.inl ⟨by kernel_rfl, ?ty17⟩) (by assumption) ?tr17; (case ty17 => (intro w' hSw; (try dsimp only at hSw); go_simp <;> with_reducible rfl)); (try simp only [Act.put, List.getElem_toArray, List.getElem_cons_succ, List.getElem_cons_zero, List.setIfInBounds_toArray, List.set_cons_zero, List.set_cons_succ]))
            refine wpAnyH_ready (rs := [4]) (by kernel_rfl) (by simp) ?_
            refine (AllReadyH.cons rfl (fun K hK => ?_) AllReadyH.nil)
            (go_simp; go_at_call 108; refine (pick_any base g _ 12 _ Dwb0.out.rd (by omega)).mono ?_; rintro e wb1 ⟨k4, rfl, k40, k41, _, hr4, ho4, hs4⟩; (try go_wp2_with fail); have K4 := k41 (by omega); have hw4 : IntKind.i64.wrap (a + k4) = a + k4 := IntWalk.i64_in _ ⟨by omega, by omega⟩; have Dwb1 := Lib.hid (Dwb0.out.pick hr4 ho4); have Xwb1 := Lib.hid (Xwb0.out.only ho4 (.inr (by omega))); have hzb := ho4.size; have hzc := Dwb1.out.lt; clear hr4 ho4 hs4 k41)
            refine hK.out _ _ ?_ (fun hHeld => ?_)
            focus ((try dsimp only); (first | done | exact ⟨Dwb1.out.p0, Dwb1.out.p1⟩))
            clear hK K
            (try simp only [Act.put, List.getElem_toArray, List.getElem_cons_succ, List.getElem_cons_zero, List.setIfInBounds_toArray, List.set_cons_zero, List.set_cons_succ])
            (refine wpAnyH_take (i := 5) (v := ?tv19) rfl (by kernel_rfl) (by kernel_rfl) (by kernel_rfl) (fun _ _ _ h => h) (Or.inl ⟨by kernel_rfl, ?ty19⟩) (by assumption) ?tr19; (case ty19 => (intro w' hSw; (try dsimp only at hSw); go_simp <;> with_reducible rfl)); (try simp only [Act.put, List.getElem_toArray, List.getElem_cons_succ, List.getElem_cons_zero, List.setIfInBounds_toArray, List.set_cons_zero, List.set_cons_succ]))
            (refine wpAnyH_take (i := 6) (v := ?tv20) rfl (by kernel_rfl) (by kernel_rfl) (by kernel_rfl) (fun _ _ _ h => h) (Or.inl ⟨by kernel_rfl, ?ty20⟩) (by assumption) ?tr20; (case ty20 => (intro w' hSw; (try dsimp only at hSw); go_simp <;> with_reducible rfl)); (try simp only [Act.put, List.getElem_toArray, List.getElem_cons_succ, List.getElem_cons_zero, List.setIfInBounds_toArray, List.set_cons_zero, List.set_cons_succ]))
            refine wpAnyH_ready (rs := [7]) (by kernel_rfl) (by simp) ?_
            refine (AllReadyH.cons rfl (fun K hK => ?_) AllReadyH.nil)
            (go_simp; go_at_call 131; refine (withBound_any _ _ _ L6 0 k (a + k4) _ Dwb1.out.bat HN8.out (by omega)).mono ?_; rintro e wb2 ⟨n7, G7, c7, L7, rfl, y7, z7, l7, m7, r7, hb7⟩; (try go_wp2_with fail); have Dwb2 := Lib.hid (Dwb1.out.below hb7); have Xwb2 := Lib.hid (Xwb1.out.below' hb7); have Y7 := Lib.hid y7; have M7 := Lib.hid m7; have R7 := Lib.hid (r7.wide (lo' := w.heap.size + 1) (hi' := wb2.heap.size) (by omega) (Nat.le_refl _)); clear y7 z7 m7 r7 hb7)
            refine hK.out _ _ ?_ (fun hHeld => ?_)
            focus ((try dsimp only); (first | done | exact ⟨Dwb2.out.p0, Dwb2.out.p1⟩))
            clear hK K
            (try simp only [Act.put, List.getElem_toArray, List.getElem_cons_succ, List.getElem_cons_zero, List.setIfInBounds_toArray, List.set_cons_zero, List.set_cons_succ])
            (refine wpAnyH_take (i := 8) (v := ?tv22) rfl (by kernel_rfl) (by kernel_rfl) (by kernel_rfl) (fun _ _ _ h => h) (Or.inl ⟨by kernel_rfl, ?ty22⟩) (by assumption) ?tr22; (case ty22 => (intro w' hSw; (try dsimp only at hSw); go_simp <;> with_reducible rfl)); (try simp only [Act.put, List.getElem_toArray, List.getElem_cons_succ, List.getElem_cons_zero, List.setIfInBounds_toArray, List.set_cons_zero, List.set_cons_succ]))
            (refine wpAnyH_take (i := 9) (v := ?tv23) rfl (by kernel_rfl) (by kernel_rfl) (by kernel_rfl) (fun _ _ _ h => h) (Or.inl ⟨by kernel_rfl, ?ty23⟩) (by assumption) ?tr23; (case ty23 => (intro w' hSw; (try dsimp only at hSw); go_simp <;> with_reducible rfl)); (try simp only [Act.put, List.getElem_toArray, List.getElem_cons_succ, List.getElem_cons_zero, List.setIfInBounds_toArray, List.set_cons_zero, List.set_cons_succ]))
            (refine wpAnyH_take (i := 10) (v := ?tv24) rfl (by kernel_rfl) (by kernel_rfl) (by kernel_rfl) (fun _ _ _ h => h) (Or.inl ⟨by kernel_rfl, ?ty24⟩) (by assumption) ?tr24; (case ty24 => (intro w' hSw; (try dsimp only at hSw); go_simp <;> with_reducible rfl)); (try simp only [Act.put, List.getElem_toArray, List.getElem_cons_succ, List.getElem_cons_zero, List.setIfInBounds_toArray, List.set_cons_zero, List.set_cons_succ]))
            refine wpAnyH_ready (rs := [11]) (by kernel_rfl) (by simp) ?_
            refine (AllReadyH.cons rfl (fun K hK => ?_) AllReadyH.nil)
            (obtain ⟨q0, q1, fr0, fr1⟩ := Xwb2.out.two; go_simp; refine name_k (fun wb3 hwb3 => ?_); obtain ⟨s1, s2, s3, s4⟩ := Dr.far2 hwb3 Dwb2.out Xwb2.out (by omega) (by omega); have Dwb3 := Lib.hid s1; have Xwb3 := Lib.hid s2; have R8 := Lib.hid (s3 _ _ _ _ R7.out); have SZ8 := Lib.hid s4; clear hwb3 s1 s2 s3 s4 q0 q1 fr0 fr1)
            refine hK.out _ _ ?_ (fun hHeld => ?_)
            focus ((try dsimp only); (first | done | exact ⟨Dwb3.out.p0, Dwb3.out.p1⟩))
            clear hK K
            (try simp only [Act.put, List.getElem_toArray, List.getElem_cons_succ, List.getElem_cons_zero, List.setIfInBounds_toArray, List.set_cons_zero, List.set_cons_succ])
            (refine wpAnyH_take (i := 12) (v := ?tv26) rfl (by kernel_rfl) (by kernel_rfl) (by kernel_rfl) (fun _ _ _ h => h) (Or.inl ⟨by kernel_rfl, ?ty26⟩) (by assumption) ?tr26; (case ty26 => (intro w' hSw; (try dsimp only at hSw); go_simp <;> with_reducible rfl)); (try simp only [Act.put, List.getElem_toArray, List.getElem_cons_succ, List.getElem_cons_zero, List.setIfInBounds_toArray, List.set_cons_zero, List.set_cons_succ]))
            refine wpAnyH_done (by kernel_rfl) ?_ _
            clear p0 p1
            obtain ⟨ok7, hok7⟩ : ∃ b, b = withOk N L6 ⟨0, k, a + k4⟩ := ⟨_, rfl⟩
            rw [← hok7]
            have HOK7 := Lib.hid hok7
            clear hok7 hw4
            cases ok7
            · go_wp2
              go_roundw
              case rel => exact ⟨k + 1, G6, c6, L6, by omega, by omega, by go_num, HP8.out, HM8.out, hc8, HN8.out, Dwb3.out.mono (by omega)⟩
              case measure => simp [intOf]; omega
            · obtain ⟨rfl, hL7⟩ := Y7.out HOK7.out.symm
              obtain ⟨hp9, hm9⟩ := facts_with HOK7.out.symm HM8.out ⟨by dsimp only; omega, by dsimp only; omega⟩
              rw [← hL7] at hp9 hm9
              obtain ⟨q0, q1, fr0, fr1⟩ := Xwb3.out.two
              have g0 := Dwb3.out.g0
              have g1 := Dwb3.out.g1
              have p0 := Dwb3.out.p0
              have p1 := Dwb3.out.p1
              have HL7 := Lib.hid hL7
              have HP9 := Lib.hid hp9
              have HM9 := Lib.hid hm9
              clear hL7 hp9 hm9
              go_wp2
              go_roundw
              case rel => exact ⟨k + 1, G7, c7, L7, by omega, by omega, by go_num, HP9.out, HM9.out, l7, M7.out, (Dwb3.out.put (by rw [SZ8.out]; exact R8.out)).mono (by omega)⟩
              case measure => simp [intOf]; omega
        · obtain rfl : k = N := by omega
          obtain ⟨r0, r1, f0, f1⟩ := DR.out.res.two
          go_wp2
          refine bodyPost_ret (v := .agg #[.int .i64 k, .slice A bs.length c]) (by simp [results, Try.results114, go_sem, r0, r1]) rfl (j_end (facts_of HP.out HM.out) hc HN.out DR.out (by omega) rfl)
end Go.Proofs.Ytnompncmachgjaa
