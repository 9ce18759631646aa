/- The contracts of spec.l20Ring and spec.DrawRingSum: some plan and some numbers in new memory. -/
import Derived.Test.YtnompncmachgjaaDrawTight
import Derived.Test.YtnompncmachgjaaDrawJ4
import Derived.Test.YtnompncmachgjaaBad
namespace Go.Proofs.Ytnompncmachgjaa
open Go.RowKit
set_option linter.unusedVariables false
set_option maxRecDepth 10000
set_option linter.unusedSimpArgs false

def DrewR (base g q : Nat) (w : World) (e : Ending) (w' : World) : Prop :=
  ∃ (n : Int) (A : Option Addr) (c : Nat) (bs : List Bd) (G : Option Addr) (cg : Nat) (ts : List Int), e = .returned (.tuple #[.agg #[.int .i64 n, .slice A bs.length c], .slice G ts.length cg]) ∧ (0 ≤ n ∧ n ≤ 7 ∧ bs.length ≤ 16) ∧ bs.length ≤ c ∧ (A = none → c = 0) ∧ (ts.length ≤ 6 ∧ ts.length ≤ cg) ∧ RB w' w.heap.size w'.heap.size A bs ∧ RI w' w.heap.size w'.heap.size G ts ∧ Rd w' base g (q + 250) ∧ Only g (g + 1) w w'
def DrawnR (w : World) (e : Ending) (w' : World) : Prop :=
  ∃ (n : Int) (A : Option Addr) (c : Nat) (bs : List Bd) (G : Option Addr) (cg : Nat) (ts : List Int), e = .returned (.tuple #[.agg #[.int .i64 n, .slice A bs.length c], .slice G ts.length cg]) ∧ (0 ≤ n ∧ n ≤ 7 ∧ bs.length ≤ 16) ∧ bs.length ≤ c ∧ (A = none → c = 0) ∧ (ts.length ≤ 6 ∧ ts.length ≤ cg) ∧ RB w' w.heap.size w'.heap.size A bs ∧ RI w' w.heap.size w'.heap.size G ts ∧ Below w.heap.size w w'
theorem r_end {base g q q' P lo2 hi2 : Nat} {n : Int} {A : Option Addr} {c : Nat} {bs : List Bd} {G : Option Addr} {cg : Nat} {ts : List Int} {w W : World} {e : Ending} {u0 u1 : Value} (hf : 0 ≤ n ∧ n ≤ 7 ∧ bs.length ≤ 16) (hc : bs.length ≤ c) (hn : A = none → c = 0) (ht : ts.length ≤ 6 ∧ ts.length ≤ cg) (hD : Dr base g q' w W P n A c bs) (hI : RI W lo2 hi2 G ts) (h2 : w.heap.size < lo2) (hh : hi2 ≤ W.heap.size) (hq : q' ≤ q + 250) (he : e = .returned (.tuple #[.agg #[.int .i64 n, .slice A bs.length c], .slice G ts.length cg])) :
    DrewR base g q w e ((W.setCell ⟨w.heap.size, 0, none⟩ u0).setCell ⟨w.heap.size, 1, none⟩ u1) := by
  obtain ⟨h1, h3, h4⟩ := hD.end_ (u0 := u0) (u1 := u1) rfl
  refine ⟨n, A, c, bs, G, cg, ts, he, hf, hc, hn, ht, h1, ?_, h3.mono hq, h4⟩
  rw [szc, szc]
  exact (hI.same (((Same.refl _ _ _).set_ (.inl (by dsimp only; omega)) _).set_ (.inl (by dsimp only; omega)) _) hh).wide (by omega) hh
set_option maxHeartbeats 4000000 in
theorem ring_draw (base g q : Nat) (w : World) (h : Rd w base g q) (hq : q ≤ 70000) :
    Calls Try.prog 105 #[.pointer (some ⟨g, 0, none⟩)] w (DrewR base g q w) := by
  have hg := h.lt
  go_enter Try.func105, Try.ntmps105
  go_wp2_with fail
  refine (tight_draw base g q 12 _ (h.alloc _) (by omega) (by omega) (by omega)).mono ?_; rintro e w1 ⟨m, A, c, bs, rfl, hf, hc, hn, hrb, hrd, ho⟩
  have HN := Lib.hid hn
  have D0 := Lib.hid (Dr.start (n := m) (c := c) rfl hg hrb hrd ho)
  have hz1 := ho.size
  simp only [sz] at hz1
  clear ho hrb hrd hn h
  go_upto_region 2 with (fail)
  refine name_c (fun w2 hw2 => ?_)
  have D2 := Lib.hid (show Dr base g _ w w2 w1.heap.size m A c bs by rw [hw2]; exact D0.out)
  clear hw2 D0
  have p0 := D2.out.p0
  have p1 := D2.out.p1
  have hneR : ¬ w.heap.size = w1.heap.size := by omega
  have hzP := D2.out.lt
  have hm7 := hf.2.1
  have hl16 := hf.2.2
  have HF := Lib.hid hf
  have hP0 := D2.out.hP
  have hgw0 := D2.out.hg
  clear hf
  go_wp2_with fail
  refine (specBadRing_cap m A c bs _ D2.out.bat (by omega)).mono ?_; rintro e w3 ⟨G3, c3, rfl, r3, hp3, hb3⟩
  have hml := bad_len m bs
  have D3 := Lib.hid (D2.out.below hb3)
  have R3 := Lib.hid r3
  have hz3 := hb3.size
  generalize badL m bs = rs at *
  generalize badB m bs = bb at *
  clear hb3 D2 p0 p1 r3
  have p0 := D3.out.p0
  have p1 := D3.out.p1
  cases bb
  · have hx0 : True := trivial
    have D4 := Lib.hid D3.out
    clear D3 p0 p1
    go_upto_region 6 with (fail)
    refine name_c (fun w5 hw5 => ?_)
    obtain ⟨b0, hb0⟩ : ∃ b0, b0 = w3.heap.size := ⟨_, rfl⟩
    have D5 := Lib.hid (D4.out.allocE hw5)
    have O5 := Lib.hid (OwnL.emptyE (base := b0) hw5 (by omega))
    have hz5 := sizeE hw5
    have hPb := D4.out.lt
    rw [← hb0] at O5 hz5 hPb ⊢
    clear hw5 hb0 D4
    have p0 := D5.out.p0
    have p1 := D5.out.p1
    go_wp2_with fail
    refine (pick_any base g _ 3 _ D5.out.rd (by omega)).mono ?_; rintro e w6 ⟨k6, rfl, k60, k61, _, hr6, ho6, hs6⟩
    have D6 := Lib.hid (D5.out.pick hr6 ho6)
    have hgw := D5.out.hg
    have O6 := Lib.hid (O5.out.pick ho6 (by omega))
    have hz6 := ho6.size
    have k62 := k61 (by omega)
    have hwk : IntKind.i64.wrap (1 + k6) = 1 + k6 := IntWalk.i64_in _ ⟨by omega, by omega⟩
    clear hr6 ho6 hs6 k61 D5 O5 p0 p1
    obtain ⟨J, hJ⟩ := Int.eq_ofNat_of_zero_le (show 0 ≤ 1 + k6 by omega)
    rw [hJ] at hwk
    have hJ3 : J ≤ 3 := by omega
    go_wp2
    go_loopw [5, 7] (fun out k W => ∃ (j : Nat) (ts : List Int) (go co L : Nat), L = ts.length ∧ ts.length + j ≤ 3 ∧ ts.length = L ∧ out = .slice (some ⟨go, 0, none⟩) L co ∧ k = .int .i64 j ∧ OwnL W b0 (.slice (some ⟨go, 0, none⟩) L co) ts ∧ Dr base g (q + 155 + 4 * ts.length) w W w1.heap.size m A c bs ∧ w6.heap.size ≤ W.heap.size) (fun _ k _ => (intOf k).toNat)
    case atStart => exact ⟨J, [], b0, 0, 0, rfl, by simp; omega, rfl, rfl, by first | rfl | (congr 1) | (rw [hJ]), O6.out, D6.out.mono (by first | (simp; done) | (simp; omega)), Nat.le_refl _⟩
    case round =>
      clear D6 O6 k62 k60 hwk hJ
      obtain ⟨j, ts, go, co, L, rfl, hj, _, rfl, rfl, hO, hD, hzr⟩ := hrel
      have OR := Lib.hid hO
      have DR := Lib.hid hD
      have p0 := hD.p0
      have p1 := hD.p1
      clear hO hD
      by_cases hlt : 0 < j
      · obtain ⟨j, rfl⟩ : ∃ j' : Nat, j = j' + 1 := ⟨j - 1, by omega⟩
        have hwl : IntKind.i64.wrap ((bs.length : Int) + 1) = (bs.length : Int) + 1 := IntWalk.i64_in _ ⟨by omega, by omega⟩
        go_wp2_with fail
        refine (pick_any base g _ _ _ DR.out.rd (by omega)).mono ?_; rintro e w9 ⟨k9, rfl, k90, k91, _, hr9, ho9, hs9⟩
        have D9 := Lib.hid (DR.out.pick hr9 ho9)
        have O9 := Lib.hid (OR.out.pick ho9 (by omega))
        have hz9 := ho9.size
        clear hr9 ho9 hs9 k91 DR OR p0 p1
        go_wp2_with (at_builtin; refine wpList_pushLie rfl _ _ rfl b0 go ts.length _ ts rfl rfl (O9.out.alloc _) w9.heap.size k9 rfl (by simp) (by omega) (by simp; omega) ?_; intro gn cn w11 hown hgr hlie)
        have D11 := Lib.hid ((D9.out.alloc (.cells #[.int .i64 k9] 3)).grownL (O9.out.alloc (.cells #[.int .i64 k9] 3)) hgr (by omega))
        have hz11 := hgr.size
        have hz12 : w9.heap.size + 1 ≤ w11.heap.size := by rw [sz] at hz11; omega
        clear hgr hlie hz11
        go_roundw
        case rel => exact ⟨j, ts ++ [k9], gn, cn, ts.length + 1, by simp, by simp; omega, by simp, rfl, by go_num, hown, D11.out.mono (by simp; omega), by omega⟩
        case measure => first | (simp [intOf]; done) | (simp [intOf]; omega)
      · obtain rfl : j = 0 := by omega
        obtain ⟨G', c', hv', hri, hcc, hnn⟩ := OR.out.rc
        obtain ⟨rfl, rfl⟩ : G' = some ⟨go, 0, none⟩ ∧ c' = co := by injection hv' with e1 _ e2; exact ⟨e1.symm, e2.symm⟩
        have RI7 := Lib.hid hri
        clear hv' hri
        go_wp2_with fail
        refine (odd_any base g _ 12 _ DR.out.rd (by omega) (by omega) (by omega)).mono ?_; rintro e w9 ⟨bo, rfl, hr9, ho9, hs9⟩
        have D9 := Lib.hid (DR.out.pick hr9 ho9)
        have R9 := Lib.hid ((RI7.out.same (Same.of_only ho9 (.inr (by omega))) (Nat.le_refl _)).wide (Nat.le_refl _) ho9.size)
        have hz9 := ho9.size
        clear hr9 ho9 hs9 DR OR RI7 p0 p1
        have p0 := D9.out.p0
        have p1 := D9.out.p1
        have hPw := D9.out.hP
        obtain ⟨r0, r1, f0, f1⟩ := D9.out.res.two
        cases bo
        · go_wp2
          refine bodyPost_ret (v := .tuple #[.agg #[.int .i64 m, .slice A bs.length c], .slice (some ⟨go, 0, none⟩) ts.length c']) (by simp [results, Try.results105, go_sem, r0, r1]) rfl (r_end HF.out hc HN.out ⟨by omega, hcc⟩ D9.out R9.out (by omega) (Nat.le_refl _) (by omega) rfl)
        · clear r0 r1 f0 f1 p0 p1
          go_upto_region 12 with (fail)
          refine name_c (fun wz hwz => ?_)
          have DZ := Lib.hid (D9.out.allocE hwz)
          have OZ := Lib.hid (OwnL.emptyE (base := b0) hwz (by omega))
          obtain ⟨GZ, cZ, hvZ, hrZ, hcZ, _⟩ := OZ.out.rc
          have RZ := Lib.hid hrZ
          have hzz := sizeE hwz
          clear hwz D9 hrZ
          have p0 := DZ.out.p0
          have p1 := DZ.out.p1
          obtain ⟨r0, r1, f0, f1⟩ := DZ.out.res.two
          obtain ⟨rfl, rfl⟩ : GZ = some ⟨w9.heap.size, 0, none⟩ ∧ cZ = 0 := by injection hvZ with e1 _ e2; exact ⟨e1.symm, e2.symm⟩
          clear hvZ
          go_wp2
          refine bodyPost_ret (v := .tuple #[.agg #[.int .i64 m, .slice A bs.length c], .slice (some ⟨w9.heap.size, 0, none⟩) 0 0]) (by simp [results, Try.results105, go_sem, r0, r1]) rfl (r_end (ts := []) HF.out hc HN.out ⟨by simp, by simp⟩ DZ.out RZ.out (by omega) (Nat.le_refl _) (by omega) rfl)
  · go_wp2_with fail
    refine (pick_any base g _ 2 _ D3.out.rd (by omega)).mono ?_; rintro e w4 ⟨k4, rfl, k40, k41, _, hr4, ho4, hs4⟩
    have DX := Lib.hid (D3.out.pick hr4 ho4)
    have hgw1 := D3.out.hg
    have RX := Lib.hid ((R3.out.same (Same.of_only ho4 (.inr (by omega))) (Nat.le_refl _)).wide (Nat.le_refl _) ho4.size)
    have hz4 := ho4.size
    clear hr4 ho4 hs4 k41 D3 R3 p0 p1
    have p0 := DX.out.p0
    have p1 := DX.out.p1
    by_cases hk4 : k4 = 0
    · obtain ⟨r0, r1, f0, f1⟩ := DX.out.res.two
      subst hk4
      go_wp2
      refine bodyPost_ret (v := .tuple #[.agg #[.int .i64 m, .slice A bs.length c], .slice G3 rs.length c3]) (by simp [results, Try.results105, go_sem, r0, r1]) rfl (r_end HF.out hc HN.out ⟨hml, hp3⟩ DX.out RX.out (by omega) (Nat.le_refl _) (by omega) rfl)
    · have hk4' : (k4 == 0) = false := beq_eq_false_iff_ne.2 hk4
      clear hk4
      have D4 := Lib.hid DX.out
      clear DX p0 p1
      go_upto_region 6 with (fail)
      refine name_c (fun w5 hw5 => ?_)
      obtain ⟨b0, hb0⟩ : ∃ b0, b0 = w4.heap.size := ⟨_, rfl⟩
      have D5 := Lib.hid (D4.out.allocE hw5)
      have O5 := Lib.hid (OwnL.emptyE (base := b0) hw5 (by omega))
      have hz5 := sizeE hw5
      have hPb := D4.out.lt
      rw [← hb0] at O5 hz5 hPb ⊢
      clear hw5 hb0 D4
      have p0 := D5.out.p0
      have p1 := D5.out.p1
      go_wp2_with fail
      refine (pick_any base g _ 3 _ D5.out.rd (by omega)).mono ?_; rintro e w6 ⟨k6, rfl, k60, k61, _, hr6, ho6, hs6⟩
      have D6 := Lib.hid (D5.out.pick hr6 ho6)
      have hgw := D5.out.hg
      have O6 := Lib.hid (O5.out.pick ho6 (by omega))
      have hz6 := ho6.size
      have k62 := k61 (by omega)
      have hwk : IntKind.i64.wrap (1 + k6) = 1 + k6 := IntWalk.i64_in _ ⟨by omega, by omega⟩
      clear hr6 ho6 hs6 k61 D5 O5 p0 p1
      obtain ⟨J, hJ⟩ := Int.eq_ofNat_of_zero_le (show 0 ≤ 1 + k6 by omega)
      rw [hJ] at hwk
      have hJ3 : J ≤ 3 := by omega
      go_wp2
      go_loopw [5, 7] (fun out k W => ∃ (j : Nat) (ts : List Int) (go co L : Nat), L = ts.length ∧ ts.length + j ≤ 3 ∧ ts.length = L ∧ out = .slice (some ⟨go, 0, none⟩) L co ∧ k = .int .i64 j ∧ OwnL W b0 (.slice (some ⟨go, 0, none⟩) L co) ts ∧ Dr base g (q + 155 + 4 * ts.length) w W w1.heap.size m A c bs ∧ w6.heap.size ≤ W.heap.size) (fun _ k _ => (intOf k).toNat)
      case atStart => exact ⟨J, [], b0, 0, 0, rfl, by simp; omega, rfl, rfl, by first | rfl | (congr 1) | (rw [hJ]), O6.out, D6.out.mono (by first | (simp; done) | (simp; omega)), Nat.le_refl _⟩
      case round =>
        clear D6 O6 k62 k60 hwk hJ
        obtain ⟨j, ts, go, co, L, rfl, hj, _, rfl, rfl, hO, hD, hzr⟩ := hrel
        have OR := Lib.hid hO
        have DR := Lib.hid hD
        have p0 := hD.p0
        have p1 := hD.p1
        clear hO hD
        by_cases hlt : 0 < j
        · obtain ⟨j, rfl⟩ : ∃ j' : Nat, j = j' + 1 := ⟨j - 1, by omega⟩
          have hwl : IntKind.i64.wrap ((bs.length : Int) + 1) = (bs.length : Int) + 1 := IntWalk.i64_in _ ⟨by omega, by omega⟩
          go_wp2_with fail
          refine (pick_any base g _ _ _ DR.out.rd (by omega)).mono ?_; rintro e w9 ⟨k9, rfl, k90, k91, _, hr9, ho9, hs9⟩
          have D9 := Lib.hid (DR.out.pick hr9 ho9)
          have O9 := Lib.hid (OR.out.pick ho9 (by omega))
          have hz9 := ho9.size
          clear hr9 ho9 hs9 k91 DR OR p0 p1
          go_wp2_with (at_builtin; refine wpList_pushLie rfl _ _ rfl b0 go ts.length _ ts rfl rfl (O9.out.alloc _) w9.heap.size k9 rfl (by simp) (by omega) (by simp; omega) ?_; intro gn cn w11 hown hgr hlie)
          have D11 := Lib.hid ((D9.out.alloc (.cells #[.int .i64 k9] 3)).grownL (O9.out.alloc (.cells #[.int .i64 k9] 3)) hgr (by omega))
          have hz11 := hgr.size
          have hz12 : w9.heap.size + 1 ≤ w11.heap.size := by rw [sz] at hz11; omega
          clear hgr hlie hz11
          go_roundw
          case rel => exact ⟨j, ts ++ [k9], gn, cn, ts.length + 1, by simp, by simp; omega, by simp, rfl, by go_num, hown, D11.out.mono (by simp; omega), by omega⟩
          case measure => first | (simp [intOf]; done) | (simp [intOf]; omega)
        · obtain rfl : j = 0 := by omega
          obtain ⟨G', c', hv', hri, hcc, hnn⟩ := OR.out.rc
          obtain ⟨rfl, rfl⟩ : G' = some ⟨go, 0, none⟩ ∧ c' = co := by injection hv' with e1 _ e2; exact ⟨e1.symm, e2.symm⟩
          have RI7 := Lib.hid hri
          clear hv' hri
          go_wp2_with fail
          refine (odd_any base g _ 12 _ DR.out.rd (by omega) (by omega) (by omega)).mono ?_; rintro e w9 ⟨bo, rfl, hr9, ho9, hs9⟩
          have D9 := Lib.hid (DR.out.pick hr9 ho9)
          have R9 := Lib.hid ((RI7.out.same (Same.of_only ho9 (.inr (by omega))) (Nat.le_refl _)).wide (Nat.le_refl _) ho9.size)
          have hz9 := ho9.size
          clear hr9 ho9 hs9 DR OR RI7 p0 p1
          have p0 := D9.out.p0
          have p1 := D9.out.p1
          have hPw := D9.out.hP
          obtain ⟨r0, r1, f0, f1⟩ := D9.out.res.two
          cases bo
          · go_wp2
            refine bodyPost_ret (v := .tuple #[.agg #[.int .i64 m, .slice A bs.length c], .slice (some ⟨go, 0, none⟩) ts.length c']) (by simp [results, Try.results105, go_sem, r0, r1]) rfl (r_end HF.out hc HN.out ⟨by omega, hcc⟩ D9.out R9.out (by omega) (Nat.le_refl _) (by omega) rfl)
          · clear r0 r1 f0 f1 p0 p1
            go_upto_region 12 with (fail)
            refine name_c (fun wz hwz => ?_)
            have DZ := Lib.hid (D9.out.allocE hwz)
            have OZ := Lib.hid (OwnL.emptyE (base := b0) hwz (by omega))
            obtain ⟨GZ, cZ, hvZ, hrZ, hcZ, _⟩ := OZ.out.rc
            have RZ := Lib.hid hrZ
            have hzz := sizeE hwz
            clear hwz D9 hrZ
            have p0 := DZ.out.p0
            have p1 := DZ.out.p1
            obtain ⟨r0, r1, f0, f1⟩ := DZ.out.res.two
            obtain ⟨rfl, rfl⟩ : GZ = some ⟨w9.heap.size, 0, none⟩ ∧ cZ = 0 := by injection hvZ with e1 _ e2; exact ⟨e1.symm, e2.symm⟩
            clear hvZ
            go_wp2
            refine bodyPost_ret (v := .tuple #[.agg #[.int .i64 m, .slice A bs.length c], .slice (some ⟨w9.heap.size, 0, none⟩) 0 0]) (by simp [results, Try.results105, go_sem, r0, r1]) rfl (r_end (ts := []) HF.out hc HN.out ⟨by simp, by simp⟩ DZ.out RZ.out (by omega) (Nat.le_refl _) (by omega) rfl)
set_option maxHeartbeats 1000000 in
theorem drawRingSum_any (A : Option Addr) (c : Nat) (xs : List Int) (w : World) (h : Bytes w A c xs) : Calls Try.prog 54 #[.slice A xs.length c] w (DrawnR w) := by
  go_enter Try.func54, Try.ntmps54
  go_wp2_with fail
  refine (open_of (h.alloc _)).mono ?_; rintro e w1 ⟨g, rfl, hr1, hb1, hg1⟩
  have hgb := hr1.base_le
  have hz1 := hb1.size
  simp only [sz] at hgb hz1
  go_wp2_with fail
  refine (ring_draw _ g 0 w1 hr1 (by omega)).mono ?_; rintro e w2 ⟨n, A2, c2, bs, G, cg, ts, rfl, hf, hc, hn, hds, hrb, hri, hrd, ho⟩
  have qb := code_res rfl hb1 (by omega) ho
  have q0 : w2.cell? ⟨w.heap.size, 0, none⟩ = some (.int .i64 0) := qb.cell 0
  have q1 : w2.cell? ⟨w.heap.size, 1, none⟩ = some (.slice none 0 0) := qb.cell 1
  have f0 := qb.frozen 0
  have f1 := qb.frozen 1
  have HE := Lib.hid (fun u0 u1 => code_end (u0 := u0) (u1 := u1) rfl hb1 (by omega) ho hrb)
  have HI := Lib.hid (fun u0 u1 => code_endI (u0 := u0) (u1 := u1) rfl hb1 hri)
  have HN := Lib.hid hn
  have HDS := Lib.hid hds
  have HF := Lib.hid hf
  clear hb1 ho hrb hri hn qb hr1 hrd hds hf
  go_wp2
  refine bodyPost_ret (v := .tuple #[.agg #[.int .i64 n, .slice A2 bs.length c2], .slice G ts.length cg]) (by simp [results, Try.results54, go_sem, q0, q1]) rfl ⟨n, A2, c2, bs, G, cg, ts, rfl, HF.out, hc, HN.out, HDS.out, (HE.out _ _).1, HI.out _ _, (HE.out _ _).2⟩
end Go.Proofs.Ytnompncmachgjaa
