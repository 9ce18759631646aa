/- The contract of spec.l20Few: some plan in new memory. -/
import Derived.Test.YtnompncmachgjaaDrawTight
import Derived.Test.YtnompncmachgjaaKJ
namespace Go.Proofs.Ytnompncmachgjaa
open Go.RowKit
set_option linter.unusedVariables false
set_option maxRecDepth 10000
set_option linter.unusedSimpArgs false

theorem few_end {base g q q' P lo : Nat} {n n' : Int} {A G : Option Addr} {c c2 : Nat} {bs L : List Bd} {w W : World} {e : Ending} {u0 u1 : Value} (hf : 0 ≤ n' ∧ n' ≤ 7 ∧ L.length ≤ 16) (hc : L.length ≤ c2) (hn : G = none → c2 = 0) (hD : Dr base g q' w W P n A c bs) (hR : RB W lo W.heap.size G L) (hlo : w.heap.size ≤ lo) (hq : q' ≤ q + 150) (he : e = .returned (.agg #[.int .i64 n', .slice G L.length c2])) :
    DrewT base g q w e ((W.setCell ⟨w.heap.size, 0, none⟩ u0).setCell ⟨w.heap.size, 1, none⟩ u1) := by
  obtain ⟨h1, h2, h3⟩ := hD.end_ (u0 := u0) (u1 := u1) rfl
  refine ⟨n', G, c2, L, he, hf, hc, hn, ?_, h2.mono hq, h3⟩
  rw [szc, szc]; exact ((hR.box hD.res).box (hD.res.set_ 0 _)).wide hlo (Nat.le_refl _)
set_option maxHeartbeats 2000000 in
theorem few_draw (base g q : Nat) (nn : Int) (w : World) (h : Rd w base g q) (hq : q ≤ 80000) (hn1 : 1 ≤ nn) (hn2 : nn ≤ 1000) :
    Calls Try.prog 128 #[.pointer (some ⟨g, 0, none⟩), .int .i64 nn] w (DrewT base g q w) := by
  have hg := h.lt
  go_enter Try.func128, Try.ntmps128
  go_wp2_with fail
  refine (plan_any base g q nn _ (h.alloc _) (by omega) (by omega) (by omega)).mono ?_; rintro e w1 ⟨m, A, c, bs, rfl, hf, hc, hn, hrb, hrd, ho⟩
  have HN := Lib.hid hn
  have D0 := Lib.hid (Dr.start (n := m) (c := c) rfl hg hrb hrd ho)
  have hz1 := ho.size
  simp only [sz] at hz1
  clear ho hrb hrd hn h
  go_upto_region 2 with (fail)
  refine name_c (fun w2 hw2 => ?_)
  have D2 := Lib.hid (show Dr base g _ w w2 w1.heap.size m A c bs by rw [hw2]; exact D0.out)
  clear hw2 D0
  have p0 := D2.out.p0
  have p1 := D2.out.p1
  have hneR : ¬ w.heap.size = w1.heap.size := by omega
  have hzP := D2.out.lt
  have hl16 := hf.2.2.1
  have HF := Lib.hid (show 0 ≤ m ∧ m ≤ 7 ∧ bs.length ≤ 16 from ⟨hf.1, hf.2.1, hf.2.2.1⟩)
  clear hf
  by_cases h4 : 4 < m
  · go_wp2_with fail
    refine (pick_any base g _ 9 _ D2.out.rd (by omega)).mono ?_; rintro e w4 ⟨k3, rfl, k30, k31, _, hr3, ho3, hs3⟩
    have D4 := Lib.hid (D2.out.pick hr3 ho3)
    clear hr3 ho3 hs3 k31 D2 p0 p1 hzP
    have p0 := D4.out.p0
    have p1 := D4.out.p1
    by_cases hk3 : k3 = 0
    · subst hk3
      obtain ⟨r0, r1, f0, f1⟩ := D4.out.res.two
      go_wp2
      refine bodyPost_ret (v := .agg #[.int .i64 m, .slice A bs.length c]) (by simp [results, Try.results128, go_sem, r0, r1]) rfl (t_end HF.out hc HN.out D4.out (by omega) rfl)
    have hk3' : 0 < k3 := by omega
    have hk3'' : decide (0 < k3) = true := decide_eq_true hk3'
    clear hk3
    go_upto_region 4 with (fail)
    refine name_c (fun w5 hw5 => ?_)
    have O5 := Lib.hid (OwnB.emptyE (base := w4.heap.size) hw5 (Nat.le_refl _))
    have B5 := Lib.hid (show Below w4.heap.size w4 w5 by rw [hw5]; exact valloc (Below.refl _ _) _)
    clear hw5 p0 p1 hk3' hk3''
    go_wp2
    go_loopw [6, 7] (fun out k W => ∃ (i : Nat) (G : Option Addr) (c2 ll : Nat) (L : List Bd), ll = L.length ∧ i ≤ bs.length ∧ ll ≤ i ∧ L.length = ll ∧ out = .slice G ll c2 ∧ k = .int .i64 i ∧ OwnB W w4.heap.size (.slice G ll c2) L ∧ Below w4.heap.size w4 W) (fun _ k _ => bs.length - (intOf k).toNat)
    case atStart => exact ⟨0, _, _, 0, [], rfl, Nat.zero_le _, Nat.le_refl _, rfl, rfl, rfl, O5.out, B5.out⟩
    case round =>
      clear O5 B5
      obtain ⟨i, G, c2, ll, L, rfl, hi, hli, _, rfl, rfl, hO, hb⟩ := hrel
      have OR := Lib.hid hO
      have HB := Lib.hid hb
      have DR := Lib.hid (D4.out.below hb)
      have hzr := hb.size
      have p0 := DR.out.p0
      have p1 := DR.out.p1
      clear hO hb
      by_cases hlt : i < bs.length
      · obtain ⟨b, off, x, rfl, hbl, hx, hxm, c0, c1, c3⟩ := DR.out.bat.at_ hlt
        obtain ⟨f, t, mm⟩ := x
        simp only at c0 c1 c3
        clear hx hxm
        by_cases hf4 : f < 4
        · by_cases ht4 : t < 4
          · go_wp2_with (at_builtin; refine wpList_pushD rfl _ _ rfl w4.heap.size _ L rfl (OR.out.alloc _) (some ⟨wr.heap.size, 0, none⟩) 1 1 [⟨f, t, mm⟩] rfl rfl (Blk.bat1 (Blk.new _ _ _)) (fun q => by cases q) (by simp; omega) (by simp; omega) ?_; intro v' w' hown hb' _; obtain ⟨G', c', rfl, _, _, _⟩ := hown.rb; have HO' := Lib.hid hown; have HB' := Lib.hid ((valloc HB.out _).trans hb'); obtain ⟨l2, hl2⟩ : ∃ l2, l2 = (L ++ [Bd.mk f t mm]).length := ⟨_, rfl⟩; rw [← hl2]; have HL2 := Lib.hid hl2; clear hown hb' hl2)
            go_roundw
            case rel => exact ⟨i + 1, G', c', l2, L ++ [⟨f, t, mm⟩], HL2.out, by omega, by rw [HL2.out]; simp; omega, HL2.out.symm, rfl, by go_num, by rw [HL2.out]; exact HO'.out, HB'.out⟩
            case measure => simp [intOf]; omega
          · go_wp2
            go_roundw
            case rel => exact ⟨i + 1, G, c2, L.length, L, rfl, by omega, by omega, rfl, rfl, by go_num, OR.out, HB.out⟩
            case measure => simp [intOf]; omega
        · go_wp2
          go_roundw
          case rel => exact ⟨i + 1, G, c2, L.length, L, rfl, by omega, by omega, rfl, rfl, by go_num, OR.out, HB.out⟩
          case measure => simp [intOf]; omega
      · obtain ⟨G', c', hv', hrb, hcc, hnn⟩ := OR.out.rb
        obtain ⟨rfl, rfl⟩ : G' = G ∧ c' = c2 := by injection hv' with e1 _ e2; exact ⟨e1.symm, e2.symm⟩
        obtain ⟨r0, r1, f0, f1⟩ := DR.out.res.two
        have HRB := Lib.hid hrb
        have HNN := Lib.hid hnn
        have hPw := D4.out.hP
        have hPl := D4.out.lt
        clear hv' hrb hnn
        go_wp2
        refine bodyPost_ret (v := .agg #[.int .i64 4, .slice G' L.length c']) (by simp [results, Try.results128, go_sem, r0, r1]) rfl (few_end ⟨by omega, by omega, by omega⟩ hcc HNN.out DR.out HRB.out (by omega) (by omega) rfl)
  · have h4' : decide (4 < m) = false := decide_eq_false h4
    obtain ⟨r0, r1, f0, f1⟩ := D2.out.res.two
    go_wp2
    refine bodyPost_ret (v := .agg #[.int .i64 m, .slice A bs.length c]) (by simp [results, Try.results128, go_sem, r0, r1]) rfl (t_end HF.out hc HN.out D2.out (by omega) rfl)
end Go.Proofs.Ytnompncmachgjaa
