/- The contract of spec.l20Times: it draws some times, of at most eight numbers, in new memory. -/
import Derived.Test.YtaifpindiphlkaaDrawPlan
import Derived.Test.YtaifpindiphlkaaFromPt
namespace Go.Proofs.Ytaifpindiphlkaa
open Go.RowKit
set_option linter.unusedVariables false
set_option maxRecDepth 10000
set_option linter.unusedSimpArgs false

theorem OwnL.set_ {w : World} {base g n c i : Nat} {xs : List Int} (h : OwnL w base (.slice (some ⟨g, 0, none⟩) n c) xs) (v : Int) : OwnL (w.setCell ⟨g, i, none⟩ (.int .i64 v)) base (.slice (some ⟨g, 0, none⟩) n c) (xs.set i v) := by
  obtain ⟨h1, ⟨e, h0⟩ | ⟨g', cap, cur, hv, hg, hh, hn, hc, hs, ht⟩⟩ := h
  · cases e
  · injection hv with e1 e2 e3
    injection e1 with e1
    injection e1 with e1
    subst e1; subst e3
    refine ⟨by simp, Or.inr ⟨g, c, cur.setIfInBounds i (.int .i64 v), by rw [List.length_set, e2], hg, ?_, by rw [List.length_set]; exact hn, hc, by simpa using hs, ?_⟩⟩
    · exact Blk.set_ (w := w) (g := g) (t := 3) (cs := cur) hh i (.int .i64 v)
    · rw [List.length_set, Array.toList_setIfInBounds, List.take_set, ht, List.map_set]
theorem OwnL.vrow' {w : World} {base g n c : Nat} {xs : List Int} (h : OwnL w base (.slice (some ⟨g, 0, none⟩) n c) xs) (hl : 1 ≤ xs.length) : VRow w g xs.length (fun a => xs.getD a 0) ∧ base ≤ g ∧ n = xs.length ∧ xs.length ≤ c := by
  obtain ⟨g', c', e, hg, hV⟩ := h.vrow rfl hl
  have hn : n = xs.length ∧ g = g' := by injection e with e1 e2 e3; injection e1 with e1; injection e1 with e1; exact ⟨e2, e1⟩
  obtain ⟨h1, ⟨e, h0⟩ | ⟨g2, cap, cur, hv, _, _, hn2, _⟩⟩ := h
  · cases e
  · injection hv with e1 e2 e3
    rw [hn.2]
    exact ⟨hV, hg, hn.1, by omega⟩
theorem OwnL.rc {w : World} {base : Nat} {v : Value} {xs : List Int} (h : OwnL w base v xs) : ∃ G c, v = .slice G xs.length c ∧ RI w base w.heap.size G xs ∧ xs.length ≤ c ∧ (G = none → c = 0) := by
  obtain ⟨G, c, rfl, hr⟩ := h.ri
  refine ⟨G, c, rfl, hr, ?_, ?_⟩ <;> obtain ⟨h1, ⟨e, h0⟩ | ⟨g2, cap, cur, hv, _, _, hn2, _⟩⟩ := h
  · omega
  · injection hv with e1 e2 e3; omega
  · injection e with e1 e2 e3; exact fun _ => e3
  · injection hv with e1 e2 e3; intro e; rw [e] at e1; cases e1
/-- Some times of at most eight points, in new memory; the reader has gone on, and nothing else has turned. -/
def DrewTimes (base g q : Nat) (w : World) (e : Ending) (w' : World) : Prop :=
  ∃ (G : Option Addr) (c : Nat) (ts : List Int), e = .returned (.slice G ts.length c) ∧ ts.length ≤ 8 ∧ (∀ t ∈ ts, -20000 ≤ t ∧ t ≤ 20000) ∧ ts.length ≤ c ∧ (G = none → c = 0) ∧ RI w' w.heap.size w'.heap.size G ts ∧ Rd w' base g (q + 40) ∧ Only g (g + 1) w w'
theorem times_end {base g q q' lo : Nat} {v : Value} {ts : List Int} {w W : World} {e : Ending} (hown : OwnL W lo v ts) (hlo : w.heap.size ≤ lo) (hr : Rd W base g q') (hq : q' ≤ q + 40) (hF : Only g (g + 1) w W) (hl : ts.length ≤ 8) (hb : ∀ t ∈ ts, -20000 ≤ t ∧ t ≤ 20000) (he : e = .returned v) : DrewTimes base g q w e W := by
  obtain ⟨G, c, rfl, hr2, hc, hn⟩ := hown.rc
  exact ⟨G, c, ts, he, hl, hb, hc, hn, hr2.wide hlo (Nat.le_refl _), hr.mono hq, hF⟩
theorem set_bound {ts : List Int} {i : Nat} {v lo hi : Int} (h : ∀ t ∈ ts, lo ≤ t ∧ t ≤ hi) (hv : lo ≤ v ∧ v ≤ hi) : ∀ t ∈ ts.set i v, lo ≤ t ∧ t ≤ hi := fun t ht => by
  rcases List.mem_or_eq_of_mem_set ht with h2 | h2
  · exact h t h2
  · rw [h2]; exact hv
theorem getD_bound {ts : List Int} {i : Nat} {lo hi : Int} (h : ∀ t ∈ ts, lo ≤ t ∧ t ≤ hi) (hi' : i < ts.length) : lo ≤ ts.getD i 0 ∧ ts.getD i 0 ≤ hi := by
  have e : ts[i]? = some ts[i] := List.getElem?_eq_getElem hi'
  have : ts.getD i 0 = ts[i] := by simp [List.getD, e]
  rw [this]; exact h _ (List.getElem_mem _)
theorem onlyB {g B : Nat} {w wx w11 : World} {o : Obj} (h2 : Only g (g + 1) w wx) (hb : Below B (wx.alloc o) w11) (hB : w.heap.size ≤ B) : Only g (g + 1) w w11 := by
  have h3 : Only g (g + 1) w (wx.alloc o) := h2.alloc o
  exact ⟨hb.os.trans h3.os, hb.tape.trans h3.tape, hb.output.trans h3.output, Nat.le_trans h3.size hb.size, fun k hk hd => (hb.block k (by omega)).trans (h3.block k hk hd)⟩
set_option maxHeartbeats 4000000 in
theorem times_any (base g q lo hi c : Nat) (n : Int) (A : Option Addr) (bs : List Bd) (w : World) (h : Rd w base g q) (hq : q ≤ 90000) (hf : PlanFacts n bs) (hB : RB w lo hi A bs) (hlo : g < lo) (hhi : hi ≤ w.heap.size) :
    Calls Try.prog 53 #[.pointer (some ⟨g, 0, none⟩), .agg #[.int .i64 n, .slice A bs.length c]] w (DrewTimes base g q w) := by
  obtain ⟨n0, n7, hbl, hbm⟩ := hf
  have HBM := Lib.hid hbm
  have HBl := Lib.hid hB
  clear hbm hB
  obtain ⟨N, rfl⟩ := Int.eq_ofNat_of_zero_le n0
  have hg := h.lt
  have HR0 := Lib.hid h
  clear h
  go_enter Try.func53, Try.ntmps53
  go_wp2_with fail
  go_loopw [5, 6] (fun out j W => ∃ (k : Nat) (ts : List Int), k ≤ N ∧ j = .int .i64 k ∧ OwnL W (w.heap.size + 1) out ts ∧ ts.length = k ∧ (∀ t ∈ ts, -9 ≤ t ∧ t ≤ 2029) ∧ Rd W base g (q + 3 * k) ∧ Only g (g + 1) w W ∧ w.heap.size + 1 ≤ W.heap.size ∧
      Blk W w.heap.size 25 #[.int .i64 N, .slice A bs.length c]) (fun _ j _ => N - (intOf j).toNat)
  case atStart => exact ⟨0, [], Nat.zero_le _, rfl, OwnL.empty (w.alloc _) _ _ (by simp) (Nat.le_refl _), rfl, by simp, (HR0.out.alloc _).alloc _, ((Only.refl _ _ _).alloc _).alloc _, by simp, (Blk.new _ _ _).alloc _⟩
  case round =>
    obtain ⟨k, ts, hk, rfl, hown, htl, htb, hr, hF, hz, hP⟩ := hrel
    have HO := Lib.hid hown
    have HTL := Lib.hid htl
    have HTB := Lib.hid htb
    have HF := Lib.hid hF
    have HP := Lib.hid hP
    have htl' : ts.length ≤ k := by omega
    have e0 : wr.cell? ⟨w.heap.size, 0, none⟩ = some (.int .i64 N) := hP.cell 0
    have e1 : wr.cell? ⟨w.heap.size, 1, none⟩ = some (.slice A bs.length c) := hP.cell 1
    clear hown htl htb hP
    by_cases hlt : k < N
    · have h7 : (k : Int) < 7 := by omega
      go_wp2_with fail
      refine (pick_any base g _ 30 _ hr (by omega)).mono ?_
      rintro e w3 ⟨k3, rfl, k30, k31, _, hr3, ho3, hs3⟩
      have k31' := k31 (by omega)
      go_wp2_with fail
      refine (pick_any base g _ 10 _ hr3 (by omega)).mono ?_
      rintro e w4 ⟨k4, rfl, k40, k41, _, hr4, ho4, hs4⟩
      have k41' := k41 (by omega)
      go_wp2_with fail
      refine (pick_any base g _ 200 _ hr4 (by omega)).mono ?_
      rintro e w5 ⟨k5, rfl, k50, k51, _, hr5, ho5, hs5⟩
      have k51' := k51 (by omega)
      have O5 := Lib.hid (((HO.out.pick ho3 (by omega)).pick ho4 (by omega)).pick ho5 (by omega))
      have F5 := Lib.hid (Only.only ho5 (Nat.le_refl _) (Nat.le_refl _) (Only.only ho4 (Nat.le_refl _) (Nat.le_refl _) (Only.only ho3 (Nat.le_refl _) (Nat.le_refl _) HF.out)))
      have P5 := Lib.hid (((HP.out.only ho3 (.inr (by omega))).only ho4 (.inr (by omega))).only ho5 (.inr (by omega)))
      have D5 := Lib.hid hr5
      have hx : 0 ≤ k5 / 199 ∧ k5 / 199 ≤ 1 := by omega
      clear k31 k41 k51 hr hr3 hr4 hr5 ho3 ho4 ho5
      go_wp2_with (at_builtin; refine wpList_push rfl _ _ rfl (w.heap.size + 1) _ _ rfl (O5.out.alloc _) w5.heap.size (k3 - k4 + k5 / 199 * 2000) rfl (by simp) (by omega) (by simp; omega) ?_; intro v1 w6 hown6 hb6)
      go_roundw
      case rel =>
        refine ⟨k + 1, ts ++ [k3 - k4 + k5 / 199 * 2000], by omega, by go_num, hown6, by rw [List.length_append, HTL.out]; rfl, ?_, (Rd.below (D5.out.alloc _) hb6 (by omega)).mono (by omega), onlyB F5.out hb6 (by omega), ?_, (P5.out.alloc _).below hb6 (by omega)⟩
        · intro t ht
          rcases List.mem_append.1 ht with ht | ht
          · exact HTB.out t ht
          · simp at ht; subst ht; omega
        · have := hb6.size; simp only [sz] at this; omega
      case measure => simp [intOf]; omega
    · obtain rfl : k = N := by omega
      go_wp2_with fail
      refine (pick_any base g _ 3 _ hr (by omega)).mono ?_
      rintro e w3 ⟨k3, rfl, k30, k31, _, hr3, ho3, hs3⟩
      have k31' := k31 (by omega)
      have F3 := Lib.hid (Only.only ho3 (Nat.le_refl _) (Nat.le_refl _) HF.out)
      have P3 := Lib.hid (HP.out.only ho3 (.inr (by omega)))
      have O3 := Lib.hid (HO.out.pick ho3 (by omega))
      have D3 := Lib.hid hr3
      have zs3 := ho3.size
      have q0 : w3.cell? ⟨w.heap.size, 0, none⟩ = some (.int .i64 k) := P3.out.cell 0
      have q1 : w3.cell? ⟨w.heap.size, 1, none⟩ = some (.slice A bs.length c) := P3.out.cell 1
      clear e0 e1 hF HF HP HO ho3 hr3 hr hs3 k31 hlt
      by_cases h3 : 0 < k3
      · go_wp2_with fail
        refine (specPlanOk_any _ _ _ bs _ ((HBl.out.same (Same.of_only F3.out (.inr (by omega))) hhi).bat) (by omega)).mono ?_
        rintro e w4 ⟨rfl, hbw4⟩
        have F4 := Lib.hid (F3.out.below hbw4)
        have P4 := Lib.hid (P3.out.below' hbw4)
        have O4 := Lib.hid (O3.out.below hbw4)
        have D4 := Lib.hid (D3.out.same (Same.below hbw4 (Same.refl _ _ _)))
        have zs4 := hbw4.size
        clear hbw4 q0 q1
        cases hp : planOk k bs
        · go_wp2_with fail
          clear hp
          go_wp2_with fail; refine (odd_any base g _ 20 _ D4.out (by omega) (by omega) (by omega)).mono ?_; rintro e w10 ⟨b, rfl, hr10, ho10, hs10⟩; have O10 := Lib.hid (O4.out.pick ho10 (by omega)); have F10 := Lib.hid (Only.only ho10 (Nat.le_refl _) (Nat.le_refl _) F4.out); have D10 := Lib.hid hr10; have zs10 := ho10.size; have zp10 := P4.out.lt; have tl8 : List.length ts ≤ 7 := (by omega); cases b; (case false => go_wp2; go_ret; exact times_end O10.out (by omega) D10.out (by omega) F10.out (by omega) (fun t ht => by have := HTB.out t ht; omega) rfl); (case true => go_wp2_with (at_builtin; refine wpList_push rfl _ _ rfl (w.heap.size + 1) _ _ rfl (O10.out.alloc _) w10.heap.size 0 rfl (by simp) (by omega) (by simp; omega) ?_; intro v1 w11 hown11 hb11); go_ret; exact times_end hown11 (by omega) (Rd.below (D10.out.alloc _) hb11 (by omega)) (by omega) (onlyB F10.out hb11 (by omega)) (by simp; omega) (fun t ht => by rcases List.mem_append.1 ht with ht | ht; (have bb : ∀ t ∈ ts, -20000 ≤ t ∧ t ≤ 20000 := (fun t ht => by have := HTB.out t ht; omega); exact bb t ht); (simp at ht; subst ht; omega)) rfl)
        · obtain ⟨n1, n6, _, hin⟩ := planOk_of hp
          have HIN := Lib.hid hin
          have HBM2 := Lib.hid (HBM.out hp)
          obtain ⟨gT, cT, hv, hgT, _⟩ := O4.out.vrow (N := k) HTL.out (by omega)
          subst hv
          clear hp hin
          go_wp2
          go_loopw [7] (fun r W => ∃ (rr : Nat) (us : List Int), rr ≤ 8 ∧ r = .int .i64 rr ∧ OwnL W (w.heap.size + 1) (.slice (some ⟨gT, 0, none⟩) k cT) us ∧ us.length = k ∧ (∀ t ∈ us, -9 - 99 * (16 * (rr : Int)) ≤ t ∧ t ≤ 2029) ∧ Only g (g + 1) w W ∧ Rd W base g (q + 3 * k + 1) ∧ Blk W w.heap.size 25 #[.int .i64 k, .slice A bs.length c] ∧ w4.heap.size ≤ W.heap.size) (fun r _ => 8 - (intOf r).toNat)
          case atStart => exact ⟨0, ts, Nat.zero_le _, rfl, O4.out, HTL.out, fun t ht => by have := HTB.out t ht; simp; omega, F4.out, D4.out, P4.out, Nat.le_refl _⟩
          case round =>
            obtain ⟨r, us, hr8, rfl, hO, hul, hub, hF, hD, hP, hz2⟩ := hrel
            have O6 := Lib.hid hO
            have UL := Lib.hid hul
            have UB := Lib.hid hub
            have F6 := Lib.hid hF
            have D6 := Lib.hid hD
            have P6 := Lib.hid hP
            have e0 : wr.cell? ⟨w.heap.size, 0, none⟩ = some (.int .i64 k) := hP.cell 0
            have e1 : wr.cell? ⟨w.heap.size, 1, none⟩ = some (.slice A bs.length c) := hP.cell 1
            clear hO hul hub hF hD hP
            by_cases hlt : r < 8
            · have hd8 : decide ((r : Int) < 8) = true := by simp; omega
              go_wp2
              go_loopw [8] (fun kx W => ∃ (kk : Nat) (us : List Int), kk ≤ bs.length ∧ kx = .int .i64 kk ∧ OwnL W (w.heap.size + 1) (.slice (some ⟨gT, 0, none⟩) k cT) us ∧ us.length = k ∧ (∀ t ∈ us, -9 - 99 * (16 * (r : Int) + kk) ≤ t ∧ t ≤ 2029) ∧ Only g (g + 1) w W ∧ Rd W base g (q + 3 * k + 1) ∧ Blk W w.heap.size 25 #[.int .i64 k, .slice A bs.length c] ∧ w4.heap.size ≤ W.heap.size) (fun kx _ => bs.length - (intOf kx).toNat)
              case atStart => exact ⟨0, us, Nat.zero_le _, rfl, O6.out, UL.out, fun t ht => by have := UB.out t ht; simp; omega, F6.out, D6.out, P6.out, hz2⟩
              case round =>
                obtain ⟨kk, us, hkk, rfl, hO, hul, hub, hF, hD, hP, hz3⟩ := hrel
                have O7 := Lib.hid hO
                have UL7 := Lib.hid hul
                have UB7 := Lib.hid hub
                have F7 := Lib.hid hF
                have D7 := Lib.hid hD
                have P7 := Lib.hid hP
                have e0 : wr.cell? ⟨w.heap.size, 0, none⟩ = some (.int .i64 k) := hP.cell 0
                have e1 : wr.cell? ⟨w.heap.size, 1, none⟩ = some (.slice A bs.length c) := hP.cell 1
                obtain ⟨hV, hgT', hx1, hx2⟩ := hO.vrow' (by omega)
                clear hx1 hx2
                by_cases hlt3 : kk < bs.length
                · obtain ⟨b, off, x, rfl, hblt, hx, hxm, d0, d1, d2⟩ := ((HBl.out.same (Same.of_only hF (.inr (by omega))) hhi).bat).at_ hlt3
                  have hxi := HIN.out x hxm
                  clear hx hxm
                  obtain ⟨f, t, m⟩ := x
                  simp only at d0 d1 d2 hxi
                  obtain ⟨f, rfl⟩ := Int.eq_ofNat_of_zero_le hxi.1
                  obtain ⟨t, rfl⟩ := Int.eq_ofNat_of_zero_le hxi.2.2.1
                  have hf : f < us.length := by omega
                  have ht : t < us.length := by omega
                  have p1 := hV.cell hf
                  have p2 := hV.cell ht
                  have vb1 := getD_bound hub hf
                  have vb2 := getD_bound hub ht
                  have HVB := Lib.hid (show mn (us.getD t 0) (us.getD f 0 + m) ≤ 2029 ∧ -9 - 99 * (16 * (r : Int) + (kk + 1)) ≤ mn (us.getD t 0) (us.getD f 0 + m) by
                    unfold mn; split <;> omega)
                  have hwm : IntKind.i64.wrap (us.getD f 0 + m) = us.getD f 0 + m := IntWalk.i64_in _ ⟨by omega, by omega⟩
                  have hlf : f < k := by omega
                  have hlt' : t < k := by omega
                  clear hO hul hub hF hD hP hV vb1 vb2 hf ht
                  generalize us.getD t 0 = vt at *
                  generalize us.getD f 0 = vf at *
                  go_wp2
                  have F : ∀ w5, w5 = wr.alloc (Obj.cells #[Value.int IntKind.i64 ↑f, Value.int IntKind.i64 ↑t, Value.int IntKind.i64 m] 64) → w5.cell? ⟨wr.heap.size, 0, none⟩ = some (.int .i64 f) ∧ w5.cell? ⟨wr.heap.size, 1, none⟩ = some (.int .i64 t) ∧ w5.cell? ⟨wr.heap.size, 2, none⟩ = some (.int .i64 m) ∧ w5.cell? ⟨gT, f, none⟩ = some (.int .i64 vf) ∧ w5.cell? ⟨gT, t, none⟩ = some (.int .i64 vt) ∧ OwnL w5 (w.heap.size + 1) (.slice (some ⟨gT, 0, none⟩) k cT) us ∧ Only g (g + 1) w w5 ∧ Rd w5 base g (q + 3 * k + 1) ∧ Blk w5 w.heap.size 25 #[.int .i64 k, .slice (some ⟨b, off, none⟩) bs.length c] ∧ w4.heap.size ≤ w5.heap.size := by
                    rintro w5 rfl
                    exact ⟨by simp, by simp, by simp, cA p1 _, cA p2 _, O7.out.alloc _, F7.out.alloc _, D7.out.alloc _, P7.out.alloc _, by simp; omega⟩
                  by_cases hmin : (vf + m) < vt
                  · have HE := Lib.hid (show mn vt (vf + m) = (vf + m) from if_pos hmin)
                    obtain ⟨w5, hw5⟩ : ∃ w5, w5 = wr.alloc (Obj.cells #[Value.int IntKind.i64 ↑f, Value.int IntKind.i64 ↑t, Value.int IntKind.i64 m] 64) := ⟨_, rfl⟩
                    obtain ⟨s0, s1, s2, s3, s4, s5, s6, s7, s8, s9⟩ := F w5 hw5
                    rw [← hw5]
                    clear hw5 F p1 p2 d0 d1 d2 e0 e1
                    go_still_tail 18, (by kernel_rfl)
                    change wpList _ _ _ _ _ w5.drew
                    have G : OwnL w5.drew (w.heap.size + 1) (.slice (some ⟨gT, 0, none⟩) k cT) us ∧ Only g (g + 1) w w5.drew ∧ Rd w5.drew base g (q + 3 * k + 1) ∧ Blk w5.drew w.heap.size 25 #[.int .i64 k, .slice (some ⟨b, off, none⟩) bs.length c] ∧ w4.heap.size ≤ w5.drew.heap.size := ⟨s5.drew, s6.drew, s7.drew, s8.drew, s9⟩
                    clear s0 s1 s2 s3 s4 s5 s6 s7 s8 s9
                    generalize w5.drew = w6 at G
                    obtain ⟨hO6, hF6, hD6, hP6, hz6⟩ := G
                    have hV6 := (hO6.vrow' (by have := UL7.out; omega)).1
                    have t1 := hV6.cell (show t < us.length by have := UL7.out; omega)
                    have t2 := hV6.frozen t
                    have OS := Lib.hid (hO6.set_ (i := t) (vf + m))
                    have FSS := Lib.hid (hF6.new (p := ⟨gT, t, none⟩) (by dsimp only; omega) (.int .i64 (vf + m)))
                    have DS := Lib.hid (hD6.same ((Same.refl 0 (g + 1) w6).set_ (p := ⟨gT, t, none⟩) (.inr (by dsimp only; omega)) (.int .i64 (vf + m))))
                    have PS := Lib.hid (hP6.far (p := ⟨gT, t, none⟩) (by dsimp only; omega) (.int .i64 (vf + m)))
                    clear hO6 hF6 hD6 hP6 hV6
                    generalize us.getD t 0 = vo at t1
                    go_wp2
                    go_roundw
                    case rel => first | exact ⟨kk + 1, by omega, by simp, us.set t (vf + m), OS.out, by rw [List.length_set]; exact UL7.out, set_bound (fun t ht => by have := UB7.out t ht; omega) (by have := HVB.out; rw [HE.out] at this; omega), FSS.out, DS.out, PS.out⟩ | exact ⟨kk + 1, us.set t (vf + m), by omega, by go_num, OS.out, by rw [List.length_set]; exact UL7.out, set_bound (fun t ht => by have := UB7.out t ht; omega) (by have := HVB.out; rw [HE.out] at this; omega), FSS.out, DS.out, PS.out, by rw [szc]; omega⟩ | ((repeat apply Exists.intro); exact ⟨⟨kk + 1, us.set t (vf + m), by omega, by go_num, OS.out, by rw [List.length_set]; exact UL7.out, set_bound (fun t ht => by have := UB7.out t ht; omega) (by have := HVB.out; rw [HE.out] at this; omega), FSS.out, DS.out, PS.out, by rw [szc]; omega⟩, rfl⟩)
                    case measure => simp [intOf]; omega
                  · have HE := Lib.hid (show mn vt (vf + m) = vt from if_neg hmin)
                    obtain ⟨w5, hw5⟩ : ∃ w5, w5 = wr.alloc (Obj.cells #[Value.int IntKind.i64 ↑f, Value.int IntKind.i64 ↑t, Value.int IntKind.i64 m] 64) := ⟨_, rfl⟩
                    obtain ⟨s0, s1, s2, s3, s4, s5, s6, s7, s8, s9⟩ := F w5 hw5
                    rw [← hw5]
                    clear hw5 F p1 p2 d0 d1 d2 e0 e1
                    go_still_tail 18, (by kernel_rfl)
                    change wpList _ _ _ _ _ w5.drew
                    have G : OwnL w5.drew (w.heap.size + 1) (.slice (some ⟨gT, 0, none⟩) k cT) us ∧ Only g (g + 1) w w5.drew ∧ Rd w5.drew base g (q + 3 * k + 1) ∧ Blk w5.drew w.heap.size 25 #[.int .i64 k, .slice (some ⟨b, off, none⟩) bs.length c] ∧ w4.heap.size ≤ w5.drew.heap.size := ⟨s5.drew, s6.drew, s7.drew, s8.drew, s9⟩
                    clear s0 s1 s2 s3 s4 s5 s6 s7 s8 s9
                    generalize w5.drew = w6 at G
                    obtain ⟨hO6, hF6, hD6, hP6, hz6⟩ := G
                    have hV6 := (hO6.vrow' (by have := UL7.out; omega)).1
                    have t1 := hV6.cell (show t < us.length by have := UL7.out; omega)
                    have t2 := hV6.frozen t
                    have OS := Lib.hid (hO6.set_ (i := t) vt)
                    have FSS := Lib.hid (hF6.new (p := ⟨gT, t, none⟩) (by dsimp only; omega) (.int .i64 vt))
                    have DS := Lib.hid (hD6.same ((Same.refl 0 (g + 1) w6).set_ (p := ⟨gT, t, none⟩) (.inr (by dsimp only; omega)) (.int .i64 vt)))
                    have PS := Lib.hid (hP6.far (p := ⟨gT, t, none⟩) (by dsimp only; omega) (.int .i64 vt))
                    clear hO6 hF6 hD6 hP6 hV6
                    generalize us.getD t 0 = vo at t1
                    go_wp2
                    go_roundw
                    case rel => first | exact ⟨kk + 1, by omega, by simp, us.set t vt, OS.out, by rw [List.length_set]; exact UL7.out, set_bound (fun t ht => by have := UB7.out t ht; omega) (by have := HVB.out; rw [HE.out] at this; omega), FSS.out, DS.out, PS.out⟩ | exact ⟨kk + 1, us.set t vt, by omega, by go_num, OS.out, by rw [List.length_set]; exact UL7.out, set_bound (fun t ht => by have := UB7.out t ht; omega) (by have := HVB.out; rw [HE.out] at this; omega), FSS.out, DS.out, PS.out, by rw [szc]; omega⟩ | ((repeat apply Exists.intro); exact ⟨⟨kk + 1, us.set t vt, by omega, by go_num, OS.out, by rw [List.length_set]; exact UL7.out, set_bound (fun t ht => by have := UB7.out t ht; omega) (by have := HVB.out; rw [HE.out] at this; omega), FSS.out, DS.out, PS.out, by rw [szc]; omega⟩, rfl⟩)
                    case measure => simp [intOf]; omega
                · clear hO hul hub hF hD hP hV
                  go_wp2
                  go_roundw
                  case rel => exact ⟨r + 1, us, by omega, by go_num, O7.out, UL7.out, fun t ht => by have := UB7.out t ht; omega, F7.out, D7.out, P7.out, hz3⟩
                  case measure => simp [intOf]; omega
            · go_wp2_with fail; refine (odd_any base g _ 20 _ D6.out (by omega) (by omega) (by omega)).mono ?_; rintro e w10 ⟨b, rfl, hr10, ho10, hs10⟩; have O10 := Lib.hid (O6.out.pick ho10 (by omega)); have F10 := Lib.hid (Only.only ho10 (Nat.le_refl _) (Nat.le_refl _) F6.out); have D10 := Lib.hid hr10; have zs10 := ho10.size; have zp10 := P6.out.lt; have tl8 : List.length us ≤ 7 := (by have := UL.out; omega); cases b; (case false => go_wp2; go_ret; exact times_end O10.out (by omega) D10.out (by omega) F10.out (by omega) (fun t ht => by have := UB.out t ht; omega) rfl); (case true => go_wp2_with (at_builtin; refine wpList_push rfl _ _ rfl (w.heap.size + 1) _ _ rfl (O10.out.alloc _) w10.heap.size 0 rfl (by simp) (by omega) (by simp; omega) ?_; intro v1 w11 hown11 hb11); go_ret; exact times_end hown11 (by omega) (Rd.below (D10.out.alloc _) hb11 (by omega)) (by omega) (onlyB F10.out hb11 (by omega)) (by simp; omega) (fun t ht => by rcases List.mem_append.1 ht with ht | ht; (have bb : ∀ t ∈ us, -20000 ≤ t ∧ t ≤ 20000 := (fun t ht => by have := UB.out t ht; omega); exact bb t ht); (simp at ht; subst ht; omega)) rfl)
      · go_wp2_with fail; refine (odd_any base g _ 20 _ D3.out (by omega) (by omega) (by omega)).mono ?_; rintro e w10 ⟨b, rfl, hr10, ho10, hs10⟩; have O10 := Lib.hid (O3.out.pick ho10 (by omega)); have F10 := Lib.hid (Only.only ho10 (Nat.le_refl _) (Nat.le_refl _) F3.out); have D10 := Lib.hid hr10; have zs10 := ho10.size; have zp10 := P3.out.lt; have tl8 : List.length ts ≤ 7 := (by omega); cases b; (case false => go_wp2; go_ret; exact times_end O10.out (by omega) D10.out (by omega) F10.out (by omega) (fun t ht => by have := HTB.out t ht; omega) rfl); (case true => go_wp2_with (at_builtin; refine wpList_push rfl _ _ rfl (w.heap.size + 1) _ _ rfl (O10.out.alloc _) w10.heap.size 0 rfl (by simp) (by omega) (by simp; omega) ?_; intro v1 w11 hown11 hb11); go_ret; exact times_end hown11 (by omega) (Rd.below (D10.out.alloc _) hb11 (by omega)) (by omega) (onlyB F10.out hb11 (by omega)) (by simp; omega) (fun t ht => by rcases List.mem_append.1 ht with ht | ht; (have bb : ∀ t ∈ ts, -20000 ≤ t ∧ t ≤ 20000 := (fun t ht => by have := HTB.out t ht; omega); exact bb t ht); (simp at ht; subst ht; omega)) rfl)
end Go.Proofs.Ytaifpindiphlkaa
