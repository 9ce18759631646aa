/- Contracts of the draws of a plan and times; for codes of bytes, whatever they are. -/
import Derived.Test.YtaifpindiphlkaaDraws2
namespace Go.Proofs.Ytaifpindiphlkaa
open Go.RowKit
set_option linter.unusedVariables false
set_option maxRecDepth 10000
set_option linter.unusedSimpArgs false

/-- Some plan and times, in new memory; nothing that was there has turned. -/
def DrawnT (w : World) (e : Ending) (w' : World) : Prop :=
  ∃ (n : Int) (A : Option Addr) (c : Nat) (bs : List Bd) (G : Option Addr) (cg : Nat) (ts : List Int), e = .returned (.tuple #[.agg #[.int .i64 n, .slice A bs.length c], .slice G ts.length cg]) ∧ PlanFacts n bs ∧ bs.length ≤ c ∧ (A = none → c = 0) ∧ TimesFacts ts ∧ ts.length ≤ cg ∧ (G = none → cg = 0) ∧ RB w' w.heap.size w'.heap.size A bs ∧ RI w' w.heap.size w'.heap.size G ts ∧ Below w.heap.size w w'
theorem two_sets {w W : World} {u0 u1 : Value} : ((W.setCell ⟨w.heap.size, 0, none⟩ u0).setCell ⟨w.heap.size, 1, none⟩ u1).heap.size = W.heap.size ∧ (∀ lo hi, w.heap.size < lo → Same lo hi W ((W.setCell ⟨w.heap.size, 0, none⟩ u0).setCell ⟨w.heap.size, 1, none⟩ u1)) ∧ (Below w.heap.size w W → Below w.heap.size w ((W.setCell ⟨w.heap.size, 0, none⟩ u0).setCell ⟨w.heap.size, 1, none⟩ u1)) :=
  ⟨by rw [szc, szc], fun lo hi h => ((Same.refl _ _ _).set_ (.inl h) _).set_ (.inl h) _, fun h => vset (vset h (Nat.le_refl _) _) (Nat.le_refl _) _⟩
theorem drawnT_end {w W : World} {lo1 lo2 hi1 hi2 : Nat} {n : Int} {A : Option Addr} {c : Nat} {bs : List Bd} {G : Option Addr} {cg : Nat} {ts : List Int} {e : Ending} {u0 u1 : Value} (hf : PlanFacts n bs) (hc : bs.length ≤ c) (hn : A = none → c = 0) (ht : TimesFacts ts) (hc2 : ts.length ≤ cg) (hn2 : G = none → cg = 0) (hB : RB W lo1 hi1 A bs) (hI : RI W lo2 hi2 G ts) (h1 : w.heap.size < lo1) (h2 : w.heap.size < lo2) (hh : hi1 ≤ W.heap.size) (hh2 : hi2 ≤ W.heap.size) (hb : Below w.heap.size w W) (he : e = .returned (.tuple #[.agg #[.int .i64 n, .slice A bs.length c], .slice G ts.length cg])) :
    DrawnT w e ((W.setCell ⟨w.heap.size, 0, none⟩ u0).setCell ⟨w.heap.size, 1, none⟩ u1) := by
  obtain ⟨k1, k2, k3⟩ := two_sets (w := w) (W := W) (u0 := u0) (u1 := u1)
  refine ⟨n, A, c, bs, G, cg, ts, he, hf, hc, hn, ht, hc2, hn2, ?_, ?_, k3 hb⟩
  · rw [k1]; exact (hB.same (k2 _ _ h1) hh).wide (by omega) hh
  · rw [k1]; exact (hI.same (k2 _ _ h2) hh2).wide (by omega) hh2
theorem drawTimesOk_any (A : Option Addr) (c : Nat) (xs : List Int) (w : World) (h : Bytes w A c xs) : Calls Try.prog 15 #[.slice A xs.length c] w (DrawnT w) := by
  go_enter Try.func15, Try.ntmps15
  go_wp2_with fail
  refine (open_of (h.alloc _)).mono ?_; rintro e w1 ⟨g, rfl, hr1, hb1, hg1⟩
  have hgb := hr1.base_le
  have hz1 := hb1.size
  simp only [sz] at hgb hz1
  go_wp2_with fail
  refine (timed_any _ g 0 _ w1 hr1 (by omega) (by omega) (by omega)).mono ?_; rintro e w2 ⟨n, A2, c2, bs, G, cg, ts, rfl, hf, hc, hn, htf, hc3, hn2, hrb, hri, hrd, ho⟩
  have hz2 := ho.size
  have qb : Blk w2 w.heap.size 25 #[.int .i64 0, .slice none 0 0] := (((Blk.new w _ _).below hb1 (by simp)).only ho (by omega))
  have q0 : w2.cell? ⟨w.heap.size, 0, none⟩ = some (.int .i64 0) := qb.cell 0
  have q1 : w2.cell? ⟨w.heap.size, 1, none⟩ = some (.slice none 0 0) := qb.cell 1
  have f0 := qb.frozen 0
  have f1 := qb.frozen 1
  have HB := Lib.hid (viaOnly ho (by omega) (via hb1 (valloc (Below.refl w.heap.size w) _)))
  have HRB := Lib.hid hrb
  have HRI := Lib.hid hri
  have HN := Lib.hid hn
  have HN2 := Lib.hid hn2
  have HTF := Lib.hid htf
  have HQB := Lib.hid qb
  clear hb1 ho hrb hri hn hn2 htf qb hr1
  clear hrd
  go_wp2
  refine bodyPost_ret (v := .tuple #[.agg #[.int .i64 n, .slice A2 bs.length c2], .slice G ts.length cg]) (by simp [results, Try.results15, go_sem, q0, q1]) rfl (drawnT_end hf hc HN.out HTF.out hc3 HN2.out HRB.out HRI.out (by omega) (by omega) (Nat.le_refl _) (Nat.le_refl _) HB.out rfl)
theorem drawBrokenOf_any (A : Option Addr) (c : Nat) (xs : List Int) (w : World) (h : Bytes w A c xs) : Calls Try.prog 26 #[.slice A xs.length c] w (DrawnT w) := by
  go_enter Try.func26, Try.ntmps26
  go_wp2_with fail
  refine (open_of (h.alloc _)).mono ?_; rintro e w1 ⟨g, rfl, hr1, hb1, hg1⟩
  have hgb := hr1.base_le
  have hz1 := hb1.size
  simp only [sz] at hgb hz1
  go_wp2_with fail
  refine (timed_any _ g 0 _ w1 hr1 (by omega) (by omega) (by omega)).mono ?_; rintro e w2 ⟨n, A2, c2, bs, G, cg, ts, rfl, hf, hc, hn, htf, hc3, hn2, hrb, hri, hrd, ho⟩
  have hz2 := ho.size
  have qb : Blk w2 w.heap.size 25 #[.int .i64 0, .slice none 0 0] := (((Blk.new w _ _).below hb1 (by simp)).only ho (by omega))
  have q0 : w2.cell? ⟨w.heap.size, 0, none⟩ = some (.int .i64 0) := qb.cell 0
  have q1 : w2.cell? ⟨w.heap.size, 1, none⟩ = some (.slice none 0 0) := qb.cell 1
  have f0 := qb.frozen 0
  have f1 := qb.frozen 1
  have HB := Lib.hid (viaOnly ho (by omega) (via hb1 (valloc (Below.refl w.heap.size w) _)))
  have HRB := Lib.hid hrb
  have HRI := Lib.hid hri
  have HN := Lib.hid hn
  have HN2 := Lib.hid hn2
  have HTF := Lib.hid htf
  have HQB := Lib.hid qb
  clear hb1 ho hrb hri hn hn2 htf qb hr1
  clear hrd
  go_wp2
  refine bodyPost_ret (v := .tuple #[.agg #[.int .i64 n, .slice A2 bs.length c2], .slice G ts.length cg]) (by simp [results, Try.results26, go_sem, q0, q1]) rfl (drawnT_end hf hc HN.out HTF.out hc3 HN2.out HRB.out HRI.out (by omega) (by omega) (Nat.le_refl _) (Nat.le_refl _) HB.out rfl)
/-- The same, with a number. -/
def DrawnTD (w : World) (e : Ending) (w' : World) : Prop :=
  ∃ (n : Int) (A : Option Addr) (c : Nat) (bs : List Bd) (G : Option Addr) (cg : Nat) (ts : List Int) (d : Int), e = .returned (.tuple #[.agg #[.int .i64 n, .slice A bs.length c], .slice G ts.length cg, .int .i64 d]) ∧ PlanFacts n bs ∧ bs.length ≤ c ∧ (A = none → c = 0) ∧ TimesFacts ts ∧ ts.length ≤ cg ∧ (G = none → cg = 0) ∧ -20 ≤ d ∧ d ≤ 2100 ∧ RB w' w.heap.size w'.heap.size A bs ∧ RI w' w.heap.size w'.heap.size G ts ∧ Below w.heap.size w w'
theorem drawnTD_end {w W : World} {lo1 lo2 hi1 hi2 : Nat} {n : Int} {A : Option Addr} {c : Nat} {bs : List Bd} {G : Option Addr} {cg : Nat} {ts : List Int} {d : Int} {e : Ending} {u0 u1 : Value} (hf : PlanFacts n bs) (hc : bs.length ≤ c) (hn : A = none → c = 0) (ht : TimesFacts ts) (hc2 : ts.length ≤ cg) (hn2 : G = none → cg = 0) (hd : -20 ≤ d ∧ d ≤ 2100) (hB : RB W lo1 hi1 A bs) (hI : RI W lo2 hi2 G ts) (h1 : w.heap.size < lo1) (h2 : w.heap.size < lo2) (hh : hi1 ≤ W.heap.size) (hh2 : hi2 ≤ W.heap.size) (hb : Below w.heap.size w W) (he : e = .returned (.tuple #[.agg #[.int .i64 n, .slice A bs.length c], .slice G ts.length cg, .int .i64 d])) :
    DrawnTD w e ((W.setCell ⟨w.heap.size, 0, none⟩ u0).setCell ⟨w.heap.size, 1, none⟩ u1) := by
  obtain ⟨k1, k2, k3⟩ := two_sets (w := w) (W := W) (u0 := u0) (u1 := u1)
  refine ⟨n, A, c, bs, G, cg, ts, d, he, hf, hc, hn, ht, hc2, hn2, hd.1, hd.2, ?_, ?_, k3 hb⟩
  · rw [k1]; exact (hB.same (k2 _ _ h1) hh).wide (by omega) hh
  · rw [k1]; exact (hI.same (k2 _ _ h2) hh2).wide (by omega) hh2
set_option maxHeartbeats 2000000 in
theorem drawMovedBy_any (A : Option Addr) (c : Nat) (xs : List Int) (w : World) (h : Bytes w A c xs) : Calls Try.prog 23 #[.slice A xs.length c] w (DrawnTD w) := by
  go_enter Try.func23, Try.ntmps23
  go_wp2_with fail
  refine (open_of (h.alloc _)).mono ?_; rintro e w1 ⟨g, rfl, hr1, hb1, hg1⟩
  have hgb := hr1.base_le
  have hz1 := hb1.size
  simp only [sz] at hgb hz1
  go_wp2_with fail
  refine (timed_any _ g 0 _ w1 hr1 (by omega) (by omega) (by omega)).mono ?_; rintro e w2 ⟨n, A2, c2, bs, G, cg, ts, rfl, hf, hc, hn, htf, hc3, hn2, hrb, hri, hrd, ho⟩
  have hz2 := ho.size
  have qb : Blk w2 w.heap.size 25 #[.int .i64 0, .slice none 0 0] := (((Blk.new w _ _).below hb1 (by simp)).only ho (by omega))
  have q0 : w2.cell? ⟨w.heap.size, 0, none⟩ = some (.int .i64 0) := qb.cell 0
  have q1 : w2.cell? ⟨w.heap.size, 1, none⟩ = some (.slice none 0 0) := qb.cell 1
  have f0 := qb.frozen 0
  have f1 := qb.frozen 1
  have HB := Lib.hid (viaOnly ho (by omega) (via hb1 (valloc (Below.refl w.heap.size w) _)))
  have HRB := Lib.hid hrb
  have HRI := Lib.hid hri
  have HN := Lib.hid hn
  have HN2 := Lib.hid hn2
  have HTF := Lib.hid htf
  have HQB := Lib.hid qb
  clear hb1 ho hrb hri hn hn2 htf qb hr1
  have HRD := Lib.hid hrd
  clear hrd
  go_wp2_with fail
  obtain ⟨w3, hw3⟩ : ∃ w3, w3 = (w2.alloc (.cells #[.int .i64 n, .slice A2 bs.length c2] 25)) := ⟨_, rfl⟩
  have FX : Blk w3 w.heap.size 25 #[.int .i64 0, .slice none 0 0] ∧ Blk w3 w2.heap.size 25 #[.int .i64 n, .slice A2 bs.length c2] ∧ Below w.heap.size w w3 ∧ RB w3 w1.heap.size w2.heap.size A2 bs ∧ RI w3 w1.heap.size w2.heap.size G ts ∧ w3.heap.size = w2.heap.size + 1 := by
    subst hw3
    exact ⟨HQB.out.alloc _, Blk.new _ _ _, valloc HB.out _, HRB.out.same ((Same.refl _ _ _).alloc _) (Nat.le_refl _), HRI.out.same ((Same.refl _ _ _).alloc _) (Nat.le_refl _), by simp⟩
  obtain ⟨s0, s1, s2, s3, s4, s5⟩ := FX
  rw [← hw3]
  have p0 : w3.cell? ⟨w2.heap.size, 0, none⟩ = some (.int .i64 n) := s1.cell 0
  have p1 : w3.cell? ⟨w2.heap.size, 1, none⟩ = some (.slice A2 bs.length c2) := s1.cell 1
  have hneR : ¬ w.heap.size = w2.heap.size := by omega
  have hm1 : True := trivial
  have S0 := Lib.hid s0
  have S2 := Lib.hid s2
  have S3 := Lib.hid s3
  have S4 := Lib.hid s4
  have S5 := Lib.hid s5
  clear s0 s1 s2 s3 s4 s5 q0 q1 f0 f1
  have HD := Lib.hid (HRD.out.alloc (.cells #[.int .i64 n, .slice A2 bs.length c2] 25)).drew
  rw [← hw3] at HD
  clear hw3
  refine wp_region_held_drew (S := (fun w' => w'.cell? ⟨w2.heap.size, 0, none⟩ = some (.int .i64 n) ∧ w'.cell? ⟨w2.heap.size, 1, none⟩ = some (.slice A2 bs.length c2))) (by kernel_rfl) ?_ (fun hHeld => ?_)
  · (try dsimp only)
    (first | done | (first | exact ⟨p0, p1⟩ | exact ⟨t0, t1⟩ | exact ⟨u0, u1⟩ | exact ⟨cS (cS u0 hneR) hneR, cS (cS u1 hneR) hneR⟩ | go_keep))
  (refine wpAnyH_take (i := 0) (v := ?tv1) rfl (by kernel_rfl) (by kernel_rfl) (by kernel_rfl) (fun _ _ _ h => h) (Or.inl ⟨by kernel_rfl, ?ty1⟩) (by assumption) ?tr1; (case ty1 => (intro w' hSw; (try dsimp only at hSw); go_simp <;> with_reducible rfl)); (try simp only [Act.put, List.getElem_toArray, List.getElem_cons_succ, List.getElem_cons_zero, List.setIfInBounds_toArray, List.set_cons_zero, List.set_cons_succ]))
  (refine wpAnyH_take (i := 1) (v := ?tv2) rfl (by kernel_rfl) (by kernel_rfl) (by kernel_rfl) (fun _ _ _ h => h) (Or.inl ⟨by kernel_rfl, ?ty2⟩) (by assumption) ?tr2; (case ty2 => (intro w' hSw; (try dsimp only at hSw); go_simp <;> with_reducible rfl)); (try simp only [Act.put, List.getElem_toArray, List.getElem_cons_succ, List.getElem_cons_zero, List.setIfInBounds_toArray, List.set_cons_zero, List.set_cons_succ]))
  (refine wpAnyH_take (i := 2) (v := ?tv3) rfl (by kernel_rfl) (by kernel_rfl) (by kernel_rfl) (fun _ _ _ h => h) (Or.inl ⟨by kernel_rfl, ?ty3⟩) (by assumption) ?tr3; (case ty3 => (intro w' hSw; (try dsimp only at hSw); go_simp <;> with_reducible rfl)); (try simp only [Act.put, List.getElem_toArray, List.getElem_cons_succ, List.getElem_cons_zero, List.setIfInBounds_toArray, List.set_cons_zero, List.set_cons_succ]))
  (refine wpAnyH_take (i := 5) (v := ?tv4) rfl (by kernel_rfl) (by kernel_rfl) (by kernel_rfl) (fun _ _ _ h => h) (Or.inl ⟨by kernel_rfl, ?ty4⟩) (by assumption) ?tr4; (case ty4 => (intro w' hSw; (try dsimp only at hSw); go_simp <;> with_reducible rfl)); (try simp only [Act.put, List.getElem_toArray, List.getElem_cons_succ, List.getElem_cons_zero, List.setIfInBounds_toArray, List.set_cons_zero, List.set_cons_succ]))
  (refine wpAnyH_ready (rs := [3]) (by kernel_rfl) (by simp) ?_; refine AllReadyH.cons rfl (fun K hK => ?_) AllReadyH.nil; (first | (go_simp; (first | (go_at_call 56; clear hm1; refine (pick_any _ g _ 50 _ HD.out (by omega)).mono ?_; rintro e w4 ⟨k4, rfl, k40, k41, _, hr4, ho4, hs4⟩; have t0 : w4.cell? ⟨w2.heap.size, 0, none⟩ = some (.int .i64 n) := Only.cell ho4 (cD p0) (by omega); have t1 : w4.cell? ⟨w2.heap.size, 1, none⟩ = some (.slice A2 bs.length c2) := Only.cell ho4 (cD p1) (by omega)) | (go_at_call 56; refine (pick_any _ g _ 30 _ hr4 (by omega)).mono ?_; rintro e w5 ⟨k5, rfl, k50, k51, _, hr5, ho5, hs5⟩; have u0 : w5.cell? ⟨w2.heap.size, 0, none⟩ = some (.int .i64 n) := Only.cell ho5 t0 (by omega); have u1 : w5.cell? ⟨w2.heap.size, 1, none⟩ = some (.slice A2 bs.length c2) := Only.cell ho5 t1 (by omega); have T5 := Lib.hid ((S0.out.drew.only ho4 (by omega)).only ho5 (by omega)); have r0 : w5.cell? ⟨w.heap.size, 0, none⟩ = some (.int .i64 0) := T5.out.cell 0; have r1 : w5.cell? ⟨w.heap.size, 1, none⟩ = some (.slice none 0 0) := T5.out.cell 1; have f0 := T5.out.frozen 0; have f1 := T5.out.frozen 1)); (try go_wp2_with fail)) | (first | (go_at_call 56; clear hm1; refine (pick_any _ g _ 50 _ HD.out (by omega)).mono ?_; rintro e w4 ⟨k4, rfl, k40, k41, _, hr4, ho4, hs4⟩; have t0 : w4.cell? ⟨w2.heap.size, 0, none⟩ = some (.int .i64 n) := Only.cell ho4 (cD p0) (by omega); have t1 : w4.cell? ⟨w2.heap.size, 1, none⟩ = some (.slice A2 bs.length c2) := Only.cell ho4 (cD p1) (by omega)) | (go_at_call 56; refine (pick_any _ g _ 30 _ hr4 (by omega)).mono ?_; rintro e w5 ⟨k5, rfl, k50, k51, _, hr5, ho5, hs5⟩; have u0 : w5.cell? ⟨w2.heap.size, 0, none⟩ = some (.int .i64 n) := Only.cell ho5 t0 (by omega); have u1 : w5.cell? ⟨w2.heap.size, 1, none⟩ = some (.slice A2 bs.length c2) := Only.cell ho5 t1 (by omega); have T5 := Lib.hid ((S0.out.drew.only ho4 (by omega)).only ho5 (by omega)); have r0 : w5.cell? ⟨w.heap.size, 0, none⟩ = some (.int .i64 0) := T5.out.cell 0; have r1 : w5.cell? ⟨w.heap.size, 1, none⟩ = some (.slice none 0 0) := T5.out.cell 1; have f0 := T5.out.frozen 0; have f1 := T5.out.frozen 1)) | go_simp); refine hK.out _ _ ?_ (fun hHeld => ?_); (focus ((try dsimp only); (first | done | (first | exact ⟨p0, p1⟩ | exact ⟨t0, t1⟩ | exact ⟨u0, u1⟩ | exact ⟨cS (cS u0 hneR) hneR, cS (cS u1 hneR) hneR⟩ | go_keep)))); clear hK K; (try simp only [Act.put, List.getElem_toArray, List.getElem_cons_succ, List.getElem_cons_zero, List.setIfInBounds_toArray, List.set_cons_zero, List.set_cons_succ]))
  (refine wpAnyH_take (i := 4) (v := ?tv6) rfl (by kernel_rfl) (by kernel_rfl) (by kernel_rfl) (fun _ _ _ h => h) (Or.inl ⟨by kernel_rfl, ?ty6⟩) (by assumption) ?tr6; (case ty6 => (intro w' hSw; (try dsimp only at hSw); go_simp <;> with_reducible rfl)); (try simp only [Act.put, List.getElem_toArray, List.getElem_cons_succ, List.getElem_cons_zero, List.setIfInBounds_toArray, List.set_cons_zero, List.set_cons_succ]))
  (refine wpAnyH_ready (rs := [6]) (by kernel_rfl) (by simp) ?_; refine AllReadyH.cons rfl (fun K hK => ?_) AllReadyH.nil; (first | (go_simp; (first | (go_at_call 56; clear hm1; refine (pick_any _ g _ 50 _ HD.out (by omega)).mono ?_; rintro e w4 ⟨k4, rfl, k40, k41, _, hr4, ho4, hs4⟩; have t0 : w4.cell? ⟨w2.heap.size, 0, none⟩ = some (.int .i64 n) := Only.cell ho4 (cD p0) (by omega); have t1 : w4.cell? ⟨w2.heap.size, 1, none⟩ = some (.slice A2 bs.length c2) := Only.cell ho4 (cD p1) (by omega)) | (go_at_call 56; refine (pick_any _ g _ 30 _ hr4 (by omega)).mono ?_; rintro e w5 ⟨k5, rfl, k50, k51, _, hr5, ho5, hs5⟩; have u0 : w5.cell? ⟨w2.heap.size, 0, none⟩ = some (.int .i64 n) := Only.cell ho5 t0 (by omega); have u1 : w5.cell? ⟨w2.heap.size, 1, none⟩ = some (.slice A2 bs.length c2) := Only.cell ho5 t1 (by omega); have T5 := Lib.hid ((S0.out.drew.only ho4 (by omega)).only ho5 (by omega)); have r0 : w5.cell? ⟨w.heap.size, 0, none⟩ = some (.int .i64 0) := T5.out.cell 0; have r1 : w5.cell? ⟨w.heap.size, 1, none⟩ = some (.slice none 0 0) := T5.out.cell 1; have f0 := T5.out.frozen 0; have f1 := T5.out.frozen 1)); (try go_wp2_with fail)) | (first | (go_at_call 56; clear hm1; refine (pick_any _ g _ 50 _ HD.out (by omega)).mono ?_; rintro e w4 ⟨k4, rfl, k40, k41, _, hr4, ho4, hs4⟩; have t0 : w4.cell? ⟨w2.heap.size, 0, none⟩ = some (.int .i64 n) := Only.cell ho4 (cD p0) (by omega); have t1 : w4.cell? ⟨w2.heap.size, 1, none⟩ = some (.slice A2 bs.length c2) := Only.cell ho4 (cD p1) (by omega)) | (go_at_call 56; refine (pick_any _ g _ 30 _ hr4 (by omega)).mono ?_; rintro e w5 ⟨k5, rfl, k50, k51, _, hr5, ho5, hs5⟩; have u0 : w5.cell? ⟨w2.heap.size, 0, none⟩ = some (.int .i64 n) := Only.cell ho5 t0 (by omega); have u1 : w5.cell? ⟨w2.heap.size, 1, none⟩ = some (.slice A2 bs.length c2) := Only.cell ho5 t1 (by omega); have T5 := Lib.hid ((S0.out.drew.only ho4 (by omega)).only ho5 (by omega)); have r0 : w5.cell? ⟨w.heap.size, 0, none⟩ = some (.int .i64 0) := T5.out.cell 0; have r1 : w5.cell? ⟨w.heap.size, 1, none⟩ = some (.slice none 0 0) := T5.out.cell 1; have f0 := T5.out.frozen 0; have f1 := T5.out.frozen 1)) | go_simp); refine hK.out _ _ ?_ (fun hHeld => ?_); (focus ((try dsimp only); (first | done | (first | exact ⟨p0, p1⟩ | exact ⟨t0, t1⟩ | exact ⟨u0, u1⟩ | exact ⟨cS (cS u0 hneR) hneR, cS (cS u1 hneR) hneR⟩ | go_keep)))); clear hK K; (try simp only [Act.put, List.getElem_toArray, List.getElem_cons_succ, List.getElem_cons_zero, List.setIfInBounds_toArray, List.set_cons_zero, List.set_cons_succ]))
  (refine wpAnyH_take (i := 7) (v := ?tv8) rfl (by kernel_rfl) (by kernel_rfl) (by kernel_rfl) (fun _ _ _ h => h) (Or.inl ⟨by kernel_rfl, ?ty8⟩) (by assumption) ?tr8; (case ty8 => (intro w' hSw; (try dsimp only at hSw); go_simp <;> with_reducible rfl)); (try simp only [Act.put, List.getElem_toArray, List.getElem_cons_succ, List.getElem_cons_zero, List.setIfInBounds_toArray, List.set_cons_zero, List.set_cons_succ]))
  (refine wpAnyH_take (i := 8) (v := ?tv9) rfl (by kernel_rfl) (by kernel_rfl) (by kernel_rfl) (fun _ _ _ h => h) (Or.inl ⟨by kernel_rfl, ?ty9⟩) (by assumption) ?tr9; (case ty9 => (intro w' hSw; (try dsimp only at hSw); go_simp <;> with_reducible rfl)); (try simp only [Act.put, List.getElem_toArray, List.getElem_cons_succ, List.getElem_cons_zero, List.setIfInBounds_toArray, List.set_cons_zero, List.set_cons_succ]))
  (refine wpAnyH_take (i := 9) (v := ?tv10) rfl (by kernel_rfl) (by kernel_rfl) (by kernel_rfl) (fun _ _ _ h => h) (Or.inl ⟨by kernel_rfl, ?ty10⟩) (by assumption) ?tr10; (case ty10 => (intro w' hSw; (try dsimp only at hSw); go_simp <;> with_reducible rfl)); (try simp only [Act.put, List.getElem_toArray, List.getElem_cons_succ, List.getElem_cons_zero, List.setIfInBounds_toArray, List.set_cons_zero, List.set_cons_succ]))
  (refine wpAnyH_ready (rs := [10]) (by kernel_rfl) (by simp) ?_; refine AllReadyH.cons rfl (fun K hK => ?_) AllReadyH.nil; (first | (go_simp; (first | (go_at_call 56; clear hm1; refine (pick_any _ g _ 50 _ HD.out (by omega)).mono ?_; rintro e w4 ⟨k4, rfl, k40, k41, _, hr4, ho4, hs4⟩; have t0 : w4.cell? ⟨w2.heap.size, 0, none⟩ = some (.int .i64 n) := Only.cell ho4 (cD p0) (by omega); have t1 : w4.cell? ⟨w2.heap.size, 1, none⟩ = some (.slice A2 bs.length c2) := Only.cell ho4 (cD p1) (by omega)) | (go_at_call 56; refine (pick_any _ g _ 30 _ hr4 (by omega)).mono ?_; rintro e w5 ⟨k5, rfl, k50, k51, _, hr5, ho5, hs5⟩; have u0 : w5.cell? ⟨w2.heap.size, 0, none⟩ = some (.int .i64 n) := Only.cell ho5 t0 (by omega); have u1 : w5.cell? ⟨w2.heap.size, 1, none⟩ = some (.slice A2 bs.length c2) := Only.cell ho5 t1 (by omega); have T5 := Lib.hid ((S0.out.drew.only ho4 (by omega)).only ho5 (by omega)); have r0 : w5.cell? ⟨w.heap.size, 0, none⟩ = some (.int .i64 0) := T5.out.cell 0; have r1 : w5.cell? ⟨w.heap.size, 1, none⟩ = some (.slice none 0 0) := T5.out.cell 1; have f0 := T5.out.frozen 0; have f1 := T5.out.frozen 1)); (try go_wp2_with fail)) | (first | (go_at_call 56; clear hm1; refine (pick_any _ g _ 50 _ HD.out (by omega)).mono ?_; rintro e w4 ⟨k4, rfl, k40, k41, _, hr4, ho4, hs4⟩; have t0 : w4.cell? ⟨w2.heap.size, 0, none⟩ = some (.int .i64 n) := Only.cell ho4 (cD p0) (by omega); have t1 : w4.cell? ⟨w2.heap.size, 1, none⟩ = some (.slice A2 bs.length c2) := Only.cell ho4 (cD p1) (by omega)) | (go_at_call 56; refine (pick_any _ g _ 30 _ hr4 (by omega)).mono ?_; rintro e w5 ⟨k5, rfl, k50, k51, _, hr5, ho5, hs5⟩; have u0 : w5.cell? ⟨w2.heap.size, 0, none⟩ = some (.int .i64 n) := Only.cell ho5 t0 (by omega); have u1 : w5.cell? ⟨w2.heap.size, 1, none⟩ = some (.slice A2 bs.length c2) := Only.cell ho5 t1 (by omega); have T5 := Lib.hid ((S0.out.drew.only ho4 (by omega)).only ho5 (by omega)); have r0 : w5.cell? ⟨w.heap.size, 0, none⟩ = some (.int .i64 0) := T5.out.cell 0; have r1 : w5.cell? ⟨w.heap.size, 1, none⟩ = some (.slice none 0 0) := T5.out.cell 1; have f0 := T5.out.frozen 0; have f1 := T5.out.frozen 1)) | go_simp); refine hK.out _ _ ?_ (fun hHeld => ?_); (focus ((try dsimp only); (first | done | (first | exact ⟨p0, p1⟩ | exact ⟨t0, t1⟩ | exact ⟨u0, u1⟩ | exact ⟨cS (cS u0 hneR) hneR, cS (cS u1 hneR) hneR⟩ | go_keep)))); clear hK K; (try simp only [Act.put, List.getElem_toArray, List.getElem_cons_succ, List.getElem_cons_zero, List.setIfInBounds_toArray, List.set_cons_zero, List.set_cons_succ]))
  (refine wpAnyH_take (i := 11) (v := ?tv12) rfl (by kernel_rfl) (by kernel_rfl) (by kernel_rfl) (fun _ _ _ h => h) (Or.inl ⟨by kernel_rfl, ?ty12⟩) (by assumption) ?tr12; (case ty12 => (intro w' hSw; (try dsimp only at hSw); go_simp <;> with_reducible rfl)); (try simp only [Act.put, List.getElem_toArray, List.getElem_cons_succ, List.getElem_cons_zero, List.setIfInBounds_toArray, List.set_cons_zero, List.set_cons_succ]))
  (refine wpAnyH_take (i := 12) (v := ?tv13) rfl (by kernel_rfl) (by kernel_rfl) (by kernel_rfl) (fun _ _ _ h => h) (Or.inl ⟨by kernel_rfl, ?ty13⟩) (by assumption) ?tr13; (case ty13 => (intro w' hSw; (try dsimp only at hSw); go_simp <;> with_reducible rfl)); (try simp only [Act.put, List.getElem_toArray, List.getElem_cons_succ, List.getElem_cons_zero, List.setIfInBounds_toArray, List.set_cons_zero, List.set_cons_succ]))
  refine wpAnyH_done (by kernel_rfl) ?_ _
  have K4 := k41 (by omega)
  have K5 := k51 (by omega)
  have hx : 0 ≤ k5 / 29 ∧ k5 / 29 ≤ 1 := by omega
  have etd := Int.tdiv_eq_ediv_of_nonneg (a := k5) (b := 29) k50
  rw [etd, IntWalk.i64_in (k5 / 29) ⟨by omega, by omega⟩, IntWalk.i64_in (k5 / 29 * 1990) ⟨by omega, by omega⟩, IntWalk.i64_in (k4 - 20) ⟨by omega, by omega⟩, IntWalk.i64_in (k4 - 20 + k5 / 29 * 1990) ⟨by omega, by omega⟩]
  clear etd k41 k51 t0 t1 u0 u1 p0 p1
  have HZ := Lib.hid (show w2.heap.size + 1 ≤ w5.heap.size by have := S5.out; have := hs4; have := hs5; simp only [World.drew] at *; omega)
  have B5 := Lib.hid (S3.out.same (((Same.refl w1.heap.size w2.heap.size w3).drew.only ho4 (.inr (by omega))).only ho5 (.inr (by omega))) (by have := S5.out; omega))
  have I5 := Lib.hid (S4.out.same (((Same.refl w1.heap.size w2.heap.size w3).drew.only ho4 (.inr (by omega))).only ho5 (.inr (by omega))) (by have := S5.out; omega))
  have BL := Lib.hid (viaOnly ho5 (by omega) (viaOnly ho4 (by omega) (vdrew S2.out)))
  clear hr4 hr5 ho4 ho5 hs4 hs5
  go_wp2
  refine bodyPost_ret (v := .tuple #[.agg #[.int .i64 n, .slice A2 bs.length c2], .slice G ts.length cg, .int .i64 (k4 - 20 + k5 / 29 * 1990)]) (by simp [results, Try.results23, go_sem, r0, r1]) rfl (drawnTD_end hf hc HN.out HTF.out hc3 HN2.out (by omega) B5.out I5.out (by omega) (by omega) (by have := HZ.out; omega) (by have := HZ.out; omega) BL.out rfl)
/-- Some plan and two rows of times, in new memory; nothing that was there has turned. -/
def DrawnTT (w : World) (e : Ending) (w' : World) : Prop :=
  ∃ (n : Int) (A : Option Addr) (c : Nat) (bs : List Bd) (G : Option Addr) (cg : Nat) (ts : List Int) (H : Option Addr) (ch : Nat) (us : List Int), e = .returned (.tuple #[.agg #[.int .i64 n, .slice A bs.length c], .slice G ts.length cg, .slice H us.length ch]) ∧ PlanFacts n bs ∧ bs.length ≤ c ∧ (A = none → c = 0) ∧ TimesFacts ts ∧ TimesFacts us ∧ RB w' w.heap.size w'.heap.size A bs ∧ RI w' w.heap.size w'.heap.size G ts ∧ RI w' w.heap.size w'.heap.size H us ∧ Below w.heap.size w w'
theorem drawnTT_end {w W : World} {lo1 lo2 lo3 hi1 hi2 hi3 : Nat} {n : Int} {A : Option Addr} {c : Nat} {bs : List Bd} {G : Option Addr} {cg : Nat} {ts : List Int} {H : Option Addr} {ch : Nat} {us : List Int} {e : Ending} {u0 u1 : Value} (hf : PlanFacts n bs) (hc : bs.length ≤ c) (hn : A = none → c = 0) (ht : TimesFacts ts) (hu : TimesFacts us) (hB : RB W lo1 hi1 A bs) (hI : RI W lo2 hi2 G ts) (hJ : RI W lo3 hi3 H us) (h1 : w.heap.size < lo1) (h2 : w.heap.size < lo2) (h3 : w.heap.size < lo3) (hh : hi1 ≤ W.heap.size) (hh2 : hi2 ≤ W.heap.size) (hh3 : hi3 ≤ W.heap.size) (hb : Below w.heap.size w W) (he : e = .returned (.tuple #[.agg #[.int .i64 n, .slice A bs.length c], .slice G ts.length cg, .slice H us.length ch])) :
    DrawnTT w e ((W.setCell ⟨w.heap.size, 0, none⟩ u0).setCell ⟨w.heap.size, 1, none⟩ u1) := by
  obtain ⟨k1, k2, k3⟩ := two_sets (w := w) (W := W) (u0 := u0) (u1 := u1)
  refine ⟨n, A, c, bs, G, cg, ts, H, ch, us, he, hf, hc, hn, ht, hu, ?_, ?_, ?_, k3 hb⟩
  · rw [k1]; exact (hB.same (k2 _ _ h1) hh).wide (by omega) hh
  · rw [k1]; exact (hI.same (k2 _ _ h2) hh2).wide (by omega) hh2
  · rw [k1]; exact (hJ.same (k2 _ _ h3) hh3).wide (by omega) hh3
set_option maxHeartbeats 2000000 in
theorem drawLaterOf_any (A : Option Addr) (c : Nat) (xs : List Int) (w : World) (h : Bytes w A c xs) : Calls Try.prog 18 #[.slice A xs.length c] w (DrawnTT w) := by
  go_enter Try.func18, Try.ntmps18
  go_wp2_with fail
  refine (open_of (h.alloc _)).mono ?_; rintro e w1 ⟨g, rfl, hr1, hb1, hg1⟩
  have hgb := hr1.base_le
  have hz1 := hb1.size
  simp only [sz] at hgb hz1
  go_wp2_with fail
  refine (timed_any _ g 0 _ w1 hr1 (by omega) (by omega) (by omega)).mono ?_; rintro e w2 ⟨n, A2, c2, bs, G, cg, ts, rfl, hf, hc, hn, htf, hc3, hn2, hrb, hri, hrd, ho⟩
  have hz2 := ho.size
  have qb : Blk w2 w.heap.size 25 #[.int .i64 0, .slice none 0 0] := (((Blk.new w _ _).below hb1 (by simp)).only ho (by omega))
  have q0 : w2.cell? ⟨w.heap.size, 0, none⟩ = some (.int .i64 0) := qb.cell 0
  have q1 : w2.cell? ⟨w.heap.size, 1, none⟩ = some (.slice none 0 0) := qb.cell 1
  have f0 := qb.frozen 0
  have f1 := qb.frozen 1
  have HB := Lib.hid (viaOnly ho (by omega) (via hb1 (valloc (Below.refl w.heap.size w) _)))
  have HRB := Lib.hid hrb
  have HRI := Lib.hid hri
  have HN := Lib.hid hn
  have HN2 := Lib.hid hn2
  have HTF := Lib.hid htf
  have HQB := Lib.hid qb
  clear hb1 ho hrb hri hn hn2 htf qb hr1
  have HRD := Lib.hid hrd
  clear hrd
  go_wp2_with fail
  obtain ⟨w3, hw3⟩ : ∃ w3, w3 = (w2.alloc (.cells #[.int .i64 n, .slice A2 bs.length c2] 25)) := ⟨_, rfl⟩
  have FX : Blk w3 w.heap.size 25 #[.int .i64 0, .slice none 0 0] ∧ Blk w3 w2.heap.size 25 #[.int .i64 n, .slice A2 bs.length c2] ∧ Below w.heap.size w w3 ∧ RB w3 w1.heap.size w2.heap.size A2 bs ∧ RI w3 w1.heap.size w2.heap.size G ts ∧ w3.heap.size = w2.heap.size + 1 := by
    subst hw3
    exact ⟨HQB.out.alloc _, Blk.new _ _ _, valloc HB.out _, HRB.out.same ((Same.refl _ _ _).alloc _) (Nat.le_refl _), HRI.out.same ((Same.refl _ _ _).alloc _) (Nat.le_refl _), by simp⟩
  obtain ⟨s0, s1, s2, s3, s4, s5⟩ := FX
  rw [← hw3]
  have p0 : w3.cell? ⟨w2.heap.size, 0, none⟩ = some (.int .i64 n) := s1.cell 0
  have p1 : w3.cell? ⟨w2.heap.size, 1, none⟩ = some (.slice A2 bs.length c2) := s1.cell 1
  have hneR : ¬ w.heap.size = w2.heap.size := by omega
  have hm1 : True := trivial
  have S0 := Lib.hid s0
  have S2 := Lib.hid s2
  have S3 := Lib.hid s3
  have S4 := Lib.hid s4
  have S5 := Lib.hid s5
  clear s0 s1 s2 s3 s4 s5 q0 q1 f0 f1
  have HD := Lib.hid (HRD.out.alloc (.cells #[.int .i64 n, .slice A2 bs.length c2] 25)).drew
  rw [← hw3] at HD
  clear hw3
  have HT := Lib.hid (times_any _ g (0 + 140) w1.heap.size w2.heap.size c2 n A2 bs w3.drew HD.out (by omega) hf (S3.out.same ((Same.refl _ _ _).drew) (by have := S5.out; omega)) (by omega) (show w2.heap.size ≤ w3.heap.size by have := S5.out; omega))
  refine wp_region_held_drew (S := (fun w' => w'.cell? ⟨w2.heap.size, 0, none⟩ = some (.int .i64 n) ∧ w'.cell? ⟨w2.heap.size, 1, none⟩ = some (.slice A2 bs.length c2))) (by kernel_rfl) ?_ (fun hHeld => ?_)
  · (try dsimp only)
    (first | done | (first | exact ⟨p0, p1⟩ | exact ⟨t0, t1⟩ | exact ⟨cS (cS t0 hneR) hneR, cS (cS t1 hneR) hneR⟩ | go_keep))
  (refine wpAnyH_take (i := 0) (v := ?tv14) rfl (by kernel_rfl) (by kernel_rfl) (by kernel_rfl) (fun _ _ _ h => h) (Or.inl ⟨by kernel_rfl, ?ty14⟩) (by assumption) ?tr14; (case ty14 => (intro w' hSw; (try dsimp only at hSw); go_simp <;> with_reducible rfl)); (try simp only [Act.put, List.getElem_toArray, List.getElem_cons_succ, List.getElem_cons_zero, List.setIfInBounds_toArray, List.set_cons_zero, List.set_cons_succ]))
  (refine wpAnyH_take (i := 1) (v := ?tv15) rfl (by kernel_rfl) (by kernel_rfl) (by kernel_rfl) (fun _ _ _ h => h) (Or.inl ⟨by kernel_rfl, ?ty15⟩) (by assumption) ?tr15; (case ty15 => (intro w' hSw; (try dsimp only at hSw); go_simp <;> with_reducible rfl)); (try simp only [Act.put, List.getElem_toArray, List.getElem_cons_succ, List.getElem_cons_zero, List.setIfInBounds_toArray, List.set_cons_zero, List.set_cons_succ]))
  (refine wpAnyH_take (i := 2) (v := ?tv16) rfl (by kernel_rfl) (by kernel_rfl) (by kernel_rfl) (fun _ _ _ h => h) (Or.inl ⟨by kernel_rfl, ?ty16⟩) (by assumption) ?tr16; (case ty16 => (intro w' hSw; (try dsimp only at hSw); go_simp <;> with_reducible rfl)); (try simp only [Act.put, List.getElem_toArray, List.getElem_cons_succ, List.getElem_cons_zero, List.setIfInBounds_toArray, List.set_cons_zero, List.set_cons_succ]))
  (refine wpAnyH_take (i := 3) (v := ?tv17) rfl (by kernel_rfl) (by kernel_rfl) (by kernel_rfl) (fun _ _ _ h => h) (Or.inl ⟨by kernel_rfl, ?ty17⟩) (by assumption) ?tr17; (case ty17 => (intro w' hSw; (try dsimp only at hSw); go_simp <;> with_reducible rfl)); (try simp only [Act.put, List.getElem_toArray, List.getElem_cons_succ, List.getElem_cons_zero, List.setIfInBounds_toArray, List.set_cons_zero, List.set_cons_succ]))
  (refine wpAnyH_ready (rs := [4]) (by kernel_rfl) (by simp) ?_; refine AllReadyH.cons rfl (fun K hK => ?_) AllReadyH.nil; (first | (go_simp; (go_at_call 53; refine HT.out.mono ?_; rintro e w4 ⟨H, ch, us, rfl, hu8, hub, hcu, hnu, hru, hr4, ho4⟩; have t0 : w4.cell? ⟨w2.heap.size, 0, none⟩ = some (.int .i64 n) := Only.cell ho4 (cD p0) (by omega); have t1 : w4.cell? ⟨w2.heap.size, 1, none⟩ = some (.slice A2 bs.length c2) := Only.cell ho4 (cD p1) (by omega); have T5 := Lib.hid (S0.out.drew.only ho4 (by omega)); have r0 : w4.cell? ⟨w.heap.size, 0, none⟩ = some (.int .i64 0) := T5.out.cell 0; have r1 : w4.cell? ⟨w.heap.size, 1, none⟩ = some (.slice none 0 0) := T5.out.cell 1; have f0 := T5.out.frozen 0; have f1 := T5.out.frozen 1); (try go_wp2_with fail)) | (go_at_call 53; refine HT.out.mono ?_; rintro e w4 ⟨H, ch, us, rfl, hu8, hub, hcu, hnu, hru, hr4, ho4⟩; have t0 : w4.cell? ⟨w2.heap.size, 0, none⟩ = some (.int .i64 n) := Only.cell ho4 (cD p0) (by omega); have t1 : w4.cell? ⟨w2.heap.size, 1, none⟩ = some (.slice A2 bs.length c2) := Only.cell ho4 (cD p1) (by omega); have T5 := Lib.hid (S0.out.drew.only ho4 (by omega)); have r0 : w4.cell? ⟨w.heap.size, 0, none⟩ = some (.int .i64 0) := T5.out.cell 0; have r1 : w4.cell? ⟨w.heap.size, 1, none⟩ = some (.slice none 0 0) := T5.out.cell 1; have f0 := T5.out.frozen 0; have f1 := T5.out.frozen 1) | go_simp); refine hK.out _ _ ?_ (fun hHeld => ?_); (focus ((try dsimp only); (first | done | (first | exact ⟨p0, p1⟩ | exact ⟨t0, t1⟩ | exact ⟨cS (cS t0 hneR) hneR, cS (cS t1 hneR) hneR⟩ | go_keep)))); clear hK K; (try simp only [Act.put, List.getElem_toArray, List.getElem_cons_succ, List.getElem_cons_zero, List.setIfInBounds_toArray, List.set_cons_zero, List.set_cons_succ]))
  (refine wpAnyH_ready (rs := [5]) (by kernel_rfl) (by simp) ?_; refine AllReadyH.cons rfl (fun K hK => ?_) AllReadyH.nil; (first | (go_simp; (go_at_call 53; refine HT.out.mono ?_; rintro e w4 ⟨H, ch, us, rfl, hu8, hub, hcu, hnu, hru, hr4, ho4⟩; have t0 : w4.cell? ⟨w2.heap.size, 0, none⟩ = some (.int .i64 n) := Only.cell ho4 (cD p0) (by omega); have t1 : w4.cell? ⟨w2.heap.size, 1, none⟩ = some (.slice A2 bs.length c2) := Only.cell ho4 (cD p1) (by omega); have T5 := Lib.hid (S0.out.drew.only ho4 (by omega)); have r0 : w4.cell? ⟨w.heap.size, 0, none⟩ = some (.int .i64 0) := T5.out.cell 0; have r1 : w4.cell? ⟨w.heap.size, 1, none⟩ = some (.slice none 0 0) := T5.out.cell 1; have f0 := T5.out.frozen 0; have f1 := T5.out.frozen 1); (try go_wp2_with fail)) | (go_at_call 53; refine HT.out.mono ?_; rintro e w4 ⟨H, ch, us, rfl, hu8, hub, hcu, hnu, hru, hr4, ho4⟩; have t0 : w4.cell? ⟨w2.heap.size, 0, none⟩ = some (.int .i64 n) := Only.cell ho4 (cD p0) (by omega); have t1 : w4.cell? ⟨w2.heap.size, 1, none⟩ = some (.slice A2 bs.length c2) := Only.cell ho4 (cD p1) (by omega); have T5 := Lib.hid (S0.out.drew.only ho4 (by omega)); have r0 : w4.cell? ⟨w.heap.size, 0, none⟩ = some (.int .i64 0) := T5.out.cell 0; have r1 : w4.cell? ⟨w.heap.size, 1, none⟩ = some (.slice none 0 0) := T5.out.cell 1; have f0 := T5.out.frozen 0; have f1 := T5.out.frozen 1) | go_simp); refine hK.out _ _ ?_ (fun hHeld => ?_); (focus ((try dsimp only); (first | done | (first | exact ⟨p0, p1⟩ | exact ⟨t0, t1⟩ | exact ⟨cS (cS t0 hneR) hneR, cS (cS t1 hneR) hneR⟩ | go_keep)))); clear hK K; (try simp only [Act.put, List.getElem_toArray, List.getElem_cons_succ, List.getElem_cons_zero, List.setIfInBounds_toArray, List.set_cons_zero, List.set_cons_succ]))
  (refine wpAnyH_take (i := 6) (v := ?tv20) rfl (by kernel_rfl) (by kernel_rfl) (by kernel_rfl) (fun _ _ _ h => h) (Or.inl ⟨by kernel_rfl, ?ty20⟩) (by assumption) ?tr20; (case ty20 => (intro w' hSw; (try dsimp only at hSw); go_simp <;> with_reducible rfl)); (try simp only [Act.put, List.getElem_toArray, List.getElem_cons_succ, List.getElem_cons_zero, List.setIfInBounds_toArray, List.set_cons_zero, List.set_cons_succ]))
  (refine wpAnyH_take (i := 7) (v := ?tv21) rfl (by kernel_rfl) (by kernel_rfl) (by kernel_rfl) (fun _ _ _ h => h) (Or.inl ⟨by kernel_rfl, ?ty21⟩) (by assumption) ?tr21; (case ty21 => (intro w' hSw; (try dsimp only at hSw); go_simp <;> with_reducible rfl)); (try simp only [Act.put, List.getElem_toArray, List.getElem_cons_succ, List.getElem_cons_zero, List.setIfInBounds_toArray, List.set_cons_zero, List.set_cons_succ]))
  refine wpAnyH_done (by kernel_rfl) ?_ _
  clear t0 t1 p0 p1
  have zs4 := ho4.size
  have HZ := Lib.hid (show w2.heap.size + 1 ≤ w4.heap.size by have := S5.out; simp only [World.drew] at zs4; omega)
  have B5 := Lib.hid (S3.out.same ((Same.refl w1.heap.size w2.heap.size w3).drew.only ho4 (.inr (by omega))) (by have := S5.out; omega))
  have I5 := Lib.hid (S4.out.same ((Same.refl w1.heap.size w2.heap.size w3).drew.only ho4 (.inr (by omega))) (by have := S5.out; omega))
  have BL := Lib.hid (viaOnly ho4 (by omega) (vdrew S2.out))
  have HU := Lib.hid hru
  have HUB := Lib.hid hub
  have Z3 := Lib.hid (show w.heap.size < w3.drew.heap.size from (by have := S5.out; show w.heap.size < w3.heap.size; omega))
  clear hr4 ho4 zs4 hru hub hnu
  go_wp2
  refine bodyPost_ret (v := .tuple #[.agg #[.int .i64 n, .slice A2 bs.length c2], .slice G ts.length cg, .slice H us.length ch]) (by simp [results, Try.results18, go_sem, r0, r1]) rfl (drawnTT_end hf hc HN.out HTF.out ⟨hu8, HUB.out⟩ B5.out I5.out HU.out (by omega) (by omega) Z3.out (by have := HZ.out; omega) (by have := HZ.out; omega) (Nat.le_refl _) BL.out rfl)
end Go.Proofs.Ytaifpindiphlkaa
