/- The contract of spec.l20Timed: some plan and some times, in new memory. -/
import Derived.Test.YtaifpindiphlkaaDraws
namespace Go.Proofs.Ytaifpindiphlkaa
open Go.RowKit
set_option linter.unusedVariables false
set_option maxRecDepth 10000
set_option linter.unusedSimpArgs false

/-- What is known of times that are drawn. -/
def TimesFacts (ts : List Int) : Prop := ts.length ≤ 8 ∧ ∀ t ∈ ts, -20000 ≤ t ∧ t ≤ 20000
/-- Some plan and times; the reader has gone on, and nothing else has turned. -/
def DrewTimed (base g q : Nat) (w : World) (e : Ending) (w' : World) : Prop :=
  ∃ (n : Int) (A : Option Addr) (c : Nat) (bs : List Bd) (G : Option Addr) (cg : Nat) (ts : List Int), e = .returned (.tuple #[.agg #[.int .i64 n, .slice A bs.length c], .slice G ts.length cg]) ∧ PlanFacts n bs ∧ bs.length ≤ c ∧ (A = none → c = 0) ∧ TimesFacts ts ∧ ts.length ≤ cg ∧ (G = none → cg = 0) ∧ RB w' w.heap.size w'.heap.size A bs ∧ RI w' w.heap.size w'.heap.size G ts ∧ Rd w' base g (q + 140) ∧ Only g (g + 1) w w'
theorem timed_end {base g q lo1 lo2 hi1 : Nat} {n : Int} {A : Option Addr} {c : Nat} {bs : List Bd} {G : Option Addr} {cg : Nat} {ts : List Int} {w W : World} {e : Ending} {u0 u1 : Value} (hf : PlanFacts n bs) (hc : bs.length ≤ c) (hn : A = none → c = 0) (ht : TimesFacts ts) (hc2 : ts.length ≤ cg) (hn2 : G = none → cg = 0) (hB : RB W lo1 hi1 A bs) (hI : RI W lo2 W.heap.size G ts) (h1 : w.heap.size < lo1) (h2 : w.heap.size < lo2) (hh : hi1 ≤ W.heap.size) (hr : Rd W base g (q + 140)) (hg : g < w.heap.size) (hF : Only g (g + 1) w W) (he : e = .returned (.tuple #[.agg #[.int .i64 n, .slice A bs.length c], .slice G ts.length cg])) :
    DrewTimed base g q w e ((W.setCell ⟨w.heap.size, 0, none⟩ u0).setCell ⟨w.heap.size, 1, none⟩ u1) := by
  have hs : ((W.setCell ⟨w.heap.size, 0, none⟩ u0).setCell ⟨w.heap.size, 1, none⟩ u1).heap.size = W.heap.size := by rw [szc, szc]
  have key : ∀ lo hi, (w.heap.size < lo ∨ hi ≤ w.heap.size) → Same lo hi W ((W.setCell ⟨w.heap.size, 0, none⟩ u0).setCell ⟨w.heap.size, 1, none⟩ u1) := fun lo hi h => ((Same.refl _ _ _).set_ (by dsimp only; omega) _).set_ (by dsimp only; omega) _
  refine ⟨n, A, c, bs, G, cg, ts, he, hf, hc, hn, ht, hc2, hn2, ?_, ?_, hr.same (key _ _ (.inr (by omega))), (hF.new (by dsimp only; omega) _).new (by dsimp only; omega) _⟩
  · rw [hs]; exact (hB.same (key _ _ (.inl h1)) hh).wide (by omega) hh
  · rw [hs]; exact (hI.same (key _ _ (.inl h2)) (Nat.le_refl _)).wide (by omega) (Nat.le_refl _)
set_option maxHeartbeats 2000000 in
theorem timed_any (base g q : Nat) (n : Int) (w : World) (h : Rd w base g q) (hq : q ≤ 80000) (hn1 : 1 ≤ n) (hn2 : n ≤ 1000) :
    Calls Try.prog 51 #[.pointer (some ⟨g, 0, none⟩), .int .i64 n] w (DrewTimed base g q w) := by
  have hg := h.lt
  go_enter Try.func51, Try.ntmps51
  go_wp2_with fail
  refine (plan_any base g q n _ (h.alloc _) (by omega) hn1 hn2).mono ?_; rintro e w1 ⟨m, A, c, bs, rfl, hf, hc, hn, hrb, hrd, ho⟩
  have hz1 := ho.size
  simp only [sz] at hrb hz1
  have R1 := Lib.hid ((Blk.new w 25 #[.int .i64 0, .slice none 0 0]).only ho (.inr (by omega)))
  have HRB := Lib.hid hrb
  have HRD := Lib.hid hrd
  have F1 := Lib.hid (Only.only ho (Nat.le_refl _) (Nat.le_refl _) ((Only.refl g (g + 1) w).alloc (.cells #[.int .i64 0, .slice none 0 0] 25)))
  have HN := Lib.hid hn
  clear ho hrb hrd hn h
  go_wp2_with fail
  have F : ∀ w2, w2 = w1.alloc (.cells #[.int .i64 m, .slice A bs.length c] 25) → Blk w2 w.heap.size 25 #[.int .i64 0, .slice none 0 0] ∧ Blk w2 w1.heap.size 25 #[.int .i64 m, .slice A bs.length c] ∧ RB w2 (w.heap.size + 1) w1.heap.size A bs ∧ Rd w2 base g (q + 100) ∧ Only g (g + 1) w w2 ∧ w2.heap.size = w1.heap.size + 1 := by
    rintro w2 rfl
    exact ⟨R1.out.alloc _, Blk.new _ _ _, HRB.out.same ((Same.refl _ _ _).alloc _) (Nat.le_refl _), HRD.out.alloc _, F1.out.alloc _, by simp⟩
  obtain ⟨w2, hw2⟩ : ∃ w2, w2 = w1.alloc (.cells #[.int .i64 m, .slice A bs.length c] 25) := ⟨_, rfl⟩
  obtain ⟨s0, s1, s2, s3, s4, s5⟩ := F w2 hw2
  rw [← hw2]
  clear hw2 F
  have p0 : w2.cell? ⟨w1.heap.size, 0, none⟩ = some (.int .i64 m) := s1.cell 0
  have p1 : w2.cell? ⟨w1.heap.size, 1, none⟩ = some (.slice A bs.length c) := s1.cell 1
  have S0 := Lib.hid s0
  have S5 := Lib.hid s5
  have hneR : ¬ w.heap.size = w1.heap.size := by omega
  have HT := Lib.hid (times_any base g (q + 100) (w.heap.size + 1) w1.heap.size c m A bs w2.drew s3.drew (by omega) hf (s2.same ((Same.refl _ _ _).drew) (by omega)) (by omega) (show w1.heap.size ≤ w2.heap.size by omega))
  clear s0 s1 s5
  refine wp_region_held_drew (S := (fun w' => w'.cell? ⟨w1.heap.size, 0, none⟩ = some (.int .i64 m) ∧ w'.cell? ⟨w1.heap.size, 1, none⟩ = some (.slice A bs.length c))) (by kernel_rfl) ?_ (fun hHeld => ?_)
  · (try dsimp only)
    (first | done | (first | exact ⟨p0, p1⟩ | exact ⟨t0, t1⟩ | exact ⟨cS (cS t0 hneR) hneR, cS (cS t1 hneR) hneR⟩ | go_keep))
  (refine wpAnyH_take (i := 0) (v := ?tv1) rfl (by kernel_rfl) (by kernel_rfl) (by kernel_rfl) (fun _ _ _ h => h) (Or.inl ⟨by kernel_rfl, ?ty1⟩) (by assumption) ?tr1; (case ty1 => (intro w' hSw; (try dsimp only at hSw); go_simp <;> with_reducible rfl)); (try simp only [Act.put, List.getElem_toArray, List.getElem_cons_succ, List.getElem_cons_zero, List.setIfInBounds_toArray, List.set_cons_zero, List.set_cons_succ]))
  (refine wpAnyH_take (i := 1) (v := ?tv2) rfl (by kernel_rfl) (by kernel_rfl) (by kernel_rfl) (fun _ _ _ h => h) (Or.inl ⟨by kernel_rfl, ?ty2⟩) (by assumption) ?tr2; (case ty2 => (intro w' hSw; (try dsimp only at hSw); go_simp <;> with_reducible rfl)); (try simp only [Act.put, List.getElem_toArray, List.getElem_cons_succ, List.getElem_cons_zero, List.setIfInBounds_toArray, List.set_cons_zero, List.set_cons_succ]))
  (refine wpAnyH_take (i := 2) (v := ?tv3) rfl (by kernel_rfl) (by kernel_rfl) (by kernel_rfl) (fun _ _ _ h => h) (Or.inl ⟨by kernel_rfl, ?ty3⟩) (by assumption) ?tr3; (case ty3 => (intro w' hSw; (try dsimp only at hSw); go_simp <;> with_reducible rfl)); (try simp only [Act.put, List.getElem_toArray, List.getElem_cons_succ, List.getElem_cons_zero, List.setIfInBounds_toArray, List.set_cons_zero, List.set_cons_succ]))
  (refine wpAnyH_ready (rs := [3]) (by kernel_rfl) (by simp) ?_; refine AllReadyH.cons rfl (fun K hK => ?_) AllReadyH.nil; (first | (go_simp; (go_at_call 53; refine HT.out.mono ?_; rintro e w3 ⟨G, cg, ts, rfl, ht8, htb, hc2, hn2', hri, hrd3, ho3⟩; have zs3 := ho3.size; have t0 : w3.cell? ⟨w1.heap.size, 0, none⟩ = some (.int .i64 m) := Only.cell ho3 (cD p0) (by omega); have t1 : w3.cell? ⟨w1.heap.size, 1, none⟩ = some (.slice A bs.length c) := Only.cell ho3 (cD p1) (by omega); have T0 := Lib.hid (S0.out.drew.only ho3 (.inr (by omega))); have r0 : w3.cell? ⟨w.heap.size, 0, none⟩ = some (.int .i64 0) := T0.out.cell 0; have r1 : w3.cell? ⟨w.heap.size, 1, none⟩ = some (.slice none 0 0) := T0.out.cell 1; have f0 := T0.out.frozen 0; have f1 := T0.out.frozen 1); (try go_wp2_with fail)) | (go_at_call 53; refine HT.out.mono ?_; rintro e w3 ⟨G, cg, ts, rfl, ht8, htb, hc2, hn2', hri, hrd3, ho3⟩; have zs3 := ho3.size; have t0 : w3.cell? ⟨w1.heap.size, 0, none⟩ = some (.int .i64 m) := Only.cell ho3 (cD p0) (by omega); have t1 : w3.cell? ⟨w1.heap.size, 1, none⟩ = some (.slice A bs.length c) := Only.cell ho3 (cD p1) (by omega); have T0 := Lib.hid (S0.out.drew.only ho3 (.inr (by omega))); have r0 : w3.cell? ⟨w.heap.size, 0, none⟩ = some (.int .i64 0) := T0.out.cell 0; have r1 : w3.cell? ⟨w.heap.size, 1, none⟩ = some (.slice none 0 0) := T0.out.cell 1; have f0 := T0.out.frozen 0; have f1 := T0.out.frozen 1) | go_simp); refine hK.out _ _ ?_ (fun hHeld => ?_); (focus ((try dsimp only); (first | done | (first | exact ⟨p0, p1⟩ | exact ⟨t0, t1⟩ | exact ⟨cS (cS t0 hneR) hneR, cS (cS t1 hneR) hneR⟩ | go_keep)))); clear hK K; (try simp only [Act.put, List.getElem_toArray, List.getElem_cons_succ, List.getElem_cons_zero, List.setIfInBounds_toArray, List.set_cons_zero, List.set_cons_succ]))
  (refine wpAnyH_ready (rs := [4]) (by kernel_rfl) (by simp) ?_; refine AllReadyH.cons rfl (fun K hK => ?_) AllReadyH.nil; (first | (go_simp; (go_at_call 53; refine HT.out.mono ?_; rintro e w3 ⟨G, cg, ts, rfl, ht8, htb, hc2, hn2', hri, hrd3, ho3⟩; have zs3 := ho3.size; have t0 : w3.cell? ⟨w1.heap.size, 0, none⟩ = some (.int .i64 m) := Only.cell ho3 (cD p0) (by omega); have t1 : w3.cell? ⟨w1.heap.size, 1, none⟩ = some (.slice A bs.length c) := Only.cell ho3 (cD p1) (by omega); have T0 := Lib.hid (S0.out.drew.only ho3 (.inr (by omega))); have r0 : w3.cell? ⟨w.heap.size, 0, none⟩ = some (.int .i64 0) := T0.out.cell 0; have r1 : w3.cell? ⟨w.heap.size, 1, none⟩ = some (.slice none 0 0) := T0.out.cell 1; have f0 := T0.out.frozen 0; have f1 := T0.out.frozen 1); (try go_wp2_with fail)) | (go_at_call 53; refine HT.out.mono ?_; rintro e w3 ⟨G, cg, ts, rfl, ht8, htb, hc2, hn2', hri, hrd3, ho3⟩; have zs3 := ho3.size; have t0 : w3.cell? ⟨w1.heap.size, 0, none⟩ = some (.int .i64 m) := Only.cell ho3 (cD p0) (by omega); have t1 : w3.cell? ⟨w1.heap.size, 1, none⟩ = some (.slice A bs.length c) := Only.cell ho3 (cD p1) (by omega); have T0 := Lib.hid (S0.out.drew.only ho3 (.inr (by omega))); have r0 : w3.cell? ⟨w.heap.size, 0, none⟩ = some (.int .i64 0) := T0.out.cell 0; have r1 : w3.cell? ⟨w.heap.size, 1, none⟩ = some (.slice none 0 0) := T0.out.cell 1; have f0 := T0.out.frozen 0; have f1 := T0.out.frozen 1) | go_simp); refine hK.out _ _ ?_ (fun hHeld => ?_); (focus ((try dsimp only); (first | done | (first | exact ⟨p0, p1⟩ | exact ⟨t0, t1⟩ | exact ⟨cS (cS t0 hneR) hneR, cS (cS t1 hneR) hneR⟩ | go_keep)))); clear hK K; (try simp only [Act.put, List.getElem_toArray, List.getElem_cons_succ, List.getElem_cons_zero, List.setIfInBounds_toArray, List.set_cons_zero, List.set_cons_succ]))
  (refine wpAnyH_take (i := 5) (v := ?tv6) rfl (by kernel_rfl) (by kernel_rfl) (by kernel_rfl) (fun _ _ _ h => h) (Or.inl ⟨by kernel_rfl, ?ty6⟩) (by assumption) ?tr6; (case ty6 => (intro w' hSw; (try dsimp only at hSw); go_simp <;> with_reducible rfl)); (try simp only [Act.put, List.getElem_toArray, List.getElem_cons_succ, List.getElem_cons_zero, List.setIfInBounds_toArray, List.set_cons_zero, List.set_cons_succ]))
  refine wpAnyH_done (by kernel_rfl) ?_ _
  have HZ := Lib.hid (show w1.heap.size + 1 = w2.heap.size by have := S5.out; omega)
  have HB3 := Lib.hid (s2.same ((Same.refl (w.heap.size + 1) w1.heap.size w2).drew.only ho3 (.inr (by omega))) (by have := HZ.out; omega))
  have HF3 := Lib.hid (Only.only ho3 (Nat.le_refl _) (Nat.le_refl _) s4.drew)
  have HRI := Lib.hid hri
  have HRD3 := Lib.hid hrd3
  have HTB := Lib.hid htb
  have HN2 := Lib.hid hn2'
  have HZ3 := Lib.hid (show w2.heap.size ≤ w3.heap.size from zs3)
  clear s2 s3 s4 ho3 hri hrd3 htb hn2' zs3
  go_wp2
  refine bodyPost_ret (v := .tuple #[.agg #[.int .i64 m, .slice A bs.length c], .slice G ts.length cg]) (by simp [results, Try.results51, go_sem, r0, r1]) rfl (timed_end hf hc HN.out ⟨ht8, HTB.out⟩ hc2 HN2.out HB3.out HRI.out (by omega) (by show w.heap.size < w2.heap.size; have := HZ.out; omega) (by have := HZ.out; have := HZ3.out; omega) (HRD3.out.mono (by omega)) hg HF3.out rfl)
end Go.Proofs.Ytaifpindiphlkaa
