/- Contracts of StateNew, of the program and of the reference; for slices of at most 2^40 bounds. -/
import Derived.Test.YtedpaanhnbodfaaFromPt
import Derived.Test.YtedpaanhnbodfaaLists
import Derived.Test.YtedpaanhnbodfaaClosed
import Derived.Laws.AppendOwnNone
import Derived.Laws.OwnMore
namespace Go.Proofs.Ytedpaanhnbodfaa
open Go.RowKit
set_option linter.unusedVariables false
set_option maxRecDepth 10000
set_option linter.unusedSimpArgs false

/-- The first point at 0, the others not done, as far as k; behind that z. -/
def newV (z : Int) (k : Nat) : Nat → Int := fun i => if i = 0 then 0 else if i < k then -1 else z
def newL (n : Int) (bs : List Bd) : List Int := if fitsOk n bs = true then (List.range n.toNat).map (newV 0 n.toNat) else []
theorem newL_len (n : Int) (bs : List Bd) : (newL n bs).length ≤ 6 := by
  unfold newL
  split
  · rename_i h
    have := planOk_of (fits_plan h)
    rw [List.length_map, List.length_range]; omega
  · simp
def StRes (xs : List Int) (b : Bool) (w : World) (e : Ending) (w' : World) : Prop :=
  ∃ G c, e = .returned (.tuple #[.agg #[.int .i64 0, .slice G xs.length c], .bool b]) ∧ RI w' w.heap.size w'.heap.size G xs ∧ Below w.heap.size w w'
theorem VRow.ri2 {w : World} {g N : Nat} {v : Nat → Int} (h : VRow w g N v) {lo hi : Nat} (hN : 1 ≤ N) (hl : lo ≤ g) (hh : g < hi) : RI w lo hi (some ⟨g, 0, none⟩) ((List.range N).map v) := by
  have := h.ri (T := fun _ => v) (i := 0) hN hl hh (fun _ _ => rfl)
  exact this
theorem made_vrow {w : World} {g N : Nat} {v : Nat → Int} (h : Blk w g 3 (madeCells #[.int .i64 0] N)) (e : ∀ a, a < N → v a = 0) : VRow w g N v := by
  refine ⟨_, h, fun a ha => ?_⟩
  rw [e a ha, ← Array.getElem?_toList, toList_madeCells_one, List.getElem?_replicate, if_pos ha]
theorem newV_one (a : Nat) : newV 0 1 a = 0 := by
  unfold newV; split
  · rfl
  · rw [if_neg (by omega)]
theorem newV_step {k : Nat} (hk : 1 ≤ k) (a : Nat) : (if a = k then (-1 : Int) else newV 0 k a) = newV 0 (k + 1) a := by
  unfold newV
  by_cases e : a = k
  · rw [if_pos e, if_neg (by omega), if_pos (by omega)]
  · rw [if_neg e]
    by_cases e2 : a = 0
    · rw [if_pos e2, if_pos e2]
    · rw [if_neg e2, if_neg e2]
      by_cases e3 : a < k
      · rw [if_pos e3, if_pos (by omega)]
      · rw [if_neg e3, if_neg (by omega)]
theorem newV_snoc {k : Nat} (hk : 1 ≤ k) : (List.range (k + 1)).map (newV 0 (k + 1)) = (List.range k).map (newV 0 k) ++ [-1] := by
  rw [List.range_succ, List.map_append]
  congr 1
  · refine List.map_congr_left fun a ha => ?_
    have := List.mem_range.1 ha
    rw [← newV_step hk a, if_neg (by omega)]
  · show [newV 0 (k + 1) k] = [-1]
    rw [← newV_step hk k, if_pos rfl]
theorem OwnL.one (w : World) (base : Nat) (hb : base ≤ w.heap.size) : OwnL (w.alloc (.cells #[.int .i64 0] 3)) base (.slice (some ⟨w.heap.size, 0, none⟩) 1 1) [0] :=
  ⟨rfl, .inr ⟨w.heap.size, 1, #[.int .i64 0], rfl, hb, heap_alloc_new w _, Nat.le_refl _, by unfold maxLen; omega, rfl, rfl⟩⟩
theorem OwnL.box {w : World} {base B i : Nat} {v u : Value} {xs : List Int} {cs : Array Value} (h : OwnL w base v xs) (hB : Blk w B 66 cs) : OwnL (w.setCell ⟨B, i, none⟩ u) base v xs := by
  obtain ⟨h1, h2⟩ := h
  refine ⟨h1, ?_⟩
  rcases h2 with h2 | ⟨g, cap, cur, hv, hg, hh, r⟩
  · exact Or.inl h2
  · refine Or.inr ⟨g, cap, cur, hv, hg, ?_, r⟩
    refine (Below.heap_setCell w ⟨B, i, none⟩ u g ?_).trans hh
    intro e
    have e2 : g = B := e
    subst e2
    unfold Blk at hB
    rw [hB] at hh
    injection hh with hh
    injection hh with _ hh
    exact absurd hh (by decide)
/-- append of one number; states elsewhere are as they were. -/
theorem wpList_pushB {ops : Array Oper} {rest : List Oper} {o : Oper} {a : Act} {Q : Exit → Act → World → Prop} {w : World} (hgd : o.guard = none) (s x : Operand)
    (ho : o.op = .call { callee := .builtin .append, args := #[s, x], argTypes := #[30, 30] }) (base : Nat) (v : Value) (xs : List Int) (hs : a.eval s = v) (hown : OwnL w base v xs)
    (g : Nat) (y : Int) (hx : a.eval x = .slice (some ⟨g, 0, none⟩) 1 1) (hc : w.cell? ⟨g, 0, none⟩ = some (.int .i64 y)) (hlen : xs.length ≤ 1099511627776) (hbase : base ≤ w.heap.size)
    (h : ∀ v' w', OwnL w' base v' (xs ++ [y]) → Below base w w' → (∀ k cs, Blk w k 66 cs → Blk w' k 66 cs) → wpList Try.prog ops Q rest (a.put o.dst v') w') : wpList Try.prog ops Q (o :: rest) a w := by
  obtain ⟨i0, hi, hz0, hz1, hz2⟩ := info_parts Try.infoInt
  refine wpList_append_own _ hgd s x 30 ho base 3 i0 (.int .i64 0) 1 8 Try.underlying30 hi hz0 hz1 hz2 rfl (by decide) v xs.length _ hs hown ⟨g, 0, none⟩ 1 1 [.int .i64 y] hx rfl ?_ ?_ ?_ ?_ hbase ?_
  · intro j u hj
    match j, hj with
    | 0, hj => simp at hj; subst hj; simpa [Addr.add] using hc
  · intro u hu; simp at hu; subst hu; rfl
  · unfold maxLen; omega
  · omega
  · intro v' w' hown' hg _
    refine h v' w' ?_ ?_ ?_
    · unfold OwnL
      rw [List.length_append, List.map_append]
      exact hown'
    · refine (Below.refl base w).grown hg hbase (fun k hk => ?_)
      rcases hown.2 with ⟨rfl, _⟩ | ⟨g', cap, cur, rfl, hb', _⟩
      · cases hk
      · simp only [Value.ownBlock, Option.some.injEq] at hk; omega
    · intro k cs hk
      refine (hg.block k hk.lt ?_).trans hk
      rcases hown.2 with ⟨rfl, _⟩ | ⟨g', cap, cur, rfl, hb', hh, _⟩
      · simp [Value.ownBlock]
      · intro e
        have e2 : k = g' := by simpa [Value.ownBlock] using e
        subst e2
        unfold Blk at hk
        rw [hk] at hh
        injection hh with hh
        injection hh with _ hh
        exact absurd hh (by decide)
theorem RI.far2 {w : World} {lo hi B i j : Nat} {A : Option Addr} {xs : List Int} {u u' : Value} (h : RI w lo hi A xs) (hB : B < lo) : RI ((w.setCell ⟨B, i, none⟩ u).setCell ⟨B, j, none⟩ u') lo hi A xs := by
  rcases h with h | ⟨g, cs, e, h1, h2, hBk, hF⟩
  · exact Or.inl h
  · refine Or.inr ⟨g, cs, e, h1, h2, Blk.far (Blk.far hBk ?_ _) ?_ _, hF⟩ <;> (dsimp only; omega)
set_option maxHeartbeats 1000000 in
theorem stateNew_any (n : Int) (A : Option Addr) (c : Nat) (bs : List Bd) (w : World) (h : BAt w A bs) (hlen : bs.length ≤ 1099511627776) :
    Calls Try.prog 71 #[.agg #[.int .i64 n, .slice A bs.length c]] w (StRes (newL n bs) (fitsOk n bs) w) := by
  cases hfit : fitsOk n bs
  · have HR := Lib.hid (show newL n bs = [] by simp [newL, hfit])
    rw [HR.out]
    go_enter Try.func71, Try.ntmps71
    go_wp2_with fail
    refine (fitsOk_any _ _ _ bs _ (h.below (by repeat (first | with_reducible exact Below.refl _ _ | with_reducible refine valloc ?_ _ | with_reducible refine vdrew ?_ | with_reducible refine vdrewN ?_ _ | with_reducible refine via (by assumption) ?_ | refine vset ?_ (by first | exact Nat.le_refl _ | (simp; done) | (simp; omega) | omega) _))) hlen).mono ?_; rintro e w1 ⟨rfl, hbw1⟩; obtain ⟨hcw1, hfw1⟩ := bcell hbw1; have hzw1 := hbw1.size; (try simp only [sz] at hzw1); (try simp only [szc] at hzw1); have hzw1_0 : w.heap.size < w1.heap.size := (by omega); have hzw1_1 : w.heap.size + 1 < w1.heap.size := (by omega)
    go_wp2
    refine bodyPost_ret (v := .tuple #[.agg #[.int .i64 0, .slice none 0 0], .bool false]) (by simp [results, Try.results71, go_sem, hcw1, hzw1_0, hzw1_1]) rfl ⟨none, 0, rfl, Or.inl ⟨rfl, rfl⟩, ?_⟩
    repeat (first | with_reducible exact Below.refl _ _ | with_reducible refine valloc ?_ _ | with_reducible refine vdrew ?_ | with_reducible refine vdrewN ?_ _ | with_reducible refine via (by assumption) ?_ | refine vset ?_ (by first | exact Nat.le_refl _ | (simp; done) | (simp; omega) | omega) _)
  · obtain ⟨N, rfl⟩ := Int.eq_ofNat_of_zero_le (show 0 ≤ n by have := planOk_of (fits_plan hfit); omega)
    obtain ⟨h1, h6, _, _⟩ := planOk_of (fits_plan hfit)
    obtain ⟨i1, hi1, hy0, hy1, hy2⟩ := info_parts Try.infoInt
    have hmk2 := fun W => run_make_rowN (P := Try.prog) 30 3 i1 _ Try.underlying30 hi1 hy0 .i64 .i64 N N (Nat.le_refl _) (by rw [hy2]; omega) (by omega) W
    rw [hy1] at hmk2
    have HR := Lib.hid (show newL N bs = (List.range N).map (newV 0 N) by simp [newL, hfit])
    go_enter Try.func71, Try.ntmps71
    go_wp2_with fail
    refine (fitsOk_any _ _ _ bs _ (h.below (by repeat (first | with_reducible exact Below.refl _ _ | with_reducible refine valloc ?_ _ | with_reducible refine vdrew ?_ | with_reducible refine vdrewN ?_ _ | with_reducible refine via (by assumption) ?_ | refine vset ?_ (by first | exact Nat.le_refl _ | (simp; done) | (simp; omega) | omega) _))) hlen).mono ?_; rintro e w1 ⟨rfl, hbw1⟩
    have i0 : w1.cell? ⟨w.heap.size, 0, none⟩ = some (.int .i64 N) := cB hbw1 (by simp)
    have RB0 : Blk w1 (w.heap.size + 1) 66 #[.int .i64 0, .slice none 0 0] := (Blk.new' (by simp) _ _).below hbw1 (by simp)
    obtain ⟨hcw1, hfw1⟩ := bcell hbw1; have hzw1 := hbw1.size; (try simp only [sz] at hzw1); (try simp only [szc] at hzw1); have hzw1_0 : w.heap.size < w1.heap.size := (by omega); have hzw1_1 : w.heap.size + 1 < w1.heap.size := (by omega)
    go_wp2
    clear hmk2
    go_loopw [5] (fun i W => ∃ k : Nat, 1 ≤ k ∧ k ≤ N ∧ i = .int .i64 k ∧ VRow W w1.heap.size N (newV 0 k) ∧ Blk W (w1.heap.size + 1) 66 #[.int .i64 0, .slice (some ⟨w1.heap.size, 0, none⟩) N N] ∧ Below w1.heap.size w1 W) (fun i _ => N - (intOf i).toNat)
    case atStart => exact ⟨1, Nat.le_refl _, by omega, rfl, made_vrow ((Blk.new' rfl _ _).alloc _) (fun a _ => newV_one a), Blk.new' (by simp) _ _, ((Below.refl _ _).alloc (Nat.le_refl _) _).alloc (by simp) _⟩
    case round =>
      obtain ⟨k, hk1, hk, rfl, hV, hS, hb⟩ := hrel
      have f0 := cBel hb hzw1_0 i0
      have s0 := hS.cell 0
      have s1 := hS.cell 1
      have HV := Lib.hid hV
      have HS := Lib.hid hS
      have hgl := hV.lt
      have hzr := hb.size
      by_cases hlt : k < N
      · have c0 := hV.cell hlt
        have fr := hV.frozen k
        have HN := Lib.hid ((hV.set_ hlt (-1)).eq_ (fun a _ => newV_step hk1 a))
        clear hV hS
        go_wp2
        go_roundw
        case rel => exact ⟨k + 1, by omega, by omega, by go_num, HN.out, HS.out.far (by dsimp only; omega) _, Below.setCell hb (Nat.le_refl _) _⟩
        case measure => simp [intOf]; omega
      · obtain rfl : N = k := by omega
        have hRB := RB0.below hb hzw1_1
        have r0 := hRB.cell 0
        have r1 := hRB.cell 1
        have q0 := hRB.frozen 0
        have q1 := hRB.frozen 1
        have HRB := Lib.hid hRB
        clear hRB
        have RI1 := Lib.hid ((HV.out.ri2 (lo := w1.heap.size) (hi := wr.heap.size) (by omega) (Nat.le_refl _) hgl).far2 (i := 0) (j := 1) (u := .int .i64 0) (u' := .slice (some ⟨w1.heap.size, 0, none⟩) N N) hzw1_1)
        have BB : Below w.heap.size w w1 := (by repeat (first | with_reducible exact Below.refl _ _ | with_reducible refine valloc ?_ _ | with_reducible refine vdrew ?_ | with_reducible refine vdrewN ?_ _ | with_reducible refine via (by assumption) ?_ | refine vset ?_ (by first | exact Nat.le_refl _ | (simp; done) | (simp; omega) | omega) _))
        have BW := BB.trans (hb.mono BB.size)
        have RR := Lib.hid ((HRB.out.set_ 0 (.int .i64 0)).set_ 1 (.slice (some ⟨w1.heap.size, 0, none⟩) N N))
        clear hV hS
        go_wp2
        refine bodyPost_ret (v := .tuple #[.agg #[.int .i64 0, .slice (some ⟨w1.heap.size, 0, none⟩) N N], .bool true]) (by
          have e0 := RR.out.cell 0
          have e1 := RR.out.cell 1
          simp at e0 e1
          simp [results, Try.results71, go_sem, e0, e1]) rfl ⟨some ⟨w1.heap.size, 0, none⟩, N, by rw [HR.out]; simp, ?_, ?_⟩
        · rw [HR.out]; exact RI1.out.wide (by omega) (by simp)
        · exact vset (vset BW (by simp) _) (by simp) _
set_option maxHeartbeats 1000000 in
theorem specStateNew_any (n : Int) (A : Option Addr) (c : Nat) (bs : List Bd) (w : World) (h : BAt w A bs) (hlen : bs.length ≤ 1099511627776) :
    Calls Try.prog 72 #[.agg #[.int .i64 n, .slice A bs.length c]] w (StRes (newL n bs) (fitsOk n bs) w) := by
  cases hfit : fitsOk n bs
  · have HR := Lib.hid (show newL n bs = [] by simp [newL, hfit])
    rw [HR.out]
    go_enter Try.func72, Try.ntmps72
    go_wp2_with fail
    refine (specFitsOk_any _ _ _ bs _ (h.below (by repeat (first | with_reducible exact Below.refl _ _ | with_reducible refine valloc ?_ _ | with_reducible refine vdrew ?_ | with_reducible refine vdrewN ?_ _ | with_reducible refine via (by assumption) ?_ | refine vset ?_ (by first | exact Nat.le_refl _ | (simp; done) | (simp; omega) | omega) _))) hlen).mono ?_; rintro e w1 ⟨rfl, hbw1⟩; obtain ⟨hcw1, hfw1⟩ := bcell hbw1; have hzw1 := hbw1.size; (try simp only [sz] at hzw1); (try simp only [szc] at hzw1); have hzw1_0 : w.heap.size < w1.heap.size := (by omega); have hzw1_1 : w.heap.size + 1 < w1.heap.size := (by omega)
    go_wp2
    refine bodyPost_ret (v := .tuple #[.agg #[.int .i64 0, .slice none 0 0], .bool false]) (by simp [results, Try.results72, go_sem, hcw1, hzw1_0, hzw1_1]) rfl ⟨none, 0, rfl, Or.inl ⟨rfl, rfl⟩, ?_⟩
    repeat (first | with_reducible exact Below.refl _ _ | with_reducible refine valloc ?_ _ | with_reducible refine vdrew ?_ | with_reducible refine vdrewN ?_ _ | with_reducible refine via (by assumption) ?_ | refine vset ?_ (by first | exact Nat.le_refl _ | (simp; done) | (simp; omega) | omega) _)
  · obtain ⟨N, rfl⟩ := Int.eq_ofNat_of_zero_le (show 0 ≤ n by have := planOk_of (fits_plan hfit); omega)
    obtain ⟨h1, h6, _, _⟩ := planOk_of (fits_plan hfit)
    have HR := Lib.hid (show newL N bs = (List.range N).map (newV 0 N) by simp [newL, hfit])
    go_enter Try.func72, Try.ntmps72
    go_wp2_with fail
    refine (specFitsOk_any _ _ _ bs _ (h.below (by repeat (first | with_reducible exact Below.refl _ _ | with_reducible refine valloc ?_ _ | with_reducible refine vdrew ?_ | with_reducible refine vdrewN ?_ _ | with_reducible refine via (by assumption) ?_ | refine vset ?_ (by first | exact Nat.le_refl _ | (simp; done) | (simp; omega) | omega) _))) hlen).mono ?_; rintro e w1 ⟨rfl, hbw1⟩
    have i0 : w1.cell? ⟨w.heap.size, 0, none⟩ = some (.int .i64 N) := cB hbw1 (by simp)
    have RB0 : Blk w1 (w.heap.size + 1) 66 #[.int .i64 0, .slice none 0 0] := (Blk.new' (by simp) _ _).below hbw1 (by simp)
    obtain ⟨hcw1, hfw1⟩ := bcell hbw1; have hzw1 := hbw1.size; (try simp only [sz] at hzw1); (try simp only [szc] at hzw1); have hzw1_0 : w.heap.size < w1.heap.size := (by omega); have hzw1_1 : w.heap.size + 1 < w1.heap.size := (by omega)
    have RBL := Lib.hid RB0
    go_wp2
    go_loopw [5] (fun i W => ∃ (k : Nat) (G : Option Addr) (cg : Nat), 1 ≤ k ∧ k ≤ N ∧ i = .int .i64 k ∧ OwnL W w1.heap.size (.slice G k cg) ((List.range k).map (newV 0 k)) ∧ Blk W (w1.heap.size + 1) 66 #[.int .i64 0, .slice G k cg] ∧ Below w1.heap.size w1 W) (fun i _ => N - (intOf i).toNat)
    case atStart => exact ⟨1, _, _, Nat.le_refl _, by omega, rfl, (OwnL.one w1 _ (Nat.le_refl _)).alloc _, Blk.new' (by simp) _ _, ((Below.refl _ _).alloc (Nat.le_refl _) _).alloc (by simp) _⟩
    case round =>
      obtain ⟨k, G, cg, hk1, hk, rfl, hO, hS, hb⟩ := hrel
      have f0 := cBel hb hzw1_0 i0
      have s0 := hS.cell 0
      have s1 := hS.cell 1
      have HO := Lib.hid hO
      have HS := Lib.hid hS
      have hgl := hS.lt
      have hzr := hb.size
      by_cases hlt : k < N
      · have HN := Lib.hid (newV_snoc hk1)
        have hll : ((List.range k).map (newV 0 k)).length = k := by rw [List.length_map, List.length_range]
        obtain ⟨w3, hw3⟩ : ∃ w3 : World, w3 = wr := ⟨_, rfl⟩
        subst hw3
        clear hO hS
        go_wp2_with (at_builtin; refine wpList_pushB rfl _ _ rfl w1.heap.size _ _ rfl (HO.out.alloc _) w3.heap.size (-1) rfl (by simp) (by omega) (by simp; omega) ?_; intro v1 w4 hown4 hb4 hst4; obtain ⟨G4, c4, rfl, _⟩ := hown4.ri; have hl4 : ((List.range k).map (newV 0 k) ++ [-1]).length = k + 1 := (by rw [List.length_append, hll]; rfl); rw [hl4] at hown4 ⊢; have hS4 := hst4 _ _ (HS.out.alloc _); have t0 := hS4.cell 1; have t1 := hS4.frozen 1; have HS4 := Lib.hid hS4; have HO4 := Lib.hid hown4; clear hS4 hown4 hst4 hl4)
        go_roundw
        case rel => exact ⟨k + 1, G4, c4, by omega, by omega, by go_num, by rw [HN.out]; exact HO4.out.box HS4.out, HS4.out.set_ 1 _, Below.setCell ((hb.alloc hb.size _).trans hb4) (by simp) _⟩
        case measure => simp [intOf]; omega
      · obtain rfl : N = k := by omega
        have hRB := RBL.out.below hb hzw1_1
        have r0 := hRB.cell 0
        have r1 := hRB.cell 1
        have q0 := hRB.frozen 0
        have q1 := hRB.frozen 1
        have HRB := Lib.hid hRB
        clear hRB
        obtain ⟨G', cg', e', hr⟩ := hO.ri
        simp only [Value.slice.injEq] at e'
        obtain ⟨rfl, hNN, rfl⟩ := e'
        clear hNN
        have RI1 := Lib.hid (hr.far2 (i := 0) (j := 1) (u := .int .i64 0) (u' := .slice G N cg) hzw1_1)
        have BB : Below w.heap.size w w1 := (by repeat (first | with_reducible exact Below.refl _ _ | with_reducible refine valloc ?_ _ | with_reducible refine vdrew ?_ | with_reducible refine vdrewN ?_ _ | with_reducible refine via (by assumption) ?_ | refine vset ?_ (by first | exact Nat.le_refl _ | (simp; done) | (simp; omega) | omega) _))
        have BW := BB.trans (hb.mono BB.size)
        have RR := Lib.hid ((HRB.out.set_ 0 (.int .i64 0)).set_ 1 (.slice G N cg))
        clear hO hS hr
        go_wp2
        refine bodyPost_ret (v := .tuple #[.agg #[.int .i64 0, .slice G N cg], .bool true]) (by
          have e0 := RR.out.cell 0
          have e1 := RR.out.cell 1
          simp at e0 e1
          simp [results, Try.results72, go_sem, e0, e1]) rfl ⟨G, cg, by rw [HR.out]; simp, ?_, ?_⟩
        · rw [HR.out]; exact RI1.out.wide (by omega) (by simp)
        · exact vset (vset BW (by simp) _) (by simp) _
end Go.Proofs.Ytedpaanhnbodfaa
