/- Contracts of EndedFrom and TimesFor, of the program and of the reference; for slices of at most 2^40 elements. -/
import Derived.Test.YtnhadopllbcciaaStartOk
import Derived.Test.YtnhadopllbcciaaWindows
import Derived.Laws.AppendOwnNone
namespace Go.Proofs.Ytnhadopllbcciaa
open Go.RowKit
set_option linter.unusedVariables false
set_option maxRecDepth 10000
set_option linter.unusedSimpArgs false

theorem MAt.eq_ {w : World} {A : Option Addr} {N M : Nat} {T T' : Tab} (h : MAt w A N M T) (he : ∀ i j, i < M → j < N → T i j = T' i j) : MAt w A N M T' := by
  intro h0
  obtain ⟨g, off, e, hg, hr⟩ := h h0
  refine ⟨g, off, e, hg, fun i hi => ?_⟩
  obtain ⟨b, o, c, h1, h2, h3⟩ := hr i hi
  exact ⟨b, o, c, h1, h2, fun j hj => by rw [← he i j hi hj]; exact h3 j hj⟩
def lenOf : Value → Nat
  | .slice _ n _ => n
  | _ => 0
/-- append of a whole slice. -/
theorem wpList_pushS {ops : Array Oper} {rest : List Oper} {o : Oper} {a : Act} {Q : Exit → Act → World → Prop} {w : World} (hgd : o.guard = none) (s x : Operand)
    (ho : o.op = .call { callee := .builtin .append, args := #[s, x], argTypes := #[38, 38] }) (base : Nat) (v : Value) (xs : List Int) (hs : a.eval s = v) (hown : OwnL w base v xs)
    (A : Option Addr) (ys : List Int) (hx : a.eval x = .slice A ys.length ys.length) (hc : IAt w A ys) (hlen : xs.length + ys.length ≤ 1099511627776) (hbase : base ≤ w.heap.size)
    (h : ∀ v' w', OwnL w' base v' (xs ++ ys) → Below base w w' → wpList Try.prog ops Q rest (a.put o.dst v') w') : wpList Try.prog ops Q (o :: rest) a w := by
  obtain ⟨i0, hi, hz0, hz1, hz2⟩ := info_parts Try.infoInt
  cases A with
  | none =>
    have hy : ys = [] := by
      cases ys with
      | nil => rfl
      | cons y ys =>
        obtain ⟨b, off, e, _⟩ := hc (by simp)
        cases e
    subst hy
    refine wpList_append_own_none hgd s x 38 ho base 3 i0 1 Try.underlying38 hi v xs.length _ hs hown hx ?_
    refine h v w ?_ (Below.refl _ _)
    rw [List.append_nil]; exact hown
  | some ad =>
    refine wpList_append_own _ hgd s x 38 ho base 3 i0 (.int .i64 0) 1 8 Try.underlying38 hi hz0 hz1 hz2 rfl (by decide) v xs.length _ hs hown ad ys.length ys.length (ys.map fun y => .int .i64 y) hx (by simp) ?_ ?_ ?_ ?_ hbase ?_
    · intro j u hj
      rw [List.getElem?_map] at hj
      cases hy : ys[j]? with
      | none => rw [hy] at hj; cases hj
      | some y =>
        rw [hy] at hj
        cases hj
        obtain ⟨b, off, e, _, hcc⟩ := hc (by have := (List.getElem?_eq_some_iff.1 hy).1; omega)
        cases e
        have q := hcc j y hy
        by_cases e0 : j = 0
        · subst e0; simpa [Addr.add] using q
        · simpa [Addr.add, e0] using q
    · intro u hu
      obtain ⟨y, _, rfl⟩ := List.mem_map.1 hu
      rfl
    · unfold maxLen; omega
    · omega
    · intro v' w' hown' hg _
      refine h v' w' ?_ ?_
      · unfold OwnL
        rw [List.length_append, List.map_append]
        exact hown'
      · refine (Below.refl base w).grown hg hbase (fun k hk => ?_)
        rcases hown.2 with ⟨rfl, _⟩ | ⟨g', cap, cur, rfl, hb', _⟩
        · cases hk
        · simp only [Value.ownBlock, Option.some.injEq] at hk; omega
/-- Some times, and those of so many further points. -/
def extT (T : Tab) (ts : List Int) : Nat → List Int
  | 0 => ts
  | d + 1 => extT T ts d ++ [nextV T (extT T ts d)]
theorem extT_len (T : Tab) (ts : List Int) : ∀ d, (extT T ts d).length = ts.length + d
  | 0 => rfl
  | d + 1 => by
    show (extT T ts d ++ [nextV T (extT T ts d)]).length = _
    rw [List.length_append, extT_len T ts d, List.length_singleton]; omega
def endedL (n : Int) (bs : List Bd) (ts : List Int) : List Int := if startB n bs ts = true then extT (closedT n bs) ts (n.toNat - ts.length) else []
theorem startB_fit {n : Int} {bs : List Bd} {ts : List Int} (h : startB n bs ts = true) : fitsOk n bs = true ∧ (ts.length : Int) ≤ n := by
  simp only [startB, Bool.and_eq_true, decide_eq_true_eq] at h
  exact ⟨h.1.1.1, h.1.1.2⟩
theorem endedL_len (n : Int) (bs : List Bd) (ts : List Int) : (endedL n bs ts).length ≤ 6 := by
  unfold endedL
  split
  · rename_i h
    obtain ⟨h1, h2⟩ := startB_fit h
    have := planOk_of (fits_plan h1)
    rw [extT_len]; omega
  · simp
theorem nextV_low {T : Tab} {ts : List Int} (h : -100000 < lowG false T ts.length ts (-100000) ts.length) : nextV T ts = lowG false T ts.length ts (-100000) ts.length := if_pos (by omega)
theorem nextV_high {T : Tab} {ts : List Int} (h : ¬ -100000 < lowG false T ts.length ts (-100000) ts.length) (h2 : highG false T ts.length ts ts.length < 100000) : nextV T ts = highG false T ts.length ts ts.length := by
  have := lowG_ge (sk := false) (T := T) (p := ts.length) (ts := ts) (a := -100000) ts.length
  unfold nextV
  rw [if_neg (by omega), if_pos (by omega)]
theorem nextV_none {T : Tab} {ts : List Int} (h : ¬ -100000 < lowG false T ts.length ts (-100000) ts.length) (h2 : ¬ highG false T ts.length ts ts.length < 100000) : nextV T ts = 0 := by
  have := lowG_ge (sk := false) (T := T) (p := ts.length) (ts := ts) (a := -100000) ts.length
  have := highG_le (sk := false) (T := T) (p := ts.length) (ts := ts) ts.length
  unfold nextV
  rw [if_neg (by omega), if_neg (by omega)]
set_option maxHeartbeats 1000000 in
theorem endedFrom_any (n : Int) (A A' : Option Addr) (c : Nat) (bs : List Bd) (ts : List Int) (w : World) (h : BAt w A bs) (h' : IAt w A' ts) (hlen : bs.length ≤ 1099511627776) (hlen' : ts.length ≤ 1099511627776) :
    Calls Try.prog 67 #[.agg #[.int .i64 n, .slice A bs.length c], .slice A' ts.length ts.length] w (ListBoolRes (endedL n bs ts) (startB n bs ts) w) := by
  cases hs : startB n bs ts
  · have HR := Lib.hid (show endedL n bs ts = [] by simp [endedL, hs])
    go_enter Try.func67, Try.ntmps67
    go_wp2_with fail
    refine (startOk_any _ _ _ _ bs ts _ (h.below (by repeat (first | with_reducible exact Below.refl _ _ | with_reducible refine valloc ?_ _ | with_reducible refine vdrew ?_ | with_reducible refine vdrewN ?_ _ | with_reducible refine via (by assumption) ?_ | refine vset ?_ (by first | exact Nat.le_refl _ | (simp; done) | (simp; omega) | omega) _))) (h'.below (by repeat (first | with_reducible exact Below.refl _ _ | with_reducible refine valloc ?_ _ | with_reducible refine vdrew ?_ | with_reducible refine vdrewN ?_ _ | with_reducible refine via (by assumption) ?_ | refine vset ?_ (by first | exact Nat.le_refl _ | (simp; done) | (simp; omega) | omega) _))) hlen hlen').mono ?_; rintro e w1 ⟨rfl, hbw1⟩
    go_wp2
    go_ret2
    rw [HR.out]
    refine ⟨none, 0, rfl, Or.inl ⟨rfl, rfl⟩, ?_⟩
    repeat (first | with_reducible exact Below.refl _ _ | with_reducible refine valloc ?_ _ | with_reducible refine vdrew ?_ | with_reducible refine vdrewN ?_ _ | with_reducible refine via (by assumption) ?_ | refine vset ?_ (by first | exact Nat.le_refl _ | (simp; done) | (simp; omega) | omega) _)
  · obtain ⟨hfit, hl0⟩ := startB_fit hs
    obtain ⟨N, rfl⟩ := Int.eq_ofNat_of_zero_le (show 0 ≤ n by have := planOk_of (fits_plan hfit); omega)
    obtain ⟨h1, h6, _, _⟩ := planOk_of (fits_plan hfit)
    have hl : ts.length ≤ N := by omega
    have HR := Lib.hid (show endedL N bs ts = extT (closedT N bs) ts (N - ts.length) by simp [endedL, hs])
    have HL := Lib.hid (extT_len (closedT N bs) ts)
    go_enter Try.func67, Try.ntmps67
    go_wp2_with fail
    refine (startOk_any _ _ _ _ bs ts _ (h.below (by repeat (first | with_reducible exact Below.refl _ _ | with_reducible refine valloc ?_ _ | with_reducible refine vdrew ?_ | with_reducible refine vdrewN ?_ _ | with_reducible refine via (by assumption) ?_ | refine vset ?_ (by first | exact Nat.le_refl _ | (simp; done) | (simp; omega) | omega) _))) (h'.below (by repeat (first | with_reducible exact Below.refl _ _ | with_reducible refine valloc ?_ _ | with_reducible refine vdrew ?_ | with_reducible refine vdrewN ?_ _ | with_reducible refine via (by assumption) ?_ | refine vset ?_ (by first | exact Nat.le_refl _ | (simp; done) | (simp; omega) | omega) _))) hlen hlen').mono ?_; rintro e w1 ⟨rfl, hbw1⟩
    have i0 : w1.cell? ⟨w.heap.size, 0, none⟩ = some (.int .i64 N) := cB hbw1 (by simp)
    obtain ⟨hcw1, hfw1⟩ := bcell hbw1; have hzw1 := hbw1.size; (try simp only [sz] at hzw1); (try simp only [szc] at hzw1); have hzw1_0 : w.heap.size < w1.heap.size := (by omega)
    go_wp2_with fail
    refine (closed_yes _ _ _ bs _ (h.below (by repeat (first | with_reducible exact Below.refl _ _ | with_reducible refine valloc ?_ _ | with_reducible refine vdrew ?_ | with_reducible refine vdrewN ?_ _ | with_reducible refine via (by assumption) ?_ | refine vset ?_ (by first | exact Nat.le_refl _ | (simp; done) | (simp; omega) | omega) _))) hlen hfit).mono ?_; rintro e w2 ⟨g, N', R, hN', hN1, hN6, rfl, hG, hbw2⟩; obtain ⟨hcw2, hfw2⟩ := bcell hbw2; have hzw2 := hbw2.size; (try simp only [sz] at hzw2); (try simp only [szc] at hzw2); have hzw2_0 : w.heap.size < w2.heap.size := (by omega)
    obtain rfl : N = N' := by omega
    have j0 : w2.cell? ⟨w.heap.size, 0, none⟩ = some (.int .i64 N) := by rw [hcw2 _ _ hzw1_0]; exact i0
    have HM := Lib.hid hG.mat
    clear hG
    have BB : Below w.heap.size w w2 := (by repeat (first | with_reducible exact Below.refl _ _ | with_reducible refine valloc ?_ _ | with_reducible refine vdrew ?_ | with_reducible refine vdrewN ?_ _ | with_reducible refine via (by assumption) ?_ | refine vset ?_ (by first | exact Nat.le_refl _ | (simp; done) | (simp; omega) | omega) _))
    have HI := Lib.hid (h'.below BB)
    generalize closedT N bs = T at *
    go_wp2_with (at_builtin; refine wpList_pushS rfl _ _ rfl w2.heap.size _ [] rfl (OwnL.nil _ _) A' ts rfl HI.out (by simpa using hlen') (Nat.le_refl _) ?_; intro v1 w3 hown3 hb3)
    rw [List.nil_append] at hown3
    have HO3 := Lib.hid hown3
    clear hown3
    go_loopw [8] (fun out W => ∃ (d : Nat) (xs : List Int), xs = extT T ts d ∧ xs.length ≤ N ∧ OwnL W w2.heap.size out xs ∧ Below w2.heap.size w2 W) (fun out _ => N - lenOf out)
    case atStart => exact ⟨0, ts, rfl, hl, HO3.out, hb3⟩
    case round =>
      obtain ⟨d, xs, hxs, hd, hown, hb⟩ := hrel
      obtain ⟨G, cg, rfl, hr⟩ := hown.ri
      have HO := Lib.hid hown
      have HRI := Lib.hid hr
      have f0 := cBel hb hzw2_0 j0
      have hzr := hb.size
      have HX := Lib.hid (show extT T ts (d + 1) = xs ++ [nextV T xs] by rw [hxs]; rfl)
      have HD := Lib.hid (show xs.length = ts.length + d by rw [hxs]; exact HL.out d)
      have HXS := Lib.hid hxs
      clear hown hr hxs
      by_cases hlt : xs.length < N
      · go_wp2_with fail
        refine (next_any _ _ _ _ N T xs _ (HM.out.below hb) HRI.out.iat hlt (by omega)).mono ?_; rintro e w4 ⟨rfl, hbw4⟩
        have O4 := Lib.hid (HO.out.below hbw4)
        have hz4 := hbw4.size
        go_wp2_with (at_builtin; refine wpList_push rfl _ _ rfl w2.heap.size _ _ rfl (O4.out.alloc _) w4.heap.size (nextV T xs) rfl (by simp) (by omega) (by simp; omega) ?_; intro v1 w5 hown5 hb5)
        go_roundw
        case rel => exact ⟨d + 1, xs ++ [nextV T xs], HX.out.symm, by simp; omega, hown5, ((hb.trans (hbw4.mono hb.size)).alloc (by omega) _).trans hb5⟩
        case measure =>
          obtain ⟨G5, c5, rfl, _⟩ := hown5.ri
          simp only [lenOf, List.length_append, List.length_singleton]; omega
      · have hge : xs.length = N := by omega
        have HR2 := Lib.hid (show endedL N bs ts = xs by rw [HR.out, HXS.out]; congr 1; have := HD.out; omega)
        go_wp2
        go_ret2
        rw [HR2.out]
        exact ⟨G, cg, rfl, HRI.out.wide BB.size (Nat.le_refl _), BB.trans (hb.mono BB.size)⟩
set_option maxHeartbeats 1000000 in
theorem specEndedFrom_any (n : Int) (A A' : Option Addr) (c : Nat) (bs : List Bd) (ts : List Int) (w : World) (h : BAt w A bs) (h' : IAt w A' ts) (hlen : bs.length ≤ 1099511627776) (hlen' : ts.length ≤ 1099511627776) :
    Calls Try.prog 66 #[.agg #[.int .i64 n, .slice A bs.length c], .slice A' ts.length ts.length] w (ListBoolRes (endedL n bs ts) (startB n bs ts) w) := by
  cases hs : startB n bs ts
  · have HR := Lib.hid (show endedL n bs ts = [] by simp [endedL, hs])
    go_enter Try.func66, Try.ntmps66
    go_wp2_with fail
    refine (specStartOk_any _ _ _ _ _ bs ts _ (h.below (by repeat (first | with_reducible exact Below.refl _ _ | with_reducible refine valloc ?_ _ | with_reducible refine vdrew ?_ | with_reducible refine vdrewN ?_ _ | with_reducible refine via (by assumption) ?_ | refine vset ?_ (by first | exact Nat.le_refl _ | (simp; done) | (simp; omega) | omega) _))) (h'.below (by repeat (first | with_reducible exact Below.refl _ _ | with_reducible refine valloc ?_ _ | with_reducible refine vdrew ?_ | with_reducible refine vdrewN ?_ _ | with_reducible refine via (by assumption) ?_ | refine vset ?_ (by first | exact Nat.le_refl _ | (simp; done) | (simp; omega) | omega) _))) hlen hlen').mono ?_; rintro e w1 ⟨rfl, hbw1⟩
    have HO := Lib.hid (OwnL.empty w1 w1.heap.size _ rfl (Nat.le_refl _))
    have hz := hbw1.size
    go_wp2
    go_ret2
    rw [HR.out]
    refine HO.out.resB (by simp at hz; omega) ?_ false
    repeat (first | with_reducible exact Below.refl _ _ | with_reducible refine valloc ?_ _ | with_reducible refine vdrew ?_ | with_reducible refine vdrewN ?_ _ | with_reducible refine via (by assumption) ?_ | refine vset ?_ (by first | exact Nat.le_refl _ | (simp; done) | (simp; omega) | omega) _)
  · obtain ⟨hfit, hl0⟩ := startB_fit hs
    obtain ⟨N, rfl⟩ := Int.eq_ofNat_of_zero_le (show 0 ≤ n by have := planOk_of (fits_plan hfit); omega)
    obtain ⟨h1, h6, _, _⟩ := planOk_of (fits_plan hfit)
    have hl : ts.length ≤ N := by omega
    have HR := Lib.hid (show endedL N bs ts = extT (closedT N bs) ts (N - ts.length) by simp [endedL, hs])
    have HL := Lib.hid (extT_len (closedT N bs) ts)
    have HC := Lib.hid (closed_eq hfit)
    have HT := Lib.hid (fun i j hi hj => (closed_bound hfit i j hi hj).2)
    go_enter Try.func66, Try.ntmps66
    go_wp2_with fail
    refine (specStartOk_any _ _ _ _ _ bs ts _ (h.below (by repeat (first | with_reducible exact Below.refl _ _ | with_reducible refine valloc ?_ _ | with_reducible refine vdrew ?_ | with_reducible refine vdrewN ?_ _ | with_reducible refine via (by assumption) ?_ | refine vset ?_ (by first | exact Nat.le_refl _ | (simp; done) | (simp; omega) | omega) _))) (h'.below (by repeat (first | with_reducible exact Below.refl _ _ | with_reducible refine valloc ?_ _ | with_reducible refine vdrew ?_ | with_reducible refine vdrewN ?_ _ | with_reducible refine via (by assumption) ?_ | refine vset ?_ (by first | exact Nat.le_refl _ | (simp; done) | (simp; omega) | omega) _))) hlen hlen').mono ?_; rintro e w1 ⟨rfl, hbw1⟩
    have i0 : w1.cell? ⟨w.heap.size, 0, none⟩ = some (.int .i64 N) := cB hbw1 (by simp)
    obtain ⟨hcw1, hfw1⟩ := bcell hbw1; have hzw1 := hbw1.size; (try simp only [sz] at hzw1); (try simp only [szc] at hzw1); have hzw1_0 : w.heap.size < w1.heap.size := (by omega)
    go_wp2_with fail
    refine (l2Closed_any N _ _ bs _ (h.below (by repeat (first | with_reducible exact Below.refl _ _ | with_reducible refine valloc ?_ _ | with_reducible refine vdrew ?_ | with_reducible refine vdrewN ?_ _ | with_reducible refine via (by assumption) ?_ | refine vset ?_ (by first | exact Nat.le_refl _ | (simp; done) | (simp; omega) | omega) _))) (by omega) (by omega) hlen).mono ?_; rintro e w2 ⟨A2, c2, rfl, hm2, hbw2⟩; obtain ⟨hcw2, hfw2⟩ := bcell hbw2; have hzw2 := hbw2.size; (try simp only [sz] at hzw2); (try simp only [szc] at hzw2); have hzw2_0 : w.heap.size < w2.heap.size := (by omega)
    have j0 : w2.cell? ⟨w.heap.size, 0, none⟩ = some (.int .i64 N) := by rw [hcw2 _ _ hzw1_0]; exact i0
    have HM := Lib.hid ((hm2.mat (Nat.le_refl _)).eq_ HC.out)
    clear hm2
    have BB : Below w.heap.size w w2 := (by repeat (first | with_reducible exact Below.refl _ _ | with_reducible refine valloc ?_ _ | with_reducible refine vdrew ?_ | with_reducible refine vdrewN ?_ _ | with_reducible refine via (by assumption) ?_ | refine vset ?_ (by first | exact Nat.le_refl _ | (simp; done) | (simp; omega) | omega) _))
    have HI := Lib.hid (h'.below BB)
    generalize closedT N bs = T at *
    have HI2 := Lib.hid (HI.out.below ((Below.refl _ _).alloc (Nat.le_refl _) (.cells #[] 3)))
    go_wp2_with (at_builtin; refine wpList_pushS rfl _ _ rfl w2.heap.size _ [] rfl (OwnL.empty w2 _ _ rfl (Nat.le_refl _)) A' ts rfl HI2.out (by simpa using hlen') (by simp) ?_; intro v1 w3 hown3 hb3)
    rw [List.nil_append] at hown3
    have HO3 := Lib.hid hown3
    clear hown3
    have B3 := Lib.hid (((Below.refl w2.heap.size w2).alloc (Nat.le_refl _) (.cells #[] 3)).trans hb3)
    go_loopw [7, 8] (fun out k W => ∃ (d : Nat) (xs : List Int), xs = extT T ts d ∧ xs.length ≤ N ∧ k = .int .i64 xs.length ∧ OwnL W w2.heap.size out xs ∧ Below w2.heap.size w2 W) (fun _ k _ => N - (intOf k).toNat)
    case atStart => exact ⟨0, ts, rfl, hl, rfl, HO3.out, B3.out⟩
    case round =>
      obtain ⟨d, xs, hxs, hd, rfl, hown, hb⟩ := hrel
      obtain ⟨G, cg, rfl, hr⟩ := hown.ri
      have HO := Lib.hid hown
      have HRI := Lib.hid hr
      have f0 := cBel hb hzw2_0 j0
      have hzr := hb.size
      have HX := Lib.hid (show extT T ts (d + 1) = xs ++ [nextV T xs] by rw [hxs]; rfl)
      have HD := Lib.hid (show xs.length = ts.length + d by rw [hxs]; exact HL.out d)
      have HXS := Lib.hid hxs
      have HK := Lib.hid (show ((xs.length : Nat) : Int) + 1 = ((xs ++ [nextV T xs]).length : Nat) by simp)
      clear hown hr hxs
      by_cases hlt : xs.length < N
      · have NL := Lib.hid (@nextV_low T xs)
        have NH := Lib.hid (@nextV_high T xs)
        have NN := Lib.hid (@nextV_none T xs)
        go_wp2_with fail
        refine (l4Window_any _ _ _ _ N xs.length T xs _ (HM.out.below hb) HRI.out.iat hlt (by omega) (by omega) HT.out).mono ?_; rintro e w4 ⟨rfl, hbw4⟩
        have O4 := Lib.hid (HO.out.below hbw4)
        have hz4 := hbw4.size
        generalize lowG false T xs.length xs (-100000) xs.length = lo at *
        generalize highG false T xs.length xs xs.length = hi at *
        by_cases s1 : -100000 < lo
        · have HV := Lib.hid (NL.out s1)
          go_wp2_with (at_builtin; refine wpList_push rfl _ _ rfl w2.heap.size _ _ rfl (O4.out.alloc _) w4.heap.size lo rfl (by simp) (by omega) (by simp; omega) ?_; intro v1 w5 hown5 hb5)
          go_roundw
          case rel => exact ⟨d + 1, xs ++ [nextV T xs], HX.out.symm, by simp; omega, by rw [← HK.out], by rw [HV.out]; exact hown5, ((hb.trans (hbw4.mono hb.size)).alloc (by omega) _).trans hb5⟩
          case measure => simp [intOf]; omega
        · by_cases s2 : hi < 100000
          · have HV := Lib.hid (NH.out (by omega) s2)
            go_wp2_with (at_builtin; refine wpList_push rfl _ _ rfl w2.heap.size _ _ rfl (O4.out.alloc _) w4.heap.size hi rfl (by simp) (by omega) (by simp; omega) ?_; intro v1 w5 hown5 hb5)
            go_roundw
            case rel => exact ⟨d + 1, xs ++ [nextV T xs], HX.out.symm, by simp; omega, by rw [← HK.out], by rw [HV.out]; exact hown5, ((hb.trans (hbw4.mono hb.size)).alloc (by omega) _).trans hb5⟩
            case measure => simp [intOf]; omega
          · have HV := Lib.hid (NN.out (by omega) (by omega))
            go_wp2_with (at_builtin; refine wpList_push rfl _ _ rfl w2.heap.size _ _ rfl (O4.out.alloc _) w4.heap.size 0 rfl (by simp) (by omega) (by simp; omega) ?_; intro v1 w5 hown5 hb5)
            go_roundw
            case rel => exact ⟨d + 1, xs ++ [nextV T xs], HX.out.symm, by simp; omega, by rw [← HK.out], by rw [HV.out]; exact hown5, ((hb.trans (hbw4.mono hb.size)).alloc (by omega) _).trans hb5⟩
            case measure => simp [intOf]; omega
      · have hge : xs.length = N := by omega
        have HR2 := Lib.hid (show endedL N bs ts = xs by rw [HR.out, HXS.out]; congr 1; have := HD.out; omega)
        go_wp2
        go_ret2
        rw [HR2.out]
        exact ⟨G, cg, rfl, HRI.out.wide BB.size (Nat.le_refl _), BB.trans (hb.mono BB.size)⟩
set_option maxHeartbeats 1000000 in
theorem timesFor_any (n : Int) (A : Option Addr) (c : Nat) (bs : List Bd) (w : World) (h : BAt w A bs) (hlen : bs.length ≤ 1099511627776) :
    Calls Try.prog 65 #[.agg #[.int .i64 n, .slice A bs.length c]] w (ListBoolRes (endedL n bs []) (startB n bs []) w) := by
  have E0 : ∀ W, IAt W none [] := fun W h0 => absurd h0 (by simp)
  go_enter Try.func65, Try.ntmps65
  go_wp2_with fail
  refine (endedFrom_any _ _ none _ bs [] _ (h.below (by repeat (first | with_reducible exact Below.refl _ _ | with_reducible refine valloc ?_ _ | with_reducible refine vdrew ?_ | with_reducible refine vdrewN ?_ _ | with_reducible refine via (by assumption) ?_ | refine vset ?_ (by first | exact Nat.le_refl _ | (simp; done) | (simp; omega) | omega) _))) (E0 _) hlen (by simp)).mono ?_
  rintro e w1 ⟨G, cg, rfl, hr, hbw1⟩
  have HR := Lib.hid hr
  clear hr
  go_wp2
  go_ret2
  refine ⟨G, cg, rfl, HR.out.wide (by simp) (Nat.le_refl _), ?_⟩
  repeat (first | with_reducible exact Below.refl _ _ | with_reducible refine valloc ?_ _ | with_reducible refine vdrew ?_ | with_reducible refine vdrewN ?_ _ | with_reducible refine via (by assumption) ?_ | refine vset ?_ (by first | exact Nat.le_refl _ | (simp; done) | (simp; omega) | omega) _)
set_option maxHeartbeats 1000000 in
theorem specTimesFor_any (n : Int) (A : Option Addr) (c : Nat) (bs : List Bd) (w : World) (h : BAt w A bs) (hlen : bs.length ≤ 1099511627776) :
    Calls Try.prog 64 #[.agg #[.int .i64 n, .slice A bs.length c]] w (ListBoolRes (endedL n bs []) (startB n bs []) w) := by
  have E0 : ∀ W A, IAt W A [] := fun W A h0 => absurd h0 (by simp)
  go_enter Try.func64, Try.ntmps64
  go_wp2_with fail
  refine (specEndedFrom_any _ _ _ _ bs [] _ (h.below (by repeat (first | with_reducible exact Below.refl _ _ | with_reducible refine valloc ?_ _ | with_reducible refine vdrew ?_ | with_reducible refine vdrewN ?_ _ | with_reducible refine via (by assumption) ?_ | refine vset ?_ (by first | exact Nat.le_refl _ | (simp; done) | (simp; omega) | omega) _))) (E0 _ _) hlen (by simp)).mono ?_
  rintro e w1 ⟨G, cg, rfl, hr, hbw1⟩
  have HR := Lib.hid hr
  clear hr
  go_wp2
  go_ret2
  refine ⟨G, cg, rfl, HR.out.wide (by simp; omega) (Nat.le_refl _), ?_⟩
  repeat (first | with_reducible exact Below.refl _ _ | with_reducible refine valloc ?_ _ | with_reducible refine vdrew ?_ | with_reducible refine vdrewN ?_ _ | with_reducible refine via (by assumption) ?_ | refine vset ?_ (by first | exact Nat.le_refl _ | (simp; done) | (simp; omega) | omega) _)
end Go.Proofs.Ytnhadopllbcciaa
