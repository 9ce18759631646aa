/- Contracts of impl and spec LaterOf, MovedBy, BrokenOf; for slices of at most 2^40 elements. -/
import Derived.Test.YtedpaanhnbodfaaSpecTimes
import Derived.OwnWalk
import Derived.Laws.AppendOwn
import Derived.WalkLawsBesides
import Derived.Deep.RegionHeld3
import Derived.Deep.AppendLies
namespace Go.Proofs.Ytedpaanhnbodfaa
open Go.RowKit
set_option linter.unusedVariables false
set_option maxRecDepth 10000
set_option linter.unusedSimpArgs false

/-- v is a slice of the call's own, in a block from base on, that holds the numbers xs. -/
def OwnL (w : World) (base : Nat) (v : Value) (xs : List Int) : Prop := w.ownsRow base 3 1 v xs.length (xs.map fun x => .int .i64 x)
theorem OwnL.nil (w : World) (base : Nat) : OwnL w base (.slice none 0 0) [] := World.ownsRow_nil _ _ _ _
theorem OwnL.empty (w : World) (base g : Nat) (hg : g = w.heap.size) (hb : base ≤ g) : OwnL (w.alloc (.cells #[] 3)) base (.slice (some ⟨g, 0, none⟩) 0 0) [] := by
  subst hg
  exact ⟨rfl, .inr ⟨w.heap.size, 0, #[], rfl, hb, heap_alloc_new w _, Nat.le_refl _, Nat.zero_le _, rfl, rfl⟩⟩
theorem OwnL.alloc {w : World} {base : Nat} {v : Value} {xs : List Int} (h : OwnL w base v xs) (o : Obj) : OwnL (w.alloc o) base v xs := World.ownsRow.alloc h o
theorem OwnL.drewN {w : World} {base : Nat} {v : Value} {xs : List Int} (h : OwnL w base v xs) (n : Nat) : OwnL (w.drewN n) base v xs := h
theorem OwnL.drew {w : World} {base : Nat} {v : Value} {xs : List Int} (h : OwnL w base v xs) : OwnL w.drew base v xs := h
theorem OwnL.below {w w1 : World} {base : Nat} {v : Value} {xs : List Int} (h : OwnL w base v xs) (hb : Below w.heap.size w w1) : OwnL w1 base v xs := by
  obtain ⟨h1, h2⟩ := h
  refine ⟨h1, ?_⟩
  rcases h2 with h2 | ⟨g, cap, cur, hv, hg, hh, r⟩
  · exact Or.inl h2
  · refine Or.inr ⟨g, cap, cur, hv, hg, ?_, r⟩
    rw [hb.block g (by
      rcases Nat.lt_or_ge g w.heap.size with hlt | hge
      · exact hlt
      · rw [Array.getElem?_eq_none hge] at hh; cases hh)]
    exact hh
/-- As a row of the call's own. -/
theorem OwnL.ri {w : World} {base : Nat} {v : Value} {xs : List Int} (h : OwnL w base v xs) : ∃ G c, v = .slice G xs.length c ∧ RI w base w.heap.size G xs := by
  obtain ⟨h1, ⟨rfl, h0⟩ | ⟨g, cap, cur, rfl, hg, hh, hn, hc, hs, ht⟩⟩ := h
  · have : xs = [] := List.eq_nil_of_length_eq_zero h0
    subst this
    exact ⟨none, 0, rfl, .inl ⟨rfl, rfl⟩⟩
  · have hlt : g < w.heap.size := by
      rcases Nat.lt_or_ge g w.heap.size with hlt | hge
      · exact hlt
      · rw [Array.getElem?_eq_none hge] at hh; cases hh
    refine ⟨some ⟨g, 0, none⟩, cap, rfl, .inr ⟨g, cur, rfl, hg, hlt, hh, by rw [hs]; omega, fun i x hi hx => ?_⟩⟩
    rw [Nat.mul_one] at ht
    have : (cur.toList.take xs.length)[i]? = some (.int .i64 x) := by rw [ht, List.getElem?_map, hx]; rfl
    rw [List.getElem?_take_of_lt hi] at this
    simpa using this
/-- What is handed back is a row of the call's own (or nil) that holds the numbers xs. -/
def ListRes (xs : List Int) (w : World) (e : Ending) (w' : World) : Prop :=
  ∃ G c, e = .returned (.slice G xs.length c) ∧ RI w' w.heap.size w'.heap.size G xs ∧ Below w.heap.size w w'
/-- The same with a bool. -/
def ListBoolRes (xs : List Int) (b : Bool) (w : World) (e : Ending) (w' : World) : Prop :=
  ∃ G c, e = .returned (.tuple #[.slice G xs.length c, .bool b]) ∧ RI w' w.heap.size w'.heap.size G xs ∧ Below w.heap.size w w'
theorem OwnL.res {w w' : World} {base : Nat} {v : Value} {xs : List Int} (h : OwnL w' base v xs) (hb : w.heap.size ≤ base) (hbel : Below w.heap.size w w') : ListRes xs w (.returned v) w' := by
  obtain ⟨G, c, rfl, hr⟩ := h.ri
  exact ⟨G, c, rfl, hr.wide hb (Nat.le_refl _), hbel⟩
theorem OwnL.resB {w w' : World} {base : Nat} {v : Value} {xs : List Int} (h : OwnL w' base v xs) (hb : w.heap.size ≤ base) (hbel : Below w.heap.size w w') (b : Bool) : ListBoolRes xs b w (.returned (.tuple #[v, .bool b])) w' := by
  obtain ⟨G, c, rfl, hr⟩ := h.ri
  exact ⟨G, c, rfl, hr.wide hb (Nat.le_refl _), hbel⟩
/-- append of one number. -/
theorem wpList_push {ops : Array Oper} {rest : List Oper} {o : Oper} {a : Act} {Q : Exit → Act → World → Prop} {w : World} (hgd : o.guard = none) (s x : Operand)
    (ho : o.op = .call { callee := .builtin .append, args := #[s, x], argTypes := #[30, 30] }) (base : Nat) (v : Value) (xs : List Int) (hs : a.eval s = v) (hown : OwnL w base v xs)
    (g : Nat) (y : Int) (hx : a.eval x = .slice (some ⟨g, 0, none⟩) 1 1) (hc : w.cell? ⟨g, 0, none⟩ = some (.int .i64 y)) (hlen : xs.length ≤ 1099511627776) (hbase : base ≤ w.heap.size)
    (h : ∀ v' w', OwnL w' base v' (xs ++ [y]) → Below base w w' → wpList Try.prog ops Q rest (a.put o.dst v') w') : wpList Try.prog ops Q (o :: rest) a w := by
  obtain ⟨i0, hi, hz0, hz1, hz2⟩ := info_parts Try.infoInt
  refine wpList_append_own _ hgd s x 30 ho base 3 i0 (.int .i64 0) 1 8 Try.underlying30 hi hz0 hz1 hz2 rfl (by decide) v xs.length _ hs hown ⟨g, 0, none⟩ 1 1 [.int .i64 y] hx rfl ?_ ?_ ?_ ?_ hbase ?_
  · intro j u hj
    match j, hj with
    | 0, hj => simp at hj; subst hj; simpa [Addr.add] using hc
  · intro u hu; simp at hu; subst hu; rfl
  · unfold maxLen; omega
  · omega
  · intro v' w' hown' hg _
    refine h v' w' ?_ ?_
    · unfold OwnL
      rw [List.length_append, List.map_append]
      exact hown'
    · refine (Below.refl base w).grown hg hbase (fun k hk => ?_)
      rcases hown.2 with ⟨rfl, _⟩ | ⟨g', cap, cur, rfl, hb', _⟩
      · cases hk
      · simp only [Value.ownBlock, Option.some.injEq] at hk; omega

/-- The same in a region that draws its order. -/
theorem step_push {ops : Array Oper} {o : Oper} {a : Act} {K : Act → World → Prop} {Q : Exit → Act → World → Prop} {E : Prop} {w : World} (hgd : o.guard = none) (s x : Operand)
    (ho : o.op = .call { callee := .builtin .append, args := #[s, x], argTypes := #[30, 30] }) (base : Nat) (v : Value) (xs : List Int) (hs : a.eval s = v) (hown : OwnL w base v xs)
    (g : Nat) (y : Int) (hx : a.eval x = .slice (some ⟨g, 0, none⟩) 1 1) (hc : w.cell? ⟨g, 0, none⟩ = some (.int .i64 y)) (hlen : xs.length ≤ 1099511627776) (hbase : base ≤ w.heap.size)
    (h : ∀ v' w', OwnL w' base v' (xs ++ [y]) → Below base w w' → K (a.put o.dst v') w') :
    if Region.wanted o (yielded ops a.tmps) = true then Oper.wp Try.prog o a w K Q else E := by
  have hw : Region.wanted o (yielded ops a.tmps) = true := by simp [Region.wanted, hgd]
  rw [if_pos hw]
  obtain ⟨i0, hi, hz0, hz1, hz2⟩ := info_parts Try.infoInt
  refine wp_append_own w s x 30 ho base 3 i0 (.int .i64 0) 1 8 Try.underlying30 hi hz0 hz1 hz2 rfl (by decide) v xs.length _ hs hown ⟨g, 0, none⟩ 1 1 [.int .i64 y] hx rfl ?_ ?_ ?_ ?_ hbase ?_
  · intro j u hj
    match j, hj with
    | 0, hj => simp at hj; subst hj; simpa [Addr.add] using hc
  · intro u hu; simp at hu; subst hu; rfl
  · unfold maxLen; omega
  · omega
  · intro v' w' hown' hg _
    refine h v' w' ?_ ?_
    · unfold OwnL
      rw [List.length_append, List.map_append]
      exact hown'
    · refine (Below.refl base w).grown hg hbase (fun k hk => ?_)
      rcases hown.2 with ⟨rfl, _⟩ | ⟨g', cap, cur, rfl, hb', _⟩
      · cases hk
      · simp only [Value.ownBlock, Option.some.injEq] at hk; omega

/-- The greater ones of two rows. -/
def maxes (a b : List Int) : List Int := List.zipWith (fun x y => if x < y then y else x) a b
def laterOf (n : Int) (bs : List Bd) (a b : List Int) : List Int := if timesOk n bs a = true ∧ timesOk n bs b = true then maxes a b else []
theorem laterOf_len (n : Int) (bs : List Bd) (a b : List Int) : (laterOf n bs a b).length ≤ a.length := by unfold laterOf; split <;> simp [maxes]; omega
theorem maxes_snoc {a b : List Int} {k : Nat} {x y : Int} (hx : a[k]? = some x) (hy : b[k]? = some y) : maxes (a.take (k + 1)) (b.take (k + 1)) = maxes (a.take k) (b.take k) ++ [if x < y then y else x] := by
  obtain ⟨ha, hva⟩ := List.getElem?_eq_some_iff.1 hx
  obtain ⟨hb, hvb⟩ := List.getElem?_eq_some_iff.1 hy
  unfold maxes
  rw [List.take_succ_eq_append_getElem ha, List.take_succ_eq_append_getElem hb, List.zipWith_append (by simp; omega), hva, hvb]
  rfl
theorem maxes_len (a b : List Int) (k : Nat) : (maxes (a.take k) (b.take k)).length ≤ k := by simp [maxes]; omega
set_option maxHeartbeats 2000000 in
theorem laterOf_any (n : Int) (A A1 A2 : Option Addr) (c c1 c2 : Nat) (bs : List Bd) (a b : List Int) (w : World) (h : BAt w A bs) (ha : IAt w A1 a) (hb : IAt w A2 b) (hlen : bs.length ≤ 1099511627776) (hlena : a.length ≤ 1099511627776) (hlenb : b.length ≤ 1099511627776) :
    Calls Try.prog 30 #[.agg #[.int .i64 n, .slice A bs.length c], .slice A1 a.length c1, .slice A2 b.length c2] w (ListRes (laterOf n bs a b) w) := by
  cases hpa : timesOk n bs a
  · have E := Lib.hid (show laterOf n bs a b = [] by simp [laterOf, hpa])
    rw [E.out]
    go_enter Try.func30, Try.ntmps30
    go_wp2_with (go_at_call 27; refine (timesOk_any _ _ _ _ _ bs a _ (h.below (by repeat (first | with_reducible exact Below.refl _ _ | with_reducible refine valloc ?_ _ | with_reducible refine vdrew ?_ | with_reducible refine vdrewN ?_ _ | with_reducible refine via (by assumption) ?_ | refine vset ?_ (by first | exact Nat.le_refl _ | (simp; done) | (simp; omega) | omega) _))) (ha.below (by repeat (first | with_reducible exact Below.refl _ _ | with_reducible refine valloc ?_ _ | with_reducible refine vdrew ?_ | with_reducible refine vdrewN ?_ _ | with_reducible refine via (by assumption) ?_ | refine vset ?_ (by first | exact Nat.le_refl _ | (simp; done) | (simp; omega) | omega) _))) hlen hlena).mono ?_; rintro e w1 ⟨rfl, hbw1⟩; obtain ⟨hcw1, hfw1⟩ := bcell hbw1; have hzw1 := hbw1.size; (try simp only [sz] at hzw1); (try simp only [szc] at hzw1); have hzw1_0 : w.heap.size < w1.heap.size := (by omega))
    go_ret
    exact (OwnL.nil _ _).res (Nat.le_refl _) (by repeat (first | with_reducible exact Below.refl _ _ | with_reducible refine valloc ?_ _ | with_reducible refine vdrew ?_ | with_reducible refine vdrewN ?_ _ | with_reducible refine via (by assumption) ?_ | refine vset ?_ (by first | exact Nat.le_refl _ | (simp; done) | (simp; omega) | omega) _))
  cases hpb : timesOk n bs b
  · have E := Lib.hid (show laterOf n bs a b = [] by simp [laterOf, hpb])
    rw [E.out]
    go_enter Try.func30, Try.ntmps30
    go_wp2_with fail
    refine (timesOk_any _ _ _ _ _ bs a _ (h.below (by repeat (first | with_reducible exact Below.refl _ _ | with_reducible refine valloc ?_ _ | with_reducible refine vdrew ?_ | with_reducible refine vdrewN ?_ _ | with_reducible refine via (by assumption) ?_ | refine vset ?_ (by first | exact Nat.le_refl _ | (simp; done) | (simp; omega) | omega) _))) (ha.below (by repeat (first | with_reducible exact Below.refl _ _ | with_reducible refine valloc ?_ _ | with_reducible refine vdrew ?_ | with_reducible refine vdrewN ?_ _ | with_reducible refine via (by assumption) ?_ | refine vset ?_ (by first | exact Nat.le_refl _ | (simp; done) | (simp; omega) | omega) _))) hlen hlena).mono ?_; rintro e w1 ⟨rfl, hbw1⟩; obtain ⟨hcw1, hfw1⟩ := bcell hbw1; have hzw1 := hbw1.size; (try simp only [sz] at hzw1); (try simp only [szc] at hzw1); have hzw1_0 : w.heap.size < w1.heap.size := (by omega)
    go_wp2_with fail
    refine (timesOk_any _ _ _ _ _ bs b _ (h.below (by repeat (first | with_reducible exact Below.refl _ _ | with_reducible refine valloc ?_ _ | with_reducible refine vdrew ?_ | with_reducible refine vdrewN ?_ _ | with_reducible refine via (by assumption) ?_ | refine vset ?_ (by first | exact Nat.le_refl _ | (simp; done) | (simp; omega) | omega) _))) (hb.below (by repeat (first | with_reducible exact Below.refl _ _ | with_reducible refine valloc ?_ _ | with_reducible refine vdrew ?_ | with_reducible refine vdrewN ?_ _ | with_reducible refine via (by assumption) ?_ | refine vset ?_ (by first | exact Nat.le_refl _ | (simp; done) | (simp; omega) | omega) _))) hlen hlenb).mono ?_; rintro e w2 ⟨rfl, hbw2⟩; obtain ⟨hcw2, hfw2⟩ := bcell hbw2; have hzw2 := hbw2.size; (try simp only [sz] at hzw2); (try simp only [szc] at hzw2); have hzw2_0 : w.heap.size < w2.heap.size := (by omega)
    go_wp2
    go_ret
    exact (OwnL.nil _ _).res (Nat.le_refl _) (by repeat (first | with_reducible exact Below.refl _ _ | with_reducible refine valloc ?_ _ | with_reducible refine vdrew ?_ | with_reducible refine vdrewN ?_ _ | with_reducible refine via (by assumption) ?_ | refine vset ?_ (by first | exact Nat.le_refl _ | (simp; done) | (simp; omega) | omega) _))
  have E := Lib.hid (show laterOf n bs a b = maxes (a.take a.length) (b.take a.length) by
    have e1 := (timesOk_of hpa).2.1
    have e2 := (timesOk_of hpb).2.1
    rw [List.take_length, show a.length = b.length by omega, List.take_length]; simp [laterOf, hpa, hpb])
  rw [E.out]
  have hab : a.length ≤ b.length := by have e1 := (timesOk_of hpa).2.1; have e2 := (timesOk_of hpb).2.1; omega
  go_enter Try.func30, Try.ntmps30
  go_wp2_with fail
  refine (timesOk_any _ _ _ _ _ bs a _ (h.below (by repeat (first | with_reducible exact Below.refl _ _ | with_reducible refine valloc ?_ _ | with_reducible refine vdrew ?_ | with_reducible refine vdrewN ?_ _ | with_reducible refine via (by assumption) ?_ | refine vset ?_ (by first | exact Nat.le_refl _ | (simp; done) | (simp; omega) | omega) _))) (ha.below (by repeat (first | with_reducible exact Below.refl _ _ | with_reducible refine valloc ?_ _ | with_reducible refine vdrew ?_ | with_reducible refine vdrewN ?_ _ | with_reducible refine via (by assumption) ?_ | refine vset ?_ (by first | exact Nat.le_refl _ | (simp; done) | (simp; omega) | omega) _))) hlen hlena).mono ?_; rintro e w1 ⟨rfl, hbw1⟩; obtain ⟨hcw1, hfw1⟩ := bcell hbw1; have hzw1 := hbw1.size; (try simp only [sz] at hzw1); (try simp only [szc] at hzw1); have hzw1_0 : w.heap.size < w1.heap.size := (by omega)
  go_wp2_with fail
  refine (timesOk_any _ _ _ _ _ bs b _ (h.below (by repeat (first | with_reducible exact Below.refl _ _ | with_reducible refine valloc ?_ _ | with_reducible refine vdrew ?_ | with_reducible refine vdrewN ?_ _ | with_reducible refine via (by assumption) ?_ | refine vset ?_ (by first | exact Nat.le_refl _ | (simp; done) | (simp; omega) | omega) _))) (hb.below (by repeat (first | with_reducible exact Below.refl _ _ | with_reducible refine valloc ?_ _ | with_reducible refine vdrew ?_ | with_reducible refine vdrewN ?_ _ | with_reducible refine via (by assumption) ?_ | refine vset ?_ (by first | exact Nat.le_refl _ | (simp; done) | (simp; omega) | omega) _))) hlen hlenb).mono ?_; rintro e w2 ⟨rfl, hbw2⟩; obtain ⟨hcw2, hfw2⟩ := bcell hbw2; have hzw2 := hbw2.size; (try simp only [sz] at hzw2); (try simp only [szc] at hzw2); have hzw2_0 : w.heap.size < w2.heap.size := (by omega)
  have b2 : Below w.heap.size w w2 := (by repeat (first | with_reducible exact Below.refl _ _ | with_reducible refine valloc ?_ _ | with_reducible refine vdrew ?_ | with_reducible refine vdrewN ?_ _ | with_reducible refine via (by assumption) ?_ | refine vset ?_ (by first | exact Nat.le_refl _ | (simp; done) | (simp; omega) | omega) _))
  have AA := Lib.hid (ha.below b2)
  have BB := Lib.hid (hb.below b2)
  clear h ha hb hcw1 hfw1 hcw2 hfw2
  go_wp2
  clear hpa hpb
  go_loopw [7, 8, 9, 22] (fun out i t j W => ∃ k : Nat, k ≤ a.length ∧ j = .int .i64 k ∧ OwnL W w2.heap.size out (maxes (a.take k) (b.take k)) ∧ Below w2.heap.size w2 W) (fun _ _ _ j _ => a.length - (intOf j).toNat)
  case atStart => exact ⟨0, Nat.zero_le _, rfl, OwnL.nil _ _, Below.refl _ _⟩
  case round =>
    obtain ⟨k, hk, rfl, hown, hbel⟩ := hrel
    by_cases hlt : k < a.length
    · obtain ⟨ab, aoff, x, eA, _, hx, hxm, cx⟩ := (AA.out.below hbel).at_ hlt
      obtain ⟨bb, boff, y, eB, _, hy, hym, cy⟩ := (BB.out.below hbel).at_ (k := k) (by omega)
      subst eA eB
      have HM := Lib.hid (maxes_snoc hx hy)
      have hml := maxes_len a b k
      have hz := hbel.size
      clear hx hy
      have hk1 : (k : Int) < (b.length : Int) := by omega
      go_wp2_with (at_builtin; refine wpList_push rfl _ _ rfl w2.heap.size _ _ rfl (hown.alloc _) wr.heap.size (if x < y then y else x) rfl (by simp) (by omega) (by simp; omega) ?_; intro v1 w3 hown3 hb3)
      go_roundw
      case rel => exact ⟨k + 1, by omega, by go_num, by rw [HM.out]; exact hown3, (hbel.alloc hbel.size _).trans hb3⟩
      case measure => simp [intOf]; omega
    · obtain rfl : k = a.length := by omega
      have HO := Lib.hid hown
      clear hown
      go_wp2
      go_ret
      exact HO.out.res (Nat.le_of_lt hzw2_0 |> fun _ => b2.size) (b2.trans (hbel.mono b2.size))
set_option maxHeartbeats 2000000 in
theorem specLaterOf_any (n : Int) (A A1 A2 : Option Addr) (c c1 c2 : Nat) (bs : List Bd) (a b : List Int) (w : World) (h : BAt w A bs) (ha : IAt w A1 a) (hb : IAt w A2 b) (hlen : bs.length ≤ 1099511627776) (hlena : a.length ≤ 1099511627776) (hlenb : b.length ≤ 1099511627776) :
    Calls Try.prog 32 #[.agg #[.int .i64 n, .slice A bs.length c], .slice A1 a.length c1, .slice A2 b.length c2] w (ListRes (laterOf n bs a b) w) := by
  by_cases hboth : timesOk n bs a = true ∧ timesOk n bs b = true
  · obtain ⟨hpa, hpb⟩ := hboth
    have E := Lib.hid (show laterOf n bs a b = maxes (a.take a.length) (b.take a.length) by
      have e1 := (timesOk_of hpa).2.1
      have e2 := (timesOk_of hpb).2.1
      rw [List.take_length, show a.length = b.length by omega, List.take_length]; simp [laterOf, hpa, hpb])
    have HPA := Lib.hid hpa
    have HPB := Lib.hid hpb
    rw [E.out]
    have hab : a.length ≤ b.length := by have e1 := (timesOk_of hpa).2.1; have e2 := (timesOk_of hpb).2.1; omega
    clear hpa hpb
    go_enter Try.func32, Try.ntmps32
    go_wp2
    go_loopw [7, 8] (fun out j W => ∃ k : Nat, k ≤ a.length ∧ j = .int .i64 k ∧ OwnL W (w.heap.size + 1) out (maxes (a.take k) (b.take k)) ∧ Below w.heap.size w W ∧ w.heap.size < W.heap.size ∧ W.cell? ⟨w.heap.size, 0, none⟩ = some (.int .i64 n) ∧ W.cell? ⟨w.heap.size, 1, none⟩ = some (.slice A bs.length c)) (fun _ j _ => a.length - (intOf j).toNat)
    case atStart => exact ⟨0, Nat.zero_le _, rfl, OwnL.empty (w.alloc _) _ _ (by simp) (Nat.le_refl _), valloc (valloc (Below.refl _ _) _) _, by simp; omega, by simp, by simp⟩
    case round =>
      obtain ⟨k, hk, rfl, hown, hbel, hz, e0, e1⟩ := hrel
      have HO := Lib.hid hown
      clear hown
      by_cases hlt : k < a.length
      · go_wp2_with fail
        refine (specTimesOk_any _ _ _ _ _ bs a _ (h.below hbel) (ha.below hbel) hlen hlena).mono ?_; rintro e w1 ⟨rfl, hbw1⟩; obtain ⟨hcw1, _⟩ := bcell hbw1
        have hpa := HPA.out
        go_wp2_with fail
        refine (specTimesOk_any _ _ _ _ _ bs b _ (h.below (via hbw1 hbel)) (hb.below (via hbw1 hbel)) hlen hlenb).mono ?_; rintro e w2 ⟨rfl, hbw2⟩
        have hpb := HPB.out
        have b2 : Below w.heap.size w w2 := via hbw2 (via hbw1 hbel)
        obtain ⟨ab, aoff, x, eA, hab1, hx, hxm, cx⟩ := ha.at_ hlt
        obtain ⟨bb, boff, y, eB, hbb1, hy, hym, cy⟩ := hb.at_ (k := k) (by omega)
        subst eA eB
        replace cx := cB b2 cx
        replace cy := cB b2 cy
        have HM := Lib.hid (maxes_snoc hx hy)
        have hml := maxes_len a b k
        have hk1 : (k : Int) < (b.length : Int) := by omega
        have f0 := cB hbw2 (cB hbw1 e0)
        have f1 := cB hbw2 (cB hbw1 e1)
        have O2 := (HO.out.below hbw1).below hbw2
        have hz2 := ltB hbw2 (ltB hbw1 hz)
        clear hx hy e0 e1 hcw1 hz
        go_wp2
        clear hpa hpb
        go_region_held3 (fun w' => w'.cell? ⟨ab, aoff + k, none⟩ = some (.int .i64 x) ∧ w'.cell? ⟨bb, boff + k, none⟩ = some (.int .i64 y)) (first | go_keep | (go_split_ands; (repeat' apply And.intro) <;> (first | assumption | (refine cBel (by assumption) (by omega) ?_; first | assumption | exact cA (by assumption) _ | exact cD (cA (by assumption) _)))))
          ((refine step_push (by rfl) _ _ (by rfl) (w.heap.size + 1) u7 _ (by rfl) ((O2.alloc _).drew) w2.heap.size (if x < y then y else x) (by rfl) (by simp) (by omega) (by simp; omega) ?_; intro v1 w6 hown6 hb6))
        go_wp2
        go_roundw
        case rel => exact ⟨k + 1, by omega, by go_num, by rw [HM.out]; exact hown6, (vdrew (valloc b2 _)).trans (hb6.mono (by omega)), Nat.lt_of_lt_of_le (ltA hz2 _) hb6.size, cBel hb6 (Nat.lt_succ_self _) (cD (cA f0 _)), cBel hb6 (Nat.lt_succ_self _) (cD (cA f1 _))⟩
        case measure => simp [intOf]; omega
      · obtain rfl : k = a.length := by omega
        go_wp2
        go_ret
        exact HO.out.res (by omega) hbel
  · have E := Lib.hid (show laterOf n bs a b = [] by simp [laterOf]; intro h1 h2; exact absurd ⟨h1, h2⟩ hboth)
    rw [E.out]
    have HNB := Lib.hid hboth
    clear hboth
    go_enter Try.func32, Try.ntmps32
    go_wp2
    go_loopw [7, 8] (fun out j W => j = .int .i64 0 ∧ out = .slice (some ⟨w.heap.size + 1, 0, none⟩) 0 0 ∧ W = (w.alloc (.cells #[.int .i64 n, .slice A bs.length c] 25)).alloc (.cells #[] 3)) (fun _ j _ => 0)
    case atStart => exact ⟨rfl, rfl, rfl⟩
    case round =>
      obtain ⟨rfl, rfl, rfl⟩ := hrel
      have HO := Lib.hid (OwnL.empty (w.alloc (.cells #[.int .i64 n, .slice A bs.length c] 25)) (w.heap.size + 1) (w.heap.size + 1) (by simp) (Nat.le_refl _))
      by_cases hlt : 0 < a.length
      · go_wp2_with fail
        refine (specTimesOk_any _ _ _ _ _ bs a _ (h.below (by repeat (first | with_reducible exact Below.refl _ _ | with_reducible refine valloc ?_ _ | with_reducible refine vdrew ?_ | with_reducible refine vdrewN ?_ _ | with_reducible refine via (by assumption) ?_ | refine vset ?_ (by first | exact Nat.le_refl _ | (simp; done) | (simp; omega) | omega) _))) (ha.below (by repeat (first | with_reducible exact Below.refl _ _ | with_reducible refine valloc ?_ _ | with_reducible refine vdrew ?_ | with_reducible refine vdrewN ?_ _ | with_reducible refine via (by assumption) ?_ | refine vset ?_ (by first | exact Nat.le_refl _ | (simp; done) | (simp; omega) | omega) _))) hlen hlena).mono ?_; rintro e w1 ⟨rfl, hbw1⟩; obtain ⟨hcw1, hfw1⟩ := bcell hbw1; have hzw1 := hbw1.size; (try simp only [sz] at hzw1); (try simp only [szc] at hzw1); have hzw1_0 : w.heap.size < w1.heap.size := (by omega); have hzw1_1 : w.heap.size + 1 < w1.heap.size := (by omega)
        cases hpa : timesOk n bs a
        · go_wp2
          go_ret
          exact (HO.out.below hbw1).res (by omega) (by repeat (first | with_reducible exact Below.refl _ _ | with_reducible refine valloc ?_ _ | with_reducible refine vdrew ?_ | with_reducible refine vdrewN ?_ _ | with_reducible refine via (by assumption) ?_ | refine vset ?_ (by first | exact Nat.le_refl _ | (simp; done) | (simp; omega) | omega) _))
        · have hpb : timesOk n bs b = false := by
            cases hh : timesOk n bs b
            · rfl
            · exact absurd ⟨hpa, hh⟩ HNB.out
          go_wp2_with fail
          refine (specTimesOk_any _ _ _ _ _ bs b _ (h.below (by repeat (first | with_reducible exact Below.refl _ _ | with_reducible refine valloc ?_ _ | with_reducible refine vdrew ?_ | with_reducible refine vdrewN ?_ _ | with_reducible refine via (by assumption) ?_ | refine vset ?_ (by first | exact Nat.le_refl _ | (simp; done) | (simp; omega) | omega) _))) (hb.below (by repeat (first | with_reducible exact Below.refl _ _ | with_reducible refine valloc ?_ _ | with_reducible refine vdrew ?_ | with_reducible refine vdrewN ?_ _ | with_reducible refine via (by assumption) ?_ | refine vset ?_ (by first | exact Nat.le_refl _ | (simp; done) | (simp; omega) | omega) _))) hlen hlenb).mono ?_; rintro e w2 ⟨rfl, hbw2⟩
          go_wp2
          go_ret
          exact ((HO.out.below hbw1).below hbw2).res (by omega) (by repeat (first | with_reducible exact Below.refl _ _ | with_reducible refine valloc ?_ _ | with_reducible refine vdrew ?_ | with_reducible refine vdrewN ?_ _ | with_reducible refine via (by assumption) ?_ | refine vset ?_ (by first | exact Nat.le_refl _ | (simp; done) | (simp; omega) | omega) _))
      · have hle : (a.length : Int) ≤ 0 := by omega
        go_wp2
        go_ret
        exact HO.out.res (by omega) (by repeat (first | with_reducible exact Below.refl _ _ | with_reducible refine valloc ?_ _ | with_reducible refine vdrew ?_ | with_reducible refine vdrewN ?_ _ | with_reducible refine via (by assumption) ?_ | refine vset ?_ (by first | exact Nat.le_refl _ | (simp; done) | (simp; omega) | omega) _))
end Go.Proofs.Ytedpaanhnbodfaa
