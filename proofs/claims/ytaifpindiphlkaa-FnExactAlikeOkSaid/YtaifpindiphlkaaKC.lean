/- Contracts of impl and spec LaterOf, MovedBy, BrokenOf; for slices of at most 2^40 elements. Contracts of impl and spec MovedBy, BrokenOf; for slices of at most 2^40 elements. Contracts of impl and spec BrokenOf; for slices of at most 2^40 elements. -/
import Derived.Test.YtaifpindiphlkaaKB
import Derived.OwnWalk
import Derived.Laws.AppendOwn
import Derived.WalkLawsBesides
import Derived.Deep.RegionHeld3
import Derived.Deep.AppendLies
import Derived.Deep.QuietTactic
import Derived.BigQuiet
namespace Go.Proofs.Ytaifpindiphlkaa
open Go.RowKit
set_option linter.unusedVariables false
set_option maxRecDepth 10000
set_option linter.unusedSimpArgs false

/-- v is a slice of the call's own, in a block from base on, that holds the numbers xs. -/
def OwnL (w : World) (base : Nat) (v : Value) (xs : List Int) : Prop := w.ownsRow base 3 1 v xs.length (xs.map fun x => .int .i64 x)
theorem OwnL.nil (w : World) (base : Nat) : OwnL w base (.slice none 0 0) [] := World.ownsRow_nil _ _ _ _
theorem OwnL.empty (w : World) (base g : Nat) (hg : g = w.heap.size) (hb : base ≤ g) : OwnL (w.alloc (.cells #[] 3)) base (.slice (some ⟨g, 0, none⟩) 0 0) [] := by
  subst hg
  exact ⟨rfl, .inr ⟨w.heap.size, 0, #[], rfl, hb, heap_alloc_new w _, Nat.le_refl _, Nat.zero_le _, rfl, rfl⟩⟩
theorem OwnL.alloc {w : World} {base : Nat} {v : Value} {xs : List Int} (h : OwnL w base v xs) (o : Obj) : OwnL (w.alloc o) base v xs := World.ownsRow.alloc h o
theorem OwnL.drewN {w : World} {base : Nat} {v : Value} {xs : List Int} (h : OwnL w base v xs) (n : Nat) : OwnL (w.drewN n) base v xs := h
theorem OwnL.drew {w : World} {base : Nat} {v : Value} {xs : List Int} (h : OwnL w base v xs) : OwnL w.drew base v xs := h
theorem OwnL.below {w w1 : World} {base : Nat} {v : Value} {xs : List Int} (h : OwnL w base v xs) (hb : Below w.heap.size w w1) : OwnL w1 base v xs := by
  obtain ⟨h1, h2⟩ := h
  refine ⟨h1, ?_⟩
  rcases h2 with h2 | ⟨g, cap, cur, hv, hg, hh, r⟩
  · exact Or.inl h2
  · refine Or.inr ⟨g, cap, cur, hv, hg, ?_, r⟩
    rw [hb.block g (by
      rcases Nat.lt_or_ge g w.heap.size with hlt | hge
      · exact hlt
      · rw [Array.getElem?_eq_none hge] at hh; cases hh)]
    exact hh
/-- As a row of the call's own. -/
theorem OwnL.ri {w : World} {base : Nat} {v : Value} {xs : List Int} (h : OwnL w base v xs) : ∃ G c, v = .slice G xs.length c ∧ RI w base w.heap.size G xs := by
  obtain ⟨h1, ⟨rfl, h0⟩ | ⟨g, cap, cur, rfl, hg, hh, hn, hc, hs, ht⟩⟩ := h
  · have : xs = [] := List.eq_nil_of_length_eq_zero h0
    subst this
    exact ⟨none, 0, rfl, .inl ⟨rfl, rfl⟩⟩
  · have hlt : g < w.heap.size := by
      rcases Nat.lt_or_ge g w.heap.size with hlt | hge
      · exact hlt
      · rw [Array.getElem?_eq_none hge] at hh; cases hh
    refine ⟨some ⟨g, 0, none⟩, cap, rfl, .inr ⟨g, cur, rfl, hg, hlt, hh, by rw [hs]; omega, fun i x hi hx => ?_⟩⟩
    rw [Nat.mul_one] at ht
    have : (cur.toList.take xs.length)[i]? = some (.int .i64 x) := by rw [ht, List.getElem?_map, hx]; rfl
    rw [List.getElem?_take_of_lt hi] at this
    simpa using this
/-- What is handed back is a row of the call's own (or nil) that holds the numbers xs. -/
def ListRes (xs : List Int) (w : World) (e : Ending) (w' : World) : Prop :=
  ∃ G c, e = .returned (.slice G xs.length c) ∧ RI w' w.heap.size w'.heap.size G xs ∧ Below w.heap.size w w'
/-- The same with a bool. -/
def ListBoolRes (xs : List Int) (b : Bool) (w : World) (e : Ending) (w' : World) : Prop :=
  ∃ G c, e = .returned (.tuple #[.slice G xs.length c, .bool b]) ∧ RI w' w.heap.size w'.heap.size G xs ∧ Below w.heap.size w w'
theorem OwnL.res {w w' : World} {base : Nat} {v : Value} {xs : List Int} (h : OwnL w' base v xs) (hb : w.heap.size ≤ base) (hbel : Below w.heap.size w w') : ListRes xs w (.returned v) w' := by
  obtain ⟨G, c, rfl, hr⟩ := h.ri
  exact ⟨G, c, rfl, hr.wide hb (Nat.le_refl _), hbel⟩
theorem OwnL.resB {w w' : World} {base : Nat} {v : Value} {xs : List Int} (h : OwnL w' base v xs) (hb : w.heap.size ≤ base) (hbel : Below w.heap.size w w') (b : Bool) : ListBoolRes xs b w (.returned (.tuple #[v, .bool b])) w' := by
  obtain ⟨G, c, rfl, hr⟩ := h.ri
  exact ⟨G, c, rfl, hr.wide hb (Nat.le_refl _), hbel⟩
/-- append of one number. -/
theorem wpList_push {ops : Array Oper} {rest : List Oper} {o : Oper} {a : Act} {Q : Exit → Act → World → Prop} {w : World} (hgd : o.guard = none) (s x : Operand)
    (ho : o.op = .call { callee := .builtin .append, args := #[s, x], argTypes := #[30, 30] }) (base : Nat) (v : Value) (xs : List Int) (hs : a.eval s = v) (hown : OwnL w base v xs)
    (g : Nat) (y : Int) (hx : a.eval x = .slice (some ⟨g, 0, none⟩) 1 1) (hc : w.cell? ⟨g, 0, none⟩ = some (.int .i64 y)) (hlen : xs.length ≤ 1099511627776) (hbase : base ≤ w.heap.size)
    (h : ∀ v' w', OwnL w' base v' (xs ++ [y]) → Below base w w' → wpList Try.prog ops Q rest (a.put o.dst v') w') : wpList Try.prog ops Q (o :: rest) a w := by
  obtain ⟨i0, hi, hz0, hz1, hz2⟩ := info_parts Try.infoInt
  refine wpList_append_own _ hgd s x 30 ho base 3 i0 (.int .i64 0) 1 8 Try.underlying30 hi hz0 hz1 hz2 rfl (by decide) v xs.length _ hs hown ⟨g, 0, none⟩ 1 1 [.int .i64 y] hx rfl ?_ ?_ ?_ ?_ hbase ?_
  · intro j u hj
    match j, hj with
    | 0, hj => simp at hj; subst hj; simpa [Addr.add] using hc
  · intro u hu; simp at hu; subst hu; rfl
  · unfold maxLen; omega
  · omega
  · intro v' w' hown' hg _
    refine h v' w' ?_ ?_
    · unfold OwnL
      rw [List.length_append, List.map_append]
      exact hown'
    · refine (Below.refl base w).grown hg hbase (fun k hk => ?_)
      rcases hown.2 with ⟨rfl, _⟩ | ⟨g', cap, cur, rfl, hb', _⟩
      · cases hk
      · simp only [Value.ownBlock, Option.some.injEq] at hk; omega

/-- The same in a region that draws its order. -/
theorem step_push {ops : Array Oper} {o : Oper} {a : Act} {K : Act → World → Prop} {Q : Exit → Act → World → Prop} {E : Prop} {w : World} (hgd : o.guard = none) (s x : Operand)
    (ho : o.op = .call { callee := .builtin .append, args := #[s, x], argTypes := #[30, 30] }) (base : Nat) (v : Value) (xs : List Int) (hs : a.eval s = v) (hown : OwnL w base v xs)
    (g : Nat) (y : Int) (hx : a.eval x = .slice (some ⟨g, 0, none⟩) 1 1) (hc : w.cell? ⟨g, 0, none⟩ = some (.int .i64 y)) (hlen : xs.length ≤ 1099511627776) (hbase : base ≤ w.heap.size)
    (h : ∀ v' w', OwnL w' base v' (xs ++ [y]) → Below base w w' → K (a.put o.dst v') w') :
    if Region.wanted o (yielded ops a.tmps) = true then Oper.wp Try.prog o a w K Q else E := by
  have hw : Region.wanted o (yielded ops a.tmps) = true := by simp [Region.wanted, hgd]
  rw [if_pos hw]
  obtain ⟨i0, hi, hz0, hz1, hz2⟩ := info_parts Try.infoInt
  refine wp_append_own w s x 30 ho base 3 i0 (.int .i64 0) 1 8 Try.underlying30 hi hz0 hz1 hz2 rfl (by decide) v xs.length _ hs hown ⟨g, 0, none⟩ 1 1 [.int .i64 y] hx rfl ?_ ?_ ?_ ?_ hbase ?_
  · intro j u hj
    match j, hj with
    | 0, hj => simp at hj; subst hj; simpa [Addr.add] using hc
  · intro u hu; simp at hu; subst hu; rfl
  · unfold maxLen; omega
  · omega
  · intro v' w' hown' hg _
    refine h v' w' ?_ ?_
    · unfold OwnL
      rw [List.length_append, List.map_append]
      exact hown'
    · refine (Below.refl base w).grown hg hbase (fun k hk => ?_)
      rcases hown.2 with ⟨rfl, _⟩ | ⟨g', cap, cur, rfl, hb', _⟩
      · cases hk
      · simp only [Value.ownBlock, Option.some.injEq] at hk; omega

/-- The greater ones of two rows. -/
def maxes (a b : List Int) : List Int := List.zipWith (fun x y => if x < y then y else x) a b
def laterOf (n : Int) (bs : List Bd) (a b : List Int) : List Int := if timesOk n bs a = true ∧ timesOk n bs b = true then maxes a b else []
theorem laterOf_len (n : Int) (bs : List Bd) (a b : List Int) : (laterOf n bs a b).length ≤ a.length := by unfold laterOf; split <;> simp [maxes]; omega
theorem maxes_snoc {a b : List Int} {k : Nat} {x y : Int} (hx : a[k]? = some x) (hy : b[k]? = some y) : maxes (a.take (k + 1)) (b.take (k + 1)) = maxes (a.take k) (b.take k) ++ [if x < y then y else x] := by
  obtain ⟨ha, hva⟩ := List.getElem?_eq_some_iff.1 hx
  obtain ⟨hb, hvb⟩ := List.getElem?_eq_some_iff.1 hy
  unfold maxes
  rw [List.take_succ_eq_append_getElem ha, List.take_succ_eq_append_getElem hb, List.zipWith_append (by simp; omega), hva, hvb]
  rfl
theorem maxes_len (a b : List Int) (k : Nat) : (maxes (a.take k) (b.take k)).length ≤ k := by simp [maxes]; omega
set_option maxHeartbeats 2000000 in
theorem laterOf_any (n : Int) (A A1 A2 : Option Addr) (c c1 c2 : Nat) (bs : List Bd) (a b : List Int) (w : World) (h : BAt w A bs) (ha : IAt w A1 a) (hb : IAt w A2 b) (hlen : bs.length ≤ 1099511627776) (hlena : a.length ≤ 1099511627776) (hlenb : b.length ≤ 1099511627776) :
    Calls Try.prog 19 #[.agg #[.int .i64 n, .slice A bs.length c], .slice A1 a.length c1, .slice A2 b.length c2] w (ListRes (laterOf n bs a b) w) := by
  cases hpa : timesOk n bs a
  · have E := Lib.hid (show laterOf n bs a b = [] by simp [laterOf, hpa])
    rw [E.out]
    go_enter Try.func19, Try.ntmps19
    go_wp2_with (go_at_call 16; refine (timesOk_any _ _ _ _ _ bs a _ (h.below (by repeat (first | with_reducible exact Below.refl _ _ | with_reducible refine valloc ?_ _ | with_reducible refine vdrew ?_ | with_reducible refine vdrewN ?_ _ | with_reducible refine via (by assumption) ?_ | refine vset ?_ (by first | exact Nat.le_refl _ | (simp; done) | (simp; omega) | omega) _))) (ha.below (by repeat (first | with_reducible exact Below.refl _ _ | with_reducible refine valloc ?_ _ | with_reducible refine vdrew ?_ | with_reducible refine vdrewN ?_ _ | with_reducible refine via (by assumption) ?_ | refine vset ?_ (by first | exact Nat.le_refl _ | (simp; done) | (simp; omega) | omega) _))) hlen hlena).mono ?_; rintro e w1 ⟨rfl, hbw1⟩; obtain ⟨hcw1, hfw1⟩ := bcell hbw1; have hzw1 := hbw1.size; (try simp only [sz] at hzw1); (try simp only [szc] at hzw1); have hzw1_0 : w.heap.size < w1.heap.size := (by omega))
    go_ret
    exact (OwnL.nil _ _).res (Nat.le_refl _) (by repeat (first | with_reducible exact Below.refl _ _ | with_reducible refine valloc ?_ _ | with_reducible refine vdrew ?_ | with_reducible refine vdrewN ?_ _ | with_reducible refine via (by assumption) ?_ | refine vset ?_ (by first | exact Nat.le_refl _ | (simp; done) | (simp; omega) | omega) _))
  cases hpb : timesOk n bs b
  · have E := Lib.hid (show laterOf n bs a b = [] by simp [laterOf, hpb])
    rw [E.out]
    go_enter Try.func19, Try.ntmps19
    go_wp2_with fail
    refine (timesOk_any _ _ _ _ _ bs a _ (h.below (by repeat (first | with_reducible exact Below.refl _ _ | with_reducible refine valloc ?_ _ | with_reducible refine vdrew ?_ | with_reducible refine vdrewN ?_ _ | with_reducible refine via (by assumption) ?_ | refine vset ?_ (by first | exact Nat.le_refl _ | (simp; done) | (simp; omega) | omega) _))) (ha.below (by repeat (first | with_reducible exact Below.refl _ _ | with_reducible refine valloc ?_ _ | with_reducible refine vdrew ?_ | with_reducible refine vdrewN ?_ _ | with_reducible refine via (by assumption) ?_ | refine vset ?_ (by first | exact Nat.le_refl _ | (simp; done) | (simp; omega) | omega) _))) hlen hlena).mono ?_; rintro e w1 ⟨rfl, hbw1⟩; obtain ⟨hcw1, hfw1⟩ := bcell hbw1; have hzw1 := hbw1.size; (try simp only [sz] at hzw1); (try simp only [szc] at hzw1); have hzw1_0 : w.heap.size < w1.heap.size := (by omega)
    go_wp2_with fail
    refine (timesOk_any _ _ _ _ _ bs b _ (h.below (by repeat (first | with_reducible exact Below.refl _ _ | with_reducible refine valloc ?_ _ | with_reducible refine vdrew ?_ | with_reducible refine vdrewN ?_ _ | with_reducible refine via (by assumption) ?_ | refine vset ?_ (by first | exact Nat.le_refl _ | (simp; done) | (simp; omega) | omega) _))) (hb.below (by repeat (first | with_reducible exact Below.refl _ _ | with_reducible refine valloc ?_ _ | with_reducible refine vdrew ?_ | with_reducible refine vdrewN ?_ _ | with_reducible refine via (by assumption) ?_ | refine vset ?_ (by first | exact Nat.le_refl _ | (simp; done) | (simp; omega) | omega) _))) hlen hlenb).mono ?_; rintro e w2 ⟨rfl, hbw2⟩; obtain ⟨hcw2, hfw2⟩ := bcell hbw2; have hzw2 := hbw2.size; (try simp only [sz] at hzw2); (try simp only [szc] at hzw2); have hzw2_0 : w.heap.size < w2.heap.size := (by omega)
    go_wp2
    go_ret
    exact (OwnL.nil _ _).res (Nat.le_refl _) (by repeat (first | with_reducible exact Below.refl _ _ | with_reducible refine valloc ?_ _ | with_reducible refine vdrew ?_ | with_reducible refine vdrewN ?_ _ | with_reducible refine via (by assumption) ?_ | refine vset ?_ (by first | exact Nat.le_refl _ | (simp; done) | (simp; omega) | omega) _))
  have E := Lib.hid (show laterOf n bs a b = maxes (a.take a.length) (b.take a.length) by
    have e1 := (timesOk_of hpa).2.1
    have e2 := (timesOk_of hpb).2.1
    rw [List.take_length, show a.length = b.length by omega, List.take_length]; simp [laterOf, hpa, hpb])
  rw [E.out]
  have hab : a.length ≤ b.length := by have e1 := (timesOk_of hpa).2.1; have e2 := (timesOk_of hpb).2.1; omega
  go_enter Try.func19, Try.ntmps19
  go_wp2_with fail
  refine (timesOk_any _ _ _ _ _ bs a _ (h.below (by repeat (first | with_reducible exact Below.refl _ _ | with_reducible refine valloc ?_ _ | with_reducible refine vdrew ?_ | with_reducible refine vdrewN ?_ _ | with_reducible refine via (by assumption) ?_ | refine vset ?_ (by first | exact Nat.le_refl _ | (simp; done) | (simp; omega) | omega) _))) (ha.below (by repeat (first | with_reducible exact Below.refl _ _ | with_reducible refine valloc ?_ _ | with_reducible refine vdrew ?_ | with_reducible refine vdrewN ?_ _ | with_reducible refine via (by assumption) ?_ | refine vset ?_ (by first | exact Nat.le_refl _ | (simp; done) | (simp; omega) | omega) _))) hlen hlena).mono ?_; rintro e w1 ⟨rfl, hbw1⟩; obtain ⟨hcw1, hfw1⟩ := bcell hbw1; have hzw1 := hbw1.size; (try simp only [sz] at hzw1); (try simp only [szc] at hzw1); have hzw1_0 : w.heap.size < w1.heap.size := (by omega)
  go_wp2_with fail
  refine (timesOk_any _ _ _ _ _ bs b _ (h.below (by repeat (first | with_reducible exact Below.refl _ _ | with_reducible refine valloc ?_ _ | with_reducible refine vdrew ?_ | with_reducible refine vdrewN ?_ _ | with_reducible refine via (by assumption) ?_ | refine vset ?_ (by first | exact Nat.le_refl _ | (simp; done) | (simp; omega) | omega) _))) (hb.below (by repeat (first | with_reducible exact Below.refl _ _ | with_reducible refine valloc ?_ _ | with_reducible refine vdrew ?_ | with_reducible refine vdrewN ?_ _ | with_reducible refine via (by assumption) ?_ | refine vset ?_ (by first | exact Nat.le_refl _ | (simp; done) | (simp; omega) | omega) _))) hlen hlenb).mono ?_; rintro e w2 ⟨rfl, hbw2⟩; obtain ⟨hcw2, hfw2⟩ := bcell hbw2; have hzw2 := hbw2.size; (try simp only [sz] at hzw2); (try simp only [szc] at hzw2); have hzw2_0 : w.heap.size < w2.heap.size := (by omega)
  have b2 : Below w.heap.size w w2 := (by repeat (first | with_reducible exact Below.refl _ _ | with_reducible refine valloc ?_ _ | with_reducible refine vdrew ?_ | with_reducible refine vdrewN ?_ _ | with_reducible refine via (by assumption) ?_ | refine vset ?_ (by first | exact Nat.le_refl _ | (simp; done) | (simp; omega) | omega) _))
  have AA := Lib.hid (ha.below b2)
  have BB := Lib.hid (hb.below b2)
  clear h ha hb hcw1 hfw1 hcw2 hfw2
  go_wp2
  clear hpa hpb
  go_loopw [7, 8, 9, 22] (fun out i t j W => ∃ k : Nat, k ≤ a.length ∧ j = .int .i64 k ∧ OwnL W w2.heap.size out (maxes (a.take k) (b.take k)) ∧ Below w2.heap.size w2 W) (fun _ _ _ j _ => a.length - (intOf j).toNat)
  case atStart => exact ⟨0, Nat.zero_le _, rfl, OwnL.nil _ _, Below.refl _ _⟩
  case round =>
    obtain ⟨k, hk, rfl, hown, hbel⟩ := hrel
    by_cases hlt : k < a.length
    · obtain ⟨ab, aoff, x, eA, _, hx, hxm, cx⟩ := (AA.out.below hbel).at_ hlt
      obtain ⟨bb, boff, y, eB, _, hy, hym, cy⟩ := (BB.out.below hbel).at_ (k := k) (by omega)
      subst eA eB
      have HM := Lib.hid (maxes_snoc hx hy)
      have hml := maxes_len a b k
      have hz := hbel.size
      clear hx hy
      have hk1 : (k : Int) < (b.length : Int) := by omega
      go_wp2_with (at_builtin; refine wpList_push rfl _ _ rfl w2.heap.size _ _ rfl (hown.alloc _) wr.heap.size (if x < y then y else x) rfl (by simp) (by omega) (by simp; omega) ?_; intro v1 w3 hown3 hb3)
      go_roundw
      case rel => exact ⟨k + 1, by omega, by go_num, by rw [HM.out]; exact hown3, (hbel.alloc hbel.size _).trans hb3⟩
      case measure => simp [intOf]; omega
    · obtain rfl : k = a.length := by omega
      have HO := Lib.hid hown
      clear hown
      go_wp2
      go_ret
      exact HO.out.res (Nat.le_of_lt hzw2_0 |> fun _ => b2.size) (b2.trans (hbel.mono b2.size))
set_option maxHeartbeats 2000000 in
theorem specLaterOf_any (n : Int) (A A1 A2 : Option Addr) (c c1 c2 : Nat) (bs : List Bd) (a b : List Int) (w : World) (h : BAt w A bs) (ha : IAt w A1 a) (hb : IAt w A2 b) (hlen : bs.length ≤ 1099511627776) (hlena : a.length ≤ 1099511627776) (hlenb : b.length ≤ 1099511627776) :
    Calls Try.prog 21 #[.agg #[.int .i64 n, .slice A bs.length c], .slice A1 a.length c1, .slice A2 b.length c2] w (ListRes (laterOf n bs a b) w) := by
  by_cases hboth : timesOk n bs a = true ∧ timesOk n bs b = true
  · obtain ⟨hpa, hpb⟩ := hboth
    have E := Lib.hid (show laterOf n bs a b = maxes (a.take a.length) (b.take a.length) by
      have e1 := (timesOk_of hpa).2.1
      have e2 := (timesOk_of hpb).2.1
      rw [List.take_length, show a.length = b.length by omega, List.take_length]; simp [laterOf, hpa, hpb])
    have HPA := Lib.hid hpa
    have HPB := Lib.hid hpb
    rw [E.out]
    have hab : a.length ≤ b.length := by have e1 := (timesOk_of hpa).2.1; have e2 := (timesOk_of hpb).2.1; omega
    clear hpa hpb
    go_enter Try.func21, Try.ntmps21
    go_wp2
    go_loopw [7, 8] (fun out j W => ∃ k : Nat, k ≤ a.length ∧ j = .int .i64 k ∧ OwnL W (w.heap.size + 1) out (maxes (a.take k) (b.take k)) ∧ Below w.heap.size w W ∧ w.heap.size < W.heap.size ∧ W.cell? ⟨w.heap.size, 0, none⟩ = some (.int .i64 n) ∧ W.cell? ⟨w.heap.size, 1, none⟩ = some (.slice A bs.length c)) (fun _ j _ => a.length - (intOf j).toNat)
    case atStart => exact ⟨0, Nat.zero_le _, rfl, OwnL.empty (w.alloc _) _ _ (by simp) (Nat.le_refl _), valloc (valloc (Below.refl _ _) _) _, by simp; omega, by simp, by simp⟩
    case round =>
      obtain ⟨k, hk, rfl, hown, hbel, hz, e0, e1⟩ := hrel
      have HO := Lib.hid hown
      clear hown
      by_cases hlt : k < a.length
      · go_wp2_with fail
        refine (specTimesOk_any _ _ _ _ _ bs a _ (h.below hbel) (ha.below hbel) hlen hlena).mono ?_; rintro e w1 ⟨rfl, hbw1⟩; obtain ⟨hcw1, _⟩ := bcell hbw1
        have hpa := HPA.out
        go_wp2_with fail
        refine (specTimesOk_any _ _ _ _ _ bs b _ (h.below (via hbw1 hbel)) (hb.below (via hbw1 hbel)) hlen hlenb).mono ?_; rintro e w2 ⟨rfl, hbw2⟩
        have hpb := HPB.out
        have b2 : Below w.heap.size w w2 := via hbw2 (via hbw1 hbel)
        obtain ⟨ab, aoff, x, eA, hab1, hx, hxm, cx⟩ := ha.at_ hlt
        obtain ⟨bb, boff, y, eB, hbb1, hy, hym, cy⟩ := hb.at_ (k := k) (by omega)
        subst eA eB
        replace cx := cB b2 cx
        replace cy := cB b2 cy
        have HM := Lib.hid (maxes_snoc hx hy)
        have hml := maxes_len a b k
        have hk1 : (k : Int) < (b.length : Int) := by omega
        have f0 := cB hbw2 (cB hbw1 e0)
        have f1 := cB hbw2 (cB hbw1 e1)
        have O2 := (HO.out.below hbw1).below hbw2
        have hz2 := ltB hbw2 (ltB hbw1 hz)
        clear hx hy e0 e1 hcw1 hz
        go_wp2
        clear hpa hpb
        go_region_held3 (fun w' => w'.cell? ⟨ab, aoff + k, none⟩ = some (.int .i64 x) ∧ w'.cell? ⟨bb, boff + k, none⟩ = some (.int .i64 y)) (first | go_keep | (go_split_ands; (repeat' apply And.intro) <;> (first | assumption | (refine cBel (by assumption) (by omega) ?_; first | assumption | exact cA (by assumption) _ | exact cD (cA (by assumption) _)))))
          ((refine step_push (by rfl) _ _ (by rfl) (w.heap.size + 1) u7 _ (by rfl) ((O2.alloc _).drew) w2.heap.size (if x < y then y else x) (by rfl) (by simp) (by omega) (by simp; omega) ?_; intro v1 w6 hown6 hb6))
        go_wp2
        go_roundw
        case rel => exact ⟨k + 1, by omega, by go_num, by rw [HM.out]; exact hown6, (vdrew (valloc b2 _)).trans (hb6.mono (by omega)), Nat.lt_of_lt_of_le (ltA hz2 _) hb6.size, cBel hb6 (Nat.lt_succ_self _) (cD (cA f0 _)), cBel hb6 (Nat.lt_succ_self _) (cD (cA f1 _))⟩
        case measure => simp [intOf]; omega
      · obtain rfl : k = a.length := by omega
        go_wp2
        go_ret
        exact HO.out.res (by omega) hbel
  · have E := Lib.hid (show laterOf n bs a b = [] by simp [laterOf]; intro h1 h2; exact absurd ⟨h1, h2⟩ hboth)
    rw [E.out]
    have HNB := Lib.hid hboth
    clear hboth
    go_enter Try.func21, Try.ntmps21
    go_wp2
    go_loopw [7, 8] (fun out j W => j = .int .i64 0 ∧ out = .slice (some ⟨w.heap.size + 1, 0, none⟩) 0 0 ∧ W = (w.alloc (.cells #[.int .i64 n, .slice A bs.length c] 25)).alloc (.cells #[] 3)) (fun _ j _ => 0)
    case atStart => exact ⟨rfl, rfl, rfl⟩
    case round =>
      obtain ⟨rfl, rfl, rfl⟩ := hrel
      have HO := Lib.hid (OwnL.empty (w.alloc (.cells #[.int .i64 n, .slice A bs.length c] 25)) (w.heap.size + 1) (w.heap.size + 1) (by simp) (Nat.le_refl _))
      by_cases hlt : 0 < a.length
      · go_wp2_with fail
        refine (specTimesOk_any _ _ _ _ _ bs a _ (h.below (by repeat (first | with_reducible exact Below.refl _ _ | with_reducible refine valloc ?_ _ | with_reducible refine vdrew ?_ | with_reducible refine vdrewN ?_ _ | with_reducible refine via (by assumption) ?_ | refine vset ?_ (by first | exact Nat.le_refl _ | (simp; done) | (simp; omega) | omega) _))) (ha.below (by repeat (first | with_reducible exact Below.refl _ _ | with_reducible refine valloc ?_ _ | with_reducible refine vdrew ?_ | with_reducible refine vdrewN ?_ _ | with_reducible refine via (by assumption) ?_ | refine vset ?_ (by first | exact Nat.le_refl _ | (simp; done) | (simp; omega) | omega) _))) hlen hlena).mono ?_; rintro e w1 ⟨rfl, hbw1⟩; obtain ⟨hcw1, hfw1⟩ := bcell hbw1; have hzw1 := hbw1.size; (try simp only [sz] at hzw1); (try simp only [szc] at hzw1); have hzw1_0 : w.heap.size < w1.heap.size := (by omega); have hzw1_1 : w.heap.size + 1 < w1.heap.size := (by omega)
        cases hpa : timesOk n bs a
        · go_wp2
          go_ret
          exact (HO.out.below hbw1).res (by omega) (by repeat (first | with_reducible exact Below.refl _ _ | with_reducible refine valloc ?_ _ | with_reducible refine vdrew ?_ | with_reducible refine vdrewN ?_ _ | with_reducible refine via (by assumption) ?_ | refine vset ?_ (by first | exact Nat.le_refl _ | (simp; done) | (simp; omega) | omega) _))
        · have hpb : timesOk n bs b = false := by
            cases hh : timesOk n bs b
            · rfl
            · exact absurd ⟨hpa, hh⟩ HNB.out
          go_wp2_with fail
          refine (specTimesOk_any _ _ _ _ _ bs b _ (h.below (by repeat (first | with_reducible exact Below.refl _ _ | with_reducible refine valloc ?_ _ | with_reducible refine vdrew ?_ | with_reducible refine vdrewN ?_ _ | with_reducible refine via (by assumption) ?_ | refine vset ?_ (by first | exact Nat.le_refl _ | (simp; done) | (simp; omega) | omega) _))) (hb.below (by repeat (first | with_reducible exact Below.refl _ _ | with_reducible refine valloc ?_ _ | with_reducible refine vdrew ?_ | with_reducible refine vdrewN ?_ _ | with_reducible refine via (by assumption) ?_ | refine vset ?_ (by first | exact Nat.le_refl _ | (simp; done) | (simp; omega) | omega) _))) hlen hlenb).mono ?_; rintro e w2 ⟨rfl, hbw2⟩
          go_wp2
          go_ret
          exact ((HO.out.below hbw1).below hbw2).res (by omega) (by repeat (first | with_reducible exact Below.refl _ _ | with_reducible refine valloc ?_ _ | with_reducible refine vdrew ?_ | with_reducible refine vdrewN ?_ _ | with_reducible refine via (by assumption) ?_ | refine vset ?_ (by first | exact Nat.le_refl _ | (simp; done) | (simp; omega) | omega) _))
      · have hle : (a.length : Int) ≤ 0 := by omega
        go_wp2
        go_ret
        exact HO.out.res (by omega) (by repeat (first | with_reducible exact Below.refl _ _ | with_reducible refine valloc ?_ _ | with_reducible refine vdrew ?_ | with_reducible refine vdrewN ?_ _ | with_reducible refine via (by assumption) ?_ | refine vset ?_ (by first | exact Nat.le_refl _ | (simp; done) | (simp; omega) | omega) _))
end Go.Proofs.Ytaifpindiphlkaa
namespace Go.Proofs.Ytaifpindiphlkaa
open Go.RowKit
set_option linter.unusedVariables false
set_option maxRecDepth 10000
set_option linter.unusedSimpArgs false

def shift (ts : List Int) (d : Int) : List Int := ts.map fun t => t + d
theorem shift_length (ts : List Int) (d : Int) : (shift ts d).length = ts.length := by simp [shift]
theorem shift_snoc {ts : List Int} {d t : Int} {k : Nat} (h : ts[k]? = some t) : shift (ts.take (k + 1)) d = shift (ts.take k) d ++ [t + d] := by
  obtain ⟨hl, hv⟩ := List.getElem?_eq_some_iff.1 h
  unfold shift
  rw [List.take_succ_eq_append_getElem hl, List.map_append, hv]; rfl
def movedOk (n : Int) (bs : List Bd) (ts : List Int) (d : Int) : Bool := timesOk n bs ts && inB d (-2000) 2000 && timesOk n bs (shift ts d)
def movedL (n : Int) (bs : List Bd) (ts : List Int) (d : Int) : List Int := if movedOk n bs ts d = true then shift ts d else []
theorem movedL_len (n : Int) (bs : List Bd) (ts : List Int) (d : Int) : (movedL n bs ts d).length ≤ ts.length := by unfold movedL; split <;> simp [shift]
set_option maxHeartbeats 2000000 in
theorem movedBy_any (n : Int) (A A1 : Option Addr) (c c1 : Nat) (bs : List Bd) (ts : List Int) (d : Int) (w : World) (h : BAt w A bs) (h' : IAt w A1 ts) (hlen : bs.length ≤ 1099511627776) (hlen' : ts.length ≤ 1099511627776) :
    Calls Try.prog 24 #[.agg #[.int .i64 n, .slice A bs.length c], .slice A1 ts.length c1, .int .i64 d] w (ListBoolRes (movedL n bs ts d) (movedOk n bs ts d) w) := by
  cases hp : timesOk n bs ts
  · have E := Lib.hid (show movedOk n bs ts d = false by simp [movedOk, hp])
    have E2 := Lib.hid (show movedL n bs ts d = [] by simp [movedL, E.out])
    rw [E.out, E2.out]
    go_enter Try.func24, Try.ntmps24
    go_wp2_with (go_at_call 16; refine (timesOk_any _ _ _ _ _ bs ts _ (h.below (by repeat (first | with_reducible exact Below.refl _ _ | with_reducible refine valloc ?_ _ | with_reducible refine vdrew ?_ | with_reducible refine vdrewN ?_ _ | with_reducible refine via (by assumption) ?_ | refine vset ?_ (by first | exact Nat.le_refl _ | (simp; done) | (simp; omega) | omega) _))) (h'.below (by repeat (first | with_reducible exact Below.refl _ _ | with_reducible refine valloc ?_ _ | with_reducible refine vdrew ?_ | with_reducible refine vdrewN ?_ _ | with_reducible refine via (by assumption) ?_ | refine vset ?_ (by first | exact Nat.le_refl _ | (simp; done) | (simp; omega) | omega) _))) hlen hlen').mono ?_; rintro e w1 ⟨rfl, hbw1⟩; obtain ⟨hcw1, hfw1⟩ := bcell hbw1; have hzw1 := hbw1.size; (try simp only [sz] at hzw1); (try simp only [szc] at hzw1); have hzw1_0 : w.heap.size < w1.heap.size := (by omega))
    go_ret2
    exact (OwnL.nil _ _).resB (Nat.le_refl _) (by repeat (first | with_reducible exact Below.refl _ _ | with_reducible refine valloc ?_ _ | with_reducible refine vdrew ?_ | with_reducible refine vdrewN ?_ _ | with_reducible refine via (by assumption) ?_ | refine vset ?_ (by first | exact Nat.le_refl _ | (simp; done) | (simp; omega) | omega) _)) _
  cases hd : inB d (-2000) 2000
  · have E := Lib.hid (show movedOk n bs ts d = false by simp [movedOk, hd])
    have E2 := Lib.hid (show movedL n bs ts d = [] by simp [movedL, E.out])
    rw [E.out, E2.out]
    go_enter Try.func24, Try.ntmps24
    go_wp2_with (first
      | (go_at_call 16; refine (timesOk_any _ _ _ _ _ bs ts _ (h.below (by repeat (first | with_reducible exact Below.refl _ _ | with_reducible refine valloc ?_ _ | with_reducible refine vdrew ?_ | with_reducible refine vdrewN ?_ _ | with_reducible refine via (by assumption) ?_ | refine vset ?_ (by first | exact Nat.le_refl _ | (simp; done) | (simp; omega) | omega) _))) (h'.below (by repeat (first | with_reducible exact Below.refl _ _ | with_reducible refine valloc ?_ _ | with_reducible refine vdrew ?_ | with_reducible refine vdrewN ?_ _ | with_reducible refine via (by assumption) ?_ | refine vset ?_ (by first | exact Nat.le_refl _ | (simp; done) | (simp; omega) | omega) _))) hlen hlen').mono ?_; rintro e w1 ⟨rfl, hbw1⟩; obtain ⟨hcw1, hfw1⟩ := bcell hbw1; have hzw1 := hbw1.size; (try simp only [sz] at hzw1); (try simp only [szc] at hzw1); have hzw1_0 : w.heap.size < w1.heap.size := (by omega))
      | (go_at_call 46; refine (in_any _ _ _ _).mono ?_; rintro e w' ⟨rfl, rfl⟩))
    go_ret2
    exact (OwnL.nil _ _).resB (Nat.le_refl _) (by repeat (first | with_reducible exact Below.refl _ _ | with_reducible refine valloc ?_ _ | with_reducible refine vdrew ?_ | with_reducible refine vdrewN ?_ _ | with_reducible refine via (by assumption) ?_ | refine vset ?_ (by first | exact Nat.le_refl _ | (simp; done) | (simp; omega) | omega) _)) _
  have hd2 := (inB_iff _ _ _).1 hd
  have HTS := Lib.hid (timesOk_of hp).2.2
  have EM := Lib.hid (show movedOk n bs ts d = timesOk n bs (shift ts d) by simp [movedOk, hp, hd])
  go_enter Try.func24, Try.ntmps24
  go_wp2_with (first
      | (go_at_call 16; refine (timesOk_any _ _ _ _ _ bs ts _ (h.below (by repeat (first | with_reducible exact Below.refl _ _ | with_reducible refine valloc ?_ _ | with_reducible refine vdrew ?_ | with_reducible refine vdrewN ?_ _ | with_reducible refine via (by assumption) ?_ | refine vset ?_ (by first | exact Nat.le_refl _ | (simp; done) | (simp; omega) | omega) _))) (h'.below (by repeat (first | with_reducible exact Below.refl _ _ | with_reducible refine valloc ?_ _ | with_reducible refine vdrew ?_ | with_reducible refine vdrewN ?_ _ | with_reducible refine via (by assumption) ?_ | refine vset ?_ (by first | exact Nat.le_refl _ | (simp; done) | (simp; omega) | omega) _))) hlen hlen').mono ?_; rintro e w1 ⟨rfl, hbw1⟩; obtain ⟨hcw1, hfw1⟩ := bcell hbw1; have hzw1 := hbw1.size; (try simp only [sz] at hzw1); (try simp only [szc] at hzw1); have hzw1_0 : w.heap.size < w1.heap.size := (by omega))
      | (go_at_call 46; refine (in_any _ _ _ _).mono ?_; rintro e w' ⟨rfl, rfl⟩))
  clear hp hd
  have b1 : Below w.heap.size w w1 := (by repeat (first | with_reducible exact Below.refl _ _ | with_reducible refine valloc ?_ _ | with_reducible refine vdrew ?_ | with_reducible refine vdrewN ?_ _ | with_reducible refine via (by assumption) ?_ | refine vset ?_ (by first | exact Nat.le_refl _ | (simp; done) | (simp; omega) | omega) _))
  have q0 : w1.cell? ⟨w.heap.size, 0, none⟩ = some (.int .i64 n) := by go_simp
  have q1 : w1.cell? ⟨w.heap.size, 1, none⟩ = some (.slice A bs.length c) := by go_simp
  have II := Lib.hid (h'.below b1)
  have BB := Lib.hid (h.below b1)
  clear h h' hcw1 hfw1
  go_loopw [8, 10, 22] (fun out t j W => ∃ k : Nat, k ≤ ts.length ∧ j = .int .i64 k ∧ OwnL W w1.heap.size out (shift (ts.take k) d) ∧ Below w1.heap.size w1 W) (fun _ _ j _ => ts.length - (intOf j).toNat)
  case atStart => exact ⟨0, Nat.zero_le _, rfl, OwnL.nil _ _, Below.refl _ _⟩
  case round =>
    obtain ⟨k, hk, rfl, hown, hbel⟩ := hrel
    have hml : (shift (ts.take k) d).length ≤ k := by rw [shift_length]; exact List.length_take_le _ _
    have hz := hbel.size
    by_cases hlt : k < ts.length
    · obtain ⟨ab, aoff, x, eA, _, hx, hxm, cx⟩ := (II.out.below hbel).at_ hlt
      subst eA
      have HM := Lib.hid (shift_snoc (d := d) hx)
      have hxb := HTS.out x hxm
      clear hx
      go_wp2_with (at_builtin; refine wpList_push rfl _ _ rfl w1.heap.size _ _ rfl (hown.alloc _) wr.heap.size (x + d) rfl (by simp) (by omega) (by simp; omega) ?_; intro v1 w3 hown3 hb3)
      go_roundw
      case rel => exact ⟨k + 1, by omega, by go_num, by rw [HM.out]; exact hown3, (hbel.alloc hbel.size _).trans hb3⟩
      case measure => simp [intOf]; omega
    · obtain rfl : k = ts.length := by omega
      rw [List.take_length] at hown hml
      obtain ⟨G, cg, rfl, hr⟩ := hown.ri
      have b2 : Below w.heap.size w wr := b1.trans (hbel.mono b1.size)
      have f0 := cB hbel q0
      have f1 := cB hbel q1
      have RR := Lib.hid hr
      have HO := Lib.hid hown
      clear hr hown q0 q1
      cases hq : timesOk n bs (shift ts d)
      · have E := Lib.hid (EM.out.trans hq)
        have E2 := Lib.hid (show movedL n bs ts d = [] by simp [movedL, E.out])
        go_wp2_with fail
        refine (timesOk_any _ _ _ _ _ bs (shift ts d) _ (BB.out.below hbel) RR.out.iat hlen (by omega)).mono ?_; rintro e w4 ⟨rfl, hbw4⟩
        go_wp2
        go_ret2
        rw [E.out, E2.out]
        exact (OwnL.nil _ _).resB (Nat.le_refl _) (via hbw4 b2) _
      · have E := Lib.hid (EM.out.trans hq)
        have E2 := Lib.hid (show movedL n bs ts d = shift ts d by simp [movedL, E.out])
        go_wp2_with fail
        refine (timesOk_any _ _ _ _ _ bs (shift ts d) _ (BB.out.below hbel) RR.out.iat hlen (by omega)).mono ?_; rintro e w4 ⟨rfl, hbw4⟩
        go_wp2
        go_ret2
        rw [E.out, E2.out]
        exact (HO.out.below hbw4).resB b1.size (via hbw4 b2) _
set_option maxHeartbeats 2000000 in
theorem specMovedBy_any (n : Int) (A A1 : Option Addr) (c c1 : Nat) (bs : List Bd) (ts : List Int) (d : Int) (w : World) (h : BAt w A bs) (h' : IAt w A1 ts) (hlen : bs.length ≤ 1099511627776) (hlen' : ts.length ≤ 1099511627776) :
    Calls Try.prog 25 #[.agg #[.int .i64 n, .slice A bs.length c], .slice A1 ts.length c1, .int .i64 d] w (ListBoolRes (movedL n bs ts d) (movedOk n bs ts d) w) := by
  cases hp : timesOk n bs ts
  · have E := Lib.hid (show movedOk n bs ts d = false by simp [movedOk, hp])
    have E2 := Lib.hid (show movedL n bs ts d = [] by simp [movedL, E.out])
    rw [E.out, E2.out]
    go_enter Try.func25, Try.ntmps25
    go_wp2_with (go_at_call 17; refine (specTimesOk_any _ _ _ _ _ bs ts _ (h.below (by repeat (first | with_reducible exact Below.refl _ _ | with_reducible refine valloc ?_ _ | with_reducible refine vdrew ?_ | with_reducible refine vdrewN ?_ _ | with_reducible refine via (by assumption) ?_ | refine vset ?_ (by first | exact Nat.le_refl _ | (simp; done) | (simp; omega) | omega) _))) (h'.below (by repeat (first | with_reducible exact Below.refl _ _ | with_reducible refine valloc ?_ _ | with_reducible refine vdrew ?_ | with_reducible refine vdrewN ?_ _ | with_reducible refine via (by assumption) ?_ | refine vset ?_ (by first | exact Nat.le_refl _ | (simp; done) | (simp; omega) | omega) _))) hlen hlen').mono ?_; rintro e w1 ⟨rfl, hbw1⟩; obtain ⟨hcw1, hfw1⟩ := bcell hbw1; have hzw1 := hbw1.size; (try simp only [sz] at hzw1); (try simp only [szc] at hzw1); have hzw1_0 : w.heap.size < w1.heap.size := (by omega))
    go_ret2
    exact (OwnL.empty w1 _ _ rfl (Nat.le_refl _)).resB (by omega) (by repeat (first | with_reducible exact Below.refl _ _ | with_reducible refine valloc ?_ _ | with_reducible refine vdrew ?_ | with_reducible refine vdrewN ?_ _ | with_reducible refine via (by assumption) ?_ | refine vset ?_ (by first | exact Nat.le_refl _ | (simp; done) | (simp; omega) | omega) _)) _
  cases hd : inB d (-2000) 2000
  · have E := Lib.hid (show movedOk n bs ts d = false by simp [movedOk, hd])
    have E2 := Lib.hid (show movedL n bs ts d = [] by simp [movedL, E.out])
    rw [E.out, E2.out]
    go_enter Try.func25, Try.ntmps25
    go_wp2_with (first
      | (go_at_call 17; refine (specTimesOk_any _ _ _ _ _ bs ts _ (h.below (by repeat (first | with_reducible exact Below.refl _ _ | with_reducible refine valloc ?_ _ | with_reducible refine vdrew ?_ | with_reducible refine vdrewN ?_ _ | with_reducible refine via (by assumption) ?_ | refine vset ?_ (by first | exact Nat.le_refl _ | (simp; done) | (simp; omega) | omega) _))) (h'.below (by repeat (first | with_reducible exact Below.refl _ _ | with_reducible refine valloc ?_ _ | with_reducible refine vdrew ?_ | with_reducible refine vdrewN ?_ _ | with_reducible refine via (by assumption) ?_ | refine vset ?_ (by first | exact Nat.le_refl _ | (simp; done) | (simp; omega) | omega) _))) hlen hlen').mono ?_; rintro e w1 ⟨rfl, hbw1⟩; obtain ⟨hcw1, hfw1⟩ := bcell hbw1; have hzw1 := hbw1.size; (try simp only [sz] at hzw1); (try simp only [szc] at hzw1); have hzw1_0 : w.heap.size < w1.heap.size := (by omega))
      | (go_at_call 50; refine (l1In_any _ _ _ _).mono ?_; rintro e w' ⟨rfl, rfl⟩))
    go_ret2
    exact (OwnL.empty w1 _ _ rfl (Nat.le_refl _)).resB (by omega) (by repeat (first | with_reducible exact Below.refl _ _ | with_reducible refine valloc ?_ _ | with_reducible refine vdrew ?_ | with_reducible refine vdrewN ?_ _ | with_reducible refine via (by assumption) ?_ | refine vset ?_ (by first | exact Nat.le_refl _ | (simp; done) | (simp; omega) | omega) _)) _
  have hd2 := (inB_iff _ _ _).1 hd
  have HTS := Lib.hid (timesOk_of hp).2.2
  have EM := Lib.hid (show movedOk n bs ts d = timesOk n bs (shift ts d) by simp [movedOk, hp, hd])
  go_enter Try.func25, Try.ntmps25
  go_wp2_with (first
      | (go_at_call 17; refine (specTimesOk_any _ _ _ _ _ bs ts _ (h.below (by repeat (first | with_reducible exact Below.refl _ _ | with_reducible refine valloc ?_ _ | with_reducible refine vdrew ?_ | with_reducible refine vdrewN ?_ _ | with_reducible refine via (by assumption) ?_ | refine vset ?_ (by first | exact Nat.le_refl _ | (simp; done) | (simp; omega) | omega) _))) (h'.below (by repeat (first | with_reducible exact Below.refl _ _ | with_reducible refine valloc ?_ _ | with_reducible refine vdrew ?_ | with_reducible refine vdrewN ?_ _ | with_reducible refine via (by assumption) ?_ | refine vset ?_ (by first | exact Nat.le_refl _ | (simp; done) | (simp; omega) | omega) _))) hlen hlen').mono ?_; rintro e w1 ⟨rfl, hbw1⟩; obtain ⟨hcw1, hfw1⟩ := bcell hbw1; have hzw1 := hbw1.size; (try simp only [sz] at hzw1); (try simp only [szc] at hzw1); have hzw1_0 : w.heap.size < w1.heap.size := (by omega))
      | (go_at_call 50; refine (l1In_any _ _ _ _).mono ?_; rintro e w' ⟨rfl, rfl⟩))
  clear hp hd
  have b1 : Below w.heap.size w w1 := (by repeat (first | with_reducible exact Below.refl _ _ | with_reducible refine valloc ?_ _ | with_reducible refine vdrew ?_ | with_reducible refine vdrewN ?_ _ | with_reducible refine via (by assumption) ?_ | refine vset ?_ (by first | exact Nat.le_refl _ | (simp; done) | (simp; omega) | omega) _))
  have q0 : w1.cell? ⟨w.heap.size, 0, none⟩ = some (.int .i64 n) := by go_simp
  have q1 : w1.cell? ⟨w.heap.size, 1, none⟩ = some (.slice A bs.length c) := by go_simp
  have II := Lib.hid (h'.below b1)
  have BB := Lib.hid (h.below b1)
  clear h h' hcw1 hfw1
  go_loopw [8, 9] (fun out j W => ∃ k : Nat, k ≤ ts.length ∧ j = .int .i64 k ∧ OwnL W w1.heap.size out (shift (ts.take k) d) ∧ Below w1.heap.size w1 W) (fun _ j _ => ts.length - (intOf j).toNat)
  case atStart => exact ⟨0, Nat.zero_le _, rfl, OwnL.empty _ _ _ rfl (Nat.le_refl _), (Below.refl _ _).alloc (Nat.le_refl _) _⟩
  case round =>
    obtain ⟨k, hk, rfl, hown, hbel⟩ := hrel
    have hml : (shift (ts.take k) d).length ≤ k := by rw [shift_length]; exact List.length_take_le _ _
    have hz := hbel.size
    by_cases hlt : k < ts.length
    · obtain ⟨ab, aoff, x, eA, _, hx, hxm, cx⟩ := (II.out.below hbel).at_ hlt
      subst eA
      have HM := Lib.hid (shift_snoc (d := d) hx)
      have hxb := HTS.out x hxm
      clear hx
      go_wp2_with (at_builtin; refine wpList_push rfl _ _ rfl w1.heap.size _ _ rfl (hown.alloc _) wr.heap.size (x + d) rfl (by simp) (by omega) (by simp; omega) ?_; intro v1 w3 hown3 hb3)
      go_roundw
      case rel => exact ⟨k + 1, by omega, by go_num, by rw [HM.out]; exact hown3, (hbel.alloc hbel.size _).trans hb3⟩
      case measure => simp [intOf]; omega
    · obtain rfl : k = ts.length := by omega
      rw [List.take_length] at hown hml
      obtain ⟨G, cg, rfl, hr⟩ := hown.ri
      have b2 : Below w.heap.size w wr := b1.trans (hbel.mono b1.size)
      have f0 := cB hbel q0
      have f1 := cB hbel q1
      have RR := Lib.hid hr
      have HO := Lib.hid hown
      clear hr hown q0 q1
      cases hq : timesOk n bs (shift ts d)
      · have E := Lib.hid (EM.out.trans hq)
        have E2 := Lib.hid (show movedL n bs ts d = [] by simp [movedL, E.out])
        go_wp2_with fail
        refine (specTimesOk_any _ _ _ _ _ bs (shift ts d) _ (BB.out.below hbel) RR.out.iat hlen (by omega)).mono ?_; rintro e w4 ⟨rfl, hbw4⟩
        go_wp2
        go_ret2
        rw [E.out, E2.out]
        have hz4 := (via hbw4 b2).size
        exact (OwnL.empty w4 _ _ rfl (Nat.le_refl _)).resB hz4 (valloc (via hbw4 b2) _) _
      · have E := Lib.hid (EM.out.trans hq)
        have E2 := Lib.hid (show movedL n bs ts d = shift ts d by simp [movedL, E.out])
        go_wp2_with fail
        refine (specTimesOk_any _ _ _ _ _ bs (shift ts d) _ (BB.out.below hbel) RR.out.iat hlen (by omega)).mono ?_; rintro e w4 ⟨rfl, hbw4⟩
        go_wp2
        go_ret2
        rw [E.out, E2.out]
        exact (HO.out.below hbw4).resB b1.size (via hbw4 b2) _
end Go.Proofs.Ytaifpindiphlkaa
namespace Go.Proofs.Ytaifpindiphlkaa
open Go.RowKit
set_option linter.unusedVariables false
set_option maxRecDepth 10000
set_option linter.unusedSimpArgs false

/-- The places below k of all bounds that the times do not keep. -/
def brokenTo (bs : List Bd) (ts : List Int) (k : Nat) : List Int := ((List.range k).filter fun i => !keeps ts (bs.getD i ⟨0, 0, 0⟩)).map fun (i : Nat) => (i : Int)
def brokenOf (n : Int) (bs : List Bd) (ts : List Int) : List Int := if timesOk n bs ts = true then brokenTo bs ts bs.length else []
theorem brokenTo_len (bs : List Bd) (ts : List Int) (k : Nat) : (brokenTo bs ts k).length ≤ k := by
  unfold brokenTo
  rw [List.length_map]
  exact Nat.le_trans (List.length_filter_le _ _) (by simp)
theorem brokenOf_len (n : Int) (bs : List Bd) (ts : List Int) : (brokenOf n bs ts).length ≤ bs.length := by
  unfold brokenOf; split
  · exact brokenTo_len _ _ _
  · simp
theorem brokenTo_hit {bs : List Bd} {ts : List Int} {k : Nat} {x : Bd} (hx : bs[k]? = some x) (h : keeps ts x = false) : brokenTo bs ts (k + 1) = brokenTo bs ts k ++ [(k : Int)] := by
  unfold brokenTo
  rw [List.range_succ, List.filter_append, List.map_append]
  have : bs.getD k ⟨0, 0, 0⟩ = x := by rw [List.getD_eq_getElem?_getD, hx]; rfl
  simp only [List.filter_cons, List.filter_nil, this, h]; rfl
theorem brokenTo_miss {bs : List Bd} {ts : List Int} {k : Nat} {x : Bd} (hx : bs[k]? = some x) (h : keeps ts x = true) : brokenTo bs ts (k + 1) = brokenTo bs ts k := by
  unfold brokenTo
  rw [List.range_succ, List.filter_append, List.map_append]
  have : bs.getD k ⟨0, 0, 0⟩ = x := by rw [List.getD_eq_getElem?_getD, hx]; rfl
  simp only [List.filter_cons, List.filter_nil, this, h]; simp
set_option maxHeartbeats 2000000 in
theorem brokenOf_any (n : Int) (A A1 : Option Addr) (c c1 : Nat) (bs : List Bd) (ts : List Int) (w : World) (h : BAt w A bs) (h' : IAt w A1 ts) (hlen : bs.length ≤ 1099511627776) (hlen' : ts.length ≤ 1099511627776) :
    Calls Try.prog 27 #[.agg #[.int .i64 n, .slice A bs.length c], .slice A1 ts.length c1] w (ListRes (brokenOf n bs ts) w) := by
  cases hp : timesOk n bs ts
  · have E := Lib.hid (show brokenOf n bs ts = [] by simp [brokenOf, hp])
    rw [E.out]
    go_enter Try.func27, Try.ntmps27
    go_wp2_with (go_at_call 16; refine (timesOk_any _ _ _ _ _ bs ts _ (h.below (by repeat (first | with_reducible exact Below.refl _ _ | with_reducible refine valloc ?_ _ | with_reducible refine vdrew ?_ | with_reducible refine vdrewN ?_ _ | with_reducible refine via (by assumption) ?_ | refine vset ?_ (by first | exact Nat.le_refl _ | (simp; done) | (simp; omega) | omega) _))) (h'.below (by repeat (first | with_reducible exact Below.refl _ _ | with_reducible refine valloc ?_ _ | with_reducible refine vdrew ?_ | with_reducible refine vdrewN ?_ _ | with_reducible refine via (by assumption) ?_ | refine vset ?_ (by first | exact Nat.le_refl _ | (simp; done) | (simp; omega) | omega) _))) hlen hlen').mono ?_; rintro e w1 ⟨rfl, hbw1⟩; obtain ⟨hcw1, hfw1⟩ := bcell hbw1; have hzw1 := hbw1.size; (try simp only [sz] at hzw1); (try simp only [szc] at hzw1); have hzw1_0 : w.heap.size < w1.heap.size := (by omega))
    go_ret
    exact (OwnL.nil _ _).res (Nat.le_refl _) (by repeat (first | with_reducible exact Below.refl _ _ | with_reducible refine valloc ?_ _ | with_reducible refine vdrew ?_ | with_reducible refine vdrewN ?_ _ | with_reducible refine via (by assumption) ?_ | refine vset ?_ (by first | exact Nat.le_refl _ | (simp; done) | (simp; omega) | omega) _))
  have E := Lib.hid (show brokenOf n bs ts = brokenTo bs ts bs.length by simp [brokenOf, hp])
  rw [E.out]
  obtain ⟨hp1, hn, hts⟩ := timesOk_of hp
  obtain ⟨n1, n6, _, hbs⟩ := planOk_of hp1
  have HTS := Lib.hid hts
  have HBS := Lib.hid (show ∀ x ∈ bs, 0 ≤ x.f ∧ x.f < ts.length ∧ 0 ≤ x.t ∧ x.t < ts.length from fun x hx => by have := hbs x hx; omega)
  clear hn hts hbs hp1
  go_enter Try.func27, Try.ntmps27
  go_wp2_with (go_at_call 16; refine (timesOk_any _ _ _ _ _ bs ts _ (h.below (by repeat (first | with_reducible exact Below.refl _ _ | with_reducible refine valloc ?_ _ | with_reducible refine vdrew ?_ | with_reducible refine vdrewN ?_ _ | with_reducible refine via (by assumption) ?_ | refine vset ?_ (by first | exact Nat.le_refl _ | (simp; done) | (simp; omega) | omega) _))) (h'.below (by repeat (first | with_reducible exact Below.refl _ _ | with_reducible refine valloc ?_ _ | with_reducible refine vdrew ?_ | with_reducible refine vdrewN ?_ _ | with_reducible refine via (by assumption) ?_ | refine vset ?_ (by first | exact Nat.le_refl _ | (simp; done) | (simp; omega) | omega) _))) hlen hlen').mono ?_; rintro e w1 ⟨rfl, hbw1⟩; obtain ⟨hcw1, hfw1⟩ := bcell hbw1; have hzw1 := hbw1.size; (try simp only [sz] at hzw1); (try simp only [szc] at hzw1); have hzw1_0 : w.heap.size < w1.heap.size := (by omega))
  clear hp
  have b1 : Below w.heap.size w w1 := (by repeat (first | with_reducible exact Below.refl _ _ | with_reducible refine valloc ?_ _ | with_reducible refine vdrew ?_ | with_reducible refine vdrewN ?_ _ | with_reducible refine via (by assumption) ?_ | refine vset ?_ (by first | exact Nat.le_refl _ | (simp; done) | (simp; omega) | omega) _))
  have II := Lib.hid (h'.below b1)
  have BB := Lib.hid (h.below b1)
  clear h h' hcw1 hfw1
  go_loopw [5, 6, 7, 15] (fun out i b j W => ∃ k : Nat, k ≤ bs.length ∧ j = .int .i64 k ∧ OwnL W w1.heap.size out (brokenTo bs ts k) ∧ Below w1.heap.size w1 W) (fun _ _ _ j _ => bs.length - (intOf j).toNat)
  case atStart => exact ⟨0, Nat.zero_le _, rfl, OwnL.nil _ _, Below.refl _ _⟩
  case round =>
    obtain ⟨k, hk, rfl, hown, hbel⟩ := hrel
    have hml := brokenTo_len bs ts k
    have hz := hbel.size
    have HO := Lib.hid hown
    clear hown
    by_cases hlt : k < bs.length
    · obtain ⟨ab, aoff, x, eA, _, hx, hxm, x0, x1, x2⟩ := (BB.out.below hbel).at_ hlt
      subst eA
      obtain ⟨p1, p2, p3, p4⟩ := HBS.out x hxm
      have KB := Lib.hid (fun W (hb : Below wr.heap.size wr W) => keptBy_any A1 c1 ts x W ((II.out.below hbel).below hb) p1 p2 p3 p4 HTS.out hlen')
      have HX := Lib.hid hx
      clear hx
      cases hkp : keeps ts x
      · have HM := Lib.hid (brokenTo_hit HX.out hkp)
        go_wp2_with fail
        refine (KB.out _ ((Below.refl _ _).alloc (Nat.le_refl _) _)).mono ?_
        rintro e w3 ⟨rfl, hb3⟩
        have b3 : Below w1.heap.size w1 w3 := (hbel.alloc hbel.size _).trans (hb3.mono (by rw [sz]; omega))
        have hz3 := b3.size
        have O3 := (HO.out.alloc _).below hb3
        go_wp2_with (at_builtin; refine wpList_push rfl _ _ rfl w1.heap.size _ _ rfl (O3.alloc _) w3.heap.size (k : Int) rfl (by simp) (by omega) (by simp; omega) ?_; intro v1 w4 hown4 hb4)
        go_roundw
        case rel => exact ⟨k + 1, by omega, by go_num, by rw [HM.out]; exact hown4, (b3.alloc hz3 _).trans hb4⟩
        case measure => simp [intOf]; omega
      · have HM := Lib.hid (brokenTo_miss HX.out hkp)
        go_wp2_with fail
        refine (KB.out _ ((Below.refl _ _).alloc (Nat.le_refl _) _)).mono ?_
        rintro e w3 ⟨rfl, hb3⟩
        have b3 : Below w1.heap.size w1 w3 := (hbel.alloc hbel.size _).trans (hb3.mono (by rw [sz]; omega))
        have O3 := Lib.hid ((HO.out.alloc _).below hb3)
        go_wp2
        go_roundw
        case rel => exact ⟨k + 1, by omega, by go_num, by rw [HM.out]; exact O3.out, b3⟩
        case measure => simp [intOf]; omega
    · obtain rfl : k = bs.length := by omega
      go_wp2
      go_ret
      exact HO.out.res b1.size (b1.trans (hbel.mono b1.size))
set_option maxHeartbeats 2000000 in
theorem specBrokenOf_any (n : Int) (A A1 : Option Addr) (c c1 : Nat) (bs : List Bd) (ts : List Int) (w : World) (h : BAt w A bs) (h' : IAt w A1 ts) (hlen : bs.length ≤ 1099511627776) (hlen' : ts.length ≤ 1099511627776) :
    Calls Try.prog 28 #[.agg #[.int .i64 n, .slice A bs.length c], .slice A1 ts.length c1] w (ListRes (brokenOf n bs ts) w) := by
  cases hp : timesOk n bs ts
  · have E := Lib.hid (show brokenOf n bs ts = [] by simp [brokenOf, hp])
    rw [E.out]
    go_enter Try.func28, Try.ntmps28
    go_wp2
    go_loopw [5, 6] (fun out j W => j = .int .i64 0 ∧ out = .slice (some ⟨w.heap.size + 1, 0, none⟩) 0 0 ∧ W = (w.alloc (.cells #[.int .i64 n, .slice A bs.length c] 25)).alloc (.cells #[] 3)) (fun _ j _ => 0)
    case atStart => exact ⟨rfl, rfl, rfl⟩
    case round =>
      obtain ⟨rfl, rfl, rfl⟩ := hrel
      have HO := Lib.hid (OwnL.empty (w.alloc (.cells #[.int .i64 n, .slice A bs.length c] 25)) (w.heap.size + 1) (w.heap.size + 1) (by simp) (Nat.le_refl _))
      by_cases hlt : 0 < bs.length
      · go_wp2_with fail
        refine (specTimesOk_any _ _ _ _ _ bs ts _ (h.below (by repeat (first | with_reducible exact Below.refl _ _ | with_reducible refine valloc ?_ _ | with_reducible refine vdrew ?_ | with_reducible refine vdrewN ?_ _ | with_reducible refine via (by assumption) ?_ | refine vset ?_ (by first | exact Nat.le_refl _ | (simp; done) | (simp; omega) | omega) _))) (h'.below (by repeat (first | with_reducible exact Below.refl _ _ | with_reducible refine valloc ?_ _ | with_reducible refine vdrew ?_ | with_reducible refine vdrewN ?_ _ | with_reducible refine via (by assumption) ?_ | refine vset ?_ (by first | exact Nat.le_refl _ | (simp; done) | (simp; omega) | omega) _))) hlen hlen').mono ?_; rintro e w1 ⟨rfl, hbw1⟩; obtain ⟨hcw1, hfw1⟩ := bcell hbw1; have hzw1 := hbw1.size; (try simp only [sz] at hzw1); (try simp only [szc] at hzw1); have hzw1_0 : w.heap.size < w1.heap.size := (by omega); have hzw1_1 : w.heap.size + 1 < w1.heap.size := (by omega)
        go_wp2
        go_ret
        exact (HO.out.below hbw1).res (by omega) (by repeat (first | with_reducible exact Below.refl _ _ | with_reducible refine valloc ?_ _ | with_reducible refine vdrew ?_ | with_reducible refine vdrewN ?_ _ | with_reducible refine via (by assumption) ?_ | refine vset ?_ (by first | exact Nat.le_refl _ | (simp; done) | (simp; omega) | omega) _))
      · have hle : (bs.length : Int) ≤ 0 := by omega
        go_wp2
        go_ret
        exact HO.out.res (by omega) (by repeat (first | with_reducible exact Below.refl _ _ | with_reducible refine valloc ?_ _ | with_reducible refine vdrew ?_ | with_reducible refine vdrewN ?_ _ | with_reducible refine via (by assumption) ?_ | refine vset ?_ (by first | exact Nat.le_refl _ | (simp; done) | (simp; omega) | omega) _))
  have E := Lib.hid (show brokenOf n bs ts = brokenTo bs ts bs.length by simp [brokenOf, hp])
  rw [E.out]
  obtain ⟨hp1, hn, hts⟩ := timesOk_of hp
  obtain ⟨n1, n6, _, hbs⟩ := planOk_of hp1
  have HTS := Lib.hid hts
  have HP := Lib.hid hp
  have HBS := Lib.hid (show ∀ x ∈ bs, 0 ≤ x.f ∧ x.f < ts.length ∧ 0 ≤ x.t ∧ x.t < ts.length from fun x hx => by have := hbs x hx; omega)
  clear hn hts hbs hp1 hp
  go_enter Try.func28, Try.ntmps28
  go_wp2
  go_loopw [5, 6] (fun out j W => ∃ k : Nat, k ≤ bs.length ∧ j = .int .i64 k ∧ OwnL W (w.heap.size + 1) out (brokenTo bs ts k) ∧ Below w.heap.size w W ∧ w.heap.size < W.heap.size ∧ W.cell? ⟨w.heap.size, 0, none⟩ = some (.int .i64 n) ∧ W.cell? ⟨w.heap.size, 1, none⟩ = some (.slice A bs.length c)) (fun _ j _ => bs.length - (intOf j).toNat)
  case atStart => exact ⟨0, Nat.zero_le _, rfl, OwnL.empty (w.alloc _) _ _ (by simp) (Nat.le_refl _), valloc (valloc (Below.refl _ _) _) _, by simp; omega, by simp, by simp⟩
  case round =>
    obtain ⟨k, hk, rfl, hown, hbel, hz, e0, e1⟩ := hrel
    have hml := brokenTo_len bs ts k
    have HO := Lib.hid hown
    clear hown
    by_cases hlt : k < bs.length
    · go_wp2_with fail
      refine (specTimesOk_any _ _ _ _ _ bs ts _ (h.below hbel) (h'.below hbel) hlen hlen').mono ?_; rintro e w1 ⟨rfl, hbw1⟩
      have b1 : Below w.heap.size w w1 := via hbw1 hbel
      have f0 := cB hbw1 e0
      have f1 := cB hbw1 e1
      have O1 := Lib.hid (HO.out.below hbw1)
      have hz1 := ltB hbw1 hz
      obtain ⟨b, off, x, rfl, hbl, hx, hxm, c0, c1, c2⟩ := (h.below b1).at_ hlt
      obtain ⟨p1, p2, p3, p4⟩ := HBS.out x hxm
      obtain ⟨f, t, m⟩ := x
      simp only at p1 p2 p3 p4 c0 c1 c2
      obtain ⟨f, rfl⟩ := Int.eq_ofNat_of_zero_le p1
      obtain ⟨t, rfl⟩ := Int.eq_ofNat_of_zero_le p3
      obtain ⟨tb, toff, u, rfl, hul, hu, hum, cu⟩ := (h'.below b1).at_ (k := f) (by omega)
      obtain ⟨tb', toff', v, e, hvl, hv, hvm, cv⟩ := (h'.below b1).at_ (k := t) (by omega)
      obtain ⟨rfl, rfl⟩ : tb = tb' ∧ toff = toff' := by injection e with e; injection e with e1 e2; exact ⟨e1, e2⟩
      have hu1 := HTS.out u hum
      have hv1 := HTS.out v hvm
      have E := Lib.hid (show keeps ts ⟨f, t, m⟩ = decide (v - u ≤ m) by simp [keeps, hu, hv])
      have HX := Lib.hid hx
      have hk0 : (0 : Int) ≤ (k : Int) := by omega
      have hk1 : (k : Int) < (bs.length : Int) := by omega
      have hpt := HP.out
      clear hx h h' hu hv e e0 e1 hz
      by_cases hd : m < v - u
      · have HM := Lib.hid (brokenTo_hit HX.out (show keeps ts ⟨f, t, m⟩ = false by rw [E.out]; simp; omega))
        go_wp2
        clear hpt
        go_quiet (fail)
        have F : Below w.heap.size w (w1.drewN nq) ∧ w.heap.size < (w1.drewN nq).heap.size ∧ OwnL (w1.drewN nq) (w.heap.size + 1) u5 (brokenTo bs ts k) ∧ (w1.drewN nq).cell? ⟨w.heap.size, 0, none⟩ = some (.int .i64 n) ∧ (w1.drewN nq).cell? ⟨w.heap.size, 1, none⟩ = some (.slice (some ⟨b, off, none⟩) bs.length c) := ⟨vdrewN b1 _, hz1, O1.out.drewN _, f0, f1⟩
        clear f0 f1 c0 c2 cu cv
        generalize w1.drewN nq = w5 at F ⊢
        obtain ⟨g1, g2, g3, g4, g5⟩ := F
        go_wp2_with (at_builtin; refine wpList_push rfl _ _ rfl (w.heap.size + 1) _ _ rfl (g3.alloc _) w5.heap.size (k : Int) rfl (by simp) (by omega) (by simp; omega) ?_; intro v1 w4 hown4 hb4)
        go_roundw
        case rel => exact ⟨k + 1, by omega, by go_num, by rw [HM.out]; exact hown4, (valloc g1 _).trans (hb4.mono (by omega)), Nat.lt_of_lt_of_le (ltA g2 _) hb4.size, cBel hb4 (Nat.lt_succ_self _) (cA g4 _), cBel hb4 (Nat.lt_succ_self _) (cA g5 _)⟩
        case measure => simp [intOf]; omega
      · have HM := Lib.hid (brokenTo_miss HX.out (show keeps ts ⟨f, t, m⟩ = true by rw [E.out]; simp; omega))
        go_wp2
        clear hpt
        go_quiet (fail)
        go_wp2
        go_roundw
        case rel => exact ⟨k + 1, by omega, by go_num, by rw [HM.out]; exact O1.out.drewN _, vdrewN b1 _, hz1, f0, f1⟩
        case measure => simp [intOf]; omega
    · obtain rfl : k = bs.length := by omega
      go_wp2
      go_ret
      exact HO.out.res (by omega) hbel
end Go.Proofs.Ytaifpindiphlkaa
