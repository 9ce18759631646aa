/- Contracts of impl and spec BrokenOf; for slices of at most 2^40 elements. -/
import Derived.Test.YtedpaanhnbodfaaLists
import Derived.Deep.QuietTactic
import Derived.BigQuiet
namespace Go.Proofs.Ytedpaanhnbodfaa
open Go.RowKit
set_option linter.unusedVariables false
set_option maxRecDepth 10000
set_option linter.unusedSimpArgs false

/-- The places below k of all bounds that the times do not keep. -/
def brokenTo (bs : List Bd) (ts : List Int) (k : Nat) : List Int := ((List.range k).filter fun i => !keeps ts (bs.getD i ⟨0, 0, 0⟩)).map fun (i : Nat) => (i : Int)
def brokenOf (n : Int) (bs : List Bd) (ts : List Int) : List Int := if timesOk n bs ts = true then brokenTo bs ts bs.length else []
theorem brokenTo_len (bs : List Bd) (ts : List Int) (k : Nat) : (brokenTo bs ts k).length ≤ k := by
  unfold brokenTo
  rw [List.length_map]
  exact Nat.le_trans (List.length_filter_le _ _) (by simp)
theorem brokenOf_len (n : Int) (bs : List Bd) (ts : List Int) : (brokenOf n bs ts).length ≤ bs.length := by
  unfold brokenOf; split
  · exact brokenTo_len _ _ _
  · simp
theorem brokenTo_hit {bs : List Bd} {ts : List Int} {k : Nat} {x : Bd} (hx : bs[k]? = some x) (h : keeps ts x = false) : brokenTo bs ts (k + 1) = brokenTo bs ts k ++ [(k : Int)] := by
  unfold brokenTo
  rw [List.range_succ, List.filter_append, List.map_append]
  have : bs.getD k ⟨0, 0, 0⟩ = x := by rw [List.getD_eq_getElem?_getD, hx]; rfl
  simp only [List.filter_cons, List.filter_nil, this, h]; rfl
theorem brokenTo_miss {bs : List Bd} {ts : List Int} {k : Nat} {x : Bd} (hx : bs[k]? = some x) (h : keeps ts x = true) : brokenTo bs ts (k + 1) = brokenTo bs ts k := by
  unfold brokenTo
  rw [List.range_succ, List.filter_append, List.map_append]
  have : bs.getD k ⟨0, 0, 0⟩ = x := by rw [List.getD_eq_getElem?_getD, hx]; rfl
  simp only [List.filter_cons, List.filter_nil, this, h]; simp
set_option maxHeartbeats 2000000 in
theorem brokenOf_any (n : Int) (A A1 : Option Addr) (c c1 : Nat) (bs : List Bd) (ts : List Int) (w : World) (h : BAt w A bs) (h' : IAt w A1 ts) (hlen : bs.length ≤ 1099511627776) (hlen' : ts.length ≤ 1099511627776) :
    Calls Try.prog 38 #[.agg #[.int .i64 n, .slice A bs.length c], .slice A1 ts.length c1] w (ListRes (brokenOf n bs ts) w) := by
  cases hp : timesOk n bs ts
  · have E := Lib.hid (show brokenOf n bs ts = [] by simp [brokenOf, hp])
    rw [E.out]
    go_enter Try.func38, Try.ntmps38
    go_wp2_with (go_at_call 27; refine (timesOk_any _ _ _ _ _ bs ts _ (h.below (by repeat (first | with_reducible exact Below.refl _ _ | with_reducible refine valloc ?_ _ | with_reducible refine vdrew ?_ | with_reducible refine vdrewN ?_ _ | with_reducible refine via (by assumption) ?_ | refine vset ?_ (by first | exact Nat.le_refl _ | (simp; done) | (simp; omega) | omega) _))) (h'.below (by repeat (first | with_reducible exact Below.refl _ _ | with_reducible refine valloc ?_ _ | with_reducible refine vdrew ?_ | with_reducible refine vdrewN ?_ _ | with_reducible refine via (by assumption) ?_ | refine vset ?_ (by first | exact Nat.le_refl _ | (simp; done) | (simp; omega) | omega) _))) hlen hlen').mono ?_; rintro e w1 ⟨rfl, hbw1⟩; obtain ⟨hcw1, hfw1⟩ := bcell hbw1; have hzw1 := hbw1.size; (try simp only [sz] at hzw1); (try simp only [szc] at hzw1); have hzw1_0 : w.heap.size < w1.heap.size := (by omega))
    go_ret
    exact (OwnL.nil _ _).res (Nat.le_refl _) (by repeat (first | with_reducible exact Below.refl _ _ | with_reducible refine valloc ?_ _ | with_reducible refine vdrew ?_ | with_reducible refine vdrewN ?_ _ | with_reducible refine via (by assumption) ?_ | refine vset ?_ (by first | exact Nat.le_refl _ | (simp; done) | (simp; omega) | omega) _))
  have E := Lib.hid (show brokenOf n bs ts = brokenTo bs ts bs.length by simp [brokenOf, hp])
  rw [E.out]
  obtain ⟨hp1, hn, hts⟩ := timesOk_of hp
  obtain ⟨n1, n6, _, hbs⟩ := planOk_of hp1
  have HTS := Lib.hid hts
  have HBS := Lib.hid (show ∀ x ∈ bs, 0 ≤ x.f ∧ x.f < ts.length ∧ 0 ≤ x.t ∧ x.t < ts.length from fun x hx => by have := hbs x hx; omega)
  clear hn hts hbs hp1
  go_enter Try.func38, Try.ntmps38
  go_wp2_with (go_at_call 27; refine (timesOk_any _ _ _ _ _ bs ts _ (h.below (by repeat (first | with_reducible exact Below.refl _ _ | with_reducible refine valloc ?_ _ | with_reducible refine vdrew ?_ | with_reducible refine vdrewN ?_ _ | with_reducible refine via (by assumption) ?_ | refine vset ?_ (by first | exact Nat.le_refl _ | (simp; done) | (simp; omega) | omega) _))) (h'.below (by repeat (first | with_reducible exact Below.refl _ _ | with_reducible refine valloc ?_ _ | with_reducible refine vdrew ?_ | with_reducible refine vdrewN ?_ _ | with_reducible refine via (by assumption) ?_ | refine vset ?_ (by first | exact Nat.le_refl _ | (simp; done) | (simp; omega) | omega) _))) hlen hlen').mono ?_; rintro e w1 ⟨rfl, hbw1⟩; obtain ⟨hcw1, hfw1⟩ := bcell hbw1; have hzw1 := hbw1.size; (try simp only [sz] at hzw1); (try simp only [szc] at hzw1); have hzw1_0 : w.heap.size < w1.heap.size := (by omega))
  clear hp
  have b1 : Below w.heap.size w w1 := (by repeat (first | with_reducible exact Below.refl _ _ | with_reducible refine valloc ?_ _ | with_reducible refine vdrew ?_ | with_reducible refine vdrewN ?_ _ | with_reducible refine via (by assumption) ?_ | refine vset ?_ (by first | exact Nat.le_refl _ | (simp; done) | (simp; omega) | omega) _))
  have II := Lib.hid (h'.below b1)
  have BB := Lib.hid (h.below b1)
  clear h h' hcw1 hfw1
  go_loopw [5, 6, 7, 15] (fun out i b j W => ∃ k : Nat, k ≤ bs.length ∧ j = .int .i64 k ∧ OwnL W w1.heap.size out (brokenTo bs ts k) ∧ Below w1.heap.size w1 W) (fun _ _ _ j _ => bs.length - (intOf j).toNat)
  case atStart => exact ⟨0, Nat.zero_le _, rfl, OwnL.nil _ _, Below.refl _ _⟩
  case round =>
    obtain ⟨k, hk, rfl, hown, hbel⟩ := hrel
    have hml := brokenTo_len bs ts k
    have hz := hbel.size
    have HO := Lib.hid hown
    clear hown
    by_cases hlt : k < bs.length
    · obtain ⟨ab, aoff, x, eA, _, hx, hxm, x0, x1, x2⟩ := (BB.out.below hbel).at_ hlt
      subst eA
      obtain ⟨p1, p2, p3, p4⟩ := HBS.out x hxm
      have KB := Lib.hid (fun W (hb : Below wr.heap.size wr W) => keptBy_any A1 c1 ts x W ((II.out.below hbel).below hb) p1 p2 p3 p4 HTS.out hlen')
      have HX := Lib.hid hx
      clear hx
      cases hkp : keeps ts x
      · have HM := Lib.hid (brokenTo_hit HX.out hkp)
        go_wp2_with fail
        refine (KB.out _ ((Below.refl _ _).alloc (Nat.le_refl _) _)).mono ?_
        rintro e w3 ⟨rfl, hb3⟩
        have b3 : Below w1.heap.size w1 w3 := (hbel.alloc hbel.size _).trans (hb3.mono (by rw [sz]; omega))
        have hz3 := b3.size
        have O3 := (HO.out.alloc _).below hb3
        go_wp2_with (at_builtin; refine wpList_push rfl _ _ rfl w1.heap.size _ _ rfl (O3.alloc _) w3.heap.size (k : Int) rfl (by simp) (by omega) (by simp; omega) ?_; intro v1 w4 hown4 hb4)
        go_roundw
        case rel => exact ⟨k + 1, by omega, by go_num, by rw [HM.out]; exact hown4, (b3.alloc hz3 _).trans hb4⟩
        case measure => simp [intOf]; omega
      · have HM := Lib.hid (brokenTo_miss HX.out hkp)
        go_wp2_with fail
        refine (KB.out _ ((Below.refl _ _).alloc (Nat.le_refl _) _)).mono ?_
        rintro e w3 ⟨rfl, hb3⟩
        have b3 : Below w1.heap.size w1 w3 := (hbel.alloc hbel.size _).trans (hb3.mono (by rw [sz]; omega))
        have O3 := Lib.hid ((HO.out.alloc _).below hb3)
        go_wp2
        go_roundw
        case rel => exact ⟨k + 1, by omega, by go_num, by rw [HM.out]; exact O3.out, b3⟩
        case measure => simp [intOf]; omega
    · obtain rfl : k = bs.length := by omega
      go_wp2
      go_ret
      exact HO.out.res b1.size (b1.trans (hbel.mono b1.size))
set_option maxHeartbeats 2000000 in
theorem specBrokenOf_any (n : Int) (A A1 : Option Addr) (c c1 : Nat) (bs : List Bd) (ts : List Int) (w : World) (h : BAt w A bs) (h' : IAt w A1 ts) (hlen : bs.length ≤ 1099511627776) (hlen' : ts.length ≤ 1099511627776) :
    Calls Try.prog 39 #[.agg #[.int .i64 n, .slice A bs.length c], .slice A1 ts.length c1] w (ListRes (brokenOf n bs ts) w) := by
  cases hp : timesOk n bs ts
  · have E := Lib.hid (show brokenOf n bs ts = [] by simp [brokenOf, hp])
    rw [E.out]
    go_enter Try.func39, Try.ntmps39
    go_wp2
    go_loopw [5, 6] (fun out j W => j = .int .i64 0 ∧ out = .slice (some ⟨w.heap.size + 1, 0, none⟩) 0 0 ∧ W = (w.alloc (.cells #[.int .i64 n, .slice A bs.length c] 25)).alloc (.cells #[] 3)) (fun _ j _ => 0)
    case atStart => exact ⟨rfl, rfl, rfl⟩
    case round =>
      obtain ⟨rfl, rfl, rfl⟩ := hrel
      have HO := Lib.hid (OwnL.empty (w.alloc (.cells #[.int .i64 n, .slice A bs.length c] 25)) (w.heap.size + 1) (w.heap.size + 1) (by simp) (Nat.le_refl _))
      by_cases hlt : 0 < bs.length
      · go_wp2_with fail
        refine (specTimesOk_any _ _ _ _ _ bs ts _ (h.below (by repeat (first | with_reducible exact Below.refl _ _ | with_reducible refine valloc ?_ _ | with_reducible refine vdrew ?_ | with_reducible refine vdrewN ?_ _ | with_reducible refine via (by assumption) ?_ | refine vset ?_ (by first | exact Nat.le_refl _ | (simp; done) | (simp; omega) | omega) _))) (h'.below (by repeat (first | with_reducible exact Below.refl _ _ | with_reducible refine valloc ?_ _ | with_reducible refine vdrew ?_ | with_reducible refine vdrewN ?_ _ | with_reducible refine via (by assumption) ?_ | refine vset ?_ (by first | exact Nat.le_refl _ | (simp; done) | (simp; omega) | omega) _))) hlen hlen').mono ?_; rintro e w1 ⟨rfl, hbw1⟩; obtain ⟨hcw1, hfw1⟩ := bcell hbw1; have hzw1 := hbw1.size; (try simp only [sz] at hzw1); (try simp only [szc] at hzw1); have hzw1_0 : w.heap.size < w1.heap.size := (by omega); have hzw1_1 : w.heap.size + 1 < w1.heap.size := (by omega)
        go_wp2
        go_ret
        exact (HO.out.below hbw1).res (by omega) (by repeat (first | with_reducible exact Below.refl _ _ | with_reducible refine valloc ?_ _ | with_reducible refine vdrew ?_ | with_reducible refine vdrewN ?_ _ | with_reducible refine via (by assumption) ?_ | refine vset ?_ (by first | exact Nat.le_refl _ | (simp; done) | (simp; omega) | omega) _))
      · have hle : (bs.length : Int) ≤ 0 := by omega
        go_wp2
        go_ret
        exact HO.out.res (by omega) (by repeat (first | with_reducible exact Below.refl _ _ | with_reducible refine valloc ?_ _ | with_reducible refine vdrew ?_ | with_reducible refine vdrewN ?_ _ | with_reducible refine via (by assumption) ?_ | refine vset ?_ (by first | exact Nat.le_refl _ | (simp; done) | (simp; omega) | omega) _))
  have E := Lib.hid (show brokenOf n bs ts = brokenTo bs ts bs.length by simp [brokenOf, hp])
  rw [E.out]
  obtain ⟨hp1, hn, hts⟩ := timesOk_of hp
  obtain ⟨n1, n6, _, hbs⟩ := planOk_of hp1
  have HTS := Lib.hid hts
  have HP := Lib.hid hp
  have HBS := Lib.hid (show ∀ x ∈ bs, 0 ≤ x.f ∧ x.f < ts.length ∧ 0 ≤ x.t ∧ x.t < ts.length from fun x hx => by have := hbs x hx; omega)
  clear hn hts hbs hp1 hp
  go_enter Try.func39, Try.ntmps39
  go_wp2
  go_loopw [5, 6] (fun out j W => ∃ k : Nat, k ≤ bs.length ∧ j = .int .i64 k ∧ OwnL W (w.heap.size + 1) out (brokenTo bs ts k) ∧ Below w.heap.size w W ∧ w.heap.size < W.heap.size ∧ W.cell? ⟨w.heap.size, 0, none⟩ = some (.int .i64 n) ∧ W.cell? ⟨w.heap.size, 1, none⟩ = some (.slice A bs.length c)) (fun _ j _ => bs.length - (intOf j).toNat)
  case atStart => exact ⟨0, Nat.zero_le _, rfl, OwnL.empty (w.alloc _) _ _ (by simp) (Nat.le_refl _), valloc (valloc (Below.refl _ _) _) _, by simp; omega, by simp, by simp⟩
  case round =>
    obtain ⟨k, hk, rfl, hown, hbel, hz, e0, e1⟩ := hrel
    have hml := brokenTo_len bs ts k
    have HO := Lib.hid hown
    clear hown
    by_cases hlt : k < bs.length
    · go_wp2_with fail
      refine (specTimesOk_any _ _ _ _ _ bs ts _ (h.below hbel) (h'.below hbel) hlen hlen').mono ?_; rintro e w1 ⟨rfl, hbw1⟩
      have b1 : Below w.heap.size w w1 := via hbw1 hbel
      have f0 := cB hbw1 e0
      have f1 := cB hbw1 e1
      have O1 := Lib.hid (HO.out.below hbw1)
      have hz1 := ltB hbw1 hz
      obtain ⟨b, off, x, rfl, hbl, hx, hxm, c0, c1, c2⟩ := (h.below b1).at_ hlt
      obtain ⟨p1, p2, p3, p4⟩ := HBS.out x hxm
      obtain ⟨f, t, m⟩ := x
      simp only at p1 p2 p3 p4 c0 c1 c2
      obtain ⟨f, rfl⟩ := Int.eq_ofNat_of_zero_le p1
      obtain ⟨t, rfl⟩ := Int.eq_ofNat_of_zero_le p3
      obtain ⟨tb, toff, u, rfl, hul, hu, hum, cu⟩ := (h'.below b1).at_ (k := f) (by omega)
      obtain ⟨tb', toff', v, e, hvl, hv, hvm, cv⟩ := (h'.below b1).at_ (k := t) (by omega)
      obtain ⟨rfl, rfl⟩ : tb = tb' ∧ toff = toff' := by injection e with e; injection e with e1 e2; exact ⟨e1, e2⟩
      have hu1 := HTS.out u hum
      have hv1 := HTS.out v hvm
      have E := Lib.hid (show keeps ts ⟨f, t, m⟩ = decide (v - u ≤ m) by simp [keeps, hu, hv])
      have HX := Lib.hid hx
      have hk0 : (0 : Int) ≤ (k : Int) := by omega
      have hk1 : (k : Int) < (bs.length : Int) := by omega
      have hpt := HP.out
      clear hx h h' hu hv e e0 e1 hz
      by_cases hd : m < v - u
      · have HM := Lib.hid (brokenTo_hit HX.out (show keeps ts ⟨f, t, m⟩ = false by rw [E.out]; simp; omega))
        go_wp2
        clear hpt
        go_quiet (fail)
        have F : Below w.heap.size w (w1.drewN nq) ∧ w.heap.size < (w1.drewN nq).heap.size ∧ OwnL (w1.drewN nq) (w.heap.size + 1) u5 (brokenTo bs ts k) ∧ (w1.drewN nq).cell? ⟨w.heap.size, 0, none⟩ = some (.int .i64 n) ∧ (w1.drewN nq).cell? ⟨w.heap.size, 1, none⟩ = some (.slice (some ⟨b, off, none⟩) bs.length c) := ⟨vdrewN b1 _, hz1, O1.out.drewN _, f0, f1⟩
        clear f0 f1 c0 c2 cu cv
        generalize w1.drewN nq = w5 at F ⊢
        obtain ⟨g1, g2, g3, g4, g5⟩ := F
        go_wp2_with (at_builtin; refine wpList_push rfl _ _ rfl (w.heap.size + 1) _ _ rfl (g3.alloc _) w5.heap.size (k : Int) rfl (by simp) (by omega) (by simp; omega) ?_; intro v1 w4 hown4 hb4)
        go_roundw
        case rel => exact ⟨k + 1, by omega, by go_num, by rw [HM.out]; exact hown4, (valloc g1 _).trans (hb4.mono (by omega)), Nat.lt_of_lt_of_le (ltA g2 _) hb4.size, cBel hb4 (Nat.lt_succ_self _) (cA g4 _), cBel hb4 (Nat.lt_succ_self _) (cA g5 _)⟩
        case measure => simp [intOf]; omega
      · have HM := Lib.hid (brokenTo_miss HX.out (show keeps ts ⟨f, t, m⟩ = true by rw [E.out]; simp; omega))
        go_wp2
        clear hpt
        go_quiet (fail)
        go_wp2
        go_roundw
        case rel => exact ⟨k + 1, by omega, by go_num, by rw [HM.out]; exact O1.out.drewN _, vdrewN b1 _, hz1, f0, f1⟩
        case measure => simp [intOf]; omega
    · obtain rfl : k = bs.length := by omega
      go_wp2
      go_ret
      exact HO.out.res (by omega) hbel
end Go.Proofs.Ytedpaanhnbodfaa
