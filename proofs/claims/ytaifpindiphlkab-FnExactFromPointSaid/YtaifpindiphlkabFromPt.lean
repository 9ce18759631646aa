/- Contracts of impl.FromPoint and spec.FromPoint; for slices of at most 2^40 bounds. -/
import Derived.Test.YtaifpindiphlkabKG
import Derived.Test.YtaifpindiphlkabKH
import Derived.Test.YtaifpindiphlkabKF
namespace Go.Proofs.Ytaifpindiphlkab
open Go.RowKit
set_option linter.unusedVariables false
set_option maxRecDepth 10000
set_option linter.unusedSimpArgs false

/-- A block of the call's own that holds the numbers v 0, v 1, up to N of them. -/
def VRow (w : World) (g N : Nat) (v : Nat → Int) : Prop := ∃ rs, Blk w g 3 rs ∧ ∀ a, a < N → rs[a]? = some (.int .i64 (v a))
section
variable {w w1 : World} {g N : Nat} {v : Nat → Int} (h : VRow w g N v)
include h
theorem VRow.lt : g < w.heap.size := by obtain ⟨rs, hB, _⟩ := h; exact hB.lt
theorem VRow.cell {a : Nat} (ha : a < N) : w.cell? ⟨g, a, none⟩ = some (.int .i64 (v a)) := by
  obtain ⟨rs, hB, hF⟩ := h
  exact (hB.cell a).trans (hF a ha)
theorem VRow.frozen (a : Nat) : w.frozen? ⟨g, a, none⟩ = false := by
  obtain ⟨rs, hB, hF⟩ := h
  exact hB.frozen a
theorem VRow.set_ {t : Nat} (ht : t < N) (u : Int) : VRow (w.setCell ⟨g, t, none⟩ (.int .i64 u)) g N (fun a => if a = t then u else v a) := by
  obtain ⟨rs, hB, hF⟩ := h
  refine ⟨_, hB.set_ t _, fun a ha => ?_⟩
  rw [Array.getElem?_setIfInBounds]
  show _ = some (Value.int IntKind.i64 (if a = t then u else v a))
  by_cases e : t = a
  · have := (Array.getElem?_eq_some_iff.1 (hF a ha)).1
    rw [if_pos e, if_pos (by omega), if_pos e.symm]
  · rw [if_neg e, if_neg (by omega)]; exact hF a ha
theorem VRow.below {B : Nat} (hb : Below B w w1) (hg : g < B) : VRow w1 g N v := by
  obtain ⟨rs, hB, hF⟩ := h
  exact ⟨rs, hB.below hb hg, hF⟩
theorem VRow.alloc (o : Obj) : VRow (w.alloc o) g N v := by
  obtain ⟨rs, hB, hF⟩ := h
  exact ⟨rs, hB.alloc o, hF⟩
theorem VRow.drewN (n : Nat) : VRow (w.drewN n) g N v := by
  obtain ⟨rs, hB, hF⟩ := h
  exact ⟨rs, hB.drewN n, hF⟩
theorem VRow.drew : VRow w.drew g N v := by
  obtain ⟨rs, hB, hF⟩ := h
  exact ⟨rs, hB.drew, hF⟩
theorem VRow.eq_ {u : Nat → Int} (e : ∀ a, a < N → v a = u a) : VRow w g N u := by
  obtain ⟨rs, hB, hF⟩ := h
  exact ⟨rs, hB, fun a ha => by rw [← e a ha]; exact hF a ha⟩
theorem VRow.ri {lo hi : Nat} (hN : 1 ≤ N) (hl : lo ≤ g) (hh : g < hi) {T : Tab} {i : Nat} (e : ∀ a, a < N → v a = T i a) : RI w lo hi (some ⟨g, 0, none⟩) (rowTo T i N) := by
  obtain ⟨rs, hB, hF⟩ := h
  refine Or.inr ⟨g, rs, rfl, hl, hh, hB, ?_, fun j x hj hx => ?_⟩
  · rw [rowTo_length]
    have := (Array.getElem?_eq_some_iff.1 (hF (N - 1) (by omega))).1
    omega
  · rw [rowTo_length] at hj
    rw [rowTo_at T i N j hj] at hx
    cases hx
    rw [← e j hj]; exact hF j hj
end
theorem OwnL.vrow {w : World} {base N : Nat} {v : Value} {xs : List Int} (h : OwnL w base v xs) (hl : xs.length = N) (hN : 1 ≤ N) : ∃ g c, v = .slice (some ⟨g, 0, none⟩) N c ∧ base ≤ g ∧ VRow w g N (fun a => xs.getD a 0) := by
  obtain ⟨h1, ⟨rfl, h0⟩ | ⟨g, cap, cur, rfl, hg, hh, hn, hc, hs, ht⟩⟩ := h
  · omega
  · refine ⟨g, cap, by rw [hl], hg, cur, hh, fun a ha => ?_⟩
    rw [Nat.mul_one] at ht
    have e : xs[a]? = some xs[a] := List.getElem?_eq_getElem (by omega)
    have : (cur.toList.take xs.length)[a]? = some (.int .i64 xs[a]) := by rw [ht, List.getElem?_map, e]; rfl
    rw [List.getElem?_take_of_lt (by omega)] at this
    have e2 : xs.getD a 0 = xs[a] := by simp [List.getD, e]
    show cur[a]? = some (.int .i64 (xs.getD a 0))
    rw [e2]
    simpa using this
def fromB (n : Int) (bs : List Bd) (f : Int) : Bool := fitsOk n bs && inB f 0 (n-1)
def fromL (n : Int) (bs : List Bd) (f : Int) : List Int := if fromB n bs f = true then rowTo (closedT n bs) f.toNat n.toNat else []
theorem fromL_len (n : Int) (bs : List Bd) (f : Int) : (fromL n bs f).length ≤ 6 := by
  unfold fromL
  split
  · rename_i h
    simp only [fromB, Bool.and_eq_true] at h
    have := planOk_of (fits_plan h.1)
    rw [rowTo_length]; omega
  · simp
theorem fromPoint_any (n : Int) (A : Option Addr) (c : Nat) (bs : List Bd) (f : Int) (w : World) (h : BAt w A bs) (hlen : bs.length ≤ 1099511627776) :
    Calls Try.prog 19 #[.agg #[.int .i64 n, .slice A bs.length c], .int .i64 f] w (ListBoolRes (fromL n bs f) (fromB n bs f) w) := by
  cases hfit : fitsOk n bs
  · have HR := Lib.hid (show fromL n bs f = [] ∧ fromB n bs f = false by simp [fromL, fromB, hfit])
    go_enter Try.func19, Try.ntmps19
    go_wp2_with fail
    refine (closed_no _ _ _ bs _ (h.below (by repeat (first | with_reducible exact Below.refl _ _ | with_reducible refine valloc ?_ _ | with_reducible refine vdrew ?_ | with_reducible refine vdrewN ?_ _ | with_reducible refine via (by assumption) ?_ | refine vset ?_ (by first | exact Nat.le_refl _ | (simp; done) | (simp; omega) | omega) _))) hlen hfit).mono ?_; rintro e w1 ⟨rfl, hbw1⟩
    go_wp2
    go_ret2
    rw [HR.out.1, HR.out.2]
    refine ⟨none, 0, rfl, Or.inl ⟨rfl, rfl⟩, ?_⟩
    repeat (first | with_reducible exact Below.refl _ _ | with_reducible refine valloc ?_ _ | with_reducible refine vdrew ?_ | with_reducible refine vdrewN ?_ _ | with_reducible refine via (by assumption) ?_ | refine vset ?_ (by first | exact Nat.le_refl _ | (simp; done) | (simp; omega) | omega) _)
  · obtain ⟨N, rfl⟩ := Int.eq_ofNat_of_zero_le (show 0 ≤ n by have := planOk_of (fits_plan hfit); omega)
    obtain ⟨h1, h6, _, _⟩ := planOk_of (fits_plan hfit)
    cases hif : inB f 0 (N-1)
    · have HR := Lib.hid (show fromL N bs f = [] ∧ fromB N bs f = false by simp [fromL, fromB, hif])
      go_enter Try.func19, Try.ntmps19
      go_wp2_with fail
      refine (closed_yes _ _ _ bs _ (h.below (by repeat (first | with_reducible exact Below.refl _ _ | with_reducible refine valloc ?_ _ | with_reducible refine vdrew ?_ | with_reducible refine vdrewN ?_ _ | with_reducible refine via (by assumption) ?_ | refine vset ?_ (by first | exact Nat.le_refl _ | (simp; done) | (simp; omega) | omega) _))) hlen hfit).mono ?_; rintro e w1 ⟨g, N', R, hN', hN1, hN6, rfl, hG, hbw1⟩; obtain ⟨hcw1, hfw1⟩ := bcell hbw1; have hzw1 := hbw1.size; (try simp only [sz] at hzw1); (try simp only [szc] at hzw1); have hzw1_0 : w.heap.size < w1.heap.size := (by omega)
      obtain rfl : N = N' := by omega
      go_wp2_with fail
      refine (has_any _ _ _ _ h1 h6).mono ?_; rintro e w2 ⟨rfl, hbw2⟩
      go_wp2
      go_ret2
      rw [HR.out.1, HR.out.2]
      refine ⟨none, 0, rfl, Or.inl ⟨rfl, rfl⟩, ?_⟩
      repeat (first | with_reducible exact Below.refl _ _ | with_reducible refine valloc ?_ _ | with_reducible refine vdrew ?_ | with_reducible refine vdrewN ?_ _ | with_reducible refine via (by assumption) ?_ | refine vset ?_ (by first | exact Nat.le_refl _ | (simp; done) | (simp; omega) | omega) _)
    · obtain ⟨i, rfl⟩ := Int.eq_ofNat_of_zero_le (show 0 ≤ f from ((inB_iff _ _ _).1 hif).1)
      have hi : i < N := by have := (inB_iff _ _ _).1 hif; omega
      have HR := Lib.hid (show fromL N bs i = rowTo (closedT N bs) i N ∧ fromB N bs i = true by simp [fromL, fromB, hif, hfit])
      go_enter Try.func19, Try.ntmps19
      go_wp2_with fail
      refine (closed_yes _ _ _ bs _ (h.below (by repeat (first | with_reducible exact Below.refl _ _ | with_reducible refine valloc ?_ _ | with_reducible refine vdrew ?_ | with_reducible refine vdrewN ?_ _ | with_reducible refine via (by assumption) ?_ | refine vset ?_ (by first | exact Nat.le_refl _ | (simp; done) | (simp; omega) | omega) _))) hlen hfit).mono ?_; rintro e w1 ⟨g, N', R, hN', hN1, hN6, rfl, hG, hbw1⟩; obtain ⟨hcw1, hfw1⟩ := bcell hbw1; have hzw1 := hbw1.size; (try simp only [sz] at hzw1); (try simp only [szc] at hzw1); have hzw1_0 : w.heap.size < w1.heap.size := (by omega)
      obtain rfl : N = N' := by omega
      have HG := Lib.hid hG
      have hR1 := hG.rlo i hi
      have hR2 := hG.rhi i hi
      have r1 := hG.row hi
      clear hG
      go_wp2_with fail
      refine (has_any _ _ _ _ h1 h6).mono ?_; rintro e w2 ⟨rfl, hbw2⟩
      have s1 := cB hbw2 r1
      have HQ := Lib.hid ((HG.out.rowRI hi).same (Same.below hbw2 (Same.refl _ _ _)) (by omega))
      have hz := hbw2.size
      clear r1
      have hif2 : inB i 0 (N-1) = true := hif
      go_wp2
      go_ret2
      rw [HR.out.1, HR.out.2]
      refine ⟨some ⟨R i, 0, none⟩, N, by rw [rowTo_length]; rfl, HQ.out.wide (by simp at hR1; omega) (by omega), ?_⟩
      repeat (first | with_reducible exact Below.refl _ _ | with_reducible refine valloc ?_ _ | with_reducible refine vdrew ?_ | with_reducible refine vdrewN ?_ _ | with_reducible refine via (by assumption) ?_ | refine vset ?_ (by first | exact Nat.le_refl _ | (simp; done) | (simp; omega) | omega) _)
theorem foldB_snoc {bs : List Bd} {k : Nat} {x : Bd} (v : Nat → Int) (h : bs[k]? = some x) : (bs.take (k + 1)).foldl stepB v = stepB ((bs.take k).foldl stepB v) x := by
  obtain ⟨hl, hv⟩ := List.getElem?_eq_some_iff.1 h
  rw [List.take_succ_eq_append_getElem hl, List.foldl_append, hv]; rfl
set_option maxHeartbeats 8000000 in
theorem specFromPoint_any (n : Int) (A : Option Addr) (c : Nat) (bs : List Bd) (f : Int) (w : World) (h : BAt w A bs) (hlen : bs.length ≤ 1099511627776) :
    Calls Try.prog 18 #[.agg #[.int .i64 n, .slice A bs.length c], .int .i64 f] w (ListBoolRes (fromL n bs f) (fromB n bs f) w) := by
  cases hfit : fitsOk n bs
  · have HR := Lib.hid (show fromL n bs f = [] ∧ fromB n bs f = false by simp [fromL, fromB, hfit])
    go_enter Try.func18, Try.ntmps18
    go_wp2_with fail
    refine (specFitsOk_any _ _ _ bs _ (h.below (by repeat (first | with_reducible exact Below.refl _ _ | with_reducible refine valloc ?_ _ | with_reducible refine vdrew ?_ | with_reducible refine vdrewN ?_ _ | with_reducible refine via (by assumption) ?_ | refine vset ?_ (by first | exact Nat.le_refl _ | (simp; done) | (simp; omega) | omega) _))) hlen).mono ?_; rintro e w1 ⟨rfl, hbw1⟩
    have HO := Lib.hid (OwnL.empty w1 w1.heap.size _ rfl (Nat.le_refl _))
    have hz := hbw1.size
    go_wp2
    go_ret2
    rw [HR.out.1, HR.out.2]
    refine HO.out.resB (by simp at hz; omega) ?_ false
    repeat (first | with_reducible exact Below.refl _ _ | with_reducible refine valloc ?_ _ | with_reducible refine vdrew ?_ | with_reducible refine vdrewN ?_ _ | with_reducible refine via (by assumption) ?_ | refine vset ?_ (by first | exact Nat.le_refl _ | (simp; done) | (simp; omega) | omega) _)
  · obtain ⟨N, rfl⟩ := Int.eq_ofNat_of_zero_le (show 0 ≤ n by have := planOk_of (fits_plan hfit); omega)
    obtain ⟨h1, h6, hbl, hin⟩ := planOk_of (fits_plan hfit)
    cases hif : inB f 0 (N-1)
    · have HR := Lib.hid (show fromL N bs f = [] ∧ fromB N bs f = false by simp [fromL, fromB, hif])
      go_enter Try.func18, Try.ntmps18
      go_wp2_with fail
      refine (specFitsOk_any _ _ _ bs _ (h.below (by repeat (first | with_reducible exact Below.refl _ _ | with_reducible refine valloc ?_ _ | with_reducible refine vdrew ?_ | with_reducible refine vdrewN ?_ _ | with_reducible refine via (by assumption) ?_ | refine vset ?_ (by first | exact Nat.le_refl _ | (simp; done) | (simp; omega) | omega) _))) hlen).mono ?_; rintro e w1 ⟨rfl, hbw1⟩; obtain ⟨hcw1, hfw1⟩ := bcell hbw1; have hzw1 := hbw1.size; (try simp only [sz] at hzw1); (try simp only [szc] at hzw1); have hzw1_0 : w.heap.size < w1.heap.size := (by omega)
      have HO := Lib.hid (OwnL.empty w1 w1.heap.size _ rfl (Nat.le_refl _))
      go_wp2_with (go_at_call 46; refine (l1In_any _ _ _ _).mono ?_; rintro e w' ⟨rfl, rfl⟩)
      go_ret2
      rw [HR.out.1, HR.out.2]
      refine HO.out.resB (by omega) ?_ false
      repeat (first | with_reducible exact Below.refl _ _ | with_reducible refine valloc ?_ _ | with_reducible refine vdrew ?_ | with_reducible refine vdrewN ?_ _ | with_reducible refine via (by assumption) ?_ | refine vset ?_ (by first | exact Nat.le_refl _ | (simp; done) | (simp; omega) | omega) _)
    · obtain ⟨i, rfl⟩ := Int.eq_ofNat_of_zero_le (show 0 ≤ f from ((inB_iff _ _ _).1 hif).1)
      have hi : i < N := by have := (inB_iff _ _ _).1 hif; omega
      have HR := Lib.hid (show fromL N bs i = rowTo (closedT N bs) i N ∧ fromB N bs i = true by simp [fromL, fromB, hif, hfit])
      have HBF := Lib.hid (bf_eq hfit hi)
      have HIN := Lib.hid hin
      clear hin
      go_enter Try.func18, Try.ntmps18
      go_wp2_with fail
      refine (specFitsOk_any _ _ _ bs _ (h.below (by repeat (first | with_reducible exact Below.refl _ _ | with_reducible refine valloc ?_ _ | with_reducible refine vdrew ?_ | with_reducible refine vdrewN ?_ _ | with_reducible refine via (by assumption) ?_ | refine vset ?_ (by first | exact Nat.le_refl _ | (simp; done) | (simp; omega) | omega) _))) hlen).mono ?_; rintro e w1 ⟨rfl, hbw1⟩
      have i0 : w1.cell? ⟨w.heap.size, 0, none⟩ = some (.int .i64 N) := cB hbw1 (by simp)
      have i1 : w1.cell? ⟨w.heap.size, 1, none⟩ = some (.slice A bs.length c) := cB hbw1 (by simp)
      obtain ⟨hcw1, hfw1⟩ := bcell hbw1; have hzw1 := hbw1.size; (try simp only [sz] at hzw1); (try simp only [szc] at hzw1); have hzw1_0 : w.heap.size < w1.heap.size := (by omega)
      go_wp2_with (go_at_call 46; refine (l1In_any _ _ _ _).mono ?_; rintro e w' ⟨rfl, rfl⟩)
      go_loopw [6, 7] (fun out k W => ∃ kk : Nat, kk ≤ N ∧ k = .int .i64 kk ∧ OwnL W w1.heap.size out (List.replicate kk 100000) ∧ Below w1.heap.size w1 W) (fun _ k _ => N - (intOf k).toNat)
      case atStart => exact ⟨0, Nat.zero_le _, rfl, OwnL.empty w1 _ _ rfl (Nat.le_refl _), (Below.refl _ _).alloc (Nat.le_refl _) _⟩
      case round =>
        obtain ⟨k, hk, rfl, hown, hb⟩ := hrel
        have HO := Lib.hid hown
        have f0 := cBel hb hzw1_0 i0
        have f1 := cBel hb hzw1_0 i1
        have hzr := hb.size
        clear hown
        by_cases hlt : k < N
        · obtain ⟨w2, hw2⟩ : ∃ w2 : World, w2 = wr := ⟨_, rfl⟩
          subst hw2
          have HS := Lib.hid (show List.replicate (k + 1) (100000 : Int) = List.replicate k 100000 ++ [100000] from List.replicate_succ')
          go_wp2_with (at_builtin; refine wpList_push rfl _ _ rfl w1.heap.size _ _ rfl (HO.out.alloc _) w2.heap.size 100000 rfl (by simp) (by simp; omega) (by simp; omega) ?_; intro v1 w3 hown3 hb3)
          go_roundw
          case rel => exact ⟨k + 1, by omega, by go_num, by rw [HS.out]; exact hown3, (hb.alloc hb.size _).trans hb3⟩
          case measure => simp [intOf]; omega
        · obtain rfl : N = k := by omega
          obtain ⟨g, cg, rfl, hgl, hV⟩ := HO.out.vrow (N := N) (by simp) (by omega)
          have c0 := hV.cell hi
          have fr := hV.frozen i
          have hgs := hV.lt
          have HV1 := Lib.hid ((hV.set_ hi 0).eq_ (u := bfV bs i 0) (fun a ha => by
            show (if a = i then (0 : Int) else (List.replicate N (100000 : Int)).getD a 0) = initB i a
            unfold initB
            split
            · rfl
            · simp [List.getD, ha]))
          have B1 : Below w.heap.size w w1 := (by repeat (first | with_reducible exact Below.refl _ _ | with_reducible refine valloc ?_ _ | with_reducible refine vdrew ?_ | with_reducible refine vdrewN ?_ _ | with_reducible refine via (by assumption) ?_ | refine vset ?_ (by first | exact Nat.le_refl _ | (simp; done) | (simp; omega) | omega) _))
          have B2 := Lib.hid (Below.setCell hb (p := ⟨g, i, none⟩) hgl (.int .i64 0))
          clear hV
          go_wp2
          go_loopw [8] (fun r W => ∃ rr : Nat, rr ≤ N ∧ r = .int .i64 rr ∧ VRow W g N (bfV bs i rr) ∧ Below w1.heap.size w1 W) (fun r _ => N - (intOf r).toNat)
          case atStart => exact ⟨0, Nat.zero_le _, rfl, HV1.out, B2.out⟩
          case round =>
            obtain ⟨r, hr, rfl, hV, hb2⟩ := hrel
            have HV := Lib.hid hV
            have f0 := cBel hb2 hzw1_0 i0
            have f1 := cBel hb2 hzw1_0 i1
            have hz2 := hb2.size
            clear hV
            by_cases hlt2 : r < N
            · have HS := Lib.hid (bfV_succ bs i r)
              generalize bfV bs i r = V0 at *
              go_wp2
              go_loopw [9] (fun k W => ∃ kk : Nat, kk ≤ bs.length ∧ k = .int .i64 kk ∧ VRow W g N ((bs.take kk).foldl stepB V0) ∧ Below w1.heap.size w1 W) (fun k _ => bs.length - (intOf k).toNat)
              case atStart => exact ⟨0, Nat.zero_le _, rfl, HV.out, hb2⟩
              case round =>
                obtain ⟨k, hk, rfl, hV3, hb3⟩ := hrel
                have g0 := cBel hb3 hzw1_0 i0
                have g1 := cBel hb3 hzw1_0 i1
                have hz3 := hb3.size
                by_cases hlt3 : k < bs.length
                · obtain ⟨b, off, x, rfl, hbl, hx, hxm, d0, d1, d2⟩ := (h.below (B1.trans (hb3.mono B1.size))).at_ hlt3
                  have ES := Lib.hid (foldB_snoc V0 hx)
                  have hxi := HIN.out x hxm
                  clear hx hxm
                  generalize (bs.take k).foldl stepB V0 = V at *
                  obtain ⟨f, t, m⟩ := x
                  simp only at d0 d1 d2 hxi
                  obtain ⟨f, rfl⟩ := Int.eq_ofNat_of_zero_le hxi.1
                  obtain ⟨t, rfl⟩ := Int.eq_ofNat_of_zero_le hxi.2.2.1
                  have hf : f < N := by omega
                  have ht : t < N := by omega
                  have hgs := hV3.lt
                  have HV3 := Lib.hid hV3
                  have p1 := hV3.cell hf
                  have p2 := hV3.cell ht
                  clear hV3
                  by_cases hfar : V f < 100000
                  · have ER := Lib.hid (show stepB V ⟨f, t, m⟩ = fun a => if a = t then mn (V t) (wrap64 (V f + m)) else V a from if_pos hfar)
                    go_wp2
                    have F : ∀ w5, w5 = wr.alloc (Obj.cells #[Value.int IntKind.i64 ↑f, Value.int IntKind.i64 ↑t, Value.int IntKind.i64 m] 69) → w5.cell? ⟨wr.heap.size, 0, none⟩ = some (.int .i64 f) ∧ w5.cell? ⟨wr.heap.size, 1, none⟩ = some (.int .i64 t) ∧ w5.cell? ⟨wr.heap.size, 2, none⟩ = some (.int .i64 m) ∧ w5.cell? ⟨g, f, none⟩ = some (.int .i64 (V f)) ∧ w5.cell? ⟨g, t, none⟩ = some (.int .i64 (V t)) ∧ VRow w5 g N V ∧ Below w1.heap.size w1 w5 := by
                      rintro w5 rfl
                      exact ⟨by simp, by simp, by simp, cA p1 _, cA p2 _, HV3.out.alloc _, hb3.alloc hb3.size _⟩
                    obtain ⟨w5, hw5⟩ : ∃ w5, w5 = wr.alloc (Obj.cells #[Value.int IntKind.i64 ↑f, Value.int IntKind.i64 ↑t, Value.int IntKind.i64 m] 69) := ⟨_, rfl⟩
                    obtain ⟨s0, s1, s2, s3, s4, s5, s6⟩ := F w5 hw5
                    rw [← hw5]
                    clear hw5 F p1 p2 d0 d1 d2
                    go_still_tail 18, (by kernel_rfl)
                    change wpList _ _ _ _ _ w5.drew
                    have G : VRow w5.drew g N V ∧ Below w1.heap.size w1 w5.drew := ⟨s5.drew, s6.drew⟩
                    clear s0 s1 s2 s3 s4 s5 s6
                    generalize w5.drew = w6 at G
                    obtain ⟨hV6, hb6⟩ := G
                    have t1 := hV6.cell ht
                    have t2 := hV6.frozen t
                    have GS := Lib.hid (hV6.set_ ht (mn (V t) (wrap64 (V f + m))))
                    have OS := Lib.hid (Below.setCell hb6 (p := ⟨g, t, none⟩) hgl (.int .i64 (mn (V t) (wrap64 (V f + m)))))
                    clear hV6 hb6
                    go_wp2
                    go_roundw
                    case rel => exact ⟨k + 1, by omega, by go_num, by rw [ES.out, ER.out]; exact GS.out, OS.out⟩
                    case measure => simp [intOf]; omega
                  · have ER := Lib.hid (show stepB V ⟨f, t, m⟩ = V from if_neg hfar)
                    go_wp2
                    go_roundw
                    case rel => exact ⟨k + 1, by omega, by go_num, by rw [ES.out, ER.out]; exact HV3.out.alloc _, hb3.alloc hb3.size _⟩
                    case measure => simp [intOf]; omega
                · obtain rfl : bs.length = k := by omega
                  rw [List.take_length] at hV3
                  have HV3 := Lib.hid hV3
                  clear hV3
                  go_wp2
                  go_roundw
                  case rel => exact ⟨r + 1, by omega, by go_num, by rw [HS.out]; exact HV3.out, hb3⟩
                  case measure => simp [intOf]; omega
            · obtain rfl : N = r := by omega
              have hgs := HV.out.lt
              have RI1 := Lib.hid (HV.out.ri (by omega) hgl hgs HBF.out)
              go_wp2
              go_ret2
              rw [HR.out.1, HR.out.2]
              refine ⟨some ⟨g, 0, none⟩, cg, by rw [rowTo_length]; rfl, RI1.out.wide (by omega) (by omega), ?_⟩
              exact B1.trans (hb2.mono B1.size)
end Go.Proofs.Ytaifpindiphlkab
