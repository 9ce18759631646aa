/- Contracts of impl.rowFrom, impl and spec LatestOf and EarliestOf; for slices of at most 2^40 bounds. -/
import Derived.Test.YtaifpindiphlkabKF
import Derived.Test.YtaifpindiphlkabKC
namespace Go.Proofs.Ytaifpindiphlkab
open Go.RowKit
set_option linter.unusedVariables false
set_option maxRecDepth 10000
set_option linter.unusedSimpArgs false

def rowB (n : Int) (bs : List Bd) (f : Int) (tb : Nat → Bool) : Bool := fitsOk n bs && inB f 0 (n-1) && (List.range n.toNat).all tb
def rowL (n : Int) (bs : List Bd) (f : Int) (tv : Nat → Int) (tb : Nat → Bool) : List Int := if rowB n bs f tb = true then (List.range n.toNat).map tv else []
theorem rowL_len (n : Int) (bs : List Bd) (f : Int) (tv : Nat → Int) (tb : Nat → Bool) : (rowL n bs f tv tb).length ≤ 6 := by
  unfold rowL
  split
  · rename_i h
    simp only [rowB, Bool.and_eq_true] at h
    have := planOk_of (fits_plan h.1.1)
    rw [List.length_map, List.length_range]; omega
  · simp
theorem rowB_no {n : Int} {bs : List Bd} {f : Int} {tv : Nat → Int} {tb : Nat → Bool} (h : rowB n bs f tb = false) : rowL n bs f tv tb = [] ∧ rowB n bs f tb = false := ⟨by simp [rowL, h], h⟩
theorem rowB_bad {n : Int} {bs : List Bd} {f : Int} {tb : Nat → Bool} {k : Nat} (hk : k < n.toNat) (h : tb k = false) : rowB n bs f tb = false := by
  have : (List.range n.toNat).all tb = false := by
    rw [← Bool.not_eq_true, List.all_eq_true]
    intro hh
    have := hh k (List.mem_range.2 hk)
    rw [h] at this; cases this
  simp [rowB, this]
theorem rowB_good {N : Nat} {bs : List Bd} {f : Int} {tv : Nat → Int} {tb : Nat → Bool} (hfit : fitsOk N bs = true) (hif : inB f 0 (N-1) = true) (h : ∀ k, k < N → tb k = true) : rowL N bs f tv tb = (List.range N).map tv ∧ rowB N bs f tb = true := by
  have h1 : rowB N bs f tb = true := by
    simp only [rowB, hfit, hif, Bool.true_and, List.all_eq_true, Int.toNat_natCast]
    intro k hk
    exact h k (List.mem_range.1 hk)
  exact ⟨by simp [rowL, h1], h1⟩
theorem mapR_snoc (tv : Nat → Int) (k : Nat) : (List.range (k + 1)).map tv = (List.range k).map tv ++ [tv k] := by rw [List.range_succ, List.map_append]; rfl
set_option maxHeartbeats 4000000 in
theorem rowFrom_any (F : Nat) (caps : Array Value) (tv : Nat → Int) (tb : Nat → Bool) (n : Int) (A : Option Addr) (c : Nat) (bs : List Bd) (f : Int) (w : World) (h : BAt w A bs) (hlen : bs.length ≤ 1099511627776)
    (hF : ∀ args W, (callFunc F args).run Try.prog W = .ok (.enter F args) W)
    (hcl : ∀ W (t : Nat), Below w.heap.size w W → t < n.toNat → Calls Try.prog F (#[.int .i64 t] ++ caps) W (TwoRes (tv t) (tb t) W)) :
    Calls Try.prog 58 #[.agg #[.int .i64 n, .slice A bs.length c], .int .i64 f, .func (.func F) #[] caps] w (ListBoolRes (rowL n bs f tv tb) (rowB n bs f tb) w) := by
  cases hfit : fitsOk n bs
  · have HR := Lib.hid (rowB_no (tv := tv) (show rowB n bs f tb = false by simp [rowB, hfit]))
    go_enter Try.func58, Try.ntmps58
    go_wp2_with fail
    refine (fitsOk_any _ _ _ bs _ (h.below (by repeat (first | with_reducible exact Below.refl _ _ | with_reducible refine valloc ?_ _ | with_reducible refine vdrew ?_ | with_reducible refine vdrewN ?_ _ | with_reducible refine via (by assumption) ?_ | refine vset ?_ (by first | exact Nat.le_refl _ | (simp; done) | (simp; omega) | omega) _))) hlen).mono ?_; rintro e w1 ⟨rfl, hbw1⟩
    go_wp2
    go_ret2
    rw [HR.out.1, HR.out.2]
    refine ⟨none, 0, rfl, Or.inl ⟨rfl, rfl⟩, ?_⟩
    repeat (first | with_reducible exact Below.refl _ _ | with_reducible refine valloc ?_ _ | with_reducible refine vdrew ?_ | with_reducible refine vdrewN ?_ _ | with_reducible refine via (by assumption) ?_ | refine vset ?_ (by first | exact Nat.le_refl _ | (simp; done) | (simp; omega) | omega) _)
  · obtain ⟨N, rfl⟩ := Int.eq_ofNat_of_zero_le (show 0 ≤ n by have := planOk_of (fits_plan hfit); omega)
    obtain ⟨h1, h6, _, _⟩ := planOk_of (fits_plan hfit)
    cases hif : inB f 0 (N-1)
    · have HR := Lib.hid (rowB_no (tv := tv) (show rowB N bs f tb = false by simp [rowB, hif]))
      go_enter Try.func58, Try.ntmps58
      go_wp2_with fail
      refine (fitsOk_any _ _ _ bs _ (h.below (by repeat (first | with_reducible exact Below.refl _ _ | with_reducible refine valloc ?_ _ | with_reducible refine vdrew ?_ | with_reducible refine vdrewN ?_ _ | with_reducible refine via (by assumption) ?_ | refine vset ?_ (by first | exact Nat.le_refl _ | (simp; done) | (simp; omega) | omega) _))) hlen).mono ?_; rintro e w1 ⟨rfl, hbw1⟩; obtain ⟨hcw1, hfw1⟩ := bcell hbw1; have hzw1 := hbw1.size; (try simp only [sz] at hzw1); (try simp only [szc] at hzw1); have hzw1_0 : w.heap.size < w1.heap.size := (by omega)
      go_wp2_with fail
      refine (has_any _ _ _ _ h1 h6).mono ?_; rintro e w2 ⟨rfl, hbw2⟩
      go_wp2
      go_ret2
      rw [HR.out.1, HR.out.2]
      refine ⟨none, 0, rfl, Or.inl ⟨rfl, rfl⟩, ?_⟩
      repeat (first | with_reducible exact Below.refl _ _ | with_reducible refine valloc ?_ _ | with_reducible refine vdrew ?_ | with_reducible refine vdrewN ?_ _ | with_reducible refine via (by assumption) ?_ | refine vset ?_ (by first | exact Nat.le_refl _ | (simp; done) | (simp; omega) | omega) _)
    · have GOOD := Lib.hid (rowB_good (tv := tv) (tb := tb) hfit hif)
      have BAD := Lib.hid (fun (k : Nat) (hk : k < N) (hh : tb k = false) => rowB_no (tv := tv) (rowB_bad (n := N) (bs := bs) (f := f) (by omega) hh))
      have HCL := Lib.hid hcl
      clear hcl
      go_enter Try.func58, Try.ntmps58
      go_wp2_with fail
      refine (fitsOk_any _ _ _ bs _ (h.below (by repeat (first | with_reducible exact Below.refl _ _ | with_reducible refine valloc ?_ _ | with_reducible refine vdrew ?_ | with_reducible refine vdrewN ?_ _ | with_reducible refine via (by assumption) ?_ | refine vset ?_ (by first | exact Nat.le_refl _ | (simp; done) | (simp; omega) | omega) _))) hlen).mono ?_; rintro e w1 ⟨rfl, hbw1⟩; obtain ⟨hcw1, hfw1⟩ := bcell hbw1; have hzw1 := hbw1.size; (try simp only [sz] at hzw1); (try simp only [szc] at hzw1); have hzw1_0 : w.heap.size < w1.heap.size := (by omega)
      go_wp2_with fail
      refine (has_any _ _ _ _ h1 h6).mono ?_; rintro e w2 ⟨rfl, hbw2⟩; obtain ⟨hcw2, hfw2⟩ := bcell hbw2; have hzw2 := hbw2.size; (try simp only [sz] at hzw2); (try simp only [szc] at hzw2); have hzw2_0 : w.heap.size < w2.heap.size := (by omega)
      have BB : Below w.heap.size w w2 := (by repeat (first | with_reducible exact Below.refl _ _ | with_reducible refine valloc ?_ _ | with_reducible refine vdrew ?_ | with_reducible refine vdrewN ?_ _ | with_reducible refine via (by assumption) ?_ | refine vset ?_ (by first | exact Nat.le_refl _ | (simp; done) | (simp; omega) | omega) _))
      have hif2 := hif
      go_wp2
      go_loopw [8, 23] (fun out i W => ∃ ii : Nat, ii ≤ N ∧ i = .int .i64 ii ∧ (∀ a, a < ii → tb a = true) ∧ OwnL W w2.heap.size out ((List.range ii).map tv) ∧ Below w2.heap.size w2 W) (fun _ i _ => N - (intOf i).toNat)
      case atStart => exact ⟨0, Nat.zero_le _, rfl, fun a ha => absurd ha (Nat.not_lt_zero _), OwnL.nil _ _, Below.refl _ _⟩
      case round =>
        obtain ⟨k, hk, rfl, hok, hown, hb⟩ := hrel
        have HOK := Lib.hid hok
        have HO := Lib.hid hown
        have hzr := hb.size
        clear hok hown
        by_cases hlt : k < N
        · have BW := BB.trans (hb.mono BB.size)
          have HS := Lib.hid (mapR_snoc tv k)
          have hll : ((List.range k).map tv).length ≤ 6 := by rw [List.length_map, List.length_range]; omega
          go_wp2_with fail
          refine (HCL.out _ k BW (by omega)).mono ?_
          rintro e w3 ⟨rfl, hbw3⟩
          have O3 := Lib.hid (HO.out.below hbw3)
          have hz3 := hbw3.size
          cases hbk : tb k
          · have HR := Lib.hid (BAD.out k hlt hbk)
            go_wp2
            go_ret2
            rw [HR.out.1, HR.out.2]
            exact ⟨none, 0, rfl, Or.inl ⟨rfl, rfl⟩, BW.trans (hbw3.mono BW.size)⟩
          · have HT := Lib.hid hbk
            clear hbk
            go_wp2_with (at_builtin; refine wpList_push rfl _ _ rfl w2.heap.size _ _ rfl (O3.out.alloc _) w3.heap.size (tv k) rfl (by simp) (by omega) (by simp; omega) ?_; intro v1 w4 hown4 hb4)
            go_roundw
            case rel => exact ⟨k + 1, by omega, by go_num, fun a ha => by
              by_cases e : a = k
              · rw [e]; exact HT.out
              · exact HOK.out a (by omega), by rw [HS.out]; exact hown4, ((hb.trans (hbw3.mono hb.size)).alloc (by omega) _).trans hb4⟩
            case measure => simp [intOf]; omega
        · obtain rfl : N = k := by omega
          have HR := Lib.hid (GOOD.out HOK.out)
          go_wp2
          go_ret2
          rw [HR.out.1, HR.out.2]
          exact HO.out.resB BB.size (BB.trans (hb.mono BB.size)) true
theorem latestOf1_any (n : Int) (A : Option Addr) (c : Nat) (bs : List Bd) (f t : Int) (p q : Nat) (w : World) (h : BAt w A bs) (hlen : bs.length ≤ 1099511627776)
    (p0 : w.cell? ⟨p, 0, none⟩ = some (.int .i64 n)) (p1 : w.cell? ⟨p, 1, none⟩ = some (.slice A bs.length c)) (q0 : w.cell? ⟨q, 0, none⟩ = some (.int .i64 f)) :
    Calls Try.prog 59 #[.int .i64 t, .pointer (some ⟨p, 0, none⟩), .pointer (some ⟨q, 0, none⟩)] w (TwoRes (mostV n bs f t) (mostB n bs f t) w) := by
  go_enter Try.func59, Try.ntmps59
  go_wp2_with fail
  refine (mostOf_any _ _ _ bs _ _ _ (h.below (by repeat (first | with_reducible exact Below.refl _ _ | with_reducible refine valloc ?_ _ | with_reducible refine vdrew ?_ | with_reducible refine vdrewN ?_ _ | with_reducible refine via (by assumption) ?_ | refine vset ?_ (by first | exact Nat.le_refl _ | (simp; done) | (simp; omega) | omega) _))) hlen).mono ?_; rintro e w1 ⟨rfl, hbw1⟩
  go_wp2
  go_ret2
  refine ⟨rfl, ?_⟩
  repeat (first | with_reducible exact Below.refl _ _ | with_reducible refine valloc ?_ _ | with_reducible refine vdrew ?_ | with_reducible refine vdrewN ?_ _ | with_reducible refine via (by assumption) ?_ | refine vset ?_ (by first | exact Nat.le_refl _ | (simp; done) | (simp; omega) | omega) _)
theorem earliestOf1_any (n : Int) (A : Option Addr) (c : Nat) (bs : List Bd) (f t : Int) (p q : Nat) (w : World) (h : BAt w A bs) (hlen : bs.length ≤ 1099511627776)
    (p0 : w.cell? ⟨p, 0, none⟩ = some (.int .i64 n)) (p1 : w.cell? ⟨p, 1, none⟩ = some (.slice A bs.length c)) (q0 : w.cell? ⟨q, 0, none⟩ = some (.int .i64 f)) :
    Calls Try.prog 62 #[.int .i64 t, .pointer (some ⟨p, 0, none⟩), .pointer (some ⟨q, 0, none⟩)] w (TwoRes (wrap64 (-(mostV n bs t f))) (mostB n bs t f) w) := by
  go_enter Try.func62, Try.ntmps62
  go_wp2_with fail
  refine (leastOf_any _ _ _ bs _ _ _ (h.below (by repeat (first | with_reducible exact Below.refl _ _ | with_reducible refine valloc ?_ _ | with_reducible refine vdrew ?_ | with_reducible refine vdrewN ?_ _ | with_reducible refine via (by assumption) ?_ | refine vset ?_ (by first | exact Nat.le_refl _ | (simp; done) | (simp; omega) | omega) _))) hlen).mono ?_; rintro e w1 ⟨rfl, hbw1⟩
  go_wp2
  go_ret2
  refine ⟨rfl, ?_⟩
  repeat (first | with_reducible exact Below.refl _ _ | with_reducible refine valloc ?_ _ | with_reducible refine vdrew ?_ | with_reducible refine vdrewN ?_ _ | with_reducible refine via (by assumption) ?_ | refine vset ?_ (by first | exact Nat.le_refl _ | (simp; done) | (simp; omega) | omega) _)
def latV (n : Int) (bs : List Bd) (f : Int) : Nat → Int := fun t => mostV n bs f t
def latB (n : Int) (bs : List Bd) (f : Int) : Nat → Bool := fun t => mostB n bs f t
def earV (n : Int) (bs : List Bd) (f : Int) : Nat → Int := fun t => wrap64 (-(mostV n bs t f))
def earB (n : Int) (bs : List Bd) (f : Int) : Nat → Bool := fun t => mostB n bs t f
set_option maxHeartbeats 4000000 in
theorem latestOf_any (n : Int) (A : Option Addr) (c : Nat) (bs : List Bd) (f : Int) (w : World) (h : BAt w A bs) (hlen : bs.length ≤ 1099511627776) :
    Calls Try.prog 38 #[.agg #[.int .i64 n, .slice A bs.length c], .int .i64 f] w (ListBoolRes (rowL n bs f (latV n bs f) (latB n bs f)) (rowB n bs f (latB n bs f)) w) := by
  have HC := Lib.hid (fun (w5 : World) (hb5 : Below w.heap.size w w5) (h0 : w5.cell? ⟨w.heap.size, 0, none⟩ = some (.int .i64 n)) (h1 : w5.cell? ⟨w.heap.size, 1, none⟩ = some (.slice A bs.length c)) (h2 : w5.cell? ⟨w.heap.size + 1, 0, none⟩ = some (.int .i64 f)) =>
    rowFrom_any 59 #[.pointer (some ⟨w.heap.size, 0, none⟩), .pointer (some ⟨w.heap.size + 1, 0, none⟩)] (latV n bs f) (latB n bs f) n A c bs f w5 (h.below hb5) hlen (fun _ _ => by go_simp)
      (fun W t hb ht => latestOf1_any n A c bs f t w.heap.size (w.heap.size + 1) W ((h.below hb5).below hb) hlen (cB hb h0) (cB hb h1) (cB hb h2)))
  go_enter Try.func38, Try.ntmps38
  go_wp2_with fail
  refine (HC.out _ (by repeat (first | with_reducible exact Below.refl _ _ | with_reducible refine valloc ?_ _ | with_reducible refine vdrew ?_ | with_reducible refine vdrewN ?_ _ | with_reducible refine via (by assumption) ?_ | refine vset ?_ (by first | exact Nat.le_refl _ | (simp; done) | (simp; omega) | omega) _)) (by simp) (by simp) (by simp)).mono ?_
  rintro e w1 ⟨G, cg, rfl, hr, hbw1⟩
  have HR := Lib.hid hr
  clear hr
  go_wp2
  go_ret2
  refine ⟨G, cg, rfl, HR.out.wide (by simp; omega) (Nat.le_refl _), ?_⟩
  repeat (first | with_reducible exact Below.refl _ _ | with_reducible refine valloc ?_ _ | with_reducible refine vdrew ?_ | with_reducible refine vdrewN ?_ _ | with_reducible refine via (by assumption) ?_ | refine vset ?_ (by first | exact Nat.le_refl _ | (simp; done) | (simp; omega) | omega) _)
set_option maxHeartbeats 4000000 in
theorem earliestOf_any (n : Int) (A : Option Addr) (c : Nat) (bs : List Bd) (f : Int) (w : World) (h : BAt w A bs) (hlen : bs.length ≤ 1099511627776) :
    Calls Try.prog 40 #[.agg #[.int .i64 n, .slice A bs.length c], .int .i64 f] w (ListBoolRes (rowL n bs f (earV n bs f) (earB n bs f)) (rowB n bs f (earB n bs f)) w) := by
  have HC := Lib.hid (fun (w5 : World) (hb5 : Below w.heap.size w w5) (h0 : w5.cell? ⟨w.heap.size, 0, none⟩ = some (.int .i64 n)) (h1 : w5.cell? ⟨w.heap.size, 1, none⟩ = some (.slice A bs.length c)) (h2 : w5.cell? ⟨w.heap.size + 1, 0, none⟩ = some (.int .i64 f)) =>
    rowFrom_any 62 #[.pointer (some ⟨w.heap.size, 0, none⟩), .pointer (some ⟨w.heap.size + 1, 0, none⟩)] (earV n bs f) (earB n bs f) n A c bs f w5 (h.below hb5) hlen (fun _ _ => by go_simp)
      (fun W t hb ht => earliestOf1_any n A c bs f t w.heap.size (w.heap.size + 1) W ((h.below hb5).below hb) hlen (cB hb h0) (cB hb h1) (cB hb h2)))
  go_enter Try.func40, Try.ntmps40
  go_wp2_with fail
  refine (HC.out _ (by repeat (first | with_reducible exact Below.refl _ _ | with_reducible refine valloc ?_ _ | with_reducible refine vdrew ?_ | with_reducible refine vdrewN ?_ _ | with_reducible refine via (by assumption) ?_ | refine vset ?_ (by first | exact Nat.le_refl _ | (simp; done) | (simp; omega) | omega) _)) (by simp) (by simp) (by simp)).mono ?_
  rintro e w1 ⟨G, cg, rfl, hr, hbw1⟩
  have HR := Lib.hid hr
  clear hr
  go_wp2
  go_ret2
  refine ⟨G, cg, rfl, HR.out.wide (by simp; omega) (Nat.le_refl _), ?_⟩
  repeat (first | with_reducible exact Below.refl _ _ | with_reducible refine valloc ?_ _ | with_reducible refine vdrew ?_ | with_reducible refine vdrewN ?_ _ | with_reducible refine via (by assumption) ?_ | refine vset ?_ (by first | exact Nat.le_refl _ | (simp; done) | (simp; omega) | omega) _)
theorem latB_in {n : Int} {bs : List Bd} {f : Int} {k : Nat} (h : latB n bs f k = true) : inB f 0 (n-1) = true := by
  simp only [latB, mostB, Bool.and_eq_true] at h; exact h.1.1.2
theorem earB_in {n : Int} {bs : List Bd} {f : Int} {k : Nat} (h : earB n bs f k = true) : inB f 0 (n-1) = true := by
  simp only [earB, mostB, Bool.and_eq_true] at h; exact h.1.2
set_option maxHeartbeats 4000000 in
theorem specLatestOf_any (n : Int) (A : Option Addr) (c : Nat) (bs : List Bd) (f : Int) (w : World) (h : BAt w A bs) (hlen : bs.length ≤ 1099511627776) :
    Calls Try.prog 37 #[.agg #[.int .i64 n, .slice A bs.length c], .int .i64 f] w (ListBoolRes (rowL n bs f (latV n bs f) (latB n bs f)) (rowB n bs f (latB n bs f)) w) := by
  cases hfit : fitsOk n bs
  · have HR := Lib.hid (rowB_no (tv := latV n bs f) (show rowB n bs f (latB n bs f) = false by simp [rowB, hfit]))
    rw [HR.out.1, HR.out.2]
    go_enter Try.func37, Try.ntmps37
    go_wp2
    go_loopw [6, 7] (fun out k W => k = .int .i64 0 ∧ OwnL W (w.heap.size + 1) out [] ∧ Below w.heap.size w W ∧ w.heap.size < W.heap.size ∧ W.cell? ⟨w.heap.size, 0, none⟩ = some (.int .i64 n) ∧ W.cell? ⟨w.heap.size, 1, none⟩ = some (.slice A bs.length c)) (fun _ _ _ => 0)
    case atStart => exact ⟨rfl, OwnL.empty (w.alloc _) _ _ (by simp) (Nat.le_refl _), valloc (valloc (Below.refl _ _) _) _, by simp; omega, by simp, by simp⟩
    case round =>
      obtain ⟨rfl, hown, hb, hz, e0, e1⟩ := hrel
      obtain ⟨G, cg, rfl, hr⟩ := hown.ri
      have HRI := Lib.hid hr
      clear hown hr
      by_cases hn : 0 < n
      · go_wp2_with fail
        refine (specFitsOk_any _ _ _ bs _ (h.below hb) hlen).mono ?_; rintro e w1 ⟨rfl, hbw1⟩
        have HQ := Lib.hid (HRI.out.same (Same.below hbw1 (Same.refl _ _ _)) (Nat.le_refl _))
        have hz1 := hbw1.size
        go_wp2
        go_ret2
        exact ⟨G, cg, rfl, HQ.out.wide (by omega) (by omega), hb.trans (hbw1.mono hb.size)⟩
      · go_wp2
        go_ret2
        exact ⟨G, cg, rfl, HRI.out.wide (by omega) (by omega), hb⟩
  · obtain ⟨N, rfl⟩ := Int.eq_ofNat_of_zero_le (show 0 ≤ n by have := planOk_of (fits_plan hfit); omega)
    obtain ⟨h1, h6, _, _⟩ := planOk_of (fits_plan hfit)
    have GOOD := Lib.hid (fun (hif : inB f 0 (N-1) = true) => rowB_good (tv := latV N bs f) (tb := latB N bs f) hfit hif)
    have BAD := Lib.hid (fun (k : Nat) (hk : k < N) (hh : latB N bs f k = false) => rowB_no (tv := latV N bs f) (rowB_bad (n := N) (bs := bs) (f := f) (by omega) hh))
    have FIN := Lib.hid (fun (k : Nat) (hh : latB N bs f k = true) => latB_in hh)
    go_enter Try.func37, Try.ntmps37
    go_wp2
    go_loopw [6, 7] (fun out k W => ∃ kk : Nat, kk ≤ N ∧ k = .int .i64 kk ∧ (∀ a, a < kk → latB N bs f a = true) ∧ OwnL W (w.heap.size + 1) out ((List.range kk).map (latV N bs f)) ∧ Below w.heap.size w W ∧ w.heap.size < W.heap.size ∧ W.cell? ⟨w.heap.size, 0, none⟩ = some (.int .i64 N) ∧ W.cell? ⟨w.heap.size, 1, none⟩ = some (.slice A bs.length c)) (fun _ k _ => N - (intOf k).toNat)
    case atStart => exact ⟨0, Nat.zero_le _, rfl, fun a ha => absurd ha (Nat.not_lt_zero _), OwnL.empty (w.alloc _) _ _ (by simp) (Nat.le_refl _), valloc (valloc (Below.refl _ _) _) _, by simp; omega, by simp, by simp⟩
    case round =>
      obtain ⟨k, hk, rfl, hok, hown, hb, hz, e0, e1⟩ := hrel
      have HOK := Lib.hid hok
      have HO := Lib.hid hown
      have hzr := hb.size
      clear hok hown
      by_cases hlt : k < N
      · have HS := Lib.hid (mapR_snoc (latV N bs f) k)
        have hll : ((List.range k).map (latV N bs f)).length ≤ 6 := by rw [List.length_map, List.length_range]; omega
        go_wp2_with fail
        refine (specFitsOk_any _ _ _ bs _ (h.below hb) hlen).mono ?_; rintro e w1 ⟨rfl, hbw1⟩
        have b1 := hb.trans (hbw1.mono hb.size)
        have f0 := cB hbw1 e0
        have f1 := cB hbw1 e1
        have hz1 := hbw1.size
        have O1 := Lib.hid (HO.out.below hbw1)
        go_wp2_with fail
        refine (specMostOf_any _ _ _ bs _ _ _ (h.below b1) hlen).mono ?_; rintro e w3 ⟨rfl, hbw3⟩
        have b3 := b1.trans (hbw3.mono b1.size)
        have g0 := cB hbw3 f0
        have g1 := cB hbw3 f1
        have hz3 := hbw3.size
        have O3 := Lib.hid (O1.out.below hbw3)
        have HV := Lib.hid (show mostV N bs f k = latV N bs f k from rfl)
        have hB : mostB N bs f k = latB N bs f k := rfl
        rw [HV.out]
        cases hbk : latB N bs f k
        · rw [hbk] at hB
          have HR := Lib.hid (BAD.out k hlt hbk)
          have HE := Lib.hid (OwnL.empty w3 w3.heap.size _ rfl (Nat.le_refl _))
          go_wp2
          go_ret2
          rw [HR.out.1, HR.out.2]
          exact HE.out.resB (by omega) (b3.alloc b3.size _) false
        · rw [hbk] at hB
          have HT := Lib.hid hbk
          clear hbk
          go_wp2_with (at_builtin; refine wpList_push rfl _ _ rfl (w.heap.size + 1) _ _ rfl (O3.out.alloc _) w3.heap.size (latV N bs f k) rfl (by simp) (by omega) (by simp; omega) ?_; intro v1 w4 hown4 hb4)
          have hz4 := hb4.size
          simp only [sz] at hz4
          go_roundw
          case rel => exact ⟨k + 1, by omega, by go_num, fun a ha => by
            by_cases e : a = k
            · rw [e]; exact HT.out
            · exact HOK.out a (by omega), by rw [HS.out]; exact hown4, (b3.alloc b3.size _).trans (hb4.mono (Nat.le_succ _)), by omega, cBel hb4 (Nat.lt_succ_self _) (cA g0 _), cBel hb4 (Nat.lt_succ_self _) (cA g1 _)⟩
          case measure => simp [intOf]; omega
      · obtain rfl : N = k := by omega
        have HR := Lib.hid (GOOD.out (FIN.out 0 (HOK.out 0 (by omega))) HOK.out)
        obtain ⟨G, cg, rfl, hr⟩ := HO.out.ri
        have HRI := Lib.hid hr
        clear hr
        have hl : ((List.range N).map (latV N bs f)).length = N := by rw [List.length_map, List.length_range]
        have hN0 : 0 < N := by omega
        rw [hl]
        go_wp2
        go_ret2
        rw [HR.out.1, HR.out.2]
        exact ⟨G, cg, by rw [hl]; rfl, HRI.out.wide (by omega) (Nat.le_refl _), hb⟩
set_option maxHeartbeats 4000000 in
theorem specEarliestOf_any (n : Int) (A : Option Addr) (c : Nat) (bs : List Bd) (f : Int) (w : World) (h : BAt w A bs) (hlen : bs.length ≤ 1099511627776) :
    Calls Try.prog 39 #[.agg #[.int .i64 n, .slice A bs.length c], .int .i64 f] w (ListBoolRes (rowL n bs f (earV n bs f) (earB n bs f)) (rowB n bs f (earB n bs f)) w) := by
  cases hfit : fitsOk n bs
  · have HR := Lib.hid (rowB_no (tv := earV n bs f) (show rowB n bs f (earB n bs f) = false by simp [rowB, hfit]))
    rw [HR.out.1, HR.out.2]
    go_enter Try.func39, Try.ntmps39
    go_wp2
    go_loopw [6, 7] (fun out k W => k = .int .i64 0 ∧ OwnL W (w.heap.size + 1) out [] ∧ Below w.heap.size w W ∧ w.heap.size < W.heap.size ∧ W.cell? ⟨w.heap.size, 0, none⟩ = some (.int .i64 n) ∧ W.cell? ⟨w.heap.size, 1, none⟩ = some (.slice A bs.length c)) (fun _ _ _ => 0)
    case atStart => exact ⟨rfl, OwnL.empty (w.alloc _) _ _ (by simp) (Nat.le_refl _), valloc (valloc (Below.refl _ _) _) _, by simp; omega, by simp, by simp⟩
    case round =>
      obtain ⟨rfl, hown, hb, hz, e0, e1⟩ := hrel
      obtain ⟨G, cg, rfl, hr⟩ := hown.ri
      have HRI := Lib.hid hr
      clear hown hr
      by_cases hn : 0 < n
      · go_wp2_with fail
        refine (specFitsOk_any _ _ _ bs _ (h.below hb) hlen).mono ?_; rintro e w1 ⟨rfl, hbw1⟩
        have HQ := Lib.hid (HRI.out.same (Same.below hbw1 (Same.refl _ _ _)) (Nat.le_refl _))
        have hz1 := hbw1.size
        go_wp2
        go_ret2
        exact ⟨G, cg, rfl, HQ.out.wide (by omega) (by omega), hb.trans (hbw1.mono hb.size)⟩
      · go_wp2
        go_ret2
        exact ⟨G, cg, rfl, HRI.out.wide (by omega) (by omega), hb⟩
  · obtain ⟨N, rfl⟩ := Int.eq_ofNat_of_zero_le (show 0 ≤ n by have := planOk_of (fits_plan hfit); omega)
    obtain ⟨h1, h6, _, _⟩ := planOk_of (fits_plan hfit)
    have GOOD := Lib.hid (fun (hif : inB f 0 (N-1) = true) => rowB_good (tv := earV N bs f) (tb := earB N bs f) hfit hif)
    have BAD := Lib.hid (fun (k : Nat) (hk : k < N) (hh : earB N bs f k = false) => rowB_no (tv := earV N bs f) (rowB_bad (n := N) (bs := bs) (f := f) (by omega) hh))
    have FIN := Lib.hid (fun (k : Nat) (hh : earB N bs f k = true) => earB_in hh)
    go_enter Try.func39, Try.ntmps39
    go_wp2
    go_loopw [6, 7] (fun out k W => ∃ kk : Nat, kk ≤ N ∧ k = .int .i64 kk ∧ (∀ a, a < kk → earB N bs f a = true) ∧ OwnL W (w.heap.size + 1) out ((List.range kk).map (earV N bs f)) ∧ Below w.heap.size w W ∧ w.heap.size < W.heap.size ∧ W.cell? ⟨w.heap.size, 0, none⟩ = some (.int .i64 N) ∧ W.cell? ⟨w.heap.size, 1, none⟩ = some (.slice A bs.length c)) (fun _ k _ => N - (intOf k).toNat)
    case atStart => exact ⟨0, Nat.zero_le _, rfl, fun a ha => absurd ha (Nat.not_lt_zero _), OwnL.empty (w.alloc _) _ _ (by simp) (Nat.le_refl _), valloc (valloc (Below.refl _ _) _) _, by simp; omega, by simp, by simp⟩
    case round =>
      obtain ⟨k, hk, rfl, hok, hown, hb, hz, e0, e1⟩ := hrel
      have HOK := Lib.hid hok
      have HO := Lib.hid hown
      have hzr := hb.size
      clear hok hown
      by_cases hlt : k < N
      · have HS := Lib.hid (mapR_snoc (earV N bs f) k)
        have hll : ((List.range k).map (earV N bs f)).length ≤ 6 := by rw [List.length_map, List.length_range]; omega
        go_wp2_with fail
        refine (specFitsOk_any _ _ _ bs _ (h.below hb) hlen).mono ?_; rintro e w1 ⟨rfl, hbw1⟩
        have b1 := hb.trans (hbw1.mono hb.size)
        have f0 := cB hbw1 e0
        have f1 := cB hbw1 e1
        have hz1 := hbw1.size
        have O1 := Lib.hid (HO.out.below hbw1)
        go_wp2_with fail
        refine (specLeastOf_any _ _ _ bs _ _ _ (h.below b1) hlen).mono ?_; rintro e w3 ⟨rfl, hbw3⟩
        have b3 := b1.trans (hbw3.mono b1.size)
        have g0 := cB hbw3 f0
        have g1 := cB hbw3 f1
        have hz3 := hbw3.size
        have O3 := Lib.hid (O1.out.below hbw3)
        have HV := Lib.hid (show wrap64 (-(mostV N bs k f)) = earV N bs f k from rfl)
        have hB : mostB N bs k f = earB N bs f k := rfl
        rw [HV.out]
        cases hbk : earB N bs f k
        · rw [hbk] at hB
          have HR := Lib.hid (BAD.out k hlt hbk)
          have HE := Lib.hid (OwnL.empty w3 w3.heap.size _ rfl (Nat.le_refl _))
          go_wp2
          go_ret2
          rw [HR.out.1, HR.out.2]
          exact HE.out.resB (by omega) (b3.alloc b3.size _) false
        · rw [hbk] at hB
          have HT := Lib.hid hbk
          clear hbk
          go_wp2_with (at_builtin; refine wpList_push rfl _ _ rfl (w.heap.size + 1) _ _ rfl (O3.out.alloc _) w3.heap.size (earV N bs f k) rfl (by simp) (by omega) (by simp; omega) ?_; intro v1 w4 hown4 hb4)
          have hz4 := hb4.size
          simp only [sz] at hz4
          go_roundw
          case rel => exact ⟨k + 1, by omega, by go_num, fun a ha => by
            by_cases e : a = k
            · rw [e]; exact HT.out
            · exact HOK.out a (by omega), by rw [HS.out]; exact hown4, (b3.alloc b3.size _).trans (hb4.mono (Nat.le_succ _)), by omega, cBel hb4 (Nat.lt_succ_self _) (cA g0 _), cBel hb4 (Nat.lt_succ_self _) (cA g1 _)⟩
          case measure => simp [intOf]; omega
      · obtain rfl : N = k := by omega
        have HR := Lib.hid (GOOD.out (FIN.out 0 (HOK.out 0 (by omega))) HOK.out)
        obtain ⟨G, cg, rfl, hr⟩ := HO.out.ri
        have HRI := Lib.hid hr
        clear hr
        have hl : ((List.range N).map (earV N bs f)).length = N := by rw [List.length_map, List.length_range]
        have hN0 : 0 < N := by omega
        rw [hl]
        go_wp2
        go_ret2
        rw [HR.out.1, HR.out.2]
        exact ⟨G, cg, by rw [hl]; rfl, HRI.out.wide (by omega) (Nat.le_refl _), hb⟩
end Go.Proofs.Ytaifpindiphlkab
