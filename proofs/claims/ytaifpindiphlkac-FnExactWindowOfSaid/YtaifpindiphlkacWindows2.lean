/- Contracts of impl.State.open, impl.State.window, impl.State.ready and spec.l6Window. -/
import Derived.Test.YtaifpindiphlkacKI
import Derived.Test.YtaifpindiphlkacKD
import Derived.Deep.RegionHeld3
namespace Go.Proofs.Ytaifpindiphlkac
open Go.RowKit
set_option linter.unusedVariables false
set_option maxRecDepth 10000
set_option linter.unusedSimpArgs false

/-- Is a point not done? -/
def openB (xs : List Int) (p : Int) : Bool := inB p 0 ((xs.length : Int) - 1) && decide (nthI xs p.toNat = -1)
theorem open_any (now : Int) (A' : Option Addr) (c' : Nat) (xs : List Int) (p : Int) (w : World) (h' : IAt w A' xs) (hlen' : xs.length ≤ 1099511627776) :
    Calls Try.prog 37 #[.agg #[.int .i64 now, .slice A' xs.length c'], .int .i64 p] w fun e w' => e = .returned (.bool (openB xs p)) ∧ Below w.heap.size w w' := by
  cases hi : inB p 0 ((xs.length : Int) - 1)
  · have HR := Lib.hid (show openB xs p = false by simp [openB, hi])
    go_enter Try.func37, Try.ntmps37
    go_wp2_with (go_at_call 53; refine (in_any _ _ _ _).mono ?_; rintro e w' ⟨rfl, rfl⟩)
    go_ret
    refine ⟨ret_bool HR.out.symm, ?_⟩
    repeat (first | with_reducible exact Below.refl _ _ | with_reducible refine valloc ?_ _ | with_reducible refine vdrew ?_ | with_reducible refine vdrewN ?_ _ | with_reducible refine via (by assumption) ?_ | refine vset ?_ (by first | exact Nat.le_refl _ | (simp; done) | (simp; omega) | omega) _)
  · obtain ⟨k, rfl⟩ := Int.eq_ofNat_of_zero_le (show 0 ≤ p from ((inB_iff _ _ _).1 hi).1)
    have hk : k < xs.length := by have := (inB_iff _ _ _).1 hi; omega
    obtain ⟨b, off, x, rfl, hbl, hx, hxm, c0⟩ := h'.at_ hk
    have HR := Lib.hid (show openB xs k = (x == -1) by simp [openB, hi, nthI_of hx, Int.toNat_natCast]; exact Bool.eq_iff_iff.2 (by simp))
    clear hx hxm
    cases hxe : (x == -1)
    · go_enter Try.func37, Try.ntmps37
      go_wp2_with (go_at_call 53; refine (in_any _ _ _ _).mono ?_; rintro e w' ⟨rfl, rfl⟩)
      go_ret
      refine ⟨ret_bool (by rw [HR.out, hxe]), ?_⟩
      repeat (first | with_reducible exact Below.refl _ _ | with_reducible refine valloc ?_ _ | with_reducible refine vdrew ?_ | with_reducible refine vdrewN ?_ _ | with_reducible refine via (by assumption) ?_ | refine vset ?_ (by first | exact Nat.le_refl _ | (simp; done) | (simp; omega) | omega) _)
    · go_enter Try.func37, Try.ntmps37
      go_wp2_with (go_at_call 53; refine (in_any _ _ _ _).mono ?_; rintro e w' ⟨rfl, rfl⟩)
      go_ret
      refine ⟨ret_bool (by rw [HR.out, hxe]), ?_⟩
      repeat (first | with_reducible exact Below.refl _ _ | with_reducible refine valloc ?_ _ | with_reducible refine vdrew ?_ | with_reducible refine vdrewN ?_ _ | with_reducible refine via (by assumption) ?_ | refine vset ?_ (by first | exact Nat.le_refl _ | (simp; done) | (simp; omega) | omega) _)
set_option maxHeartbeats 1000000 in
theorem l6Window_any (A A' : Option Addr) (c c' N p : Nat) (now : Int) (T : Tab) (ts : List Int) (w : World) (h : MAt w A N N T) (h' : IAt w A' ts) (hp : p < N) (hl : ts.length ≤ N) (hN : N ≤ 1000) (hT : ∀ i j, i < N → j < N → T i j ≤ 100000) :
    Calls Try.prog 33 #[.slice A N c, .agg #[.int .i64 now, .slice A' ts.length c'], .int .i64 p] w fun e w' => e = .returned (.tuple #[.int .i64 (lowG true T p ts now ts.length), .int .i64 (highG true T p ts ts.length)]) ∧ Below w.heap.size w w' := by
  have H0 := Lib.hid h
  have H1 := Lib.hid h'
  have HT := Lib.hid hT
  clear h h' hT
  go_enter Try.func33, Try.ntmps33
  go_wp2
  go_loopw [8, 9, 10] (fun lo hi k W => ∃ kk : Nat, kk ≤ ts.length ∧ k = .int .i64 kk ∧ lo = .int .i64 (lowG true T p ts now kk) ∧ hi = .int .i64 (highG true T p ts kk) ∧ W.cell? ⟨w.heap.size, 1, none⟩ = some (.slice A' ts.length c') ∧ Below w.heap.size w W) (fun _ _ k _ => ts.length - (intOf k).toNat)
  case atStart => exact ⟨0, Nat.zero_le _, rfl, rfl, rfl, by simp, valloc (Below.refl _ _) _⟩
  case round =>
    obtain ⟨k, hk, rfl, rfl, rfl, e1, hb⟩ := hrel
    by_cases hlt : k < ts.length
    · obtain ⟨bx, ox, x, rfl, hbx, hx, hxm, cx⟩ := (H1.out.below hb).at_ hlt
      obtain ⟨g, off, b1, o1, cc1, rfl, hg, r1, hbl1, q1⟩ := (H0.out.below hb).at_ hp
      obtain ⟨g2, off2, b2, o2, cc2, e', hg2, r2, hbl2, q2⟩ := (H0.out.below hb).at_ (show k < N by omega)
      cases e'
      have X1 := Lib.hid (nthI_of hx)
      have p1 := q1 k (by omega)
      have p2 := q2 p hp
      clear hx hxm q1 q2
      have L1 := Lib.hid (fun hh => lowG_still (sk := true) (T := T) (p := p) (a := now) X1.out hh)
      have L2 := Lib.hid (fun hh => lowG_step (sk := true) (T := T) (p := p) (a := now) X1.out hh)
      have U1 := Lib.hid (fun hh => highG_still (sk := true) (T := T) (p := p) X1.out hh)
      have U2 := Lib.hid (fun hh => highG_step (sk := true) (T := T) (p := p) X1.out hh)
      have B1 := Lib.hid (HT.out p k hp (by omega))
      have B2 := Lib.hid (HT.out k p (by omega) hp)
      generalize lowG true T p ts now k = lo at *
      generalize highG true T p ts k = hi at *
      generalize hd1 : T p k = d1 at *
      generalize hd2 : T k p = d2 at *
      clear hd1 hd2
      have EW1 : IntKind.i64.wrap (x - d1) = wrap64 (x - d1) := IntWalk.i64_left _
      have EW2 : IntKind.i64.wrap (x + d2) = wrap64 (x + d2) := IntWalk.i64_left _
      by_cases sx : x = -1
      · have E1 := Lib.hid (L1.out (by simp [still, sx]))
        have E2 := Lib.hid (U1.out (by simp [still, sx]))
        have sx' : (x == -1) = true := by simp [sx]
        clear sx
        go_wp2
        go_roundw
        case rel => exact ⟨k + 1, by omega, by go_num, by rw [E1.out], by rw [E2.out], e1, hb⟩
        case measure => simp [intOf]; omega
      · have sx' : (x == -1) = false := by simpa using sx
        by_cases s1 : d1 = 100000
        · have E1 := Lib.hid (L1.out (by simp [still, s1]))
          by_cases s2 : d2 = 100000
          · have E2 := Lib.hid (U1.out (by simp [still, s2]))
            clear sx
            go_wp2
            go_roundw
            case rel => exact ⟨k + 1, by omega, by go_num, by rw [E1.out], by rw [E2.out], e1, hb⟩
            case measure => simp [intOf]; omega
          · have E2 := Lib.hid (U2.out (by simp [still, s2, sx]))
            have s2' : d2 < 100000 := by have := B2.out; omega
            clear sx
            go_wp2
            go_quiet (fail)
            go_wp2
            go_roundw
            case rel => exact ⟨k + 1, by omega, by go_num, by rw [E1.out], by rw [E2.out]; rfl, e1, vdrewN hb _⟩
            case measure => simp [intOf]; omega
        · have E1 := Lib.hid (L2.out (by simp [still, s1, sx]))
          have s1' : d1 < 100000 := by have := B1.out; omega
          by_cases s2 : d2 = 100000
          · have E2 := Lib.hid (U1.out (by simp [still, s2]))
            clear sx
            go_wp2
            go_quiet (fail)
            go_wp2
            go_roundw
            case rel => exact ⟨k + 1, by omega, by go_num, by rw [E1.out]; rfl, by rw [E2.out], e1, vdrewN hb _⟩
            case measure => simp [intOf]; omega
          · have E2 := Lib.hid (U2.out (by simp [still, s2, sx]))
            have s2' : d2 < 100000 := by have := B2.out; omega
            clear sx
            by_cases s3 : lo < wrap64 (x - d1)
            · have M1 := Lib.hid (show mx lo (wrap64 (x - d1)) = wrap64 (x - d1) from if_pos s3)
              go_wp2
              go_quiet (fail)
              go_wp2
              go_quiet (fail)
              go_wp2
              go_roundw
              case rel => exact ⟨k + 1, by omega, by go_num, by rw [E1.out, M1.out], by rw [E2.out]; rfl, e1, vdrewN hb _⟩
              case measure => simp [intOf]; omega
            · have M1 := Lib.hid (show mx lo (wrap64 (x - d1)) = lo from if_neg s3)
              go_wp2
              go_quiet (fail)
              go_wp2
              go_quiet (fail)
              go_wp2
              go_roundw
              case rel => exact ⟨k + 1, by omega, by go_num, by rw [E1.out, M1.out], by rw [E2.out]; rfl, e1, vdrewN hb _⟩
              case measure => simp [intOf]; omega
    · obtain rfl : ts.length = k := by omega
      go_wp2
      go_ret2
      exact ⟨rfl, hb⟩
set_option maxHeartbeats 1000000 in
theorem window_any (A A' : Option Addr) (c c' N p : Nat) (now : Int) (T : Tab) (ts : List Int) (w : World) (h : MAt w A N N T) (h' : IAt w A' ts) (hp : p < N) (hl : ts.length ≤ N) (hN : N ≤ 1000) :
    Calls Try.prog 39 #[.agg #[.int .i64 now, .slice A' ts.length c'], .slice A N c, .int .i64 p] w fun e w' => e = .returned (.tuple #[.int .i64 (lowG true T p ts now ts.length), .int .i64 (highG true T p ts ts.length)]) ∧ Below w.heap.size w w' := by
  have H0 := Lib.hid h
  have H1 := Lib.hid h'
  clear h h'
  go_enter Try.func39, Try.ntmps39
  go_wp2
  go_loopw [8, 9, 17] (fun lo hi k W => ∃ kk : Nat, kk ≤ ts.length ∧ k = .int .i64 kk ∧ lo = .int .i64 (lowG true T p ts now kk) ∧ hi = .int .i64 (highG true T p ts kk) ∧ Below w.heap.size w W) (fun _ _ k _ => ts.length - (intOf k).toNat)
  case atStart => exact ⟨0, Nat.zero_le _, rfl, rfl, rfl, valloc (Below.refl _ _) _⟩
  case round =>
    obtain ⟨k, hk, rfl, rfl, rfl, hb⟩ := hrel
    by_cases hlt : k < ts.length
    · obtain ⟨bx, ox, x, rfl, hbx, hx, hxm, cx⟩ := (H1.out.below hb).at_ hlt
      obtain ⟨g, off, b1, o1, cc1, rfl, hg, r1, hbl1, q1⟩ := (H0.out.below hb).at_ hp
      obtain ⟨g2, off2, b2, o2, cc2, e', hg2, r2, hbl2, q2⟩ := (H0.out.below hb).at_ (show k < N by omega)
      cases e'
      have X1 := Lib.hid (nthI_of hx)
      have p1 := q1 k (by omega)
      have p2 := q2 p hp
      clear hx hxm q1 q2
      have L1 := Lib.hid (fun hh => lowG_still (sk := true) (T := T) (p := p) (a := now) X1.out hh)
      have L2 := Lib.hid (fun hh => lowG_step (sk := true) (T := T) (p := p) (a := now) X1.out hh)
      have U1 := Lib.hid (fun hh => highG_still (sk := true) (T := T) (p := p) X1.out hh)
      have U2 := Lib.hid (fun hh => highG_step (sk := true) (T := T) (p := p) X1.out hh)
      generalize lowG true T p ts now k = lo at *
      generalize highG true T p ts k = hi at *
      generalize hd1 : T p k = d1 at *
      generalize hd2 : T k p = d2 at *
      clear hd1 hd2
      have EW1 : IntKind.i64.wrap (x - d1) = wrap64 (x - d1) := IntWalk.i64_left _
      have EW2 : IntKind.i64.wrap (x + d2) = wrap64 (x + d2) := IntWalk.i64_left _
      by_cases sx : x = -1
      · have E1 := Lib.hid (L1.out (by simp [still, sx]))
        have E2 := Lib.hid (U1.out (by simp [still, sx]))
        have sx' : (x == -1) = true := by simp [sx]
        clear sx
        go_wp2
        go_roundw
        case rel => exact ⟨k + 1, by omega, by go_num, by rw [E1.out], by rw [E2.out], hb⟩
        case measure => simp [intOf]; omega
      · have sx' : (x == -1) = false := by simpa using sx
        by_cases s1 : d1 = 100000
        · have E1 := Lib.hid (L1.out (by simp [still, s1]))
          have s1' : (d1 != 100000) = false := by simp [s1]
          by_cases s2 : d2 = 100000
          · have E2 := Lib.hid (U1.out (by simp [still, s2]))
            have s2' : (d2 != 100000) = false := by simp [s2]
            clear sx s1 s2
            go_wp2
            go_roundw
            case rel => exact ⟨k + 1, by omega, by go_num, by rw [E1.out], by rw [E2.out], hb⟩
            case measure => simp [intOf]; omega
          · have E2 := Lib.hid (U2.out (by simp [still, s2, sx]))
            have s2' : (d2 != 100000) = true := by simpa using s2
            clear sx s1 s2
            go_wp2
            go_roundw
            case rel => exact ⟨k + 1, by omega, by go_num, by rw [E1.out], by rw [E2.out]; rfl, hb⟩
            case measure => simp [intOf]; omega
        · have E1 := Lib.hid (L2.out (by simp [still, s1, sx]))
          have s1' : (d1 != 100000) = true := by simpa using s1
          by_cases s2 : d2 = 100000
          · have E2 := Lib.hid (U1.out (by simp [still, s2]))
            have s2' : (d2 != 100000) = false := by simp [s2]
            clear sx s1 s2
            go_wp2
            go_roundw
            case rel => exact ⟨k + 1, by omega, by go_num, by rw [E1.out]; rfl, by rw [E2.out], hb⟩
            case measure => simp [intOf]; omega
          · have E2 := Lib.hid (U2.out (by simp [still, s2, sx]))
            have s2' : (d2 != 100000) = true := by simpa using s2
            clear sx s1 s2
            by_cases s3 : lo < wrap64 (x - d1)
            · have M1 := Lib.hid (show mx lo (wrap64 (x - d1)) = wrap64 (x - d1) from if_pos s3)
              go_wp2
              go_roundw
              case rel => exact ⟨k + 1, by omega, by go_num, by rw [E1.out, M1.out], by rw [E2.out]; rfl, hb⟩
              case measure => simp [intOf]; omega
            · have M1 := Lib.hid (show mx lo (wrap64 (x - d1)) = lo from if_neg s3)
              go_wp2
              go_roundw
              case rel => exact ⟨k + 1, by omega, by go_num, by rw [E1.out, M1.out], by rw [E2.out]; rfl, hb⟩
              case measure => simp [intOf]; omega
    · obtain rfl : ts.length = k := by omega
      go_wp2
      go_ret2
      exact ⟨rfl, hb⟩
end Go.Proofs.Ytaifpindiphlkac
