/- The walk of the law FnEarliestOf: it returns true and changes nothing that was there; for codes of bytes. -/
import Derived.Test.YtnompncmachgjaaAlive
import Derived.Test.YtnompncmachgjaaDrawJ2
import Derived.Test.YtnompncmachgjaaPlainL3
import Derived.Test.YtnompncmachgjaaPlainL2
import Derived.Test.YtnompncmachgjaaRowFrom
import Derived.Test.YtnompncmachgjaaKI
import Derived.Test.YtnompncmachgjaaKB
namespace Go.Proofs.Ytnompncmachgjaa
open Go.RowKit
set_option linter.unusedVariables false
set_option maxRecDepth 10000
set_option linter.unusedSimpArgs false

theorem ear_any (n : Int) (A : Option Addr) (c : Nat) (bs : List Bd) (f : Int) (w : World) (h : BAt w A bs) (hlen : bs.length ≤ 1099511627776) :
    Calls Try.prog 65 #[.agg #[.int .i64 n, .slice A bs.length c], .int .i64 f] w (ListBoolRes (earL n bs f) (earOk n bs f) w) := earliestOf_any n A c bs f w h hlen
theorem specEar_any (n : Int) (A : Option Addr) (c : Nat) (bs : List Bd) (f : Int) (w : World) (h : BAt w A bs) (hlen : bs.length ≤ 1099511627776) :
    Calls Try.prog 66 #[.agg #[.int .i64 n, .slice A bs.length c], .int .i64 f] w (ListBoolRes (earL n bs f) (earOk n bs f) w) := specEarliestOf_any n A c bs f w h hlen
theorem ear_no {n : Int} {bs : List Bd} {f : Int} (h : earOk n bs f = false) : earL n bs f = [] := (rowB_no (tv := earV n bs f) h).1
theorem ear_short (n : Int) (bs : List Bd) (f : Int) : (earL n bs f).length ≤ 6 := rowL_len n bs f (earV n bs f) (earB n bs f)
theorem nth_at {ts : List Int} {k : Nat} {x : Int} (h : ts[k]? = some x) : nth ts k = x := nth_of h
theorem keeps_times {n : Int} {bs : List Bd} {ts : List Int} (h : keepsOk n bs ts = true) : ∀ t ∈ ts, -2000 ≤ t ∧ t ≤ 2000 := by
  have h2 : timesOk n bs ts = true := by
    simp only [keepsOk, Bool.and_eq_true] at h; exact h.1
  intro t ht
  have h3 : allB ts (-2000) 2000 = true := by
    simp only [timesOk, Bool.and_eq_true] at h2; exact h2.2
  exact (allB_iff _ _ _).1 h3 t ht
set_option maxHeartbeats 1000000 in
theorem FnEarliestOf_walk (A : Option Addr) (c : Nat) (xs : List Int) (A' : Option Addr) (c' : Nat) (ys : List Int) (w : World) (hB : Bytes w A c xs) (hl : xs.length ≤ 9223372036854775807) (hB' : Bytes w A' c' ys) (hl' : ys.length ≤ 9223372036854775807) :
    Calls Try.prog 14 #[.slice A xs.length c, .slice A' ys.length c'] w fun e w' => e = .returned (.bool true) ∧ Below w.heap.size w w' := by
  by_cases hL : (1048576 : Int) < (xs.length : Int)
  · go_enter Try.func14, Try.ntmps14
    go_wp2
    go_ret
    exact ⟨rfl, Below.refl _ _⟩
  by_cases hL' : (1048576 : Int) < (ys.length : Int)
  · go_enter Try.func14, Try.ntmps14
    go_wp2
    go_ret
    exact ⟨rfl, Below.refl _ _⟩
  have HB' := Lib.hid hB'
  clear hB'
  go_enter Try.func14, Try.ntmps14
  go_wp2_with fail
  refine (drawEarliestOf_any A c xs _ hB).mono ?_; rintro e w1 ⟨n, A1, c1, bs, f, rfl, ⟨hf0, hf7, hfl, hfm⟩, hc, hn, hrb, hb1⟩
  have HR := Lib.hid hrb
  have HFM := Lib.hid hfm
  clear hrb hn hfm
  have hz1 := hb1.size
  have hml := ear_short n bs f
  go_wp2_with fail
  refine (ear_any _ _ _ bs f _ (HR.out.bat.below (by repeat (first | with_reducible exact Below.refl _ _ | with_reducible refine valloc ?_ _ | with_reducible refine vdrew ?_ | with_reducible refine vdrewN ?_ _ | with_reducible refine via (by assumption) ?_ | refine vset ?_ (by first | exact Nat.le_refl _ | (simp; done) | (simp; omega) | omega) _))) (by omega)).mono ?_; rintro e w2 ⟨G1, C1, rfl, r1, hb2⟩
  have p0 : w2.cell? ⟨w1.heap.size, 0, none⟩ = some (.int .i64 n) := cB hb2 (by simp)
  have p1 : w2.cell? ⟨w1.heap.size, 1, none⟩ = some (.slice A1 bs.length c1) := cB hb2 (by simp)
  have R1 := Lib.hid r1
  clear r1
  go_wp2_with fail
  refine (specEar_any _ _ _ bs f _ (HR.out.bat.below (by repeat (first | with_reducible exact Below.refl _ _ | with_reducible refine valloc ?_ _ | with_reducible refine vdrew ?_ | with_reducible refine vdrewN ?_ _ | with_reducible refine via (by assumption) ?_ | refine vset ?_ (by first | exact Nat.le_refl _ | (simp; done) | (simp; omega) | omega) _))) (by omega)).mono ?_; rintro e w3 ⟨G2, C2, rfl, r2, hb3⟩
  replace p0 := cB hb3 p0
  replace p1 := cB hb3 p1
  have R2 := Lib.hid r2
  clear r2
  go_wp2_with fail
  refine (sameInts_same _ _ _ _ (earL n bs f) _ (R1.out.iat.below (by repeat (first | with_reducible exact Below.refl _ _ | with_reducible refine valloc ?_ _ | with_reducible refine vdrew ?_ | with_reducible refine vdrewN ?_ _ | with_reducible refine via (by assumption) ?_ | refine vset ?_ (by first | exact Nat.le_refl _ | (simp; done) | (simp; omega) | omega) _))) R2.out.iat (by omega)).mono ?_; rintro e w4 ⟨rfl, hb4⟩
  replace p0 := cB hb4 p0
  replace p1 := cB hb4 p1
  have B4 := Lib.hid (show Below w.heap.size w w4 from (by repeat (first | with_reducible exact Below.refl _ _ | with_reducible refine valloc ?_ _ | with_reducible refine vdrew ?_ | with_reducible refine vdrewN ?_ _ | with_reducible refine via (by assumption) ?_ | refine vset ?_ (by first | exact Nat.le_refl _ | (simp; done) | (simp; omega) | omega) _)))
  have Q4 := Lib.hid (show BAt w4 A1 bs from HR.out.bat.below (by repeat (first | with_reducible exact Below.refl _ _ | with_reducible refine valloc ?_ _ | with_reducible refine vdrew ?_ | with_reducible refine vdrewN ?_ _ | with_reducible refine via (by assumption) ?_ | refine vset ?_ (by first | exact Nat.le_refl _ | (simp; done) | (simp; omega) | omega) _)))
  have X4 := Lib.hid (show IAt w4 G1 (earL n bs f) from R1.out.iat.below (by repeat (first | with_reducible exact Below.refl _ _ | with_reducible refine valloc ?_ _ | with_reducible refine vdrew ?_ | with_reducible refine vdrewN ?_ _ | with_reducible refine via (by assumption) ?_ | refine vset ?_ (by first | exact Nat.le_refl _ | (simp; done) | (simp; omega) | omega) _)))
  have Y4 := Lib.hid (show IAt w4 G2 (earL n bs f) from R2.out.iat.below (by repeat (first | with_reducible exact Below.refl _ _ | with_reducible refine valloc ?_ _ | with_reducible refine vdrew ?_ | with_reducible refine vdrewN ?_ _ | with_reducible refine via (by assumption) ?_ | refine vset ?_ (by first | exact Nat.le_refl _ | (simp; done) | (simp; omega) | omega) _)))
  clear hb1 hb2 hb3 hb4 hB hc R1 R2 HR
  cases he : earOk n bs f
  · have e0 := ear_no he
    rw [e0]
    clear hml X4 Y4 he e0
    go_wp2_with fail
    refine (alive_any _).mono ?_; rintro e w5 ⟨rfl, hb5⟩
    go_wp2
    go_ret
    exact ⟨rfl, via hb5 B4.out⟩
  · obtain ⟨hfit, f0, f1, xx1, xx2⟩ := ear_of he
    clear xx1 xx2
    obtain ⟨N, hN, n1, n6⟩ := fit_nat hfit
    subst hN
    obtain ⟨i, rfl⟩ := Int.eq_ofNat_of_zero_le f0
    have hll := ear_len he
    rw [Int.toNat_natCast] at hll
    obtain ⟨ek, ez⟩ := ear_keeps he
    have HPL := Lib.hid (fits_plan hfit)
    have HE := Lib.hid he
    have HK := Lib.hid ek
    have HZ := Lib.hid ez
    have HLL := Lib.hid hll
    have P0 := Lib.hid p0
    have P1 := Lib.hid p1
    have H5 := Lib.hid (Below.refl w4.heap.size w4)
    have Q5 := Lib.hid Q4.out
    have q0 := p0
    have q1 := p1
    clear he hfit ek ez hll hml
    obtain ⟨L, hLd⟩ : ∃ L, L = earL N bs i := ⟨_, rfl⟩
    rw [← hLd] at HLL X4 Y4 HK HZ ⊢
    have HLD := Lib.hid hLd
    have hL6 : L.length ≤ 6 := by have := HLL.out; omega
    clear hLd
    by_cases hy : ys.length = 0
    · clear HB'
      have HE0 := Lib.hid (endedL_len N bs [0])
      go_wp2_with fail
      refine (endedFrom_any N A1 _ c1 bs [0] _ (Q5.out.below ((Below.refl _ _).alloc (Nat.le_refl _) _)) (Blk.iat1 (Blk.new _ _ _)) (by omega) (by simp)).mono ?_; rintro e w6 ⟨G6, C6, rfl, r6, hb6⟩
      have HB6 := Lib.hid (show Below w4.heap.size w4 w6 from (H5.out.alloc H5.out.size _).trans (hb6.mono (by rw [sz]; have := H5.out.size; omega)))
      have R6 := Lib.hid r6.iat
      clear r6 hb6
      have SB := Lib.hid (fun (h : startB N bs [0] = true) => ended_law (M := 63) h (by omega) (by omega) (HFM.out HPL.out))
      clear q0 q1 p0 p1
      cases hs : startB N bs [0]
      · clear R6 SB
        go_wp2
        go_loopw [14] (fun k W => ∃ kk : Nat, kk ≤ L.length ∧ k = .int .i64 kk ∧ Below w6.heap.size w6 W) (fun k _ => L.length - (intOf k).toNat)
        case atStart => exact ⟨0, Nat.zero_le _, rfl, Below.refl _ _⟩
        case round =>
          obtain ⟨k, hk, rfl, hb⟩ := hrel
          have HB := Lib.hid (via hb HB6.out)
          clear hb
          have p0 := cB HB.out P0.out
          have p1 := cB HB.out P1.out
          by_cases hlt : k < L.length
          · have hx1 : True := trivial
            go_wp2_with fail
            refine (keepsOk_any _ _ _ _ _ bs L _ (Q4.out.below HB.out) (X4.out.below HB.out) (by omega) (by have := HLL.out; omega)).mono ?_; rintro e wb ⟨rfl, hbb⟩
            rw [HK.out]
            obtain ⟨bX, oX, v, eX, hbX, hv, hvm, cX⟩ := (X4.out.below (via hbb HB.out)).at_ (show i < L.length by have := HLL.out; omega)
            have ev : v = 0 := by have h := HZ.out; rw [Int.toNat_natCast, nth_at hv] at h; exact h
            subst eX; subst ev
            have i0 : (0 : Int) ≤ (i : Int) := by omega
            have i1 : (i : Int) < (L.length : Int) := by have := HLL.out; omega
            clear hv hvm
            go_wp2
            go_ret
            exact ⟨rfl, via hbb (via HB.out B4.out)⟩
          · have hx1 : True := trivial
            go_wp2_with fail
            refine (keepsOk_any _ _ _ _ _ bs L _ (Q4.out.below HB.out) (X4.out.below HB.out) (by omega) (by have := HLL.out; omega)).mono ?_; rintro e wb ⟨rfl, hbb⟩
            rw [HK.out]
            obtain ⟨bX, oX, v, eX, hbX, hv, hvm, cX⟩ := (X4.out.below (via hbb HB.out)).at_ (show i < L.length by have := HLL.out; omega)
            have ev : v = 0 := by have h := HZ.out; rw [Int.toNat_natCast, nth_at hv] at h; exact h
            subst eX; subst ev
            have i0 : (0 : Int) ≤ (i : Int) := by omega
            have i1 : (i : Int) < (L.length : Int) := by have := HLL.out; omega
            clear hv hvm
            go_wp2
            go_ret
            exact ⟨rfl, via hbb (via HB.out B4.out)⟩
      · obtain ⟨el, _, ek, ep⟩ := SB.out hs
        have EB := Lib.hid (keeps_times ek)
        have LS := Lib.hid (fun k (hk : k < N) => ear_least (ts := endedL N bs [0]) HE.out el ep (k := k) (by omega))
        have ell : (endedL N bs [0]).length = L.length := by have := HLL.out; omega
        clear ek ep el SB hs
        generalize endedL N bs [0] = T at *
        rw [ell]
        have ELL := Lib.hid ell
        clear ell
        go_wp2
        go_loopw [14] (fun k W => ∃ kk : Nat, kk ≤ L.length ∧ k = .int .i64 kk ∧ Below w6.heap.size w6 W) (fun k _ => L.length - (intOf k).toNat)
        case atStart => exact ⟨0, Nat.zero_le _, rfl, Below.refl _ _⟩
        case round =>
          obtain ⟨k, hk, rfl, hb⟩ := hrel
          have HB := Lib.hid (via hb HB6.out)
          have HB7 := Lib.hid hb
          have p0 := cB HB.out P0.out
          have p1 := cB HB.out P1.out
          clear hb
          by_cases hlt : k < L.length
          · obtain ⟨bT, oT, t1, eT, _, ht1, ht1m, cT1⟩ := (R6.out.below HB7.out).at_ (show k < T.length by have := ELL.out; omega)
            obtain ⟨bT', oT', tf, eT', _, htf, htfm, cTf⟩ := (R6.out.below HB7.out).at_ (show i < T.length by have := ELL.out; have := HLL.out; omega)
            obtain ⟨bY, oY, xk, eY, _, hxk, _, cxk⟩ := (Y4.out.below HB.out).at_ hlt
            have ee := eT.symm.trans eT'
            cases ee
            have hls := LS.out k (by have := HLL.out; omega)
            rw [← HLD.out, Int.toNat_natCast, nth_at hxk, nth_at ht1, nth_at htf] at hls
            have b1 := EB.out t1 ht1m
            have b2 := EB.out tf htfm
            subst eT; subst eY
            have hwt : IntKind.i64.wrap (t1 - tf) = t1 - tf := IntWalk.i64_in _ ⟨by omega, by omega⟩
            have hd : decide (t1 - tf < xk) = false := decide_eq_false (by omega)
            have i0 : (0 : Int) ≤ (i : Int) := by omega
            have i1 : (i : Int) < (L.length : Int) := by have := HLL.out; omega
            have i2 : (0 : Int) ≤ (k : Int) := by omega
            have i3 : (k : Int) < (L.length : Int) := by omega
            clear ht1 ht1m htf htfm hxk eT' hls b1 b2
            go_wp2
            go_quiet (fail)
            go_wp2
            go_roundw
            case rel => exact ⟨k + 1, by omega, by go_num, vdrewN HB7.out _⟩
            case measure => simp [intOf]; omega
          · have hx1 : True := trivial
            go_wp2_with fail
            refine (keepsOk_any _ _ _ _ _ bs L _ (Q4.out.below HB.out) (X4.out.below HB.out) (by omega) (by have := HLL.out; omega)).mono ?_; rintro e wb ⟨rfl, hbb⟩
            rw [HK.out]
            obtain ⟨bX, oX, v, eX, hbX, hv, hvm, cX⟩ := (X4.out.below (via hbb HB.out)).at_ (show i < L.length by have := HLL.out; omega)
            have ev : v = 0 := by have h := HZ.out; rw [Int.toNat_natCast, nth_at hv] at h; exact h
            subst eX; subst ev
            have i0 : (0 : Int) ≤ (i : Int) := by omega
            have i1 : (i : Int) < (L.length : Int) := by have := HLL.out; omega
            clear hv hvm
            go_wp2
            go_ret
            exact ⟨rfl, via hbb (via HB.out B4.out)⟩
    · obtain ⟨b, off, y, rfl, hb0, hb1, hy1, hym, cy⟩ := HB'.out.1.at_ (show 0 < ys.length by omega)
      obtain ⟨y0, y1⟩ := HB'.out.2.1 y hym
      have cy' : w4.cell? ⟨b, off, none⟩ = some (.int .u8 y) := cB B4.out cy
      have hmod : IntKind.i64.wrap (y.tmod 20) = y % 20 := by rw [Int.tmod_eq_emod_of_nonneg y0]; exact IntWalk.i64_in _ ⟨by omega, by omega⟩
      have hpos : (0 : Int) < (ys.length : Int) := by omega
      clear cy hy1 hym HB' hy
      have HE0 := Lib.hid (endedL_len N bs [(y % 20)])
      go_wp2_with fail
      refine (endedFrom_any N A1 _ c1 bs [(y % 20)] _ (Q5.out.below ((Below.refl _ _).alloc (Nat.le_refl _) _)) (Blk.iat1 (Blk.new _ _ _)) (by omega) (by simp)).mono ?_; rintro e w6 ⟨G6, C6, rfl, r6, hb6⟩
      have HB6 := Lib.hid (show Below w4.heap.size w4 w6 from (H5.out.alloc H5.out.size _).trans (hb6.mono (by rw [sz]; have := H5.out.size; omega)))
      have R6 := Lib.hid r6.iat
      clear r6 hb6
      have SB := Lib.hid (fun (h : startB N bs [(y % 20)] = true) => ended_law (M := 63) h (by omega) (by omega) (HFM.out HPL.out))
      clear q0 q1 p0 p1
      cases hs : startB N bs [(y % 20)]
      · clear R6 SB
        go_wp2
        go_loopw [14] (fun k W => ∃ kk : Nat, kk ≤ L.length ∧ k = .int .i64 kk ∧ Below w6.heap.size w6 W) (fun k _ => L.length - (intOf k).toNat)
        case atStart => exact ⟨0, Nat.zero_le _, rfl, Below.refl _ _⟩
        case round =>
          obtain ⟨k, hk, rfl, hb⟩ := hrel
          have HB := Lib.hid (via hb HB6.out)
          clear hb
          have p0 := cB HB.out P0.out
          have p1 := cB HB.out P1.out
          by_cases hlt : k < L.length
          · have hx1 : True := trivial
            go_wp2_with fail
            refine (keepsOk_any _ _ _ _ _ bs L _ (Q4.out.below HB.out) (X4.out.below HB.out) (by omega) (by have := HLL.out; omega)).mono ?_; rintro e wb ⟨rfl, hbb⟩
            rw [HK.out]
            obtain ⟨bX, oX, v, eX, hbX, hv, hvm, cX⟩ := (X4.out.below (via hbb HB.out)).at_ (show i < L.length by have := HLL.out; omega)
            have ev : v = 0 := by have h := HZ.out; rw [Int.toNat_natCast, nth_at hv] at h; exact h
            subst eX; subst ev
            have i0 : (0 : Int) ≤ (i : Int) := by omega
            have i1 : (i : Int) < (L.length : Int) := by have := HLL.out; omega
            clear hv hvm
            go_wp2
            go_ret
            exact ⟨rfl, via hbb (via HB.out B4.out)⟩
          · have hx1 : True := trivial
            go_wp2_with fail
            refine (keepsOk_any _ _ _ _ _ bs L _ (Q4.out.below HB.out) (X4.out.below HB.out) (by omega) (by have := HLL.out; omega)).mono ?_; rintro e wb ⟨rfl, hbb⟩
            rw [HK.out]
            obtain ⟨bX, oX, v, eX, hbX, hv, hvm, cX⟩ := (X4.out.below (via hbb HB.out)).at_ (show i < L.length by have := HLL.out; omega)
            have ev : v = 0 := by have h := HZ.out; rw [Int.toNat_natCast, nth_at hv] at h; exact h
            subst eX; subst ev
            have i0 : (0 : Int) ≤ (i : Int) := by omega
            have i1 : (i : Int) < (L.length : Int) := by have := HLL.out; omega
            clear hv hvm
            go_wp2
            go_ret
            exact ⟨rfl, via hbb (via HB.out B4.out)⟩
      · obtain ⟨el, _, ek, ep⟩ := SB.out hs
        have EB := Lib.hid (keeps_times ek)
        have LS := Lib.hid (fun k (hk : k < N) => ear_least (ts := endedL N bs [(y % 20)]) HE.out el ep (k := k) (by omega))
        have ell : (endedL N bs [(y % 20)]).length = L.length := by have := HLL.out; omega
        clear ek ep el SB hs
        generalize endedL N bs [(y % 20)] = T at *
        rw [ell]
        have ELL := Lib.hid ell
        clear ell
        go_wp2
        go_loopw [14] (fun k W => ∃ kk : Nat, kk ≤ L.length ∧ k = .int .i64 kk ∧ Below w6.heap.size w6 W) (fun k _ => L.length - (intOf k).toNat)
        case atStart => exact ⟨0, Nat.zero_le _, rfl, Below.refl _ _⟩
        case round =>
          obtain ⟨k, hk, rfl, hb⟩ := hrel
          have HB := Lib.hid (via hb HB6.out)
          have HB7 := Lib.hid hb
          have p0 := cB HB.out P0.out
          have p1 := cB HB.out P1.out
          clear hb
          by_cases hlt : k < L.length
          · obtain ⟨bT, oT, t1, eT, _, ht1, ht1m, cT1⟩ := (R6.out.below HB7.out).at_ (show k < T.length by have := ELL.out; omega)
            obtain ⟨bT', oT', tf, eT', _, htf, htfm, cTf⟩ := (R6.out.below HB7.out).at_ (show i < T.length by have := ELL.out; have := HLL.out; omega)
            obtain ⟨bY, oY, xk, eY, _, hxk, _, cxk⟩ := (Y4.out.below HB.out).at_ hlt
            have ee := eT.symm.trans eT'
            cases ee
            have hls := LS.out k (by have := HLL.out; omega)
            rw [← HLD.out, Int.toNat_natCast, nth_at hxk, nth_at ht1, nth_at htf] at hls
            have b1 := EB.out t1 ht1m
            have b2 := EB.out tf htfm
            subst eT; subst eY
            have hwt : IntKind.i64.wrap (t1 - tf) = t1 - tf := IntWalk.i64_in _ ⟨by omega, by omega⟩
            have hd : decide (t1 - tf < xk) = false := decide_eq_false (by omega)
            have i0 : (0 : Int) ≤ (i : Int) := by omega
            have i1 : (i : Int) < (L.length : Int) := by have := HLL.out; omega
            have i2 : (0 : Int) ≤ (k : Int) := by omega
            have i3 : (k : Int) < (L.length : Int) := by omega
            clear ht1 ht1m htf htfm hxk eT' hls b1 b2
            go_wp2
            go_quiet (fail)
            go_wp2
            go_roundw
            case rel => exact ⟨k + 1, by omega, by go_num, vdrewN HB7.out _⟩
            case measure => simp [intOf]; omega
          · have hx1 : True := trivial
            go_wp2_with fail
            refine (keepsOk_any _ _ _ _ _ bs L _ (Q4.out.below HB.out) (X4.out.below HB.out) (by omega) (by have := HLL.out; omega)).mono ?_; rintro e wb ⟨rfl, hbb⟩
            rw [HK.out]
            obtain ⟨bX, oX, v, eX, hbX, hv, hvm, cX⟩ := (X4.out.below (via hbb HB.out)).at_ (show i < L.length by have := HLL.out; omega)
            have ev : v = 0 := by have h := HZ.out; rw [Int.toNat_natCast, nth_at hv] at h; exact h
            subst eX; subst ev
            have i0 : (0 : Int) ≤ (i : Int) := by omega
            have i1 : (i : Int) < (L.length : Int) := by have := HLL.out; omega
            clear hv hvm
            go_wp2
            go_ret
            exact ⟨rfl, via hbb (via HB.out B4.out)⟩
end Go.Proofs.Ytnompncmachgjaa
