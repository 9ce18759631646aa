/- The contracts of impl.BadRing and spec.BadRing: what the search of a bad ring hands back. -/
import Derived.Test.YtnompncmachgjaaBadB
import Derived.Test.YtnompncmachgjaaBadC
import Derived.Test.YtnompncmachgjaaKG
import Derived.Test.YtnompncmachgjaaKE
import Derived.Test.YtnompncmachgjaaKA
import Derived.Test.YtnompncmachgjaaKD
import Derived.Test.YtnompncmachgjaaEnded2
namespace Go.Proofs.Ytnompncmachgjaa
open Go.RowKit
set_option linter.unusedVariables false
set_option maxRecDepth 10000
set_option linter.unusedSimpArgs false

theorem bad_is {N : Nat} {bs : List Bd} {r : List Nat} (hp : planOk N bs = true) (hf : fitsOk N bs = false) (h : firstF (fun m => srch bs m [] 0) N 1 = some r) : badL N bs = ints r ∧ badB N bs = true := by
  have hb : badB N bs = true := by simp [badB, hp, hf]
  refine ⟨?_, hb⟩
  unfold badL badO
  first
    | (rw [if_pos (by simp [hp, hf])]; simp [h]; done)
    | (simp [hp, hf, h]; done)
theorem bad_len (n : Int) (bs : List Bd) : (badL n bs).length ≤ 6 := by
  cases hb : badB n bs
  · rw [bad_no hb]; simp
  · obtain ⟨hp, _, _, _, hl, _⟩ := bad_yes hb
    have := planOk_of hp
    omega
theorem iat_nil (w : World) (A : Option Addr) : IAt w A (ints []) := fun h0 => absurd h0 (by simp [ints])
set_option maxHeartbeats 1000000 in
theorem badRing_law (n : Int) (A : Option Addr) (c : Nat) (bs : List Bd) (w : World) (h : BAt w A bs) (hlen : bs.length ≤ 1099511627776) :
    Calls Try.prog 21 #[.agg #[.int .i64 n, .slice A bs.length c]] w (ListBoolRes (badL n bs) (badB n bs) w) := by
  have qN : ∀ (w : World) (a : Option Addr) (n c n' c' : Nat), (binOp .neq 27 (.slice a n c) (.slice none n' c')).run Try.prog w = .ok (.bool (!a.isNone)) w := fun w a n c n' c' => run_neq_slice_nil_any w _ _ a n c n' c' Try.underlying27
  have B0 : Below w.heap.size w (w.alloc (.cells #[.int .i64 n, .slice A bs.length c] 25)) := valloc (Below.refl _ _) _
  have P0 : Blk (w.alloc (.cells #[.int .i64 n, .slice A bs.length c] 25)) w.heap.size 25 #[.int .i64 n, .slice A bs.length c] := Blk.new _ _ _
  have HX := Lib.hid (And.intro B0 P0)
  clear B0 P0
  cases hp : planOk n bs
  · have hb : badB n bs = false := by simp [badB, hp]
    have HR := Lib.hid (bad_no hb)
    have HP := Lib.hid hp
    go_enter Try.func21, Try.ntmps21
    go_wp2_with fail
    generalize w.alloc (.cells #[.int .i64 n, .slice A bs.length c] 25) = w1 at *
    refine (planOk_any _ _ _ bs _ (h.below HX.out.1) hlen).mono ?_; rintro e w2 ⟨rfl, hb2⟩
    rw [HP.out]
    clear qN hp
    go_wp2
    go_ret2
    rw [HR.out, hb]
    exact ⟨none, 0, rfl, Or.inl ⟨rfl, rfl⟩, via hb2 HX.out.1⟩
  cases hf : fitsOk n bs
  · obtain ⟨N, rfl⟩ := Int.eq_ofNat_of_zero_le (show 0 ≤ n by have := planOk_of hp; omega)
    obtain ⟨m0, r, hm1, hmN, hfew, hr, hfst, hno⟩ := ring_same hp hf
    obtain ⟨hl, hb⟩ := bad_is hp hf hfst
    have hN6 : N ≤ 6 := by have := planOk_of hp; omega
    have HP := Lib.hid hp
    have HF := Lib.hid hf
    have HL := Lib.hid hl
    have HBB := Lib.hid hb
    have HFEW := Lib.hid hfew
    have HR := Lib.hid hr
    have HNO := Lib.hid hno
    clear hp hf hl hb hfew hr hno hfst
    go_enter Try.func21, Try.ntmps21
    go_wp2_with fail
    generalize w.alloc (.cells #[.int .i64 N, .slice A bs.length c] 25) = w1 at *
    refine (planOk_any _ _ _ bs _ (h.below HX.out.1) hlen).mono ?_; rintro e w2 ⟨rfl, hb2⟩
    rw [HP.out]
    have p0 : w2.cell? ⟨w.heap.size, 0, none⟩ = some (.int .i64 N) := cB hb2 (HX.out.2.cell 0)
    have p1 : w2.cell? ⟨w.heap.size, 1, none⟩ = some (.slice A bs.length c) := cB hb2 (HX.out.2.cell 1)
    go_wp2_with fail
    refine (fitsOk_any _ _ _ bs _ (h.below (via hb2 HX.out.1)) hlen).mono ?_; rintro e w3 ⟨rfl, hb3⟩
    rw [HF.out]
    replace p0 := cB hb3 p0
    replace p1 := cB hb3 p1
    have B3 := Lib.hid (via hb3 (via hb2 HX.out.1))
    have HP3 := Lib.hid (And.intro p0 p1)
    clear hb2 hb3 p0 p1
    go_wp2
    go_loopw [4] (fun v W => ∃ m : Nat, 1 ≤ m ∧ m ≤ m0 ∧ v = .int .i64 m ∧ Below w3.heap.size w3 W) (fun v _ => 7 - (intOf v).toNat)
    case atStart => exact ⟨1, Nat.le_refl _, hm1, rfl, Below.refl _ _⟩
    case round =>
      obtain ⟨m, h1, h2, rfl, hbw⟩ := hrel
      have p0 := cB hbw HP3.out.1
      have p1 := cB hbw HP3.out.2
      have HBW := Lib.hid hbw
      clear hbw
      go_wp2_with fail
      refine (fewestBad_any N A c bs _ HP.out (h.below (via HBW.out B3.out))).mono ?_; rintro e w4 ⟨rfl, hb4⟩
      rw [HFEW.out]
      replace p0 := cB hb4 p0
      replace p1 := cB hb4 p1
      have B4 := Lib.hid (via hb4 HBW.out)
      clear hb4
      go_wp2_with fail
      refine (badRing_any N A c bs m HP.out h1 (by omega) m [] 0 none 0 _ (h.below (via B4.out B3.out)) (iat_nil _ _) (fun _ => rfl) (by simp) (by simp) rfl (by simp) (by simp)).mono ?_; rintro e w5 ⟨hb5, ⟨hs, rfl⟩ | ⟨out, ad, cc, hs, rfl, hro⟩⟩
      · have hne : m ≠ m0 := fun q => by rw [q, HR.out] at hs; cases hs
        have HB5 := Lib.hid hb5
        clear hs hb5 p0 p1
        go_wp2
        go_roundw
        case rel => exact ⟨m + 1, by omega, by omega, by go_num, via HB5.out B4.out⟩
        case measure => simp [intOf]; omega
      · have hme : m = m0 := by
          rcases Nat.lt_or_ge m m0 with q | q
          · rw [HNO.out m h1 q] at hs; cases hs
          · omega
        subst hme
        have hout : out = r := by rw [HR.out] at hs; injection hs with hs; exact hs.symm
        have HO := Lib.hid hout
        have HB5 := Lib.hid hb5
        have HRO := Lib.hid hro
        clear hs hb5 p0 p1 hro hout
        go_wp2
        go_ret2
        rw [HL.out, HBB.out]
        have hz := (via B4.out B3.out).size
        refine ⟨some ad, cc, by rw [HO.out, ints_length]; rfl, ?_, via HB5.out (via B4.out B3.out)⟩
        rcases HRO.out with q | ⟨_, q⟩
        · rw [← HO.out]; exact q.wide hz (Nat.le_refl _)
        · cases q
  · have hb : badB n bs = false := by simp [badB, hf]
    have HR := Lib.hid (bad_no hb)
    have HP := Lib.hid hp
    have HF := Lib.hid hf
    go_enter Try.func21, Try.ntmps21
    go_wp2_with fail
    generalize w.alloc (.cells #[.int .i64 n, .slice A bs.length c] 25) = w1 at *
    refine (planOk_any _ _ _ bs _ (h.below HX.out.1) hlen).mono ?_; rintro e w2 ⟨rfl, hb2⟩
    rw [HP.out]
    have p0 : w2.cell? ⟨w.heap.size, 0, none⟩ = some (.int .i64 n) := cB hb2 (HX.out.2.cell 0)
    have p1 : w2.cell? ⟨w.heap.size, 1, none⟩ = some (.slice A bs.length c) := cB hb2 (HX.out.2.cell 1)
    clear hp hf
    go_wp2_with fail
    refine (fitsOk_any _ _ _ bs _ (h.below (via hb2 HX.out.1)) hlen).mono ?_; rintro e w3 ⟨rfl, hb3⟩
    rw [HF.out]
    clear qN
    go_wp2
    go_ret2
    rw [HR.out, hb]
    exact ⟨none, 0, rfl, Or.inl ⟨rfl, rfl⟩, via hb3 (via hb2 HX.out.1)⟩
set_option maxHeartbeats 1000000 in
theorem specBadRing_cap (n : Int) (A : Option Addr) (c : Nat) (bs : List Bd) (w : World) (h : BAt w A bs) (hlen : bs.length ≤ 1099511627776) :
    Calls Try.prog 62 #[.agg #[.int .i64 n, .slice A bs.length c]] w (ListBoolResC (badL n bs) (badB n bs) w) := by
  have B0 : Below w.heap.size w (w.alloc (.cells #[.int .i64 n, .slice A bs.length c] 25)) := valloc (Below.refl _ _) _
  have P0 : Blk (w.alloc (.cells #[.int .i64 n, .slice A bs.length c] 25)) w.heap.size 25 #[.int .i64 n, .slice A bs.length c] := Blk.new _ _ _
  have HX := Lib.hid (And.intro B0 P0)
  clear B0 P0
  cases hp : planOk n bs
  · have hb : badB n bs = false := by simp [badB, hp]
    have HR := Lib.hid (bad_no hb)
    have HP := Lib.hid hp
    go_enter Try.func62, Try.ntmps62
    go_wp2_with fail
    generalize w.alloc (.cells #[.int .i64 n, .slice A bs.length c] 25) = w1 at *
    refine (specPlanOk_any _ _ _ bs _ (h.below HX.out.1) hlen).mono ?_; rintro e w2 ⟨rfl, hb2⟩
    rw [HP.out]
    have HB2 := Lib.hid (via hb2 HX.out.1)
    clear hp hb2
    go_wp2
    go_ret2
    rw [HR.out, hb]
    have hz := HB2.out.size
    refine ⟨_, _, rfl, ?_, Nat.le_refl _, valloc HB2.out _⟩
    exact Or.inr ⟨_, _, rfl, hz, by simp, Blk.new _ _ _, by simp, fun i x hi => absurd hi (by simp)⟩
  cases hf : fitsOk n bs
  · obtain ⟨N, rfl⟩ := Int.eq_ofNat_of_zero_le (show 0 ≤ n by have := planOk_of hp; omega)
    obtain ⟨m0, r, hm1, hmN, hfew, hr, hfst, hno⟩ := ring_same hp hf
    obtain ⟨hl, hb⟩ := bad_is hp hf hfst
    have hN6 : N ≤ 6 := by have := planOk_of hp; omega
    have HP := Lib.hid hp
    have HF := Lib.hid hf
    have HL := Lib.hid hl
    have HBB := Lib.hid hb
    have HR := Lib.hid hr
    have HNO := Lib.hid hno
    clear hp hf hl hb hfew hr hno hfst
    go_enter Try.func62, Try.ntmps62
    go_wp2_with fail
    generalize w.alloc (.cells #[.int .i64 N, .slice A bs.length c] 25) = w1 at *
    refine (specPlanOk_any _ _ _ bs _ (h.below HX.out.1) hlen).mono ?_; rintro e w2 ⟨rfl, hb2⟩
    rw [HP.out]
    have p0 : w2.cell? ⟨w.heap.size, 0, none⟩ = some (.int .i64 N) := cB hb2 (HX.out.2.cell 0)
    have p1 : w2.cell? ⟨w.heap.size, 1, none⟩ = some (.slice A bs.length c) := cB hb2 (HX.out.2.cell 1)
    go_wp2_with fail
    refine (specFitsOk_any _ _ _ bs _ (h.below (via hb2 HX.out.1)) hlen).mono ?_; rintro e w3 ⟨rfl, hb3⟩
    rw [HF.out]
    replace p0 := cB hb3 p0
    replace p1 := cB hb3 p1
    have B3 := Lib.hid (via hb3 (via hb2 HX.out.1))
    have HP3 := Lib.hid (And.intro p0 p1)
    clear hb2 hb3 p0 p1
    go_wp2
    go_loopw [4] (fun v W => ∃ m : Nat, 1 ≤ m ∧ m ≤ m0 ∧ v = .int .i64 m ∧ Below w3.heap.size w3 W) (fun v _ => 7 - (intOf v).toNat)
    case atStart => exact ⟨1, Nat.le_refl _, hm1, rfl, Below.refl _ _⟩
    case round =>
      obtain ⟨m, h1, h2, rfl, hbw⟩ := hrel
      have p0 := cB hbw HP3.out.1
      have p1 := cB hbw HP3.out.2
      have HBW := Lib.hid hbw
      have hmN2 : m ≤ N := by omega
      clear hbw
      go_wp2_with fail
      have B4 := Lib.hid (show Below w3.heap.size w3 (wr.alloc (.cells #[] 3)) from valloc HBW.out _)
      refine (l3Search_any N A c bs m HP.out h1 (by omega) m [] 0 _ 0 _ (h.below (via B4.out B3.out)) (iat_nil _ _) (fun _ => rfl) (by simp) (by simp) (by simp) rfl (by simp) (by simp)).mono ?_; intro e w5 hres; obtain ⟨G8, L8, c8, rfl, hb5, ⟨hs, rfl⟩ | ⟨out, ad, hs, hL, hp8, rfl, hro⟩⟩ := hres.form
      · have hne : m ≠ m0 := fun q => by rw [q, HR.out] at hs; cases hs
        have HB5 := Lib.hid hb5
        clear hs hb5 p0 p1 hres
        go_wp2
        go_roundw
        case rel => exact ⟨m + 1, by omega, by omega, by go_num, via HB5.out B4.out⟩
        case measure => simp [intOf]; omega
      · have hme : m = m0 := by
          rcases Nat.lt_or_ge m m0 with q | q
          · rw [HNO.out m h1 q] at hs; cases hs
          · omega
        subst hme
        have hlo : out.length = m := by rw [srch_len hs]; simp
        have hg3 : 0 < L8 := by omega
        have hg1 : decide ((0 : Int) < (L8 : Int)) = true := decide_eq_true (by omega)
        have hg2 : decide (0 < L8) = true := decide_eq_true hg3
        have hout : out = r := by rw [HR.out] at hs; injection hs with hs; exact hs.symm
        have HO := Lib.hid hout
        have HLL := Lib.hid hL
        have HLO := Lib.hid hlo
        have HB5 := Lib.hid hb5
        have HRO := Lib.hid hro
        clear hs hb5 p0 p1 hro hout hL hlo hres
        go_wp2
        go_ret2
        rw [HL.out, HBB.out]
        have hz := (via B4.out B3.out).size
        refine ⟨some ad, c8, by rw [HLL.out, HO.out, ints_length]; rfl, ?_, by rw [ints_length, ← HO.out, ← HLL.out]; exact hp8, via HB5.out (via B4.out B3.out)⟩
        rcases HRO.out with q | ⟨q, _⟩
        · rw [← HO.out]; exact q.wide hz (Nat.le_refl _)
        · have := HLO.out; rw [q] at this; simp at this; omega
  · have hb : badB n bs = false := by simp [badB, hf]
    have HR := Lib.hid (bad_no hb)
    have HP := Lib.hid hp
    have HF := Lib.hid hf
    go_enter Try.func62, Try.ntmps62
    go_wp2_with fail
    generalize w.alloc (.cells #[.int .i64 n, .slice A bs.length c] 25) = w1 at *
    refine (specPlanOk_any _ _ _ bs _ (h.below HX.out.1) hlen).mono ?_; rintro e w2 ⟨rfl, hb2⟩
    rw [HP.out]
    have p0 : w2.cell? ⟨w.heap.size, 0, none⟩ = some (.int .i64 n) := cB hb2 (HX.out.2.cell 0)
    have p1 : w2.cell? ⟨w.heap.size, 1, none⟩ = some (.slice A bs.length c) := cB hb2 (HX.out.2.cell 1)
    clear hp hf
    go_wp2_with fail
    refine (specFitsOk_any _ _ _ bs _ (h.below (via hb2 HX.out.1)) hlen).mono ?_; rintro e w3 ⟨rfl, hb3⟩
    rw [HF.out]
    have HB3 := Lib.hid (via hb3 (via hb2 HX.out.1))
    clear hb2 hb3 p0 p1
    go_wp2
    go_ret2
    rw [HR.out, hb]
    have hz := HB3.out.size
    refine ⟨_, _, rfl, ?_, Nat.le_refl _, valloc HB3.out _⟩
    exact Or.inr ⟨_, _, rfl, hz, by simp, Blk.new _ _ _, by simp, fun i x hi => absurd hi (by simp)⟩
theorem specBadRing_law (n : Int) (A : Option Addr) (c : Nat) (bs : List Bd) (w : World) (h : BAt w A bs) (hlen : bs.length ≤ 1099511627776) :
    Calls Try.prog 62 #[.agg #[.int .i64 n, .slice A bs.length c]] w (ListBoolRes (badL n bs) (badB n bs) w) :=
  (specBadRing_cap n A c bs w h hlen).mono fun e w' ⟨G, c', h1, h2, _, h3⟩ => ⟨G, c', h1, h2, h3⟩
end Go.Proofs.Ytnompncmachgjaa
