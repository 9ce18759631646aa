/- The contract of impl.badRing: what the search finds; for plans, and rows of places that run. -/
import Derived.Test.YtnompncmachgjaaBadKit
import Derived.WalkSpells
namespace Go.Proofs.Ytnompncmachgjaa
open Go.RowKit
set_option linter.unusedVariables false
set_option maxRecDepth 10000
set_option linter.unusedSimpArgs false

theorem last_of {row : List Nat} (h : ¬ row.length = 0) : ∃ a, row.getLast? = some a ∧ row[row.length - 1]? = some a ∧ a ∈ row := by
  cases row with
  | nil => exact absurd rfl h
  | cons x l =>
    refine ⟨(x :: l).getLast (by simp), List.getLast?_eq_some_getLast (by simp), ?_, List.getLast_mem _⟩
    rw [← List.getLast?_eq_getElem?]
    exact List.getLast?_eq_some_getLast (by simp)
theorem goes_last {bs : List Bd} {row : List Nat} {a k : Nat} (h : row.getLast? = some a) : goes bs row k = decide ((bdAt bs a).t = (bdAt bs k).f) := by
  unfold goes; rw [h]
theorem goes_none {bs : List Bd} {row : List Nat} {k : Nat} (h : row.length = 0) : goes bs row k = true := by
  rw [List.eq_nil_of_length_eq_zero h]; rfl
set_option maxHeartbeats 1000000 in
theorem badRing_any (n : Int) (A : Option Addr) (c : Nat) (bs : List Bd) (M : Nat) (hp : planOk n bs = true) (hM1 : 1 ≤ M) (hM6 : M ≤ 6) : ∀ (d : Nat) (row : List Nat) (sum : Int) (A' : Option Addr) (c' : Nat) (w : World), BAt w A bs → IAt w A' (ints row) → (A' = none → c' = 0) → row.length + d = M → (∀ k ∈ row, k < bs.length) → runs bs [] row = true → -(99 * (row.length : Int)) ≤ sum → sum ≤ 99 * (row.length : Int) →
    Calls Try.prog 80 #[.agg #[.int .i64 n, .slice A bs.length c], .slice A' row.length c', .int .i64 sum, .int .i64 M] w (SrchRes bs d row sum A' w) := by
  obtain ⟨hn1, hn6, hl16, hin⟩ := planOk_of hp
  have HIN := Lib.hid hin
  have HP := Lib.hid hp
  have qN : ∀ (w : World) (a : Option Addr) (n c n' c' : Nat), (binOp .neq 27 (.slice a n c) (.slice none n' c')).run Try.prog w = .ok (.bool (!a.isNone)) w := fun w a n c n' c' => run_neq_slice_nil_any w _ _ a n c n' c' Try.underlying27
  clear hin hp
  intro d
  induction d with
  | zero =>
    intro row sum A' c' w h h' h0 hd hk hr hs1 hs2
    have hlm : ((row.length : Int) == (M : Int)) = true := by simp; omega
    have HRing := Lib.hid (fun W (hB : BAt W A bs) (hI : IAt W A' (ints row)) => show Calls Try.prog 63 #[.agg #[.int .i64 n, .slice A bs.length c], .slice A' row.length c'] W fun e w' => e = .returned (.bool (back bs row)) ∧ Below W.heap.size W w' by
      have := ringOk_any n A A' c c' bs (ints row) W hB hI (by omega) (by rw [ints_length]; omega)
      rw [ints_length] at this
      rw [← ring_back HP.out (by omega) (by omega) hk hr]; exact this)
    have HS := Lib.hid (srch_zero bs row sum)
    have HB0 := Lib.hid (h.below ((Below.refl _ w).alloc (Nat.le_refl _) (.cells #[.int .i64 n, .slice A bs.length c] 25)))
    have HI0 := Lib.hid (h'.below ((Below.refl _ w).alloc (Nat.le_refl _) (.cells #[.int .i64 n, .slice A bs.length c] 25)))
    obtain ⟨b, off, x, rfl, _, _, _, _⟩ := h'.at_ (show 0 < (ints row).length by rw [ints_length]; omega)
    clear h h' hk hr hd h0
    cases hb : back bs row
    · go_enter Try.func80, Try.ntmps80
      go_wp2_with fail
      refine (HRing.out _ HB0.out HI0.out).mono ?_; rintro e w1 ⟨rfl, hb1⟩
      rw [hb]
      go_wp2
      go_ret
      exact ⟨via hb1 (valloc (Below.refl _ _) _), .inl ⟨by rw [HS.out, hb]; simp, rfl⟩⟩
    · by_cases hs : sum < 0
      · have hs' : decide (sum < 0) = true := by simpa using hs
        have E := Lib.hid (show srch bs 0 row sum = some row by rw [HS.out, if_pos ⟨hb, hs⟩])
        clear hs
        go_enter Try.func80, Try.ntmps80
        go_wp2_with fail
        refine (HRing.out _ HB0.out HI0.out).mono ?_; rintro e w1 ⟨rfl, hb1⟩
        rw [hb]
        go_wp2
        go_ret
        exact ⟨via hb1 (valloc (Below.refl _ _) _), .inr ⟨row, _, _, E.out, rfl, .inr ⟨rfl, rfl⟩⟩⟩
      · have hs' : decide (sum < 0) = false := by simpa using hs
        have E := Lib.hid (show srch bs 0 row sum = none by rw [HS.out, if_neg (fun q => hs q.2)])
        clear hs
        go_enter Try.func80, Try.ntmps80
        go_wp2_with fail
        refine (HRing.out _ HB0.out HI0.out).mono ?_; rintro e w1 ⟨rfl, hb1⟩
        rw [hb]
        go_wp2
        go_ret
        exact ⟨via hb1 (valloc (Below.refl _ _) _), .inl ⟨E.out, rfl⟩⟩
  | succ d ih =>
    intro row sum A' c' w h h' h0 hd hk hr hs1 hs2
    have hlm : ((row.length : Int) == (M : Int)) = false := beq_eq_false_iff_ne.2 (by omega)
    have IH := Lib.hid ih
    have HK := Lib.hid hk
    have HRun := Lib.hid hr
    have HB0 := Lib.hid h
    have HI0 := Lib.hid h'
    have HA0 := Lib.hid h0
    have HS := Lib.hid (srch_succ bs d row sum)
    clear ih hk hr h h' h0
    go_enter Try.func80, Try.ntmps80
    go_wp2
    go_loopw [28] (fun i W => ∃ k : Nat, k ≤ bs.length ∧ i = .int .i64 k ∧ (∀ a, a < k → stepS bs d row sum a = none) ∧ Below w.heap.size w W ∧ Blk W w.heap.size 25 #[.int .i64 n, .slice A bs.length c]) (fun i _ => bs.length - (intOf i).toNat)
    case atStart => exact ⟨0, Nat.zero_le _, rfl, fun a ha => absurd ha (Nat.not_lt_zero _), valloc (Below.refl _ _) _, Blk.new _ _ _⟩
    case round =>
      obtain ⟨k, hk', rfl, hno, hb, hP⟩ := hrel
      have HNO := Lib.hid hno
      have HP0 := Lib.hid hP
      have HBe := Lib.hid hb
      have hzr := hb.size
      have hPl := hP.lt
      clear hno
      by_cases hlt : k < bs.length
      · obtain ⟨b, off, x, rfl, hbl, hx, hxm, c0, c1, c2⟩ := (HB0.out.below hb).at_ hlt
        have hxin := HIN.out x hxm
        have HX := Lib.hid (bdAt_of hx)
        obtain ⟨f, t, m⟩ := x
        simp only at c0 c1 c2 hxin
        have e1 : wr.cell? ⟨w.heap.size, 1, none⟩ = some (.slice (some ⟨b, off, none⟩) bs.length c) := hP.cell 1
        have e0 : wr.cell? ⟨w.heap.size, 0, none⟩ = some (.int .i64 n) := hP.cell 0
        clear hb hP hx hxm
        go_wp2
        obtain ⟨w4, hw4⟩ : ∃ w4, w4 = wr.alloc (.cells #[.int .i64 f, .int .i64 t, .int .i64 m] 43) := ⟨_, rfl⟩
        have Q4 : Blk w4 wr.heap.size 43 #[.int .i64 f, .int .i64 t, .int .i64 m] := by subst hw4; exact Blk.new _ _ _
        have P4 : Blk w4 w.heap.size 25 #[.int .i64 n, .slice (some ⟨b, off, none⟩) bs.length c] := by subst hw4; exact HP0.out.alloc _
        have B4 : Below w.heap.size w w4 := by subst hw4; exact valloc HBe.out _
        have Z4 : w4.heap.size = wr.heap.size + 1 := by subst hw4; simp
        rw [← hw4]
        clear hw4 c0 c1 c2 e0 e1
        have b0 : w4.cell? ⟨wr.heap.size, 0, none⟩ = some (.int .i64 f) := Q4.cell 0
        have b2 : w4.cell? ⟨wr.heap.size, 2, none⟩ = some (.int .i64 m) := Q4.cell 2
        have p0 : w4.cell? ⟨w.heap.size, 0, none⟩ = some (.int .i64 n) := P4.cell 0
        have p1 : w4.cell? ⟨w.heap.size, 1, none⟩ = some (.slice (some ⟨b, off, none⟩) bs.length c) := P4.cell 1
        have HQ4 := Lib.hid Q4
        have HP4 := Lib.hid P4
        have HB4 := Lib.hid B4
        clear Q4 P4 B4
        have key : ∀ g : Bool, g = goes bs row k → ∃ tv : Int, (0 < row.length → ∃ a ao aa, a < bs.length ∧ A' = some ⟨aa, ao, none⟩ ∧ w4.cell? ⟨aa, ao + (row.length - 1), none⟩ = some (.int .i64 (a : Int)) ∧ w4.cell? ⟨b, off + a * 3 + 1, none⟩ = some (.int .i64 tv)) ∧ (row.length = 0 → g = true) ∧ (0 < row.length → (f != tv) = !g) := by
          intro g hg
          by_cases hr0 : row.length = 0
          · exact ⟨0, fun q => by omega, fun _ => by rw [hg]; exact goes_none hr0, fun q => by omega⟩
          · obtain ⟨a, ha1, ha2, ha3⟩ := last_of hr0
            have hal := HK.out a ha3
            obtain ⟨b', off', y, eA, _, hy, _, d0, d1, d2⟩ := (HB0.out.below HB4.out).at_ hal
            cases eA
            obtain ⟨aa, ao, z, eA', _, hz, _, z0⟩ := (HI0.out.below HB4.out).at_ (show row.length - 1 < (ints row).length by rw [ints_length]; omega)
            have hza : z = (a : Int) := by rw [ints_at ha2] at hz; injection hz with hz; exact hz.symm
            subst hza
            refine ⟨y.t, fun _ => ⟨a, ao, aa, hal, eA', z0, d1⟩, fun q => by omega, fun _ => ?_⟩
            rw [hg, goes_last ha1, bdAt_of hy, HX.out]
            by_cases e : y.t = f
            · simp [e]
            · have : f ≠ y.t := fun q => e q.symm
              simp [e, this]
        cases hgo : goes bs row k
        · -- passed over
          obtain ⟨tv, k1, k2, k3⟩ := key false hgo.symm
          have hr0 : 0 < row.length := by
            rcases Nat.eq_zero_or_pos row.length with q | q
            · exact absurd (k2 q) (by simp)
            · exact q
          obtain ⟨a, ao, aa, hal, rfl, z0, z1⟩ := k1 hr0
          have hne : (f != tv) = true := by simpa using k3 hr0
          have E := Lib.hid (stepS_no (d := d) (sum := sum) hgo)
          have hT : ((row.length : Int) - 1).toNat = row.length - 1 := by omega
          have i0 : (0 : Int) ≤ (row.length : Int) - 1 := by omega
          have i1 : (row.length : Int) - 1 < (row.length : Int) := by omega
          have i2 : (0 : Int) ≤ (a : Int) := by omega
          have i3 : (a : Int) < (bs.length : Int) := by omega
          have hgd : decide ((0 : Int) < (row.length : Int)) = true := by simp; omega
          have hwl : IntKind.i64.wrap ((row.length : Int) - 1) = (row.length : Int) - 1 := IntWalk.i64_in _ ⟨by omega, by omega⟩
          clear key k1 k2 k3 hgo
          go_quiet (fail)
          go_wp2
          go_roundw
          case rel => exact ⟨k + 1, by omega, by go_num, fun a ha => by
            by_cases e : a = k
            · rw [e]; exact E.out
            · exact HNO.out a (by omega), vdrewN HB4.out _, HP4.out.drewN _⟩
          case measure => simp [intOf]; omega
        · have E := Lib.hid (stepS_yes (d := d) (sum := sum) hgo)
          have HRn := Lib.hid (show runs bs [] (row ++ [k]) = true by rw [runs_snoc, HRun.out, List.nil_append, hgo]; rfl)
          obtain ⟨tv, k1, k2, k3⟩ := key true hgo.symm
          have F5 : ∀ nq : Nat, Blk (w4.drewN nq) wr.heap.size 43 #[.int .i64 f, .int .i64 t, .int .i64 m] ∧ Blk (w4.drewN nq) w.heap.size 25 #[.int .i64 n, .slice (some ⟨b, off, none⟩) bs.length c] ∧ Below w.heap.size w (w4.drewN nq) ∧ (w4.drewN nq).heap.size = wr.heap.size + 1 ∧ IAt (w4.drewN nq) A' (ints row) := fun nq => ⟨HQ4.out.drewN _, HP4.out.drewN _, vdrewN HB4.out _, Z4, HI0.out.below (vdrewN HB4.out _)⟩
          have HF5 := Lib.hid F5
          clear key k2 hgo F5
          by_cases hr0 : row.length = 0
          · have hgd : decide ((0 : Int) < (row.length : Int)) = false := decide_eq_false (by omega)
            have hgd2 : decide (0 < row.length) = false := decide_eq_false (by omega)
            have hgd3 : ¬ 0 < row.length := by omega
            have HR0 := Lib.hid hr0
            clear k1 k3 hr0
            go_quiet (fail)
            have hws : IntKind.i64.wrap (sum + m) = sum + m := IntWalk.i64_in _ ⟨by omega, by omega⟩
            obtain ⟨Q5, P5, B5, Z5, I5⟩ := HF5.out nq; generalize w4.drewN nq = w5 at Q5 P5 B5 Z5 I5 ⊢; clear b0 b2 p0 p1 HF5 hgd; have I5H := Lib.hid I5; go_wp2_with (first | (at_builtin; refine wpList_pushC rfl _ _ rfl w5.heap.size _ [] rfl (OwnL.nil _ _) _ c' row.length (ints row) (ints_length row).symm rfl I5H.out HA0.out (by rw [ints_length]; simp; omega) (Nat.le_refl _) ?_; intro v1 w6 hown6 hb6; rw [List.nil_append] at hown6; have O6 := Lib.hid hown6; clear hown6) | (at_builtin; refine wpList_push rfl _ _ rfl w5.heap.size _ _ rfl (O6.out.alloc _) w6.heap.size (k : Int) rfl (by simp) (by rw [ints_length]; omega) (by have := hb6.size; simp; omega) ?_; intro v2 w7 hown7 hb7; have H57 := (hb6.alloc hb6.size _).trans hb7; have m2 : w7.cell? ⟨wr.heap.size, 2, none⟩ = some (.int .i64 m) := cB H57 (Q5.cell 2); have p0 : w7.cell? ⟨w.heap.size, 0, none⟩ = some (.int .i64 n) := cB H57 (P5.cell 0); have p1 : w7.cell? ⟨w.heap.size, 1, none⟩ = some (.slice (some ⟨b, off, none⟩) bs.length c) := cB H57 (P5.cell 1); obtain ⟨G7, c7, hv7, hr7, _, hn7⟩ := hown7.rcap; obtain ⟨L7, hL7⟩ : ∃ L : Nat, L = (row ++ [k]).length := ⟨_, rfl⟩; rw [show (ints row ++ [(k : Int)]).length = L7 by rw [hL7]; simp [ints]] at hv7; subst hv7; have B7 := Lib.hid (via H57 B5); have P7 := Lib.hid (P5.below' H57); have HC := Lib.hid (show Calls Try.prog 80 #[.agg #[.int .i64 n, .slice (some ⟨b, off, none⟩) bs.length c], .slice G7 L7 c7, .int .i64 (sum + m), .int .i64 M] w7 (SrchRes bs d (row ++ [k]) (sum + m) G7 w7) by rw [hL7]; exact IH.out (row ++ [k]) (sum + m) G7 c7 w7 (HB0.out.below B7.out) (by rw [ints_snoc]; exact hr7.iat) hn7 (by simp; omega) (fun a ha => by rcases List.mem_append.1 ha with ha | ha; exact HK.out a ha; (simp at ha; omega)) HRn.out (by simp; omega) (by simp; omega)); have HL7 := Lib.hid hL7; have HR7 := Lib.hid hr7; clear hL7 hr7 hn7 hown7)); refine HC.out.mono ?_; rintro e w8 ⟨hb8, ⟨hs8, rfl⟩ | ⟨out, ad, cc, hs8, rfl, hr8⟩⟩; (focus (go_wp2; go_roundw; (case rel => exact ⟨k + 1, by omega, by go_num, fun a ha => (by by_cases e : a = k; (rw [e, E.out, HX.out]; exact hs8); exact HNO.out a (by omega)), via hb8 B7.out, P7.out.below' hb8⟩); (case measure => simp [intOf]; omega))); (focus (go_wp2; go_ret; have hz7 := B7.out.size; have hz8 := hb8.size; refine ⟨via hb8 B7.out, .inr ⟨out, ad, cc, by rw [HS.out]; exact rangeF_some _ hlt (by rw [E.out, HX.out]; exact hs8) (fun a ha => HNO.out a ha), rfl, .inl ?_⟩⟩; rcases hr8 with hr8 | ⟨rfl, rfl⟩; (exact hr8.wide hz7 (Nat.le_refl _)); (have h9 := HR7.out; rw [← ints_snoc] at h9; exact (h9.same (Same.below hb8 (Same.refl _ _ _)) (Nat.le_refl _)).wide (by have := B5.size; omega) hz8)))
          · have hr1 : 0 < row.length := by omega
            clear hr0
            obtain ⟨a, ao, aa, hal, rfl, z0, z1⟩ := k1 hr1
            have hne : (f != tv) = false := by simpa using k3 (by omega)
            have hT : ((row.length : Int) - 1).toNat = row.length - 1 := by omega
            have i0 : (0 : Int) ≤ (row.length : Int) - 1 := by omega
            have i1 : (row.length : Int) - 1 < (row.length : Int) := by omega
            have i2 : (0 : Int) ≤ (a : Int) := by omega
            have i3 : (a : Int) < (bs.length : Int) := by omega
            have hgd : decide ((0 : Int) < (row.length : Int)) = true := by simp; omega
            have hwl : IntKind.i64.wrap ((row.length : Int) - 1) = (row.length : Int) - 1 := IntWalk.i64_in _ ⟨by omega, by omega⟩
            clear k1 k3
            go_quiet (fail)
            clear hT i0 i1 i2 i3 z0 z1 hwl hne
            have hws : IntKind.i64.wrap (sum + m) = sum + m := IntWalk.i64_in _ ⟨by omega, by omega⟩
            obtain ⟨Q5, P5, B5, Z5, I5⟩ := HF5.out nq; generalize w4.drewN nq = w5 at Q5 P5 B5 Z5 I5 ⊢; clear b0 b2 p0 p1 HF5 hgd; have I5H := Lib.hid I5; go_wp2_with (first | (at_builtin; refine wpList_pushC rfl _ _ rfl w5.heap.size _ [] rfl (OwnL.nil _ _) _ c' row.length (ints row) (ints_length row).symm rfl I5H.out HA0.out (by rw [ints_length]; simp; omega) (Nat.le_refl _) ?_; intro v1 w6 hown6 hb6; rw [List.nil_append] at hown6; have O6 := Lib.hid hown6; clear hown6) | (at_builtin; refine wpList_push rfl _ _ rfl w5.heap.size _ _ rfl (O6.out.alloc _) w6.heap.size (k : Int) rfl (by simp) (by rw [ints_length]; omega) (by have := hb6.size; simp; omega) ?_; intro v2 w7 hown7 hb7; have H57 := (hb6.alloc hb6.size _).trans hb7; have m2 : w7.cell? ⟨wr.heap.size, 2, none⟩ = some (.int .i64 m) := cB H57 (Q5.cell 2); have p0 : w7.cell? ⟨w.heap.size, 0, none⟩ = some (.int .i64 n) := cB H57 (P5.cell 0); have p1 : w7.cell? ⟨w.heap.size, 1, none⟩ = some (.slice (some ⟨b, off, none⟩) bs.length c) := cB H57 (P5.cell 1); obtain ⟨G7, c7, hv7, hr7, _, hn7⟩ := hown7.rcap; obtain ⟨L7, hL7⟩ : ∃ L : Nat, L = (row ++ [k]).length := ⟨_, rfl⟩; rw [show (ints row ++ [(k : Int)]).length = L7 by rw [hL7]; simp [ints]] at hv7; subst hv7; have B7 := Lib.hid (via H57 B5); have P7 := Lib.hid (P5.below' H57); have HC := Lib.hid (show Calls Try.prog 80 #[.agg #[.int .i64 n, .slice (some ⟨b, off, none⟩) bs.length c], .slice G7 L7 c7, .int .i64 (sum + m), .int .i64 M] w7 (SrchRes bs d (row ++ [k]) (sum + m) G7 w7) by rw [hL7]; exact IH.out (row ++ [k]) (sum + m) G7 c7 w7 (HB0.out.below B7.out) (by rw [ints_snoc]; exact hr7.iat) hn7 (by simp; omega) (fun a ha => by rcases List.mem_append.1 ha with ha | ha; exact HK.out a ha; (simp at ha; omega)) HRn.out (by simp; omega) (by simp; omega)); have HL7 := Lib.hid hL7; have HR7 := Lib.hid hr7; clear hL7 hr7 hn7 hown7)); refine HC.out.mono ?_; rintro e w8 ⟨hb8, ⟨hs8, rfl⟩ | ⟨out, ad, cc, hs8, rfl, hr8⟩⟩; (focus (go_wp2; go_roundw; (case rel => exact ⟨k + 1, by omega, by go_num, fun a ha => (by by_cases e : a = k; (rw [e, E.out, HX.out]; exact hs8); exact HNO.out a (by omega)), via hb8 B7.out, P7.out.below' hb8⟩); (case measure => simp [intOf]; omega))); (focus (go_wp2; go_ret; have hz7 := B7.out.size; have hz8 := hb8.size; refine ⟨via hb8 B7.out, .inr ⟨out, ad, cc, by rw [HS.out]; exact rangeF_some _ hlt (by rw [E.out, HX.out]; exact hs8) (fun a ha => HNO.out a ha), rfl, .inl ?_⟩⟩; rcases hr8 with hr8 | ⟨rfl, rfl⟩; (exact hr8.wide hz7 (Nat.le_refl _)); (have h9 := HR7.out; rw [← ints_snoc] at h9; exact (h9.same (Same.below hb8 (Same.refl _ _ _)) (Nat.le_refl _)).wide (by have := B5.size; omega) hz8)))
      · have HRes := Lib.hid (rangeF_none (f := stepS bs d row sum) bs.length (fun a ha => HNO.out a (by omega)))
        go_wp2
        go_ret
        exact ⟨HBe.out, .inl ⟨by rw [HS.out, HRes.out], rfl⟩⟩
end Go.Proofs.Ytnompncmachgjaa
