/- The contract of spec.l3Search: what the search finds; for plans, and rows of places that run. -/
import Derived.Test.YtnompncmachgjaaBadA
import Derived.Test.YtnompncmachgjaaStepKit
import Derived.Deep.QuietTactic
import Derived.BigQuiet
namespace Go.Proofs.Ytnompncmachgjaa
open Go.RowKit
set_option linter.unusedVariables false
set_option maxRecDepth 10000
set_option linter.unusedSimpArgs false

theorem first_of {row : List Nat} (h : ¬ row.length = 0) : ∃ a, row.head? = some a ∧ row[0]? = some a ∧ a ∈ row := by
  cases row with
  | nil => exact absurd rfl h
  | cons x l => exact ⟨x, rfl, rfl, List.mem_cons_self⟩
theorem back_is {bs : List Bd} {row : List Nat} {a b : Nat} (h : row.getLast? = some a) (h' : row.head? = some b) : back bs row = decide ((bdAt bs a).t = (bdAt bs b).f) := by
  unfold back; rw [h, h']
theorem srch_len {bs : List Bd} {d : Nat} {row : List Nat} {sum : Int} {out : List Nat} (h : srch bs d row sum = some out) : out.length = row.length + d := by
  obtain ⟨more, e, hl⟩ := srch_ext bs d row sum out h
  rw [e, List.length_append, hl]
/-- What the search hands back; its row's capacity is told. -/
def SrchResC (bs : List Bd) (d : Nat) (row : List Nat) (sum : Int) (A' : Option Addr) (w : World) (e : Ending) (w' : World) : Prop :=
  Below w.heap.size w w' ∧ ((srch bs d row sum = none ∧ ∃ G c, e = .returned (.slice G 0 c)) ∨ ∃ out ad c, srch bs d row sum = some out ∧ e = .returned (.slice (some ad) out.length c) ∧ out.length ≤ c ∧ (RI w' w.heap.size w'.heap.size (some ad) (ints out) ∨ (out = row ∧ A' = some ad)))
theorem SrchResC.form {bs : List Bd} {d : Nat} {row : List Nat} {sum : Int} {A' : Option Addr} {w w' : World} {e : Ending} (h : SrchResC bs d row sum A' w e w') : ∃ (G : Option Addr) (L c : Nat), e = .returned (.slice G L c) ∧ Below w.heap.size w w' ∧ ((srch bs d row sum = none ∧ L = 0) ∨ ∃ out ad, srch bs d row sum = some out ∧ L = out.length ∧ L ≤ c ∧ G = some ad ∧ (RI w' w.heap.size w'.heap.size (some ad) (ints out) ∨ (out = row ∧ A' = some ad))) := by
  obtain ⟨hb, ⟨h1, G, c, he⟩ | ⟨out, ad, c, h1, he, h3, h2⟩⟩ := h
  · exact ⟨G, 0, c, he, hb, .inl ⟨h1, rfl⟩⟩
  · exact ⟨some ad, out.length, c, he, hb, .inr ⟨out, ad, h1, rfl, h3, rfl, h2⟩⟩
set_option maxHeartbeats 2000000 in
theorem l3Search_any (n : Int) (A : Option Addr) (c : Nat) (bs : List Bd) (M : Nat) (hp : planOk n bs = true) (hM1 : 1 ≤ M) (hM6 : M ≤ 6) : ∀ (d : Nat) (row : List Nat) (sum : Int) (A' : Option Addr) (c' : Nat) (w : World), BAt w A bs → IAt w A' (ints row) → (A' = none → c' = 0) → row.length ≤ c' → row.length + d = M → (∀ k ∈ row, k < bs.length) → runs bs [] row = true → -(99 * (row.length : Int)) ≤ sum → sum ≤ 99 * (row.length : Int) →
    Calls Try.prog 113 #[.agg #[.int .i64 n, .slice A bs.length c], .slice A' row.length c', .int .i64 M, .int .i64 sum] w (SrchResC bs d row sum A' w) := by
  obtain ⟨hn1, hn6, hl16, hin⟩ := planOk_of hp
  have HIN := Lib.hid hin
  have HP := Lib.hid hp
  clear hin hp
  intro d
  induction d with
  | zero =>
    intro row sum A' c' w h h' h0 hcc hd hk hr hs1 hs2
    have hlm : ((row.length : Int) == (M : Int)) = true := by simp; omega
    have HS := Lib.hid (srch_zero bs row sum)
    have hr0 : ¬ row.length = 0 := by omega
    obtain ⟨a, ha1, ha2, ha3⟩ := last_of hr0
    obtain ⟨a', hb1, hb2, hb3⟩ := first_of hr0
    have hal := hk a ha3
    have hal' := hk a' hb3
    obtain ⟨w0, hw0⟩ : ∃ w0, w0 = w.alloc (.cells #[.int .i64 n, .slice A bs.length c] 25) := ⟨_, rfl⟩
    have BW := Lib.hid (show Below w.heap.size w w0 by rw [hw0]; exact valloc (Below.refl _ _) _)
    obtain ⟨b, off, y, rfl, _, hy, _, d0, d1, d2⟩ := (h.below BW.out).at_ hal
    obtain ⟨b', off', y', eA, _, hy', _, e0, e1, e2⟩ := (h.below BW.out).at_ hal'
    cases eA
    obtain ⟨aa, ao, z, rfl, _, hz, _, z0⟩ := (h'.below BW.out).at_ (show row.length - 1 < (ints row).length by rw [ints_length]; omega)
    obtain ⟨aa', ao', z', eA', _, hz', _, z1⟩ := (h'.below BW.out).at_ (show 0 < (ints row).length by rw [ints_length]; omega)
    cases eA'
    have hza : z = (a : Int) := by rw [ints_at ha2] at hz; injection hz with hz; exact hz.symm
    have hza' : z' = (a' : Int) := by rw [ints_at hb2] at hz'; injection hz' with hz'; exact hz'.symm
    subst hza; subst hza'
    have BK := Lib.hid (show back bs row = decide (y.t = y'.f) by rw [back_is ha1 hb1, bdAt_of hy, bdAt_of hy'])
    have PB : Blk w0 w.heap.size 25 #[.int .i64 n, .slice (some ⟨b, off, none⟩) bs.length c] := by rw [hw0]; exact Blk.new _ _ _
    have p0 : w0.cell? ⟨w.heap.size, 0, none⟩ = some (.int .i64 n) := PB.cell 0
    have p1 : w0.cell? ⟨w.heap.size, 1, none⟩ = some (.slice (some ⟨b, off, none⟩) bs.length c) := PB.cell 1
    have hwl : IntKind.i64.wrap ((M : Int) - 1) = (M : Int) - 1 := IntWalk.i64_in _ ⟨by omega, by omega⟩
    have hT : ((M : Int) - 1).toNat = row.length - 1 := by omega
    have i0 : (0 : Int) ≤ (M : Int) - 1 := by omega
    have i1 : (M : Int) - 1 < (row.length : Int) := by omega
    have i2 : (0 : Int) ≤ (a : Int) := by omega
    have i3 : (a : Int) < (bs.length : Int) := by omega
    have i4 : (0 : Int) ≤ (a' : Int) := by omega
    have i5 : (a' : Int) < (bs.length : Int) := by omega
    have i6 : (0 : Int) < (row.length : Int) := by omega
    clear h h' hk hr hd h0 ha1 ha2 ha3 hb1 hb2 hb3 hy hy' hz hz' d0 d2 e1 e2 PB hr0
    rw [Nat.add_zero] at z1
    generalize y.t = tv at *
    generalize y'.f = fv at *
    by_cases hbk : tv = fv
    · have hbk' : (tv == fv) = true := by simpa using hbk
      have HBK := Lib.hid hbk
      clear hbk
      by_cases hs : sum < 0
      · have hs' : decide (sum < 0) = true := decide_eq_true hs
        have E := Lib.hid (show srch bs 0 row sum = some row by rw [HS.out, if_pos ⟨by rw [BK.out]; exact decide_eq_true HBK.out, hs⟩])
        clear hs
        go_enter Try.func113, Try.ntmps113
        go_wp2
        rw [← hw0]
        clear hw0
        go_quiet (fail)
        go_wp2
        go_ret
        exact ⟨vdrewN BW.out _, .inr ⟨row, _, _, E.out, rfl, hcc, .inr ⟨rfl, rfl⟩⟩⟩
      · have hs' : decide (sum < 0) = false := decide_eq_false hs
        have E := Lib.hid (show srch bs 0 row sum = none by rw [HS.out, if_neg (fun q => hs q.2)])
        clear hs
        go_enter Try.func113, Try.ntmps113
        go_wp2
        rw [← hw0]
        clear hw0
        go_quiet (fail)
        go_wp2
        go_ret
        exact ⟨valloc (vdrewN BW.out _) _, .inl ⟨E.out, _, _, rfl⟩⟩
    · have hbk' : (tv == fv) = false := beq_eq_false_iff_ne.2 hbk
      have E := Lib.hid (show srch bs 0 row sum = none by rw [HS.out, if_neg (fun q => hbk (by have := q.1; rw [BK.out] at this; exact of_decide_eq_true this))])
      clear hbk
      go_enter Try.func113, Try.ntmps113
      go_wp2
      rw [← hw0]
      clear hw0
      go_quiet (fail)
      go_wp2
      go_ret
      exact ⟨valloc (vdrewN BW.out _) _, .inl ⟨E.out, _, _, rfl⟩⟩
  | succ d ih =>
    intro row sum A' c' w h h' h0 hcc hd hk hr hs1 hs2
    have hlm : ((row.length : Int) == (M : Int)) = false := beq_eq_false_iff_ne.2 (by omega)
    have IH := Lib.hid ih
    have HK := Lib.hid hk
    have HRun := Lib.hid hr
    have HB0 := Lib.hid h
    have HI0 := Lib.hid h'
    have HA0 := Lib.hid h0
    have HS := Lib.hid (srch_succ bs d row sum)
    clear ih hk hr h h' h0
    go_enter Try.func113, Try.ntmps113
    go_wp2
    go_loopw [9] (fun i W => ∃ k : Nat, k ≤ bs.length ∧ i = .int .i64 k ∧ (∀ a, a < k → stepS bs d row sum a = none) ∧ Below w.heap.size w W ∧ Blk W w.heap.size 25 #[.int .i64 n, .slice A bs.length c]) (fun i _ => bs.length - (intOf i).toNat)
    case atStart => exact ⟨0, Nat.zero_le _, rfl, fun a ha => absurd ha (Nat.not_lt_zero _), valloc (Below.refl _ _) _, Blk.new _ _ _⟩
    case round =>
      obtain ⟨k, hk', rfl, hno, hb, hP⟩ := hrel
      have HNO := Lib.hid hno
      have HP0 := Lib.hid hP
      have HBe := Lib.hid hb
      have hzr := hb.size
      have hPl := hP.lt
      clear hno
      by_cases hlt : k < bs.length
      · obtain ⟨b, off, x, rfl, hbl, hx, hxm, c0, c1, c2⟩ := (HB0.out.below hb).at_ hlt
        have hxin := HIN.out x hxm
        have HX := Lib.hid (bdAt_of hx)
        obtain ⟨f, t, m⟩ := x
        simp only at c0 c1 c2 hxin
        have e1 : wr.cell? ⟨w.heap.size, 1, none⟩ = some (.slice (some ⟨b, off, none⟩) bs.length c) := hP.cell 1
        have e0 : wr.cell? ⟨w.heap.size, 0, none⟩ = some (.int .i64 n) := hP.cell 0
        clear hb hP hx hxm c1
        have key : ∀ g : Bool, g = goes bs row k → ∃ tv : Int, (0 < row.length → ∃ a ao aa, a < bs.length ∧ A' = some ⟨aa, ao, none⟩ ∧ wr.cell? ⟨aa, ao + (row.length - 1), none⟩ = some (.int .i64 (a : Int)) ∧ wr.cell? ⟨b, off + a * 3 + 1, none⟩ = some (.int .i64 tv)) ∧ (row.length = 0 → g = true) ∧ (0 < row.length → (tv != f) = !g) := by
          intro g hg
          by_cases hr0 : row.length = 0
          · exact ⟨0, fun q => by omega, fun _ => by rw [hg]; exact goes_none hr0, fun q => by omega⟩
          · obtain ⟨a, ha1, ha2, ha3⟩ := last_of hr0
            have hal := HK.out a ha3
            obtain ⟨b', off', y, eA, _, hy, _, d0, d1, d2⟩ := (HB0.out.below HBe.out).at_ hal
            cases eA
            obtain ⟨aa, ao, z, eA', _, hz, _, z0⟩ := (HI0.out.below HBe.out).at_ (show row.length - 1 < (ints row).length by rw [ints_length]; omega)
            have hza : z = (a : Int) := by rw [ints_at ha2] at hz; injection hz with hz; exact hz.symm
            subst hza
            refine ⟨y.t, fun _ => ⟨a, ao, aa, hal, eA', z0, d1⟩, fun q => by omega, fun _ => ?_⟩
            rw [hg, goes_last ha1, bdAt_of hy, HX.out]
            by_cases e : y.t = f
            · simp [e]
            · simp [e]
        cases hgo : goes bs row k
        · -- passed over
          obtain ⟨tv, k1, k2, k3⟩ := key false hgo.symm
          have hr0 : 0 < row.length := by
            rcases Nat.eq_zero_or_pos row.length with q | q
            · exact absurd (k2 q) (by simp)
            · exact q
          obtain ⟨a, ao, aa, hal, rfl, z0, z1⟩ := k1 hr0
          have hne : (tv != f) = true := by simpa using k3 hr0
          have E := Lib.hid (stepS_no (d := d) (sum := sum) hgo)
          have hT : ((row.length : Int) - 1).toNat = row.length - 1 := by omega
          have i0 : (0 : Int) ≤ (row.length : Int) - 1 := by omega
          have i1 : (row.length : Int) - 1 < (row.length : Int) := by omega
          have i2 : (0 : Int) ≤ (a : Int) := by omega
          have i3 : (a : Int) < (bs.length : Int) := by omega
          have hgd : decide ((0 : Int) < (row.length : Int)) = true := by simp; omega
          have hwl : IntKind.i64.wrap ((row.length : Int) - 1) = (row.length : Int) - 1 := IntWalk.i64_in _ ⟨by omega, by omega⟩
          clear key k1 k2 k3 hgo
          go_wp2
          go_quiet (fail)
          go_wp2
          go_roundw
          case rel => exact ⟨k + 1, by omega, by go_num, fun a ha => by
            by_cases e : a = k
            · rw [e]; exact E.out
            · exact HNO.out a (by omega), vdrewN HBe.out _, HP0.out.drewN _⟩
          case measure => simp [intOf]; omega
        · have E := Lib.hid (stepS_yes (d := d) (sum := sum) hgo)
          have HRn := Lib.hid (show runs bs [] (row ++ [k]) = true by rw [runs_snoc, HRun.out, List.nil_append, hgo]; rfl)
          obtain ⟨tv, k1, k2, k3⟩ := key true hgo.symm
          clear key k2 hgo
          by_cases hr0 : row.length = 0
          · have hgd : decide ((0 : Int) < (row.length : Int)) = false := decide_eq_false (by omega)
            have hgd2 : decide (0 < row.length) = false := decide_eq_false (by omega)
            have hgd3 : ¬ 0 < row.length := by omega
            have HR0 := Lib.hid hr0
            clear k1 k3 hr0
            go_wp2
            go_quiet (fail)
            have Bq : Below wr.heap.size wr (wr.drewN nq) := vdrewN (Below.refl _ _) _
            have B5 : Below w.heap.size w (wr.drewN nq) := vdrewN HBe.out _
            have P5 := HP0.out.drewN nq
            have I5H := Lib.hid (HI0.out.below B5)
            have s0 := cB Bq e0
            have s1 := cB Bq e1
            have s2 := cB Bq c2
            have hz5 : w.heap.size + 1 ≤ (wr.drewN nq).heap.size := P5.lt
            clear c0 c2 e0 e1 Bq
            generalize wr.drewN nq = w5 at *
            have hws : IntKind.i64.wrap (sum + m) = sum + m := IntWalk.i64_in _ ⟨by omega, by omega⟩
            go_upto_region 9 with (fail)
            have HWS := Lib.hid hws
            refine wp_region_held_drew (S := (fun w' => w'.cell? ⟨w.heap.size, 0, none⟩ = some (.int .i64 n) ∧ w'.cell? ⟨w.heap.size, 1, none⟩ = some (.slice (some ⟨b, off, none⟩) bs.length c) ∧ w'.cell? ⟨b, off + k * 3 + 2, none⟩ = some (.int .i64 m))) (by kernel_rfl) ?_ (fun hHeld => ?_)
            · (try dsimp only)
              (first | done | exact ⟨cD s0, cD s1, cD s2⟩)
            refine name_h (fun wa0 hwa0 => ?_)
            replace hHeld : ((fun w' => w'.cell? ⟨w.heap.size, 0, none⟩ = some (.int .i64 n) ∧ w'.cell? ⟨w.heap.size, 1, none⟩ = some (.slice (some ⟨b, off, none⟩) bs.length c) ∧ w'.cell? ⟨b, off + k * 3 + 2, none⟩ = some (.int .i64 m))) wa0 := by rw [hwa0]; exact hHeld
            (have Zwa0 : w5.heap.size ≤ wa0.heap.size := (by rw [hwa0]; exact Nat.le_refl _); have Rwa0 := Lib.hid (show Below w5.heap.size w5 wa0 by rw [hwa0]; exact (Below.refl _ _).drew))
            clear hwa0
            (refine wpAnyH_take (i := 0) (v := ?tv1) rfl (by kernel_rfl) (by kernel_rfl) (by kernel_rfl) (fun _ _ _ h => h) (Or.inl ⟨by kernel_rfl, ?ty1⟩) (by assumption) ?tr1; (case ty1 => (intro w' hSw; (try dsimp only at hSw); go_simp <;> with_reducible rfl)); (try simp only [Act.put, List.getElem_toArray, List.getElem_cons_succ, List.getElem_cons_zero, List.setIfInBounds_toArray, List.set_cons_zero, List.set_cons_succ]))
            (refine wpAnyH_take (i := 2) (v := ?tv2) rfl (by kernel_rfl) (by kernel_rfl) (by kernel_rfl) (fun _ _ _ h => h) (Or.inl ⟨by kernel_rfl, ?ty2⟩) (by assumption) ?tr2; (case ty2 => (intro w' hSw; (try dsimp only at hSw); go_simp <;> with_reducible rfl)); (try simp only [Act.put, List.getElem_toArray, List.getElem_cons_succ, List.getElem_cons_zero, List.setIfInBounds_toArray, List.set_cons_zero, List.set_cons_succ]))
            (refine wpAnyH_take (i := 4) (v := ?tv3) rfl (by kernel_rfl) (by kernel_rfl) (by kernel_rfl) (fun _ _ _ h => h) (Or.inl ⟨by kernel_rfl, ?ty3⟩) (by assumption) ?tr3; (case ty3 => (intro w' hSw; (try dsimp only at hSw); go_simp <;> with_reducible rfl)); (try simp only [Act.put, List.getElem_toArray, List.getElem_cons_succ, List.getElem_cons_zero, List.setIfInBounds_toArray, List.set_cons_zero, List.set_cons_succ]))
            (refine wpAnyH_take (i := 7) (v := ?tv4) rfl (by kernel_rfl) (by kernel_rfl) (by kernel_rfl) (fun _ _ _ h => h) (Or.inl ⟨by kernel_rfl, ?ty4⟩) (by assumption) ?tr4; (case ty4 => (intro w' hSw; (try dsimp only at hSw); go_simp <;> with_reducible rfl)); (try simp only [Act.put, List.getElem_toArray, List.getElem_cons_succ, List.getElem_cons_zero, List.setIfInBounds_toArray, List.set_cons_zero, List.set_cons_succ]))
            (refine wpAnyH_take (i := 8) (v := ?tv5) rfl (by kernel_rfl) (by kernel_rfl) (by kernel_rfl) (fun _ _ _ h => h) (Or.inl ⟨by kernel_rfl, ?ty5⟩) (by assumption) ?tr5; (case ty5 => (intro w' hSw; (try dsimp only at hSw); go_simp <;> with_reducible rfl)); (try simp only [Act.put, List.getElem_toArray, List.getElem_cons_succ, List.getElem_cons_zero, List.setIfInBounds_toArray, List.set_cons_zero, List.set_cons_succ]))
            (refine wpAnyH_take (i := 9) (v := ?tv6) rfl (by kernel_rfl) (by kernel_rfl) (by kernel_rfl) (fun _ _ _ h => h) (Or.inl ⟨by kernel_rfl, ?ty6⟩) (by assumption) ?tr6; (case ty6 => (intro w' hSw; (try dsimp only at hSw); go_simp <;> with_reducible rfl)); (try simp only [Act.put, List.getElem_toArray, List.getElem_cons_succ, List.getElem_cons_zero, List.setIfInBounds_toArray, List.set_cons_zero, List.set_cons_succ]))
            (refine wpAnyH_take (i := 10) (v := ?tv7) rfl (by kernel_rfl) (by kernel_rfl) (by kernel_rfl) (fun _ _ _ h => h) (Or.inl ⟨by kernel_rfl, ?ty7⟩) (by assumption) ?tr7; (case ty7 => (intro w' hSw; (try dsimp only at hSw); go_simp <;> with_reducible rfl)); (try simp only [Act.put, List.getElem_toArray, List.getElem_cons_succ, List.getElem_cons_zero, List.setIfInBounds_toArray, List.set_cons_zero, List.set_cons_succ]))
            (refine wpAnyH_take (i := 11) (v := ?tv8) rfl (by kernel_rfl) (by kernel_rfl) (by kernel_rfl) (fun _ _ _ h => h) (Or.inl ⟨by kernel_rfl, ?ty8⟩) (by assumption) ?tr8; (case ty8 => (intro w' hSw; (try dsimp only at hSw); go_simp <;> with_reducible rfl)); (try simp only [Act.put, List.getElem_toArray, List.getElem_cons_succ, List.getElem_cons_zero, List.setIfInBounds_toArray, List.set_cons_zero, List.set_cons_succ]))
            (refine wpAnyH_take (i := 12) (v := ?tv9) rfl (by kernel_rfl) (by kernel_rfl) (by kernel_rfl) (fun _ _ _ h => h) (Or.inl ⟨by kernel_rfl, ?ty9⟩) (by assumption) ?tr9; (case ty9 => (intro w' hSw; (try dsimp only at hSw); go_simp <;> with_reducible rfl)); (try simp only [Act.put, List.getElem_toArray, List.getElem_cons_succ, List.getElem_cons_zero, List.setIfInBounds_toArray, List.set_cons_zero, List.set_cons_succ]))
            (refine wpAnyH_take (i := 13) (v := ?tv10) rfl (by kernel_rfl) (by kernel_rfl) (by kernel_rfl) (fun _ _ _ h => h) (Or.inl ⟨by kernel_rfl, ?ty10⟩) (by assumption) ?tr10; (case ty10 => (intro w' hSw; (try dsimp only at hSw); go_simp <;> with_reducible rfl)); (try simp only [Act.put, List.getElem_toArray, List.getElem_cons_succ, List.getElem_cons_zero, List.setIfInBounds_toArray, List.set_cons_zero, List.set_cons_succ]))
            (refine wpAnyH_take (i := 14) (v := ?tv11) rfl (by kernel_rfl) (by kernel_rfl) (by kernel_rfl) (fun _ _ _ h => h) (Or.inl ⟨by kernel_rfl, ?ty11⟩) (by assumption) ?tr11; (case ty11 => (intro w' hSw; (try dsimp only at hSw); go_simp <;> with_reducible rfl)); (try simp only [Act.put, List.getElem_toArray, List.getElem_cons_succ, List.getElem_cons_zero, List.setIfInBounds_toArray, List.set_cons_zero, List.set_cons_succ]))
            (refine wpAnyH_take (i := 15) (v := ?tv12) rfl (by kernel_rfl) (by kernel_rfl) (by kernel_rfl) (fun _ _ _ h => h) (Or.inl ⟨by kernel_rfl, ?ty12⟩) (by assumption) ?tr12; (case ty12 => (intro w' hSw; (try dsimp only at hSw); go_simp <;> with_reducible rfl)); (try simp only [Act.put, List.getElem_toArray, List.getElem_cons_succ, List.getElem_cons_zero, List.setIfInBounds_toArray, List.set_cons_zero, List.set_cons_succ]))
            refine wpAnyH_ready (rs := [1, 5]) (by kernel_rfl) (by simp) ?_
            refine (AllReadyH.cons rfl (fun K hK => ?b13_1) (AllReadyH.cons rfl (fun K hK => ?b13_2) AllReadyH.nil))
            case' b13_2 =>
              (go_simp; refine name_k (fun wa1 hwa1 => ?_); have Zwa1 := sizeE hwa1; have Rwa1 := Lib.hid (Below.allocE Rwa0.out Rwa0.out.size hwa1); (try have Ewa1 := Lib.hid (OwnL.allocE Ewa0.out hwa1)); (try have Vwa1 := Lib.hid (OwnL.allocE Vwa0.out hwa1)); (try have Uwa1 := Lib.hid (OwnL.allocE Uwa0.out hwa1)); (try have Nwa1 := Lib.hid (Blk.allocE Nwa0.out hwa1)); have Nwa1 := Lib.hid (Blk.newE hwa1); clear hwa1)
              refine hK.out _ _ ?_ (fun hHeld => ?_)
              focus ((try dsimp only); (first | done | exact ⟨cB Rwa1.out s0, cB Rwa1.out s1, cB Rwa1.out s2⟩))
              clear hK K
              (try simp only [Act.put, List.getElem_toArray, List.getElem_cons_succ, List.getElem_cons_zero, List.setIfInBounds_toArray, List.set_cons_zero, List.set_cons_succ])
              refine wpAnyH_ready (rs := [1]) (by kernel_rfl) (by simp) ?_
              refine (AllReadyH.cons rfl (fun K hK => ?_) AllReadyH.nil)
              (go_simp; refine name_k (fun wa2 hwa2 => ?_); have Zwa2 := sizeE hwa2; have Rwa2 := Lib.hid (Below.allocE Rwa1.out Rwa1.out.size hwa2); (try have Ewa2 := Lib.hid (OwnL.allocE Ewa1.out hwa2)); (try have Vwa2 := Lib.hid (OwnL.allocE Vwa1.out hwa2)); (try have Uwa2 := Lib.hid (OwnL.allocE Uwa1.out hwa2)); (try have Nwa2 := Lib.hid (Blk.allocE Nwa1.out hwa2)); have Ewa2 := Lib.hid (OwnL.emptyE hwa2 Rwa1.out.size); clear hwa2)
              refine hK.out _ _ ?_ (fun hHeld => ?_)
              focus ((try dsimp only); (first | done | exact ⟨cB Rwa2.out s0, cB Rwa2.out s1, cB Rwa2.out s2⟩))
              clear hK K
              (try simp only [Act.put, List.getElem_toArray, List.getElem_cons_succ, List.getElem_cons_zero, List.setIfInBounds_toArray, List.set_cons_zero, List.set_cons_succ])
              refine wpAnyH_ready (rs := [3]) (by kernel_rfl) (by simp) ?_
              refine (AllReadyH.cons rfl (fun K hK => ?_) AllReadyH.nil)
              (refine step_pushI (by rfl) _ _ (by rfl) w5.heap.size _ [] (by rfl) Ewa2.out _ c' row.length (ints row) (ints_length row).symm (by rfl) (I5H.out.below Rwa2.out) HA0.out (by rw [ints_length]; simp; omega) Rwa2.out.size ?_; intro vwa3 wa3 ho hg; rw [List.nil_append] at ho; obtain ⟨T1, hT1⟩ : ∃ T1, T1 = ints row := ⟨_, rfl⟩; rw [← hT1] at ho; have HT1 := Lib.hid hT1; have Zwa3 := hg.size; have Rwa3 := Lib.hid (Rwa2.out.trans (grownL Ewa2.out hg Rwa2.out.size)); (try have Nwa3 := Lib.hid (Nwa2.out.grown hg (by simp [Value.ownBlock]; omega))); obtain ⟨Gwa3, cwa3, rfl, _, _, _⟩ := ho.rcap; have Vwa3 := Lib.hid ho; clear ho hg hT1)
              refine hK.out _ _ ?_ (fun hHeld => ?_)
              focus ((try dsimp only); (first | done | exact ⟨cB Rwa3.out s0, cB Rwa3.out s1, cB Rwa3.out s2⟩))
              clear hK K
              (try simp only [Act.put, List.getElem_toArray, List.getElem_cons_succ, List.getElem_cons_zero, List.setIfInBounds_toArray, List.set_cons_zero, List.set_cons_succ])
              refine wpAnyH_ready (rs := [6]) (by kernel_rfl) (by simp) ?_
              refine (AllReadyH.cons rfl (fun K hK => ?_) AllReadyH.nil)
              (refine step_pushI (by rfl) _ _ (by rfl) w5.heap.size _ T1 (by rfl) Vwa3.out _ 1 1 [(k : Int)] rfl (by rfl) Nwa3.out.iat1 (fun q => by cases q) (by rw [HT1.out, ints_length]; simp; omega) Rwa3.out.size ?_; intro vwa4 wa4 ho hg; have Zwa4 := hg.size; have Rwa4 := Lib.hid (Rwa3.out.trans (grownL Vwa3.out hg Rwa3.out.size)); (try have Nwa4 := Lib.hid (Nwa3.out.grown hg (by simp [Value.ownBlock]; omega))); obtain ⟨G7, c7, hv7, hr7, hp7, hn7⟩ := ho.rcap; obtain ⟨L7, hL7⟩ : ∃ L : Nat, L = (row ++ [k]).length := ⟨_, rfl⟩; rw [show (T1 ++ [(k : Int)]).length = L7 by rw [hL7, HT1.out]; simp [ints]] at hv7; subst hv7; have B7 := Lib.hid (via Rwa4.out B5); have HC := Lib.hid (show Calls Try.prog 113 #[.agg #[.int .i64 n, .slice (some ⟨b, off, none⟩) bs.length c], .slice G7 L7 c7, .int .i64 M, .int .i64 (sum + m)] wa4 (SrchResC bs d (row ++ [k]) (sum + m) G7 wa4) by rw [hL7]; exact IH.out (row ++ [k]) (sum + m) G7 c7 wa4 (HB0.out.below B7.out) (by rw [ints_snoc, ← HT1.out]; exact hr7.iat) hn7 (by have h9 := hp7; rw [HT1.out] at h9; simpa [ints] using h9) (by simp; omega) (fun a ha => by rcases List.mem_append.1 ha with ha | ha; exact HK.out a ha; (simp at ha; omega)) HRn.out (by simp; omega) (by simp; omega)); have HL7 := Lib.hid hL7; have HR7 := Lib.hid (show RI wa4 w5.heap.size wa4.heap.size G7 (ints (row ++ [k])) by rw [ints_snoc, ← HT1.out]; exact hr7); have hws := HWS.out; clear hL7 hr7 hn7 hp7 ho hg)
              refine hK.out _ _ ?_ (fun hHeld => ?_)
              focus ((try dsimp only); (first | done | exact ⟨cB Rwa4.out s0, cB Rwa4.out s1, cB Rwa4.out s2⟩))
              clear hK K
              (try simp only [Act.put, List.getElem_toArray, List.getElem_cons_succ, List.getElem_cons_zero, List.setIfInBounds_toArray, List.set_cons_zero, List.set_cons_succ])
              refine wpAnyH_ready (rs := [16]) (by kernel_rfl) (by simp) ?_
              refine (AllReadyH.cons rfl (fun K hK => ?_) AllReadyH.nil)
              (go_simp; go_at_call 113; refine HC.out.mono ?_; intro e wa5 hres; obtain ⟨G8, L8, c8, rfl, hb8, hcase⟩ := hres.form; clear hres; (try go_wp2_with fail); have Rwa5 := Lib.hid (Rwa4.out.trans (hb8.mono Rwa4.out.size)); have HCASE := Lib.hid hcase; have HB8 := Lib.hid hb8; clear hcase hb8)
              refine hK.out _ _ ?_ (fun hHeld => ?_)
              focus ((try dsimp only); (first | done | exact ⟨cB Rwa5.out s0, cB Rwa5.out s1, cB Rwa5.out s2⟩))
              clear hK K
              (try simp only [Act.put, List.getElem_toArray, List.getElem_cons_succ, List.getElem_cons_zero, List.setIfInBounds_toArray, List.set_cons_zero, List.set_cons_succ])
              (refine wpAnyH_take (i := 17) (v := ?tv18) rfl (by kernel_rfl) (by kernel_rfl) (by kernel_rfl) (fun _ _ _ h => h) (Or.inl ⟨by kernel_rfl, ?ty18⟩) (by assumption) ?tr18; (case ty18 => (intro w' hSw; (try dsimp only at hSw); go_simp <;> with_reducible rfl)); (try simp only [Act.put, List.getElem_toArray, List.getElem_cons_succ, List.getElem_cons_zero, List.setIfInBounds_toArray, List.set_cons_zero, List.set_cons_succ]))
              refine wpAnyH_done (by kernel_rfl) ?_ _
            case' b13_1 =>
              (go_simp; refine name_k (fun wa1 hwa1 => ?_); have Zwa1 := sizeE hwa1; have Rwa1 := Lib.hid (Below.allocE Rwa0.out Rwa0.out.size hwa1); (try have Ewa1 := Lib.hid (OwnL.allocE Ewa0.out hwa1)); (try have Vwa1 := Lib.hid (OwnL.allocE Vwa0.out hwa1)); (try have Uwa1 := Lib.hid (OwnL.allocE Uwa0.out hwa1)); (try have Nwa1 := Lib.hid (Blk.allocE Nwa0.out hwa1)); have Ewa1 := Lib.hid (OwnL.emptyE hwa1 Rwa0.out.size); clear hwa1)
              refine hK.out _ _ ?_ (fun hHeld => ?_)
              focus ((try dsimp only); (first | done | exact ⟨cB Rwa1.out s0, cB Rwa1.out s1, cB Rwa1.out s2⟩))
              clear hK K
              (try simp only [Act.put, List.getElem_toArray, List.getElem_cons_succ, List.getElem_cons_zero, List.setIfInBounds_toArray, List.set_cons_zero, List.set_cons_succ])
              refine wpAnyH_ready (rs := [3, 5]) (by kernel_rfl) (by simp) ?_
              refine (AllReadyH.cons rfl (fun K hK => ?b19_1) (AllReadyH.cons rfl (fun K hK => ?b19_2) AllReadyH.nil))
              case' b19_2 =>
                (go_simp; refine name_k (fun wa2 hwa2 => ?_); have Zwa2 := sizeE hwa2; have Rwa2 := Lib.hid (Below.allocE Rwa1.out Rwa1.out.size hwa2); (try have Ewa2 := Lib.hid (OwnL.allocE Ewa1.out hwa2)); (try have Vwa2 := Lib.hid (OwnL.allocE Vwa1.out hwa2)); (try have Uwa2 := Lib.hid (OwnL.allocE Uwa1.out hwa2)); (try have Nwa2 := Lib.hid (Blk.allocE Nwa1.out hwa2)); have Nwa2 := Lib.hid (Blk.newE hwa2); clear hwa2)
                refine hK.out _ _ ?_ (fun hHeld => ?_)
                focus ((try dsimp only); (first | done | exact ⟨cB Rwa2.out s0, cB Rwa2.out s1, cB Rwa2.out s2⟩))
                clear hK K
                (try simp only [Act.put, List.getElem_toArray, List.getElem_cons_succ, List.getElem_cons_zero, List.setIfInBounds_toArray, List.set_cons_zero, List.set_cons_succ])
                refine wpAnyH_ready (rs := [3]) (by kernel_rfl) (by simp) ?_
                refine (AllReadyH.cons rfl (fun K hK => ?_) AllReadyH.nil)
                (refine step_pushI (by rfl) _ _ (by rfl) w5.heap.size _ [] (by rfl) Ewa2.out _ c' row.length (ints row) (ints_length row).symm (by rfl) (I5H.out.below Rwa2.out) HA0.out (by rw [ints_length]; simp; omega) Rwa2.out.size ?_; intro vwa3 wa3 ho hg; rw [List.nil_append] at ho; obtain ⟨T1, hT1⟩ : ∃ T1, T1 = ints row := ⟨_, rfl⟩; rw [← hT1] at ho; have HT1 := Lib.hid hT1; have Zwa3 := hg.size; have Rwa3 := Lib.hid (Rwa2.out.trans (grownL Ewa2.out hg Rwa2.out.size)); (try have Nwa3 := Lib.hid (Nwa2.out.grown hg (by simp [Value.ownBlock]; omega))); obtain ⟨Gwa3, cwa3, rfl, _, _, _⟩ := ho.rcap; have Vwa3 := Lib.hid ho; clear ho hg hT1)
                refine hK.out _ _ ?_ (fun hHeld => ?_)
                focus ((try dsimp only); (first | done | exact ⟨cB Rwa3.out s0, cB Rwa3.out s1, cB Rwa3.out s2⟩))
                clear hK K
                (try simp only [Act.put, List.getElem_toArray, List.getElem_cons_succ, List.getElem_cons_zero, List.setIfInBounds_toArray, List.set_cons_zero, List.set_cons_succ])
                refine wpAnyH_ready (rs := [6]) (by kernel_rfl) (by simp) ?_
                refine (AllReadyH.cons rfl (fun K hK => ?_) AllReadyH.nil)
                (refine step_pushI (by rfl) _ _ (by rfl) w5.heap.size _ T1 (by rfl) Vwa3.out _ 1 1 [(k : Int)] rfl (by rfl) Nwa3.out.iat1 (fun q => by cases q) (by rw [HT1.out, ints_length]; simp; omega) Rwa3.out.size ?_; intro vwa4 wa4 ho hg; have Zwa4 := hg.size; have Rwa4 := Lib.hid (Rwa3.out.trans (grownL Vwa3.out hg Rwa3.out.size)); (try have Nwa4 := Lib.hid (Nwa3.out.grown hg (by simp [Value.ownBlock]; omega))); obtain ⟨G7, c7, hv7, hr7, hp7, hn7⟩ := ho.rcap; obtain ⟨L7, hL7⟩ : ∃ L : Nat, L = (row ++ [k]).length := ⟨_, rfl⟩; rw [show (T1 ++ [(k : Int)]).length = L7 by rw [hL7, HT1.out]; simp [ints]] at hv7; subst hv7; have B7 := Lib.hid (via Rwa4.out B5); have HC := Lib.hid (show Calls Try.prog 113 #[.agg #[.int .i64 n, .slice (some ⟨b, off, none⟩) bs.length c], .slice G7 L7 c7, .int .i64 M, .int .i64 (sum + m)] wa4 (SrchResC bs d (row ++ [k]) (sum + m) G7 wa4) by rw [hL7]; exact IH.out (row ++ [k]) (sum + m) G7 c7 wa4 (HB0.out.below B7.out) (by rw [ints_snoc, ← HT1.out]; exact hr7.iat) hn7 (by have h9 := hp7; rw [HT1.out] at h9; simpa [ints] using h9) (by simp; omega) (fun a ha => by rcases List.mem_append.1 ha with ha | ha; exact HK.out a ha; (simp at ha; omega)) HRn.out (by simp; omega) (by simp; omega)); have HL7 := Lib.hid hL7; have HR7 := Lib.hid (show RI wa4 w5.heap.size wa4.heap.size G7 (ints (row ++ [k])) by rw [ints_snoc, ← HT1.out]; exact hr7); have hws := HWS.out; clear hL7 hr7 hn7 hp7 ho hg)
                refine hK.out _ _ ?_ (fun hHeld => ?_)
                focus ((try dsimp only); (first | done | exact ⟨cB Rwa4.out s0, cB Rwa4.out s1, cB Rwa4.out s2⟩))
                clear hK K
                (try simp only [Act.put, List.getElem_toArray, List.getElem_cons_succ, List.getElem_cons_zero, List.setIfInBounds_toArray, List.set_cons_zero, List.set_cons_succ])
                refine wpAnyH_ready (rs := [16]) (by kernel_rfl) (by simp) ?_
                refine (AllReadyH.cons rfl (fun K hK => ?_) AllReadyH.nil)
                (go_simp; go_at_call 113; refine HC.out.mono ?_; intro e wa5 hres; obtain ⟨G8, L8, c8, rfl, hb8, hcase⟩ := hres.form; clear hres; (try go_wp2_with fail); have Rwa5 := Lib.hid (Rwa4.out.trans (hb8.mono Rwa4.out.size)); have HCASE := Lib.hid hcase; have HB8 := Lib.hid hb8; clear hcase hb8)
                refine hK.out _ _ ?_ (fun hHeld => ?_)
                focus ((try dsimp only); (first | done | exact ⟨cB Rwa5.out s0, cB Rwa5.out s1, cB Rwa5.out s2⟩))
                clear hK K
                (try simp only [Act.put, List.getElem_toArray, List.getElem_cons_succ, List.getElem_cons_zero, List.setIfInBounds_toArray, List.set_cons_zero, List.set_cons_succ])
                (refine wpAnyH_take (i := 17) (v := ?tv23) rfl (by kernel_rfl) (by kernel_rfl) (by kernel_rfl) (fun _ _ _ h => h) (Or.inl ⟨by kernel_rfl, ?ty23⟩) (by assumption) ?tr23; (case ty23 => (intro w' hSw; (try dsimp only at hSw); go_simp <;> with_reducible rfl)); (try simp only [Act.put, List.getElem_toArray, List.getElem_cons_succ, List.getElem_cons_zero, List.setIfInBounds_toArray, List.set_cons_zero, List.set_cons_succ]))
                refine wpAnyH_done (by kernel_rfl) ?_ _
              case' b19_1 =>
                (refine step_pushI (by rfl) _ _ (by rfl) w5.heap.size _ [] (by rfl) Ewa1.out _ c' row.length (ints row) (ints_length row).symm (by rfl) (I5H.out.below Rwa1.out) HA0.out (by rw [ints_length]; simp; omega) Rwa1.out.size ?_; intro vwa2 wa2 ho hg; rw [List.nil_append] at ho; obtain ⟨T1, hT1⟩ : ∃ T1, T1 = ints row := ⟨_, rfl⟩; rw [← hT1] at ho; have HT1 := Lib.hid hT1; have Zwa2 := hg.size; have Rwa2 := Lib.hid (Rwa1.out.trans (grownL Ewa1.out hg Rwa1.out.size)); (try have Nwa2 := Lib.hid (Nwa1.out.grown hg (by simp [Value.ownBlock]; omega))); obtain ⟨Gwa2, cwa2, rfl, _, _, _⟩ := ho.rcap; have Vwa2 := Lib.hid ho; clear ho hg hT1)
                refine hK.out _ _ ?_ (fun hHeld => ?_)
                focus ((try dsimp only); (first | done | exact ⟨cB Rwa2.out s0, cB Rwa2.out s1, cB Rwa2.out s2⟩))
                clear hK K
                (try simp only [Act.put, List.getElem_toArray, List.getElem_cons_succ, List.getElem_cons_zero, List.setIfInBounds_toArray, List.set_cons_zero, List.set_cons_succ])
                refine wpAnyH_ready (rs := [5]) (by kernel_rfl) (by simp) ?_
                refine (AllReadyH.cons rfl (fun K hK => ?_) AllReadyH.nil)
                (go_simp; refine name_k (fun wa3 hwa3 => ?_); have Zwa3 := sizeE hwa3; have Rwa3 := Lib.hid (Below.allocE Rwa2.out Rwa2.out.size hwa3); (try have Ewa3 := Lib.hid (OwnL.allocE Ewa2.out hwa3)); (try have Vwa3 := Lib.hid (OwnL.allocE Vwa2.out hwa3)); (try have Uwa3 := Lib.hid (OwnL.allocE Uwa2.out hwa3)); (try have Nwa3 := Lib.hid (Blk.allocE Nwa2.out hwa3)); have Nwa3 := Lib.hid (Blk.newE hwa3); clear hwa3)
                refine hK.out _ _ ?_ (fun hHeld => ?_)
                focus ((try dsimp only); (first | done | exact ⟨cB Rwa3.out s0, cB Rwa3.out s1, cB Rwa3.out s2⟩))
                clear hK K
                (try simp only [Act.put, List.getElem_toArray, List.getElem_cons_succ, List.getElem_cons_zero, List.setIfInBounds_toArray, List.set_cons_zero, List.set_cons_succ])
                refine wpAnyH_ready (rs := [6]) (by kernel_rfl) (by simp) ?_
                refine (AllReadyH.cons rfl (fun K hK => ?_) AllReadyH.nil)
                (refine step_pushI (by rfl) _ _ (by rfl) w5.heap.size _ T1 (by rfl) Vwa3.out _ 1 1 [(k : Int)] rfl (by rfl) Nwa3.out.iat1 (fun q => by cases q) (by rw [HT1.out, ints_length]; simp; omega) Rwa3.out.size ?_; intro vwa4 wa4 ho hg; have Zwa4 := hg.size; have Rwa4 := Lib.hid (Rwa3.out.trans (grownL Vwa3.out hg Rwa3.out.size)); (try have Nwa4 := Lib.hid (Nwa3.out.grown hg (by simp [Value.ownBlock]; omega))); obtain ⟨G7, c7, hv7, hr7, hp7, hn7⟩ := ho.rcap; obtain ⟨L7, hL7⟩ : ∃ L : Nat, L = (row ++ [k]).length := ⟨_, rfl⟩; rw [show (T1 ++ [(k : Int)]).length = L7 by rw [hL7, HT1.out]; simp [ints]] at hv7; subst hv7; have B7 := Lib.hid (via Rwa4.out B5); have HC := Lib.hid (show Calls Try.prog 113 #[.agg #[.int .i64 n, .slice (some ⟨b, off, none⟩) bs.length c], .slice G7 L7 c7, .int .i64 M, .int .i64 (sum + m)] wa4 (SrchResC bs d (row ++ [k]) (sum + m) G7 wa4) by rw [hL7]; exact IH.out (row ++ [k]) (sum + m) G7 c7 wa4 (HB0.out.below B7.out) (by rw [ints_snoc, ← HT1.out]; exact hr7.iat) hn7 (by have h9 := hp7; rw [HT1.out] at h9; simpa [ints] using h9) (by simp; omega) (fun a ha => by rcases List.mem_append.1 ha with ha | ha; exact HK.out a ha; (simp at ha; omega)) HRn.out (by simp; omega) (by simp; omega)); have HL7 := Lib.hid hL7; have HR7 := Lib.hid (show RI wa4 w5.heap.size wa4.heap.size G7 (ints (row ++ [k])) by rw [ints_snoc, ← HT1.out]; exact hr7); have hws := HWS.out; clear hL7 hr7 hn7 hp7 ho hg)
                refine hK.out _ _ ?_ (fun hHeld => ?_)
                focus ((try dsimp only); (first | done | exact ⟨cB Rwa4.out s0, cB Rwa4.out s1, cB Rwa4.out s2⟩))
                clear hK K
                (try simp only [Act.put, List.getElem_toArray, List.getElem_cons_succ, List.getElem_cons_zero, List.setIfInBounds_toArray, List.set_cons_zero, List.set_cons_succ])
                refine wpAnyH_ready (rs := [16]) (by kernel_rfl) (by simp) ?_
                refine (AllReadyH.cons rfl (fun K hK => ?_) AllReadyH.nil)
                (go_simp; go_at_call 113; refine HC.out.mono ?_; intro e wa5 hres; obtain ⟨G8, L8, c8, rfl, hb8, hcase⟩ := hres.form; clear hres; (try go_wp2_with fail); have Rwa5 := Lib.hid (Rwa4.out.trans (hb8.mono Rwa4.out.size)); have HCASE := Lib.hid hcase; have HB8 := Lib.hid hb8; clear hcase hb8)
                refine hK.out _ _ ?_ (fun hHeld => ?_)
                focus ((try dsimp only); (first | done | exact ⟨cB Rwa5.out s0, cB Rwa5.out s1, cB Rwa5.out s2⟩))
                clear hK K
                (try simp only [Act.put, List.getElem_toArray, List.getElem_cons_succ, List.getElem_cons_zero, List.setIfInBounds_toArray, List.set_cons_zero, List.set_cons_succ])
                (refine wpAnyH_take (i := 17) (v := ?tv27) rfl (by kernel_rfl) (by kernel_rfl) (by kernel_rfl) (fun _ _ _ h => h) (Or.inl ⟨by kernel_rfl, ?ty27⟩) (by assumption) ?tr27; (case ty27 => (intro w' hSw; (try dsimp only at hSw); go_simp <;> with_reducible rfl)); (try simp only [Act.put, List.getElem_toArray, List.getElem_cons_succ, List.getElem_cons_zero, List.setIfInBounds_toArray, List.set_cons_zero, List.set_cons_succ]))
                refine wpAnyH_done (by kernel_rfl) ?_ _
            all_goals have W5 := Lib.hid (show Below w.heap.size w wa5 from via HB8.out B7.out)
            all_goals have Q5 := Lib.hid (show Blk wa5 w.heap.size 25 #[.int .i64 n, .slice (some ⟨b, off, none⟩) bs.length c] from P5.below' Rwa5.out)
            all_goals (rcases HCASE.out with ⟨hs8, hL⟩ | ⟨out, ad, hs8, hL, hp8, hG, hr8⟩)
            all_goals first
              | (have HS8 := Lib.hid hs8
                 clear hs8
                 subst hL
                 go_wp2
                 go_roundw
                 (case rel => exact ⟨k + 1, by omega, by go_num, fun a ha => (by by_cases e : a = k; (rw [e, E.out, HX.out]; exact HS8.out); exact HNO.out a (by omega)), W5.out, Q5.out⟩)
                 (case measure => simp [intOf]; omega))
              | (have hg3 : 0 < L8 := by rw [hL, srch_len hs8]; simp; omega
                 have hg1 : decide ((0 : Int) < (L8 : Int)) = true := decide_eq_true (by omega)
                 have hg2 : decide (0 < L8) = true := decide_eq_true hg3
                 have HS8 := Lib.hid hs8
                 have HL8 := Lib.hid hL
                 have HG8 := Lib.hid hG
                 have HR8 := Lib.hid hr8
                 clear hs8 hL hG hr8
                 go_wp2
                 go_ret
                 have hz7 := B7.out.size
                 have hz8 := HB8.out.size
                 refine ⟨W5.out, .inr ⟨out, ad, c8, by rw [HS.out]; exact rangeF_some _ hlt (by rw [E.out, HX.out]; exact HS8.out) (fun a ha => HNO.out a ha), by rw [HL8.out, HG8.out]; rfl, by rw [← HL8.out]; exact hp8, .inl ?_⟩⟩
                 rcases HR8.out with hr8 | ⟨e1, e2⟩
                 · exact hr8.wide hz7 (Nat.le_refl _)
                 · have h9 := HR7.out
                   rw [e2] at h9
                   rw [e1]
                   exact (h9.same (Same.below HB8.out (Same.refl _ _ _)) (Nat.le_refl _)).wide (by omega) hz8)
          · have hr1 : 0 < row.length := by omega
            clear hr0
            obtain ⟨a, ao, aa, hal, rfl, z0, z1⟩ := k1 hr1
            have hne : (tv != f) = false := by simpa using k3 (by omega)
            have hT : ((row.length : Int) - 1).toNat = row.length - 1 := by omega
            have i0 : (0 : Int) ≤ (row.length : Int) - 1 := by omega
            have i1 : (row.length : Int) - 1 < (row.length : Int) := by omega
            have i2 : (0 : Int) ≤ (a : Int) := by omega
            have i3 : (a : Int) < (bs.length : Int) := by omega
            have hgd : decide ((0 : Int) < (row.length : Int)) = true := by simp; omega
            have hwl : IntKind.i64.wrap ((row.length : Int) - 1) = (row.length : Int) - 1 := IntWalk.i64_in _ ⟨by omega, by omega⟩
            clear k1 k3
            go_wp2
            go_quiet (fail)
            have Bq : Below wr.heap.size wr (wr.drewN nq) := vdrewN (Below.refl _ _) _
            have B5 : Below w.heap.size w (wr.drewN nq) := vdrewN HBe.out _
            have P5 := HP0.out.drewN nq
            have I5H := Lib.hid (HI0.out.below B5)
            have s0 := cB Bq e0
            have s1 := cB Bq e1
            have s2 := cB Bq c2
            have hz5 : w.heap.size + 1 ≤ (wr.drewN nq).heap.size := P5.lt
            clear c0 c2 e0 e1 Bq
            generalize wr.drewN nq = w5 at *
            have hws : IntKind.i64.wrap (sum + m) = sum + m := IntWalk.i64_in _ ⟨by omega, by omega⟩
            go_upto_region 9 with (fail)
            have HWS := Lib.hid hws
            refine wp_region_held_drew (S := (fun w' => w'.cell? ⟨w.heap.size, 0, none⟩ = some (.int .i64 n) ∧ w'.cell? ⟨w.heap.size, 1, none⟩ = some (.slice (some ⟨b, off, none⟩) bs.length c) ∧ w'.cell? ⟨b, off + k * 3 + 2, none⟩ = some (.int .i64 m))) (by kernel_rfl) ?_ (fun hHeld => ?_)
            · (try dsimp only)
              (first | done | exact ⟨cD s0, cD s1, cD s2⟩)
            refine name_h (fun wa0 hwa0 => ?_)
            replace hHeld : ((fun w' => w'.cell? ⟨w.heap.size, 0, none⟩ = some (.int .i64 n) ∧ w'.cell? ⟨w.heap.size, 1, none⟩ = some (.slice (some ⟨b, off, none⟩) bs.length c) ∧ w'.cell? ⟨b, off + k * 3 + 2, none⟩ = some (.int .i64 m))) wa0 := by rw [hwa0]; exact hHeld
            (have Zwa0 : w5.heap.size ≤ wa0.heap.size := (by rw [hwa0]; exact Nat.le_refl _); have Rwa0 := Lib.hid (show Below w5.heap.size w5 wa0 by rw [hwa0]; exact (Below.refl _ _).drew))
            clear hwa0
            (refine wpAnyH_take (i := 0) (v := ?tv28) rfl (by kernel_rfl) (by kernel_rfl) (by kernel_rfl) (fun _ _ _ h => h) (Or.inl ⟨by kernel_rfl, ?ty28⟩) (by assumption) ?tr28; (case ty28 => (intro w' hSw; (try dsimp only at hSw); go_simp <;> with_reducible rfl)); (try simp only [Act.put, List.getElem_toArray, List.getElem_cons_succ, List.getElem_cons_zero, List.setIfInBounds_toArray, List.set_cons_zero, List.set_cons_succ]))
            (refine wpAnyH_take (i := 2) (v := ?tv29) rfl (by kernel_rfl) (by kernel_rfl) (by kernel_rfl) (fun _ _ _ h => h) (Or.inl ⟨by kernel_rfl, ?ty29⟩) (by assumption) ?tr29; (case ty29 => (intro w' hSw; (try dsimp only at hSw); go_simp <;> with_reducible rfl)); (try simp only [Act.put, List.getElem_toArray, List.getElem_cons_succ, List.getElem_cons_zero, List.setIfInBounds_toArray, List.set_cons_zero, List.set_cons_succ]))
            (refine wpAnyH_take (i := 4) (v := ?tv30) rfl (by kernel_rfl) (by kernel_rfl) (by kernel_rfl) (fun _ _ _ h => h) (Or.inl ⟨by kernel_rfl, ?ty30⟩) (by assumption) ?tr30; (case ty30 => (intro w' hSw; (try dsimp only at hSw); go_simp <;> with_reducible rfl)); (try simp only [Act.put, List.getElem_toArray, List.getElem_cons_succ, List.getElem_cons_zero, List.setIfInBounds_toArray, List.set_cons_zero, List.set_cons_succ]))
            (refine wpAnyH_take (i := 7) (v := ?tv31) rfl (by kernel_rfl) (by kernel_rfl) (by kernel_rfl) (fun _ _ _ h => h) (Or.inl ⟨by kernel_rfl, ?ty31⟩) (by assumption) ?tr31; (case ty31 => (intro w' hSw; (try dsimp only at hSw); go_simp <;> with_reducible rfl)); (try simp only [Act.put, List.getElem_toArray, List.getElem_cons_succ, List.getElem_cons_zero, List.setIfInBounds_toArray, List.set_cons_zero, List.set_cons_succ]))
            (refine wpAnyH_take (i := 8) (v := ?tv32) rfl (by kernel_rfl) (by kernel_rfl) (by kernel_rfl) (fun _ _ _ h => h) (Or.inl ⟨by kernel_rfl, ?ty32⟩) (by assumption) ?tr32; (case ty32 => (intro w' hSw; (try dsimp only at hSw); go_simp <;> with_reducible rfl)); (try simp only [Act.put, List.getElem_toArray, List.getElem_cons_succ, List.getElem_cons_zero, List.setIfInBounds_toArray, List.set_cons_zero, List.set_cons_succ]))
            (refine wpAnyH_take (i := 9) (v := ?tv33) rfl (by kernel_rfl) (by kernel_rfl) (by kernel_rfl) (fun _ _ _ h => h) (Or.inl ⟨by kernel_rfl, ?ty33⟩) (by assumption) ?tr33; (case ty33 => (intro w' hSw; (try dsimp only at hSw); go_simp <;> with_reducible rfl)); (try simp only [Act.put, List.getElem_toArray, List.getElem_cons_succ, List.getElem_cons_zero, List.setIfInBounds_toArray, List.set_cons_zero, List.set_cons_succ]))
            (refine wpAnyH_take (i := 10) (v := ?tv34) rfl (by kernel_rfl) (by kernel_rfl) (by kernel_rfl) (fun _ _ _ h => h) (Or.inl ⟨by kernel_rfl, ?ty34⟩) (by assumption) ?tr34; (case ty34 => (intro w' hSw; (try dsimp only at hSw); go_simp <;> with_reducible rfl)); (try simp only [Act.put, List.getElem_toArray, List.getElem_cons_succ, List.getElem_cons_zero, List.setIfInBounds_toArray, List.set_cons_zero, List.set_cons_succ]))
            (refine wpAnyH_take (i := 11) (v := ?tv35) rfl (by kernel_rfl) (by kernel_rfl) (by kernel_rfl) (fun _ _ _ h => h) (Or.inl ⟨by kernel_rfl, ?ty35⟩) (by assumption) ?tr35; (case ty35 => (intro w' hSw; (try dsimp only at hSw); go_simp <;> with_reducible rfl)); (try simp only [Act.put, List.getElem_toArray, List.getElem_cons_succ, List.getElem_cons_zero, List.setIfInBounds_toArray, List.set_cons_zero, List.set_cons_succ]))
            (refine wpAnyH_take (i := 12) (v := ?tv36) rfl (by kernel_rfl) (by kernel_rfl) (by kernel_rfl) (fun _ _ _ h => h) (Or.inl ⟨by kernel_rfl, ?ty36⟩) (by assumption) ?tr36; (case ty36 => (intro w' hSw; (try dsimp only at hSw); go_simp <;> with_reducible rfl)); (try simp only [Act.put, List.getElem_toArray, List.getElem_cons_succ, List.getElem_cons_zero, List.setIfInBounds_toArray, List.set_cons_zero, List.set_cons_succ]))
            (refine wpAnyH_take (i := 13) (v := ?tv37) rfl (by kernel_rfl) (by kernel_rfl) (by kernel_rfl) (fun _ _ _ h => h) (Or.inl ⟨by kernel_rfl, ?ty37⟩) (by assumption) ?tr37; (case ty37 => (intro w' hSw; (try dsimp only at hSw); go_simp <;> with_reducible rfl)); (try simp only [Act.put, List.getElem_toArray, List.getElem_cons_succ, List.getElem_cons_zero, List.setIfInBounds_toArray, List.set_cons_zero, List.set_cons_succ]))
            (refine wpAnyH_take (i := 14) (v := ?tv38) rfl (by kernel_rfl) (by kernel_rfl) (by kernel_rfl) (fun _ _ _ h => h) (Or.inl ⟨by kernel_rfl, ?ty38⟩) (by assumption) ?tr38; (case ty38 => (intro w' hSw; (try dsimp only at hSw); go_simp <;> with_reducible rfl)); (try simp only [Act.put, List.getElem_toArray, List.getElem_cons_succ, List.getElem_cons_zero, List.setIfInBounds_toArray, List.set_cons_zero, List.set_cons_succ]))
            (refine wpAnyH_take (i := 15) (v := ?tv39) rfl (by kernel_rfl) (by kernel_rfl) (by kernel_rfl) (fun _ _ _ h => h) (Or.inl ⟨by kernel_rfl, ?ty39⟩) (by assumption) ?tr39; (case ty39 => (intro w' hSw; (try dsimp only at hSw); go_simp <;> with_reducible rfl)); (try simp only [Act.put, List.getElem_toArray, List.getElem_cons_succ, List.getElem_cons_zero, List.setIfInBounds_toArray, List.set_cons_zero, List.set_cons_succ]))
            refine wpAnyH_ready (rs := [1, 5]) (by kernel_rfl) (by simp) ?_
            refine (AllReadyH.cons rfl (fun K hK => ?b40_1) (AllReadyH.cons rfl (fun K hK => ?b40_2) AllReadyH.nil))
            case' b40_2 =>
              (go_simp; refine name_k (fun wa1 hwa1 => ?_); have Zwa1 := sizeE hwa1; have Rwa1 := Lib.hid (Below.allocE Rwa0.out Rwa0.out.size hwa1); (try have Ewa1 := Lib.hid (OwnL.allocE Ewa0.out hwa1)); (try have Vwa1 := Lib.hid (OwnL.allocE Vwa0.out hwa1)); (try have Uwa1 := Lib.hid (OwnL.allocE Uwa0.out hwa1)); (try have Nwa1 := Lib.hid (Blk.allocE Nwa0.out hwa1)); have Nwa1 := Lib.hid (Blk.newE hwa1); clear hwa1)
              refine hK.out _ _ ?_ (fun hHeld => ?_)
              focus ((try dsimp only); (first | done | exact ⟨cB Rwa1.out s0, cB Rwa1.out s1, cB Rwa1.out s2⟩))
              clear hK K
              (try simp only [Act.put, List.getElem_toArray, List.getElem_cons_succ, List.getElem_cons_zero, List.setIfInBounds_toArray, List.set_cons_zero, List.set_cons_succ])
              refine wpAnyH_ready (rs := [1]) (by kernel_rfl) (by simp) ?_
              refine (AllReadyH.cons rfl (fun K hK => ?_) AllReadyH.nil)
              (go_simp; refine name_k (fun wa2 hwa2 => ?_); have Zwa2 := sizeE hwa2; have Rwa2 := Lib.hid (Below.allocE Rwa1.out Rwa1.out.size hwa2); (try have Ewa2 := Lib.hid (OwnL.allocE Ewa1.out hwa2)); (try have Vwa2 := Lib.hid (OwnL.allocE Vwa1.out hwa2)); (try have Uwa2 := Lib.hid (OwnL.allocE Uwa1.out hwa2)); (try have Nwa2 := Lib.hid (Blk.allocE Nwa1.out hwa2)); have Ewa2 := Lib.hid (OwnL.emptyE hwa2 Rwa1.out.size); clear hwa2)
              refine hK.out _ _ ?_ (fun hHeld => ?_)
              focus ((try dsimp only); (first | done | exact ⟨cB Rwa2.out s0, cB Rwa2.out s1, cB Rwa2.out s2⟩))
              clear hK K
              (try simp only [Act.put, List.getElem_toArray, List.getElem_cons_succ, List.getElem_cons_zero, List.setIfInBounds_toArray, List.set_cons_zero, List.set_cons_succ])
              refine wpAnyH_ready (rs := [3]) (by kernel_rfl) (by simp) ?_
              refine (AllReadyH.cons rfl (fun K hK => ?_) AllReadyH.nil)
              (refine step_pushI (by rfl) _ _ (by rfl) w5.heap.size _ [] (by rfl) Ewa2.out _ c' row.length (ints row) (ints_length row).symm (by rfl) (I5H.out.below Rwa2.out) HA0.out (by rw [ints_length]; simp; omega) Rwa2.out.size ?_; intro vwa3 wa3 ho hg; rw [List.nil_append] at ho; obtain ⟨T1, hT1⟩ : ∃ T1, T1 = ints row := ⟨_, rfl⟩; rw [← hT1] at ho; have HT1 := Lib.hid hT1; have Zwa3 := hg.size; have Rwa3 := Lib.hid (Rwa2.out.trans (grownL Ewa2.out hg Rwa2.out.size)); (try have Nwa3 := Lib.hid (Nwa2.out.grown hg (by simp [Value.ownBlock]; omega))); obtain ⟨Gwa3, cwa3, rfl, _, _, _⟩ := ho.rcap; have Vwa3 := Lib.hid ho; clear ho hg hT1)
              refine hK.out _ _ ?_ (fun hHeld => ?_)
              focus ((try dsimp only); (first | done | exact ⟨cB Rwa3.out s0, cB Rwa3.out s1, cB Rwa3.out s2⟩))
              clear hK K
              (try simp only [Act.put, List.getElem_toArray, List.getElem_cons_succ, List.getElem_cons_zero, List.setIfInBounds_toArray, List.set_cons_zero, List.set_cons_succ])
              refine wpAnyH_ready (rs := [6]) (by kernel_rfl) (by simp) ?_
              refine (AllReadyH.cons rfl (fun K hK => ?_) AllReadyH.nil)
              (refine step_pushI (by rfl) _ _ (by rfl) w5.heap.size _ T1 (by rfl) Vwa3.out _ 1 1 [(k : Int)] rfl (by rfl) Nwa3.out.iat1 (fun q => by cases q) (by rw [HT1.out, ints_length]; simp; omega) Rwa3.out.size ?_; intro vwa4 wa4 ho hg; have Zwa4 := hg.size; have Rwa4 := Lib.hid (Rwa3.out.trans (grownL Vwa3.out hg Rwa3.out.size)); (try have Nwa4 := Lib.hid (Nwa3.out.grown hg (by simp [Value.ownBlock]; omega))); obtain ⟨G7, c7, hv7, hr7, hp7, hn7⟩ := ho.rcap; obtain ⟨L7, hL7⟩ : ∃ L : Nat, L = (row ++ [k]).length := ⟨_, rfl⟩; rw [show (T1 ++ [(k : Int)]).length = L7 by rw [hL7, HT1.out]; simp [ints]] at hv7; subst hv7; have B7 := Lib.hid (via Rwa4.out B5); have HC := Lib.hid (show Calls Try.prog 113 #[.agg #[.int .i64 n, .slice (some ⟨b, off, none⟩) bs.length c], .slice G7 L7 c7, .int .i64 M, .int .i64 (sum + m)] wa4 (SrchResC bs d (row ++ [k]) (sum + m) G7 wa4) by rw [hL7]; exact IH.out (row ++ [k]) (sum + m) G7 c7 wa4 (HB0.out.below B7.out) (by rw [ints_snoc, ← HT1.out]; exact hr7.iat) hn7 (by have h9 := hp7; rw [HT1.out] at h9; simpa [ints] using h9) (by simp; omega) (fun a ha => by rcases List.mem_append.1 ha with ha | ha; exact HK.out a ha; (simp at ha; omega)) HRn.out (by simp; omega) (by simp; omega)); have HL7 := Lib.hid hL7; have HR7 := Lib.hid (show RI wa4 w5.heap.size wa4.heap.size G7 (ints (row ++ [k])) by rw [ints_snoc, ← HT1.out]; exact hr7); have hws := HWS.out; clear hL7 hr7 hn7 hp7 ho hg)
              refine hK.out _ _ ?_ (fun hHeld => ?_)
              focus ((try dsimp only); (first | done | exact ⟨cB Rwa4.out s0, cB Rwa4.out s1, cB Rwa4.out s2⟩))
              clear hK K
              (try simp only [Act.put, List.getElem_toArray, List.getElem_cons_succ, List.getElem_cons_zero, List.setIfInBounds_toArray, List.set_cons_zero, List.set_cons_succ])
              refine wpAnyH_ready (rs := [16]) (by kernel_rfl) (by simp) ?_
              refine (AllReadyH.cons rfl (fun K hK => ?_) AllReadyH.nil)
              (go_simp; go_at_call 113; refine HC.out.mono ?_; intro e wa5 hres; obtain ⟨G8, L8, c8, rfl, hb8, hcase⟩ := hres.form; clear hres; (try go_wp2_with fail); have Rwa5 := Lib.hid (Rwa4.out.trans (hb8.mono Rwa4.out.size)); have HCASE := Lib.hid hcase; have HB8 := Lib.hid hb8; clear hcase hb8)
              refine hK.out _ _ ?_ (fun hHeld => ?_)
              focus ((try dsimp only); (first | done | exact ⟨cB Rwa5.out s0, cB Rwa5.out s1, cB Rwa5.out s2⟩))
              clear hK K
              (try simp only [Act.put, List.getElem_toArray, List.getElem_cons_succ, List.getElem_cons_zero, List.setIfInBounds_toArray, List.set_cons_zero, List.set_cons_succ])
              (refine wpAnyH_take (i := 17) (v := ?tv45) rfl (by kernel_rfl) (by kernel_rfl) (by kernel_rfl) (fun _ _ _ h => h) (Or.inl ⟨by kernel_rfl, ?ty45⟩) (by assumption) ?tr45; (case ty45 => (intro w' hSw; (try dsimp only at hSw); go_simp <;> with_reducible rfl)); (try simp only [Act.put, List.getElem_toArray, List.getElem_cons_succ, List.getElem_cons_zero, List.setIfInBounds_toArray, List.set_cons_zero, List.set_cons_succ]))
              refine wpAnyH_done (by kernel_rfl) ?_ _
            case' b40_1 =>
              (go_simp; refine name_k (fun wa1 hwa1 => ?_); have Zwa1 := sizeE hwa1; have Rwa1 := Lib.hid (Below.allocE Rwa0.out Rwa0.out.size hwa1); (try have Ewa1 := Lib.hid (OwnL.allocE Ewa0.out hwa1)); (try have Vwa1 := Lib.hid (OwnL.allocE Vwa0.out hwa1)); (try have Uwa1 := Lib.hid (OwnL.allocE Uwa0.out hwa1)); (try have Nwa1 := Lib.hid (Blk.allocE Nwa0.out hwa1)); have Ewa1 := Lib.hid (OwnL.emptyE hwa1 Rwa0.out.size); clear hwa1)
              refine hK.out _ _ ?_ (fun hHeld => ?_)
              focus ((try dsimp only); (first | done | exact ⟨cB Rwa1.out s0, cB Rwa1.out s1, cB Rwa1.out s2⟩))
              clear hK K
              (try simp only [Act.put, List.getElem_toArray, List.getElem_cons_succ, List.getElem_cons_zero, List.setIfInBounds_toArray, List.set_cons_zero, List.set_cons_succ])
              refine wpAnyH_ready (rs := [3, 5]) (by kernel_rfl) (by simp) ?_
              refine (AllReadyH.cons rfl (fun K hK => ?b46_1) (AllReadyH.cons rfl (fun K hK => ?b46_2) AllReadyH.nil))
              case' b46_2 =>
                (go_simp; refine name_k (fun wa2 hwa2 => ?_); have Zwa2 := sizeE hwa2; have Rwa2 := Lib.hid (Below.allocE Rwa1.out Rwa1.out.size hwa2); (try have Ewa2 := Lib.hid (OwnL.allocE Ewa1.out hwa2)); (try have Vwa2 := Lib.hid (OwnL.allocE Vwa1.out hwa2)); (try have Uwa2 := Lib.hid (OwnL.allocE Uwa1.out hwa2)); (try have Nwa2 := Lib.hid (Blk.allocE Nwa1.out hwa2)); have Nwa2 := Lib.hid (Blk.newE hwa2); clear hwa2)
                refine hK.out _ _ ?_ (fun hHeld => ?_)
                focus ((try dsimp only); (first | done | exact ⟨cB Rwa2.out s0, cB Rwa2.out s1, cB Rwa2.out s2⟩))
                clear hK K
                (try simp only [Act.put, List.getElem_toArray, List.getElem_cons_succ, List.getElem_cons_zero, List.setIfInBounds_toArray, List.set_cons_zero, List.set_cons_succ])
                refine wpAnyH_ready (rs := [3]) (by kernel_rfl) (by simp) ?_
                refine (AllReadyH.cons rfl (fun K hK => ?_) AllReadyH.nil)
                (refine step_pushI (by rfl) _ _ (by rfl) w5.heap.size _ [] (by rfl) Ewa2.out _ c' row.length (ints row) (ints_length row).symm (by rfl) (I5H.out.below Rwa2.out) HA0.out (by rw [ints_length]; simp; omega) Rwa2.out.size ?_; intro vwa3 wa3 ho hg; rw [List.nil_append] at ho; obtain ⟨T1, hT1⟩ : ∃ T1, T1 = ints row := ⟨_, rfl⟩; rw [← hT1] at ho; have HT1 := Lib.hid hT1; have Zwa3 := hg.size; have Rwa3 := Lib.hid (Rwa2.out.trans (grownL Ewa2.out hg Rwa2.out.size)); (try have Nwa3 := Lib.hid (Nwa2.out.grown hg (by simp [Value.ownBlock]; omega))); obtain ⟨Gwa3, cwa3, rfl, _, _, _⟩ := ho.rcap; have Vwa3 := Lib.hid ho; clear ho hg hT1)
                refine hK.out _ _ ?_ (fun hHeld => ?_)
                focus ((try dsimp only); (first | done | exact ⟨cB Rwa3.out s0, cB Rwa3.out s1, cB Rwa3.out s2⟩))
                clear hK K
                (try simp only [Act.put, List.getElem_toArray, List.getElem_cons_succ, List.getElem_cons_zero, List.setIfInBounds_toArray, List.set_cons_zero, List.set_cons_succ])
                refine wpAnyH_ready (rs := [6]) (by kernel_rfl) (by simp) ?_
                refine (AllReadyH.cons rfl (fun K hK => ?_) AllReadyH.nil)
                (refine step_pushI (by rfl) _ _ (by rfl) w5.heap.size _ T1 (by rfl) Vwa3.out _ 1 1 [(k : Int)] rfl (by rfl) Nwa3.out.iat1 (fun q => by cases q) (by rw [HT1.out, ints_length]; simp; omega) Rwa3.out.size ?_; intro vwa4 wa4 ho hg; have Zwa4 := hg.size; have Rwa4 := Lib.hid (Rwa3.out.trans (grownL Vwa3.out hg Rwa3.out.size)); (try have Nwa4 := Lib.hid (Nwa3.out.grown hg (by simp [Value.ownBlock]; omega))); obtain ⟨G7, c7, hv7, hr7, hp7, hn7⟩ := ho.rcap; obtain ⟨L7, hL7⟩ : ∃ L : Nat, L = (row ++ [k]).length := ⟨_, rfl⟩; rw [show (T1 ++ [(k : Int)]).length = L7 by rw [hL7, HT1.out]; simp [ints]] at hv7; subst hv7; have B7 := Lib.hid (via Rwa4.out B5); have HC := Lib.hid (show Calls Try.prog 113 #[.agg #[.int .i64 n, .slice (some ⟨b, off, none⟩) bs.length c], .slice G7 L7 c7, .int .i64 M, .int .i64 (sum + m)] wa4 (SrchResC bs d (row ++ [k]) (sum + m) G7 wa4) by rw [hL7]; exact IH.out (row ++ [k]) (sum + m) G7 c7 wa4 (HB0.out.below B7.out) (by rw [ints_snoc, ← HT1.out]; exact hr7.iat) hn7 (by have h9 := hp7; rw [HT1.out] at h9; simpa [ints] using h9) (by simp; omega) (fun a ha => by rcases List.mem_append.1 ha with ha | ha; exact HK.out a ha; (simp at ha; omega)) HRn.out (by simp; omega) (by simp; omega)); have HL7 := Lib.hid hL7; have HR7 := Lib.hid (show RI wa4 w5.heap.size wa4.heap.size G7 (ints (row ++ [k])) by rw [ints_snoc, ← HT1.out]; exact hr7); have hws := HWS.out; clear hL7 hr7 hn7 hp7 ho hg)
                refine hK.out _ _ ?_ (fun hHeld => ?_)
                focus ((try dsimp only); (first | done | exact ⟨cB Rwa4.out s0, cB Rwa4.out s1, cB Rwa4.out s2⟩))
                clear hK K
                (try simp only [Act.put, List.getElem_toArray, List.getElem_cons_succ, List.getElem_cons_zero, List.setIfInBounds_toArray, List.set_cons_zero, List.set_cons_succ])
                refine wpAnyH_ready (rs := [16]) (by kernel_rfl) (by simp) ?_
                refine (AllReadyH.cons rfl (fun K hK => ?_) AllReadyH.nil)
                (go_simp; go_at_call 113; refine HC.out.mono ?_; intro e wa5 hres; obtain ⟨G8, L8, c8, rfl, hb8, hcase⟩ := hres.form; clear hres; (try go_wp2_with fail); have Rwa5 := Lib.hid (Rwa4.out.trans (hb8.mono Rwa4.out.size)); have HCASE := Lib.hid hcase; have HB8 := Lib.hid hb8; clear hcase hb8)
                refine hK.out _ _ ?_ (fun hHeld => ?_)
                focus ((try dsimp only); (first | done | exact ⟨cB Rwa5.out s0, cB Rwa5.out s1, cB Rwa5.out s2⟩))
                clear hK K
                (try simp only [Act.put, List.getElem_toArray, List.getElem_cons_succ, List.getElem_cons_zero, List.setIfInBounds_toArray, List.set_cons_zero, List.set_cons_succ])
                (refine wpAnyH_take (i := 17) (v := ?tv50) rfl (by kernel_rfl) (by kernel_rfl) (by kernel_rfl) (fun _ _ _ h => h) (Or.inl ⟨by kernel_rfl, ?ty50⟩) (by assumption) ?tr50; (case ty50 => (intro w' hSw; (try dsimp only at hSw); go_simp <;> with_reducible rfl)); (try simp only [Act.put, List.getElem_toArray, List.getElem_cons_succ, List.getElem_cons_zero, List.setIfInBounds_toArray, List.set_cons_zero, List.set_cons_succ]))
                refine wpAnyH_done (by kernel_rfl) ?_ _
              case' b46_1 =>
                (refine step_pushI (by rfl) _ _ (by rfl) w5.heap.size _ [] (by rfl) Ewa1.out _ c' row.length (ints row) (ints_length row).symm (by rfl) (I5H.out.below Rwa1.out) HA0.out (by rw [ints_length]; simp; omega) Rwa1.out.size ?_; intro vwa2 wa2 ho hg; rw [List.nil_append] at ho; obtain ⟨T1, hT1⟩ : ∃ T1, T1 = ints row := ⟨_, rfl⟩; rw [← hT1] at ho; have HT1 := Lib.hid hT1; have Zwa2 := hg.size; have Rwa2 := Lib.hid (Rwa1.out.trans (grownL Ewa1.out hg Rwa1.out.size)); (try have Nwa2 := Lib.hid (Nwa1.out.grown hg (by simp [Value.ownBlock]; omega))); obtain ⟨Gwa2, cwa2, rfl, _, _, _⟩ := ho.rcap; have Vwa2 := Lib.hid ho; clear ho hg hT1)
                refine hK.out _ _ ?_ (fun hHeld => ?_)
                focus ((try dsimp only); (first | done | exact ⟨cB Rwa2.out s0, cB Rwa2.out s1, cB Rwa2.out s2⟩))
                clear hK K
                (try simp only [Act.put, List.getElem_toArray, List.getElem_cons_succ, List.getElem_cons_zero, List.setIfInBounds_toArray, List.set_cons_zero, List.set_cons_succ])
                refine wpAnyH_ready (rs := [5]) (by kernel_rfl) (by simp) ?_
                refine (AllReadyH.cons rfl (fun K hK => ?_) AllReadyH.nil)
                (go_simp; refine name_k (fun wa3 hwa3 => ?_); have Zwa3 := sizeE hwa3; have Rwa3 := Lib.hid (Below.allocE Rwa2.out Rwa2.out.size hwa3); (try have Ewa3 := Lib.hid (OwnL.allocE Ewa2.out hwa3)); (try have Vwa3 := Lib.hid (OwnL.allocE Vwa2.out hwa3)); (try have Uwa3 := Lib.hid (OwnL.allocE Uwa2.out hwa3)); (try have Nwa3 := Lib.hid (Blk.allocE Nwa2.out hwa3)); have Nwa3 := Lib.hid (Blk.newE hwa3); clear hwa3)
                refine hK.out _ _ ?_ (fun hHeld => ?_)
                focus ((try dsimp only); (first | done | exact ⟨cB Rwa3.out s0, cB Rwa3.out s1, cB Rwa3.out s2⟩))
                clear hK K
                (try simp only [Act.put, List.getElem_toArray, List.getElem_cons_succ, List.getElem_cons_zero, List.setIfInBounds_toArray, List.set_cons_zero, List.set_cons_succ])
                refine wpAnyH_ready (rs := [6]) (by kernel_rfl) (by simp) ?_
                refine (AllReadyH.cons rfl (fun K hK => ?_) AllReadyH.nil)
                (refine step_pushI (by rfl) _ _ (by rfl) w5.heap.size _ T1 (by rfl) Vwa3.out _ 1 1 [(k : Int)] rfl (by rfl) Nwa3.out.iat1 (fun q => by cases q) (by rw [HT1.out, ints_length]; simp; omega) Rwa3.out.size ?_; intro vwa4 wa4 ho hg; have Zwa4 := hg.size; have Rwa4 := Lib.hid (Rwa3.out.trans (grownL Vwa3.out hg Rwa3.out.size)); (try have Nwa4 := Lib.hid (Nwa3.out.grown hg (by simp [Value.ownBlock]; omega))); obtain ⟨G7, c7, hv7, hr7, hp7, hn7⟩ := ho.rcap; obtain ⟨L7, hL7⟩ : ∃ L : Nat, L = (row ++ [k]).length := ⟨_, rfl⟩; rw [show (T1 ++ [(k : Int)]).length = L7 by rw [hL7, HT1.out]; simp [ints]] at hv7; subst hv7; have B7 := Lib.hid (via Rwa4.out B5); have HC := Lib.hid (show Calls Try.prog 113 #[.agg #[.int .i64 n, .slice (some ⟨b, off, none⟩) bs.length c], .slice G7 L7 c7, .int .i64 M, .int .i64 (sum + m)] wa4 (SrchResC bs d (row ++ [k]) (sum + m) G7 wa4) by rw [hL7]; exact IH.out (row ++ [k]) (sum + m) G7 c7 wa4 (HB0.out.below B7.out) (by rw [ints_snoc, ← HT1.out]; exact hr7.iat) hn7 (by have h9 := hp7; rw [HT1.out] at h9; simpa [ints] using h9) (by simp; omega) (fun a ha => by rcases List.mem_append.1 ha with ha | ha; exact HK.out a ha; (simp at ha; omega)) HRn.out (by simp; omega) (by simp; omega)); have HL7 := Lib.hid hL7; have HR7 := Lib.hid (show RI wa4 w5.heap.size wa4.heap.size G7 (ints (row ++ [k])) by rw [ints_snoc, ← HT1.out]; exact hr7); have hws := HWS.out; clear hL7 hr7 hn7 hp7 ho hg)
                refine hK.out _ _ ?_ (fun hHeld => ?_)
                focus ((try dsimp only); (first | done | exact ⟨cB Rwa4.out s0, cB Rwa4.out s1, cB Rwa4.out s2⟩))
                clear hK K
                (try simp only [Act.put, List.getElem_toArray, List.getElem_cons_succ, List.getElem_cons_zero, List.setIfInBounds_toArray, List.set_cons_zero, List.set_cons_succ])
                refine wpAnyH_ready (rs := [16]) (by kernel_rfl) (by simp) ?_
                refine (AllReadyH.cons rfl (fun K hK => ?_) AllReadyH.nil)
                (go_simp; go_at_call 113; refine HC.out.mono ?_; intro e wa5 hres; obtain ⟨G8, L8, c8, rfl, hb8, hcase⟩ := hres.form; clear hres; (try go_wp2_with fail); have Rwa5 := Lib.hid (Rwa4.out.trans (hb8.mono Rwa4.out.size)); have HCASE := Lib.hid hcase; have HB8 := Lib.hid hb8; clear hcase hb8)
                refine hK.out _ _ ?_ (fun hHeld => ?_)
                focus ((try dsimp only); (first | done | exact ⟨cB Rwa5.out s0, cB Rwa5.out s1, cB Rwa5.out s2⟩))
                clear hK K
                (try simp only [Act.put, List.getElem_toArray, List.getElem_cons_succ, List.getElem_cons_zero, List.setIfInBounds_toArray, List.set_cons_zero, List.set_cons_succ])
                (refine wpAnyH_take (i := 17) (v := ?tv54) rfl (by kernel_rfl) (by kernel_rfl) (by kernel_rfl) (fun _ _ _ h => h) (Or.inl ⟨by kernel_rfl, ?ty54⟩) (by assumption) ?tr54; (case ty54 => (intro w' hSw; (try dsimp only at hSw); go_simp <;> with_reducible rfl)); (try simp only [Act.put, List.getElem_toArray, List.getElem_cons_succ, List.getElem_cons_zero, List.setIfInBounds_toArray, List.set_cons_zero, List.set_cons_succ]))
                refine wpAnyH_done (by kernel_rfl) ?_ _
            all_goals have W5 := Lib.hid (show Below w.heap.size w wa5 from via HB8.out B7.out)
            all_goals have Q5 := Lib.hid (show Blk wa5 w.heap.size 25 #[.int .i64 n, .slice (some ⟨b, off, none⟩) bs.length c] from P5.below' Rwa5.out)
            all_goals (rcases HCASE.out with ⟨hs8, hL⟩ | ⟨out, ad, hs8, hL, hp8, hG, hr8⟩)
            all_goals first
              | (have HS8 := Lib.hid hs8
                 clear hs8
                 subst hL
                 go_wp2
                 go_roundw
                 (case rel => exact ⟨k + 1, by omega, by go_num, fun a ha => (by by_cases e : a = k; (rw [e, E.out, HX.out]; exact HS8.out); exact HNO.out a (by omega)), W5.out, Q5.out⟩)
                 (case measure => simp [intOf]; omega))
              | (have hg3 : 0 < L8 := by rw [hL, srch_len hs8]; simp; omega
                 have hg1 : decide ((0 : Int) < (L8 : Int)) = true := decide_eq_true (by omega)
                 have hg2 : decide (0 < L8) = true := decide_eq_true hg3
                 have HS8 := Lib.hid hs8
                 have HL8 := Lib.hid hL
                 have HG8 := Lib.hid hG
                 have HR8 := Lib.hid hr8
                 clear hs8 hL hG hr8
                 go_wp2
                 go_ret
                 have hz7 := B7.out.size
                 have hz8 := HB8.out.size
                 refine ⟨W5.out, .inr ⟨out, ad, c8, by rw [HS.out]; exact rangeF_some _ hlt (by rw [E.out, HX.out]; exact HS8.out) (fun a ha => HNO.out a ha), by rw [HL8.out, HG8.out]; rfl, by rw [← HL8.out]; exact hp8, .inl ?_⟩⟩
                 rcases HR8.out with hr8 | ⟨e1, e2⟩
                 · exact hr8.wide hz7 (Nat.le_refl _)
                 · have h9 := HR7.out
                   rw [e2] at h9
                   rw [e1]
                   exact (h9.same (Same.below HB8.out (Same.refl _ _ _)) (Nat.le_refl _)).wide (by omega) hz8)
      · have HRes := Lib.hid (rangeF_none (f := stepS bs d row sum) bs.length (fun a ha => HNO.out a (by omega)))
        have e1 : wr.cell? ⟨w.heap.size, 1, none⟩ = some (.slice A bs.length c) := hP.cell 1
        have e0 : wr.cell? ⟨w.heap.size, 0, none⟩ = some (.int .i64 n) := hP.cell 0
        go_wp2
        go_ret
        exact ⟨valloc HBe.out _, .inl ⟨by rw [HS.out, HRes.out], _, _, rfl⟩⟩
end Go.Proofs.Ytnompncmachgjaa
