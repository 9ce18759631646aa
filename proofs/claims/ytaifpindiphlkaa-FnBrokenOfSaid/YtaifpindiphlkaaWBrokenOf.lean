/- The walk of the law FnBrokenOf: it returns true and changes nothing that was there; for codes of bytes. -/
import Derived.Test.YtaifpindiphlkaaAlive
import Derived.Test.YtaifpindiphlkaaDraws3
import Derived.Test.YtaifpindiphlkaaPlainL1
import Derived.Test.YtaifpindiphlkaaKB
import Derived.Deep.RegionHeld3
namespace Go.Proofs.Ytaifpindiphlkaa
open Go.RowKit
set_option linter.unusedVariables false
set_option maxRecDepth 10000
set_option linter.unusedSimpArgs false

theorem hasI_hit {l : List Int} {n x : Int} {k : Nat} (hx : l[k]? = some x) (h : x = n) : hasI l n = true := by
  rw [hasI_iff]; subst h; exact List.mem_of_getElem? hx
theorem hasI_end {l : List Int} {n : Int} (h : ∀ (k : Nat) (x : Int), l[k]? = some x → x ≠ n) : hasI l n = false := by
  rw [← Bool.not_eq_true, hasI_iff]
  intro hm
  obtain ⟨k, hk⟩ := List.getElem?_of_mem hm
  exact h k n hk rfl
theorem hasInt_any (A : Option Addr) (c : Nat) (l : List Int) (n : Int) (w : World) (h : IAt w A l) (hlen : l.length ≤ 1099511627776) :
    Calls Try.prog 29 #[.slice A l.length c, .int .i64 n] w fun e w' => e = .returned (.bool (hasI l n)) ∧ w = w' := by
  go_enter Try.func29, Try.ntmps29
  go_wp2
  go_loop [5] (fun i => ∃ k : Nat, k ≤ l.length ∧ i = .int .i64 k ∧ ∀ (j : Nat) (x : Int), j < k → l[j]? = some x → x ≠ n) (fun i => l.length - (intOf i).toNat)
  case atStart => exact ⟨0, Nat.zero_le _, rfl, fun j x hj => absurd hj (Nat.not_lt_zero _)⟩
  case round =>
    obtain ⟨k, hk, rfl, hno⟩ := hrel
    have HNO := Lib.hid hno
    clear hno
    by_cases hlt : k < l.length
    · obtain ⟨b, off, x, eA, hbl, hx, hxm, c0⟩ := h.at_ hlt
      subst eA
      have HX := Lib.hid hx
      clear hx hxm
      by_cases he : x = n
      · have HR := Lib.hid (hasI_hit HX.out he)
        have he' : (x == n) = true := by simpa using he
        clear he
        go_wp2
        go_ret
        exact ⟨ret_bool HR.out.symm, rfl⟩
      · have HE := Lib.hid he
        have he' : (x == n) = false := by simpa using he
        clear he
        go_wp2
        go_round
        case rel => exact ⟨k + 1, by omega, by go_num, fun j y hj hy => by
          by_cases e : j = k
          · subst e; rw [HX.out] at hy; injection hy with hy; rw [← hy]; exact HE.out
          · exact HNO.out j y (by omega) hy⟩
        case measure => simp [intOf]; omega
    · have HR := Lib.hid (hasI_end (l := l) (n := n) (fun j x hx => HNO.out j x (by have := (List.getElem?_eq_some_iff.1 hx).1; omega) hx))
      go_wp2
      go_ret
      exact ⟨ret_bool HR.out.symm, rfl⟩
theorem ascend_any (A : Option Addr) (c : Nat) (l : List Int) (w : World) (h : IAt w A l) (hlen : l.length ≤ 1099511627776) (ha : ∀ (i : Nat) (a b : Int), l[i]? = some a → l[i + 1]? = some b → a < b) :
    Calls Try.prog 30 #[.slice A l.length c] w fun e w' => e = .returned (.bool true) ∧ Below w.heap.size w w' := by
  have HA := Lib.hid ha
  clear ha
  go_enter Try.func30, Try.ntmps30
  go_wp2
  go_loopw [3] (fun i W => ∃ k : Nat, k ≤ l.length ∧ i = .int .i64 ((k : Int) + 1) ∧ Below w.heap.size w W) (fun i _ => l.length + 1 - (intOf i).toNat)
  case atStart => exact ⟨0, Nat.zero_le _, rfl, Below.refl _ _⟩
  case round =>
    obtain ⟨k, hk, rfl, hb⟩ := hrel
    by_cases hlt : k + 1 < l.length
    · obtain ⟨b, off, x, eA, hbl, hx, hxm, c0⟩ := (h.below hb).at_ (show k < l.length by omega)
      obtain ⟨b', off', y, eA', hbl', hy, hym, c1⟩ := (h.below hb).at_ hlt
      have ee := eA.symm.trans eA'
      cases ee
      subst eA
      have hxy := HA.out k x y hx hy
      have hd : decide (y ≤ x) = false := by simp; omega
      have i0 : (0 : Int) ≤ (k : Int) + 1 := by omega
      have i1 : (k : Int) + 1 < (l.length : Int) := by omega
      have i2 : (0 : Int) ≤ (k : Int) := by omega
      have i3 : (k : Int) < (l.length : Int) := by omega
      have w1 : IntKind.i64.wrap ((k : Int) + 1 - 1) = (k : Int) := by rw [IntWalk.i64_in _ ⟨by omega, by omega⟩]; omega
      have w2 : (((k : Int) + 1)).toNat = k + 1 := by omega
      clear hx hy hxm hym eA'
      go_wp2
      go_quiet (fail)
      go_wp2
      go_roundw
      case rel => exact ⟨k + 1, by omega, by go_num, vdrewN hb _⟩
      case measure => simp [intOf]; omega
    · go_wp2
      go_ret
      exact ⟨rfl, hb⟩
theorem BAt.one {w : World} {b off : Nat} {bs : List Bd} {k : Nat} {x : Bd} (h : BAt w (some ⟨b, off, none⟩) bs) (hx : bs[k]? = some x) : BAt w (some ⟨b, off + k * 3, none⟩) [x] := by
  intro _
  obtain ⟨b', off', e, hl, hc⟩ := h (by have := (List.getElem?_eq_some_iff.1 hx).1; omega)
  cases e
  refine ⟨b, off + k * 3, rfl, hl, fun i y hy => ?_⟩
  match i, hy with
  | 0, hy => simp at hy; subst hy; simpa using hc k x hx
  | i + 1, hy => simp at hy
set_option maxHeartbeats 1000000 in
theorem FnBrokenOf_walk (A : Option Addr) (c : Nat) (xs : List Int) (w : World) (hB : Bytes w A c xs) (hl : xs.length ≤ 9223372036854775807) :
    Calls Try.prog 7 #[.slice A xs.length c] w fun e w' => e = .returned (.bool true) ∧ Below w.heap.size w w' := by
  by_cases hL : (1048576 : Int) < (xs.length : Int)
  · go_enter Try.func7, Try.ntmps7
    go_wp2
    go_ret
    exact ⟨rfl, Below.refl _ _⟩
  go_enter Try.func7, Try.ntmps7
  go_wp2_with fail
  refine (drawBrokenOf_any A c xs _ hB).mono ?_; rintro e w1 ⟨n, A1, c1, bs, G, cg, ts, rfl, ⟨hf0, hf7, hfl, _⟩, hc, hn, ⟨ht8, htb⟩, hc2, hn2, hrb, hri, hb1⟩
  have HR := Lib.hid hrb
  have HI := Lib.hid hri
  clear hrb hri hn hn2 htb
  have hz1 := hb1.size
  have hml := brokenOf_len n bs ts
  go_wp2_with fail
  refine (brokenOf_any _ _ _ _ _ bs ts _ (HR.out.bat.below (by repeat (first | with_reducible exact Below.refl _ _ | with_reducible refine valloc ?_ _ | with_reducible refine vdrew ?_ | with_reducible refine vdrewN ?_ _ | with_reducible refine via (by assumption) ?_ | refine vset ?_ (by first | exact Nat.le_refl _ | (simp; done) | (simp; omega) | omega) _))) (HI.out.iat.below (by repeat (first | with_reducible exact Below.refl _ _ | with_reducible refine valloc ?_ _ | with_reducible refine vdrew ?_ | with_reducible refine vdrewN ?_ _ | with_reducible refine via (by assumption) ?_ | refine vset ?_ (by first | exact Nat.le_refl _ | (simp; done) | (simp; omega) | omega) _))) (by omega) (by omega)).mono ?_; rintro e w2 ⟨G1, C1, rfl, r1, hb2⟩
  have p0 : w2.cell? ⟨w1.heap.size, 0, none⟩ = some (.int .i64 n) := cB hb2 (by simp)
  have p1 : w2.cell? ⟨w1.heap.size, 1, none⟩ = some (.slice A1 bs.length c1) := cB hb2 (by simp)
  have R1 := Lib.hid r1
  clear r1
  go_wp2_with fail
  refine (specBrokenOf_any _ _ _ _ _ bs ts _ (HR.out.bat.below (by repeat (first | with_reducible exact Below.refl _ _ | with_reducible refine valloc ?_ _ | with_reducible refine vdrew ?_ | with_reducible refine vdrewN ?_ _ | with_reducible refine via (by assumption) ?_ | refine vset ?_ (by first | exact Nat.le_refl _ | (simp; done) | (simp; omega) | omega) _))) (HI.out.iat.below (by repeat (first | with_reducible exact Below.refl _ _ | with_reducible refine valloc ?_ _ | with_reducible refine vdrew ?_ | with_reducible refine vdrewN ?_ _ | with_reducible refine via (by assumption) ?_ | refine vset ?_ (by first | exact Nat.le_refl _ | (simp; done) | (simp; omega) | omega) _))) (by omega) (by omega)).mono ?_; rintro e w3 ⟨G2, C2, rfl, r2, hb3⟩
  replace p0 := cB hb3 p0
  replace p1 := cB hb3 p1
  go_wp2_with fail
  refine (sameInts_same _ _ _ _ (brokenOf n bs ts) _ (R1.out.iat.below (by repeat (first | with_reducible exact Below.refl _ _ | with_reducible refine valloc ?_ _ | with_reducible refine vdrew ?_ | with_reducible refine vdrewN ?_ _ | with_reducible refine via (by assumption) ?_ | refine vset ?_ (by first | exact Nat.le_refl _ | (simp; done) | (simp; omega) | omega) _))) r2.iat (by omega)).mono ?_; rintro e w4 ⟨rfl, hb4⟩
  replace p0 := cB hb4 p0
  replace p1 := cB hb4 p1
  have B4 := Lib.hid (show Below w.heap.size w w4 from (by repeat (first | with_reducible exact Below.refl _ _ | with_reducible refine valloc ?_ _ | with_reducible refine vdrew ?_ | with_reducible refine vdrewN ?_ _ | with_reducible refine via (by assumption) ?_ | refine vset ?_ (by first | exact Nat.le_refl _ | (simp; done) | (simp; omega) | omega) _)))
  have Q4 := Lib.hid (show BAt w4 A1 bs from HR.out.bat.below (by repeat (first | with_reducible exact Below.refl _ _ | with_reducible refine valloc ?_ _ | with_reducible refine vdrew ?_ | with_reducible refine vdrewN ?_ _ | with_reducible refine via (by assumption) ?_ | refine vset ?_ (by first | exact Nat.le_refl _ | (simp; done) | (simp; omega) | omega) _)))
  have I4 := Lib.hid (show IAt w4 G ts from HI.out.iat.below (by repeat (first | with_reducible exact Below.refl _ _ | with_reducible refine valloc ?_ _ | with_reducible refine vdrew ?_ | with_reducible refine vdrewN ?_ _ | with_reducible refine via (by assumption) ?_ | refine vset ?_ (by first | exact Nat.le_refl _ | (simp; done) | (simp; omega) | omega) _)))
  have X4 := Lib.hid (show IAt w4 G1 (brokenOf n bs ts) from R1.out.iat.below (by repeat (first | with_reducible exact Below.refl _ _ | with_reducible refine valloc ?_ _ | with_reducible refine vdrew ?_ | with_reducible refine vdrewN ?_ _ | with_reducible refine via (by assumption) ?_ | refine vset ?_ (by first | exact Nat.le_refl _ | (simp; done) | (simp; omega) | omega) _)))
  have ASC := Lib.hid (broken_asc n bs ts)
  have ONE := Lib.hid (fun (h : timesOk n bs ts = true) (k : Nat) (x : Bd) (hx : bs[k]? = some x) => broken_one h hx)
  clear hb1 hb2 hb3 hb4 r2 hB HR HI R1
  generalize brokenOf n bs ts = L at *
  go_wp2
  go_loopw [6] (fun i W => ∃ k : Nat, k ≤ bs.length ∧ i = .int .i64 k ∧ Below w4.heap.size w4 W) (fun i _ => bs.length - (intOf i).toNat)
  case atStart => exact ⟨0, Nat.zero_le _, rfl, Below.refl _ _⟩
  case round =>
    obtain ⟨k, hk, rfl, hb⟩ := hrel
    have q0 := cB hb p0
    have q1 := cB hb p1
    have HB := Lib.hid hb
    clear hb
    by_cases hlt : k < bs.length
    · go_wp2_with fail
      refine (specTimesOk_any _ _ _ _ _ bs ts _ (Q4.out.below HB.out) (I4.out.below HB.out) (by omega) (by omega)).mono ?_; rintro e w5 ⟨rfl, hb5⟩
      replace q0 := cB hb5 q0
      replace q1 := cB hb5 q1
      have HB5 := Lib.hid hb5
      clear hb5
      cases hto : timesOk n bs ts
      · have BW := Lib.hid (via HB5.out HB.out); go_wp2_with fail; refine (ascend_any _ _ L _ (X4.out.below BW.out) (by omega) ASC.out).mono ?_; rintro e wa ⟨rfl, hba⟩; go_wp2_with fail; refine (alive_any _).mono ?_; rintro e wb ⟨rfl, hbb⟩; go_wp2; go_ret; exact ⟨rfl, via hbb (via hba (B4.out.trans (BW.out.mono B4.out.size)))⟩
      · obtain ⟨b, off, x, eA, _, hx, _, _⟩ := Q4.out.at_ hlt
        subst eA
        have EO := ONE.out hto k x hx
        have HK := Lib.hid (fun W (h : Below w4.heap.size w4 W) => show Calls Try.prog 22 #[.agg #[.int .i64 n, .slice (some ⟨b, off + k * 3, none⟩) 1 (c1 - k)], .slice G ts.length cg] W fun e w' => e = .returned (.bool (!hasI L k)) ∧ Below W.heap.size W w' by
          have := keepsOk_any n (some ⟨b, off + k * 3, none⟩) G (c1 - k) cg [x] ts W ((Q4.out.one hx).below h) (I4.out.below h) (by simp) (by omega)
          rw [EO] at this
          exact this)
        clear hto EO hx
        have hwk : IntKind.i64.wrap ((k : Int) + 1) = (k : Int) + 1 := IntWalk.i64_in _ ⟨by omega, by omega⟩
        have j0 : (0 : Int) ≤ (k : Int) := by omega
        have j1 : (k : Int) ≤ (k : Int) + 1 := by omega
        have j2 : (k : Int) + 1 ≤ (c1 : Int) := by omega
        have j3 : ((k : Int) + 1).toNat = k + 1 := by omega
        have j4 : k + 1 - k = 1 := by omega
        have j5 : ¬ c1 = k := by omega
        have HX5 := Lib.hid (show IAt w5 G1 L from X4.out.below (via HB5.out HB.out))
        have H5 := Lib.hid (via HB5.out HB.out)
        go_wp2
        refine wp_region_held_drew (S := (fun w' => w'.cell? ⟨w1.heap.size, 0, none⟩ = some (.int .i64 n) ∧ w'.cell? ⟨w1.heap.size, 1, none⟩ = some (.slice (some ⟨b, off, none⟩) bs.length c1))) (by kernel_rfl) ?_ (fun hHeld => ?_)
        · (try dsimp only)
          (first | done | (first | exact ⟨q0, q1⟩ | (first | go_keep | (go_split_ands; (repeat' apply And.intro) <;> (first | assumption | (refine cB (by assumption) ?_; first | assumption | (simp; assumption)) | (simp; assumption))))))
        (refine wpAnyH_take (i := 0) (v := ?tv1) rfl (by kernel_rfl) (by kernel_rfl) (by kernel_rfl) (fun _ _ _ h => h) (Or.inl ⟨by kernel_rfl, ?ty1⟩) (by assumption) ?tr1; (case ty1 => (intro w' hSw; (try dsimp only at hSw); go_simp <;> with_reducible rfl)); (try simp only [Act.put, List.getElem_toArray, List.getElem_cons_succ, List.getElem_cons_zero, List.setIfInBounds_toArray, List.set_cons_zero, List.set_cons_succ]))
        (refine wpAnyH_take (i := 1) (v := ?tv2) rfl (by kernel_rfl) (by kernel_rfl) (by kernel_rfl) (fun _ _ _ h => h) (Or.inl ⟨by kernel_rfl, ?ty2⟩) (by assumption) ?tr2; (case ty2 => (intro w' hSw; (try dsimp only at hSw); go_simp <;> with_reducible rfl)); (try simp only [Act.put, List.getElem_toArray, List.getElem_cons_succ, List.getElem_cons_zero, List.setIfInBounds_toArray, List.set_cons_zero, List.set_cons_succ]))
        (refine wpAnyH_take (i := 2) (v := ?tv3) rfl (by kernel_rfl) (by kernel_rfl) (by kernel_rfl) (fun _ _ _ h => h) (Or.inl ⟨by kernel_rfl, ?ty3⟩) (by assumption) ?tr3; (case ty3 => (intro w' hSw; (try dsimp only at hSw); go_simp <;> with_reducible rfl)); (try simp only [Act.put, List.getElem_toArray, List.getElem_cons_succ, List.getElem_cons_zero, List.setIfInBounds_toArray, List.set_cons_zero, List.set_cons_succ]))
        (refine wpAnyH_take (i := 3) (v := ?tv4) rfl (by kernel_rfl) (by kernel_rfl) (by kernel_rfl) (fun _ _ _ h => h) (Or.inl ⟨by kernel_rfl, ?ty4⟩) (by assumption) ?tr4; (case ty4 => (intro w' hSw; (try dsimp only at hSw); go_simp <;> with_reducible rfl)); (try simp only [Act.put, List.getElem_toArray, List.getElem_cons_succ, List.getElem_cons_zero, List.setIfInBounds_toArray, List.set_cons_zero, List.set_cons_succ]))
        (refine wpAnyH_take (i := 4) (v := ?tv5) rfl (by kernel_rfl) (by kernel_rfl) (by kernel_rfl) (fun _ _ _ h => h) (Or.inl ⟨by kernel_rfl, ?ty5⟩) (by assumption) ?tr5; (case ty5 => (intro w' hSw; (try dsimp only at hSw); go_simp <;> with_reducible rfl)); (try simp only [Act.put, List.getElem_toArray, List.getElem_cons_succ, List.getElem_cons_zero, List.setIfInBounds_toArray, List.set_cons_zero, List.set_cons_succ]))
        (refine wpAnyH_take (i := 5) (v := ?tv6) rfl (by kernel_rfl) (by kernel_rfl) (by kernel_rfl) (fun _ _ _ h => h) (Or.inl ⟨by kernel_rfl, ?ty6⟩) (by assumption) ?tr6; (case ty6 => (intro w' hSw; (try dsimp only at hSw); go_simp <;> with_reducible rfl)); (try simp only [Act.put, List.getElem_toArray, List.getElem_cons_succ, List.getElem_cons_zero, List.setIfInBounds_toArray, List.set_cons_zero, List.set_cons_succ]))
        (refine wpAnyH_take (i := 6) (v := ?tv7) rfl (by kernel_rfl) (by kernel_rfl) (by kernel_rfl) (fun _ _ _ h => h) (Or.inl ⟨by kernel_rfl, ?ty7⟩) (by assumption) ?tr7; (case ty7 => (intro w' hSw; (try dsimp only at hSw); go_simp <;> with_reducible rfl)); (try simp only [Act.put, List.getElem_toArray, List.getElem_cons_succ, List.getElem_cons_zero, List.setIfInBounds_toArray, List.set_cons_zero, List.set_cons_succ]))
        (refine wpAnyH_take (i := 7) (v := ?tv8) rfl (by kernel_rfl) (by kernel_rfl) (by kernel_rfl) (fun _ _ _ h => h) (Or.inl ⟨by kernel_rfl, ?ty8⟩) (by assumption) ?tr8; (case ty8 => (intro w' hSw; (try dsimp only at hSw); go_simp <;> with_reducible rfl)); (try simp only [Act.put, List.getElem_toArray, List.getElem_cons_succ, List.getElem_cons_zero, List.setIfInBounds_toArray, List.set_cons_zero, List.set_cons_succ]))
        (refine wpAnyH_take (i := 8) (v := ?tv9) rfl (by kernel_rfl) (by kernel_rfl) (by kernel_rfl) (fun _ _ _ h => h) (Or.inl ⟨by kernel_rfl, ?ty9⟩) (by assumption) ?tr9; (case ty9 => (intro w' hSw; (try dsimp only at hSw); go_simp <;> with_reducible rfl)); (try simp only [Act.put, List.getElem_toArray, List.getElem_cons_succ, List.getElem_cons_zero, List.setIfInBounds_toArray, List.set_cons_zero, List.set_cons_succ]))
        (refine wpAnyH_take (i := 9) (v := ?tv10) rfl (by kernel_rfl) (by kernel_rfl) (by kernel_rfl) (fun _ _ _ h => h) (Or.inl ⟨by kernel_rfl, ?ty10⟩) (by assumption) ?tr10; (case ty10 => (intro w' hSw; (try dsimp only at hSw); go_simp <;> with_reducible rfl)); (try simp only [Act.put, List.getElem_toArray, List.getElem_cons_succ, List.getElem_cons_zero, List.setIfInBounds_toArray, List.set_cons_zero, List.set_cons_succ]))
        (refine wpAnyH_take (i := 11) (v := ?tv11) rfl (by kernel_rfl) (by kernel_rfl) (by kernel_rfl) (fun _ _ _ h => h) (Or.inl ⟨by kernel_rfl, ?ty11⟩) (by assumption) ?tr11; (case ty11 => (intro w' hSw; (try dsimp only at hSw); go_simp <;> with_reducible rfl)); (try simp only [Act.put, List.getElem_toArray, List.getElem_cons_succ, List.getElem_cons_zero, List.setIfInBounds_toArray, List.set_cons_zero, List.set_cons_succ]))
        (refine wpAnyH_take (i := 12) (v := ?tv12) rfl (by kernel_rfl) (by kernel_rfl) (by kernel_rfl) (fun _ _ _ h => h) (Or.inl ⟨by kernel_rfl, ?ty12⟩) (by assumption) ?tr12; (case ty12 => (intro w' hSw; (try dsimp only at hSw); go_simp <;> with_reducible rfl)); (try simp only [Act.put, List.getElem_toArray, List.getElem_cons_succ, List.getElem_cons_zero, List.setIfInBounds_toArray, List.set_cons_zero, List.set_cons_succ]))
        (refine wpAnyH_ready (rs := [10]) (by kernel_rfl) (by simp) ?_; refine AllReadyH.cons rfl (fun K hK => ?_) AllReadyH.nil; (first | (go_simp; (first | (go_at_call 22; refine (HK.out _ (vdrew H5.out)).mono ?_; rintro e w8 ⟨rfl, hb8⟩) | (go_at_call 29; refine (hasInt_any _ _ L k _ (HX5.out.below (via hb8 (vdrew (Below.refl _ _)))) (by omega)).mono ?_; rintro e w9 ⟨rfl, rfl⟩)); (try go_wp2_with fail)) | (first | (go_at_call 22; refine (HK.out _ (vdrew H5.out)).mono ?_; rintro e w8 ⟨rfl, hb8⟩) | (go_at_call 29; refine (hasInt_any _ _ L k _ (HX5.out.below (via hb8 (vdrew (Below.refl _ _)))) (by omega)).mono ?_; rintro e w9 ⟨rfl, rfl⟩)) | go_simp); refine hK.out _ _ ?_ (fun hHeld => ?_); (focus ((try dsimp only); (first | done | (first | exact ⟨q0, q1⟩ | (first | go_keep | (go_split_ands; (repeat' apply And.intro) <;> (first | assumption | (refine cB (by assumption) ?_; first | assumption | (simp; assumption)) | (simp; assumption)))))))); clear hK K; (try simp only [Act.put, List.getElem_toArray, List.getElem_cons_succ, List.getElem_cons_zero, List.setIfInBounds_toArray, List.set_cons_zero, List.set_cons_succ]))
        (refine wpAnyH_ready (rs := [13]) (by kernel_rfl) (by simp) ?_; refine AllReadyH.cons rfl (fun K hK => ?_) AllReadyH.nil; (first | (go_simp; (first | (go_at_call 22; refine (HK.out _ (vdrew H5.out)).mono ?_; rintro e w8 ⟨rfl, hb8⟩) | (go_at_call 29; refine (hasInt_any _ _ L k _ (HX5.out.below (via hb8 (vdrew (Below.refl _ _)))) (by omega)).mono ?_; rintro e w9 ⟨rfl, rfl⟩)); (try go_wp2_with fail)) | (first | (go_at_call 22; refine (HK.out _ (vdrew H5.out)).mono ?_; rintro e w8 ⟨rfl, hb8⟩) | (go_at_call 29; refine (hasInt_any _ _ L k _ (HX5.out.below (via hb8 (vdrew (Below.refl _ _)))) (by omega)).mono ?_; rintro e w9 ⟨rfl, rfl⟩)) | go_simp); refine hK.out _ _ ?_ (fun hHeld => ?_); (focus ((try dsimp only); (first | done | (first | exact ⟨q0, q1⟩ | (first | go_keep | (go_split_ands; (repeat' apply And.intro) <;> (first | assumption | (refine cB (by assumption) ?_; first | assumption | (simp; assumption)) | (simp; assumption)))))))); clear hK K; (try simp only [Act.put, List.getElem_toArray, List.getElem_cons_succ, List.getElem_cons_zero, List.setIfInBounds_toArray, List.set_cons_zero, List.set_cons_succ]))
        (refine wpAnyH_take (i := 14) (v := ?tv15) rfl (by kernel_rfl) (by kernel_rfl) (by kernel_rfl) (fun _ _ _ h => h) (Or.inl ⟨by kernel_rfl, ?ty15⟩) (by assumption) ?tr15; (case ty15 => (intro w' hSw; (try dsimp only at hSw); go_simp <;> with_reducible rfl)); (try simp only [Act.put, List.getElem_toArray, List.getElem_cons_succ, List.getElem_cons_zero, List.setIfInBounds_toArray, List.set_cons_zero, List.set_cons_succ]))
        refine wpAnyH_done (by kernel_rfl) ?_ _
        have H8 := Lib.hid (via hb8 (vdrew H5.out))
        have hbb : ((!hasI L k) == hasI L k) = false := by cases hasI L k <;> rfl
        go_wp2
        go_roundw
        case rel => exact ⟨k + 1, by omega, by go_num, H8.out⟩
        case measure => simp [intOf]; omega
    · have BW := Lib.hid HB.out; go_wp2_with fail; refine (ascend_any _ _ L _ (X4.out.below BW.out) (by omega) ASC.out).mono ?_; rintro e wa ⟨rfl, hba⟩; go_wp2_with fail; refine (alive_any _).mono ?_; rintro e wb ⟨rfl, hbb⟩; go_wp2; go_ret; exact ⟨rfl, via hbb (via hba (B4.out.trans (BW.out.mono B4.out.size)))⟩
end Go.Proofs.Ytaifpindiphlkaa
