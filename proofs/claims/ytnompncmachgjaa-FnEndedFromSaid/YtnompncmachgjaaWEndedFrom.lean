/- The walk of the law FnEndedFrom: it returns true and changes nothing that was there; for codes of bytes. -/
import Derived.Test.YtnompncmachgjaaAlive
import Derived.Test.YtnompncmachgjaaDrawJ4
import Derived.Test.YtnompncmachgjaaPlainL2
import Derived.Test.YtnompncmachgjaaEnded2
import Derived.Test.YtnompncmachgjaaKB
namespace Go.Proofs.Ytnompncmachgjaa
open Go.RowKit
set_option linter.unusedVariables false
set_option maxRecDepth 10000
set_option linter.unusedSimpArgs false

theorem fit_nat' {n : Int} {bs : List Bd} (h : fitsOk n bs = true) : ∃ N : Nat, n = N ∧ 1 ≤ N ∧ N ≤ 6 := by
  have := planOk_of (fits_plan h)
  exact ⟨n.toNat, by omega, by omega, by omega⟩
theorem IAt.takeE {w : World} {A : Option Addr} {xs ys : List Int} {k : Nat} (h : IAt w A xs) (e : xs.take k = ys) : IAt w A ys := by
  subst e
  intro h0
  obtain ⟨b, off, e, hl, hc⟩ := h (by rw [List.length_take] at h0; omega)
  refine ⟨b, off, e, hl, fun i x hx => hc i x ?_⟩
  have hi : i < k := by have := (List.getElem?_eq_some_iff.1 hx).1; rw [List.length_take] at this; omega
  rwa [List.getElem?_take_of_lt hi] at hx
set_option maxHeartbeats 1000000 in
theorem FnEndedFrom_walk (A : Option Addr) (c : Nat) (xs : List Int) (w : World) (hB : Bytes w A c xs) (hl : xs.length ≤ 9223372036854775807) :
    Calls Try.prog 15 #[.slice A xs.length c] w fun e w' => e = .returned (.bool true) ∧ Below w.heap.size w w' := by
  by_cases hL : (1048576 : Int) < (xs.length : Int)
  · go_enter Try.func15, Try.ntmps15
    go_wp2
    go_ret
    exact ⟨rfl, Below.refl _ _⟩
  go_enter Try.func15, Try.ntmps15
  go_wp2_with fail
  refine (drawEndedFrom_any A c xs _ hB).mono ?_; rintro e w1 ⟨n, A1, c1, bs, G, cg, ts, rfl, ⟨hf0, hf7, hfl, hfm⟩, hc, hn, ⟨ht6, hcg, hng⟩, hrb, hri, hb1⟩
  have HR := Lib.hid hrb
  have HI := Lib.hid hri
  have HFM := Lib.hid hfm
  have HNG := Lib.hid hng
  clear hrb hri hn hng hfm
  have hz1 := hb1.size
  have hml := endedL_len n bs ts
  go_wp2_with fail
  refine (endedFrom_len _ _ _ _ _ bs ts _ (HR.out.bat.below (by repeat (first | with_reducible exact Below.refl _ _ | with_reducible refine valloc ?_ _ | with_reducible refine vdrew ?_ | with_reducible refine vdrewN ?_ _ | with_reducible refine via (by assumption) ?_ | refine vset ?_ (by first | exact Nat.le_refl _ | (simp; done) | (simp; omega) | omega) _))) (HI.out.iat.below (by repeat (first | with_reducible exact Below.refl _ _ | with_reducible refine valloc ?_ _ | with_reducible refine vdrew ?_ | with_reducible refine vdrewN ?_ _ | with_reducible refine via (by assumption) ?_ | refine vset ?_ (by first | exact Nat.le_refl _ | (simp; done) | (simp; omega) | omega) _))) hcg HNG.out (by omega) (by omega)).mono ?_; rintro e w2 ⟨G1, C1, rfl, r1, hc1, hb2⟩
  have p0 : w2.cell? ⟨w1.heap.size, 0, none⟩ = some (.int .i64 n) := cB hb2 (by simp)
  have p1 : w2.cell? ⟨w1.heap.size, 1, none⟩ = some (.slice A1 bs.length c1) := cB hb2 (by simp)
  have R1 := Lib.hid r1
  clear r1
  go_wp2_with fail
  refine (specEndedFrom_cap _ _ _ _ _ bs ts _ (HR.out.bat.below (by repeat (first | with_reducible exact Below.refl _ _ | with_reducible refine valloc ?_ _ | with_reducible refine vdrew ?_ | with_reducible refine vdrewN ?_ _ | with_reducible refine via (by assumption) ?_ | refine vset ?_ (by first | exact Nat.le_refl _ | (simp; done) | (simp; omega) | omega) _))) (HI.out.iat.below (by repeat (first | with_reducible exact Below.refl _ _ | with_reducible refine valloc ?_ _ | with_reducible refine vdrew ?_ | with_reducible refine vdrewN ?_ _ | with_reducible refine via (by assumption) ?_ | refine vset ?_ (by first | exact Nat.le_refl _ | (simp; done) | (simp; omega) | omega) _))) HNG.out (by omega) (by omega)).mono ?_; rintro e w3 ⟨G2, C2, rfl, r2, hb3⟩
  replace p0 := cB hb3 p0
  replace p1 := cB hb3 p1
  go_wp2_with fail
  refine (sameInts_same _ _ _ _ (endedL n bs ts) _ (R1.out.iat.below (by repeat (first | with_reducible exact Below.refl _ _ | with_reducible refine valloc ?_ _ | with_reducible refine vdrew ?_ | with_reducible refine vdrewN ?_ _ | with_reducible refine via (by assumption) ?_ | refine vset ?_ (by first | exact Nat.le_refl _ | (simp; done) | (simp; omega) | omega) _))) r2.iat (by omega)).mono ?_; rintro e w4 ⟨rfl, hb4⟩
  replace p0 := cB hb4 p0
  replace p1 := cB hb4 p1
  have B4 := Lib.hid (show Below w.heap.size w w4 from (by repeat (first | with_reducible exact Below.refl _ _ | with_reducible refine valloc ?_ _ | with_reducible refine vdrew ?_ | with_reducible refine vdrewN ?_ _ | with_reducible refine via (by assumption) ?_ | refine vset ?_ (by first | exact Nat.le_refl _ | (simp; done) | (simp; omega) | omega) _)))
  have Q4 := Lib.hid (show BAt w4 A1 bs from HR.out.bat.below (by repeat (first | with_reducible exact Below.refl _ _ | with_reducible refine valloc ?_ _ | with_reducible refine vdrew ?_ | with_reducible refine vdrewN ?_ _ | with_reducible refine via (by assumption) ?_ | refine vset ?_ (by first | exact Nat.le_refl _ | (simp; done) | (simp; omega) | omega) _)))
  have I4 := Lib.hid (show IAt w4 G ts from HI.out.iat.below (by repeat (first | with_reducible exact Below.refl _ _ | with_reducible refine valloc ?_ _ | with_reducible refine vdrew ?_ | with_reducible refine vdrewN ?_ _ | with_reducible refine via (by assumption) ?_ | refine vset ?_ (by first | exact Nat.le_refl _ | (simp; done) | (simp; omega) | omega) _)))
  have X4 := Lib.hid (show IAt w4 G1 (endedL n bs ts) from R1.out.iat.below (by repeat (first | with_reducible exact Below.refl _ _ | with_reducible refine valloc ?_ _ | with_reducible refine vdrew ?_ | with_reducible refine vdrewN ?_ _ | with_reducible refine via (by assumption) ?_ | refine vset ?_ (by first | exact Nat.le_refl _ | (simp; done) | (simp; omega) | omega) _)))
  clear hb1 hb2 hb3 hb4 hB hc R1 r2 HR HI
  cases hs : startB n bs ts
  · have e0 : endedL n bs ts = [] := by simp [endedL, hs]
    rw [e0]
    have HS := Lib.hid hs
    clear hml X4 hs e0 hc1
    go_wp2_with fail
    refine (startOk_cap _ _ _ _ _ bs ts _ Q4.out I4.out hcg (by omega) (by omega)).mono ?_; rintro e w5 ⟨rfl, hb5⟩
    rw [HS.out]
    go_wp2_with fail
    refine (alive_any _).mono ?_; rintro e w6 ⟨rfl, hb6⟩
    go_wp2
    go_ret
    exact ⟨rfl, via hb6 (via hb5 B4.out)⟩
  · obtain ⟨el, et, ek, _⟩ := ended_law (M := 63) hs (by omega) (by omega) (HFM.out (fits_plan (startB_fit hs).1))
    obtain ⟨N, hN, n1, n6⟩ := fit_nat' (startB_fit hs).1
    subst hN
    have hll : (endedL N bs ts).length = N := by omega
    have HLL := Lib.hid hll
    have HET := Lib.hid et
    have HEK := Lib.hid ek
    have htN : ts.length ≤ N := by have := (startB_fit hs).2; omega
    rw [hll] at hc1 ⊢
    clear hs el et ek hll hml
    generalize endedL N bs ts = L at *
    obtain ⟨bX, oX, xX, eX, _, _, _, _⟩ := X4.out.at_ (show 0 < L.length by have := HLL.out; omega)
    subst eX
    have i0 : (0 : Int) ≤ (ts.length : Int) := by omega
    have i1 : (ts.length : Int) ≤ (C1 : Int) := by omega
    have HS := Lib.hid (fun W (h : IAt W (some ⟨bX, oX, none⟩) ts) (h2 : IAt W G ts) => show ∀ c', Calls Try.prog 20 #[.slice (some ⟨bX, oX, none⟩) ts.length c', .slice G ts.length cg] W fun e w' => e = .returned (.bool true) ∧ Below W.heap.size W w' from fun c' => sameInts_same _ _ _ _ ts W h h2 (by omega))
    go_wp2_with fail
    refine (HS.out _ (X4.out.takeE HET.out) I4.out _).mono ?_; rintro e w5 ⟨rfl, hb5⟩
    replace p0 := cB hb5 p0
    replace p1 := cB hb5 p1
    have HK := Lib.hid (fun W (h : BAt W A1 bs) (h2 : IAt W (some ⟨bX, oX, none⟩) L) => show Calls Try.prog 25 #[.agg #[.int .i64 N, .slice A1 bs.length c1], .slice (some ⟨bX, oX, none⟩) N C1] W fun e w' => e = .returned (.bool true) ∧ Below W.heap.size W w' by
      have := keepsOk_any N A1 (some ⟨bX, oX, none⟩) c1 C1 bs L W h h2 (by omega) (by have := HLL.out; omega)
      rw [HEK.out, HLL.out] at this
      exact this)
    go_wp2_with fail
    refine (HK.out _ (Q4.out.below hb5) (X4.out.below hb5)).mono ?_; rintro e w6 ⟨rfl, hb6⟩
    go_wp2
    go_ret
    exact ⟨rfl, via hb6 (via hb5 B4.out)⟩
end Go.Proofs.Ytnompncmachgjaa
