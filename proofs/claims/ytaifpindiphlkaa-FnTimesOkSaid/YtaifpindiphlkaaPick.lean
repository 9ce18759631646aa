/- The reader of a code: l20Open, pick, odd; for codes of bytes, whatever they are. -/
import Derived.Test.YtaifpindiphlkaaKA
import Derived.Deep.QuietTactic
import Derived.BigQuiet
import Derived.IntWalk
import Derived.Laws.BitsAllLaws
import Derived.Laws.BitsLemmas
namespace Go.Proofs.Ytaifpindiphlkaa
open Go.RowKit
set_option linter.unusedVariables false
set_option maxRecDepth 10000
set_option linter.unusedSimpArgs false

/-- The slice at A reads, in world w, as the bytes xs; its block lies below block number base. -/
def YAt (w : World) (base : Nat) (A : Option Addr) (xs : List Int) : Prop :=
  0 < xs.length → ∃ b off, A = some ⟨b, off, none⟩ ∧ b < base ∧ b < w.heap.size ∧ ∀ i x, xs[i]? = some x → w.cell? ⟨b, off + i, none⟩ = some (.int .u8 x)
theorem YAt.at_ {w : World} {base : Nat} {A : Option Addr} {xs : List Int} (h : YAt w base A xs) {k : Nat} (hk : k < xs.length) : ∃ b off x, A = some ⟨b, off, none⟩ ∧ b < base ∧ b < w.heap.size ∧ xs[k]? = some x ∧ x ∈ xs ∧ w.cell? ⟨b, off + k, none⟩ = some (.int .u8 x) := by
  obtain ⟨b, off, e, hb, hlt, hc⟩ := h (by omega)
  have hx : xs[k]? = some xs[k] := List.getElem?_eq_getElem hk
  exact ⟨b, off, xs[k], e, hb, hlt, hx, List.getElem_mem hk, hc k _ hx⟩
theorem YAt.same {w w1 : World} {base : Nat} {A : Option Addr} {xs : List Int} (h : YAt w base A xs) (hs : Same 0 base w w1) (hb : base ≤ w.heap.size) : YAt w1 base A xs := by
  intro hl
  obtain ⟨b, off, e, h1, h2, hc⟩ := h hl
  obtain ⟨h3, h4⟩ := hs.out hb
  exact ⟨b, off, e, h1, by omega, fun i x hx => (World.cell?_of_block (w := w) (a := ⟨b, off + i, none⟩) (h4 b (Nat.zero_le _) h1)).trans (hc i x hx)⟩
/-- Block g is a reader of bytes that has read at most q of them; what it reads lies below block number base. -/
def Rd (w : World) (base g q : Nat) : Prop := ∃ A c xs p, Blk w g 81 #[.slice A (List.length xs) c, .int .i64 ((p : Nat) : Int)] ∧ YAt w base A xs ∧ xs.length ≤ 2000 ∧ (∀ x ∈ xs, 0 ≤ x ∧ x ≤ 255) ∧ p ≤ q ∧ base ≤ g
theorem Rd.lt {w : World} {base g q : Nat} (h : Rd w base g q) : g < w.heap.size := by
  obtain ⟨A, c, xs, p, hB, _⟩ := h
  exact hB.lt
theorem Rd.base_le {w : World} {base g q : Nat} (h : Rd w base g q) : base ≤ g := by
  obtain ⟨A, c, xs, p, hB, _, _, _, _, h⟩ := h
  exact h
theorem Rd.mono {w : World} {base g q q' : Nat} (h : Rd w base g q) (hq : q ≤ q') : Rd w base g q' := by
  obtain ⟨A, c, xs, p, h1, h2, h3, h4, h5, h6⟩ := h
  exact ⟨A, c, xs, p, h1, h2, h3, h4, by omega, h6⟩
theorem Rd.same {w w1 : World} {base g q : Nat} (h : Rd w base g q) (hs : Same 0 (g + 1) w w1) : Rd w1 base g q := by
  have hlt := h.lt
  obtain ⟨A, c, xs, p, h1, h2, h3, h4, h5, h6⟩ := h
  obtain ⟨h7, h8⟩ := hs.out (by omega)
  refine ⟨A, c, xs, p, (h8 g (Nat.zero_le _) (by omega)).trans h1, h2.same ⟨fun _ => ⟨by omega, fun k hk hk' => h8 k hk (by omega)⟩⟩ (by omega), h3, h4, h5, h6⟩
/-- A number below n (0 if n is less than 1); the reader has read one byte more, and nothing else has turned. -/
def Picked (base g q : Nat) (n : Int) (w : World) (e : Ending) (w' : World) : Prop := ∃ k : Int, e = .returned (.int .i64 k) ∧ 0 ≤ k ∧ (1 ≤ n → k < n) ∧ (n < 1 → k = 0) ∧ Rd w' base g (q + 1) ∧ Only g (g + 1) w w' ∧ w.heap.size ≤ w'.heap.size
theorem ofInt_i64 (a : Nat) (ha : a < 9223372036854775808) : (BitVec.ofInt 64 (a : Int)).toNat = a := by
  rw [BitVec.ofInt_natCast, BitVec.toNat_ofNat]; exact Nat.mod_eq_of_lt (by omega)
theorem i64_xor_nat (a b : Nat) (ha : a < 9223372036854775808) (hb : b < 9223372036854775808) : bits .xor .i64 (a : Int) (b : Int) = ((a ^^^ b : Nat) : Int) := by
  have hx : a ^^^ b < 2 ^ 63 := Nat.xor_lt_two_pow (by omega) (by omega)
  show IntKind.i64.wrap ((BitVec.ofInt 64 (a : Int) ^^^ BitVec.ofInt 64 (b : Int)).toNat : Int) = _
  rw [BitVec.toNat_xor, ofInt_i64 a ha, ofInt_i64 b hb, IntKind.wrap_i64]
  omega
theorem Rd.drewN {w : World} {base g q : Nat} (h : Rd w base g q) (n : Nat) : Rd (w.drewN n) base g q := h
theorem Rd.drew {w : World} {base g q : Nat} (h : Rd w base g q) : Rd w.drew base g q := h
theorem Rd.step {w : World} {base g : Nat} {A : Option Addr} {c p q : Nat} {xs : List Int} (hB : Blk w g 81 #[.slice A xs.length c, .int .i64 (p : Int)]) (hY : YAt w base A xs) (h3 : xs.length ≤ 2000) (h4 : ∀ x ∈ xs, 0 ≤ x ∧ x ≤ 255) (h5 : p ≤ q) (h6 : base ≤ g) :
    Rd (w.setCell ⟨g, 1, none⟩ (.int .i64 ((p : Int) + 1))) base g (q + 1) := by
  have hlt := hB.lt
  have hs : Same 0 base w (w.setCell ⟨g, 1, none⟩ (.int .i64 ((p : Int) + 1))) := (Same.refl _ _ _).set_ (.inr h6) _
  refine ⟨A, c, xs, p + 1, ?_, hY.same hs (by omega), h3, h4, by omega, h6⟩
  have := hB.set_ 1 (.int .i64 ((p : Int) + 1))
  simpa using this
theorem Only.one (w : World) (g o : Nat) (v : Value) : Only g (g + 1) w (w.setCell ⟨g, o, none⟩ v) := (Only.refl g (g + 1) w).set_ (p := ⟨g, o, none⟩) (Nat.le_refl _) (Nat.lt_succ_self _) v
set_option maxHeartbeats 2000000 in
theorem pick_any (base g q : Nat) (n : Int) (w : World) (h : Rd w base g q) (hq : q ≤ 1000000) :
    Calls Try.prog 56 #[.pointer (some ⟨g, 0, none⟩), .int .i64 n] w (Picked base g q n w) := by
  obtain ⟨A, c, xs, p, hB, hY, h3, h4, h5, h6⟩ := h
  have c0 : w.cell? ⟨g, 0, none⟩ = some (.slice A xs.length c) := hB.cell 0
  have c1 : w.cell? ⟨g, 1, none⟩ = some (.int .i64 p) := hB.cell 1
  have f1 := hB.frozen 1
  have HR := Lib.hid (Rd.step hB hY h3 h4 h5 h6)
  have HO := Lib.hid (Only.one w g 1 (.int .i64 ((p : Int) + 1)))
  have HB := Lib.hid hB
  have HY := Lib.hid hY
  have H4 := Lib.hid h4
  clear hB hY h4
  by_cases hn : n < 1
  · go_enter Try.func56, Try.ntmps56
    go_wp2
    go_ret
    exact ⟨0, rfl, by omega, fun h => by omega, fun _ => rfl, HR.out, HO.out, HO.out.size⟩
  by_cases hl : xs.length = 0
  · have hl' : ((xs.length : Int) == 0) = true := by simp [hl]
    clear hl
    go_enter Try.func56, Try.ntmps56
    go_wp2
    go_ret
    exact ⟨0, rfl, by omega, fun h => by omega, fun _ => rfl, HR.out, HO.out, HO.out.size⟩
  have hl' : ((xs.length : Int) == 0) = false := beq_eq_false_iff_ne.2 (by omega)
  have hl0 : (0 : Int) < (xs.length : Int) := by omega
  by_cases hk : p < xs.length
  · obtain ⟨b, off, x, rfl, hb1, hb2, hx, hxm, cx⟩ := HY.out.at_ hk
    have hxb := H4.out x hxm
    have hne : b ≠ g := by omega
    clear hl
    go_enter Try.func56, Try.ntmps56
    go_wp2
    go_ret
    have m1 : 0 ≤ x % n := Int.emod_nonneg x (show n ≠ 0 by omega)
    have m2 : x % n < n := Int.emod_lt_of_pos x (by omega)
    exact ⟨x % n, rfl, m1, fun _ => m2, fun h => absurd h (by omega), HR.out, HO.out, HO.out.size⟩
  · have hm1 : p % xs.length < xs.length := Nat.mod_lt _ (by omega)
    have hm2 : (p * 7 + 3) % xs.length < xs.length := Nat.mod_lt _ (by omega)
    have e1 : ((p : Int)).tmod (xs.length : Int) = ((p % xs.length : Nat) : Int) := by rw [Int.natCast_emod]; exact Int.tmod_eq_emod_of_nonneg (by omega)
    have e2 : ((p : Int) * 7 + 3).tmod (xs.length : Int) = (((p * 7 + 3) % xs.length : Nat) : Int) := by rw [Int.natCast_emod]; exact Int.tmod_eq_emod_of_nonneg (by omega)
    have e3 : ((p : Int)).tdiv (xs.length : Int) = ((p / xs.length : Nat) : Int) := by rw [Int.natCast_ediv]; exact Int.tdiv_eq_ediv_of_nonneg (by omega)
    have hd : p / xs.length ≤ p := Nat.div_le_self _ _
    generalize p % xs.length = i1 at hm1 e1
    generalize (p * 7 + 3) % xs.length = i2 at hm2 e2
    generalize p / xs.length = dv at hd e3
    obtain ⟨b, off, x, rfl, hb1, hb2, hx, hxm, cx⟩ := HY.out.at_ hm1
    obtain ⟨b', off', y, eB, _, _, hy, hym, cy⟩ := HY.out.at_ hm2
    obtain ⟨rfl, rfl⟩ : b = b' ∧ off = off' := by injection eB with e'; injection e' with e1 e2; exact ⟨e1, e2⟩
    obtain ⟨x0, x1⟩ := H4.out x hxm
    obtain ⟨y0, y1⟩ := H4.out y hym
    have hne : b ≠ g := by omega
    obtain ⟨x, rfl⟩ := Int.eq_ofNat_of_zero_le x0
    obtain ⟨y, rfl⟩ := Int.eq_ofNat_of_zero_le y0
    have w1 : IntKind.i64.wrap ((p : Int) * 7) = (p : Int) * 7 := IntWalk.i64_in _ ⟨by omega, by omega⟩
    have w2 : IntKind.i64.wrap ((p : Int) * 7 + 3) = (p : Int) * 7 + 3 := IntWalk.i64_in _ ⟨by omega, by omega⟩
    have w3 : IntKind.i64.wrap ((x : Int) * 131) = (x : Int) * 131 := IntWalk.i64_in _ ⟨by omega, by omega⟩
    have w4 : IntKind.i64.wrap ((y : Int) * 1117) = (y : Int) * 1117 := IntWalk.i64_in _ ⟨by omega, by omega⟩
    have w5 : IntKind.i64.wrap ((x : Int) * 131 + (y : Int) * 1117) = (x : Int) * 131 + (y : Int) * 1117 := IntWalk.i64_in _ ⟨by omega, by omega⟩
    have w6 : IntKind.i64.wrap ((p : Int) * 29) = (p : Int) * 29 := IntWalk.i64_in _ ⟨by omega, by omega⟩
    have w7 : IntKind.i64.wrap ((x : Int) * 131 + (y : Int) * 1117 + (p : Int) * 29) = (x : Int) * 131 + (y : Int) * 1117 + (p : Int) * 29 := IntWalk.i64_in _ ⟨by omega, by omega⟩
    have w8 : IntKind.i64.wrap ((dv : Int) * 53) = (dv : Int) * 53 := IntWalk.i64_in _ ⟨by omega, by omega⟩
    have w9 : IntKind.i64.wrap ((x : Int) * 131 + (y : Int) * 1117 + (p : Int) * 29 + (dv : Int) * 53) = (x : Int) * 131 + (y : Int) * 1117 + (p : Int) * 29 + (dv : Int) * 53 := IntWalk.i64_in _ ⟨by omega, by omega⟩
    have i10 : (0 : Int) ≤ (i1 : Int) := by omega
    have i11 : (i1 : Int) < (xs.length : Int) := by omega
    have i20 : (0 : Int) ≤ (i2 : Int) := by omega
    have i21 : (i2 : Int) < (xs.length : Int) := by omega
    clear hx hy eB hl
    go_enter Try.func56, Try.ntmps56
    go_wp2
    go_quiet (fail)
    clear w1 w2 w3 w4 w5 w6 w7 w8 w9 e1 e2 e3
    obtain ⟨X, hX, hXb⟩ : ∃ X : Nat, (x : Int) * 131 + (y : Int) * 1117 + (p : Int) * 29 + (dv : Int) * 53 = (X : Int) ∧ X ≤ 1000000000 := ⟨x * 131 + y * 1117 + p * 29 + dv * 53, by omega, by omega⟩
    rw [hX]
    clear hX
    have hxor : bits .xor .i64 (X : Int) ((X : Int) / 64) = ((X ^^^ (X / 64) : Nat) : Int) := by
      have := i64_xor_nat X (X / 64) (by omega) (by omega)
      rwa [Int.natCast_ediv] at this
    have hZ0 : (0 : Int) ≤ ((X ^^^ (X / 64) : Nat) : Int) := by omega
    generalize X ^^^ (X / 64) = Z at hxor hZ0
    go_wp2
    go_ret
    have m1 : 0 ≤ (Z : Int) % n := Int.emod_nonneg _ (show n ≠ 0 by omega)
    have m2 : (Z : Int) % n < n := Int.emod_lt_of_pos _ (by omega)
    exact ⟨(Z : Int) % n, rfl, m1, fun _ => m2, fun h => by omega, HR.out.drewN _, HO.out.drewN _, (HO.out.drewN _).size⟩
/-- A truth; the reader has read one byte more at most, and nothing else has turned. -/
def Odd (base g q : Nat) (w : World) (e : Ending) (w' : World) : Prop := ∃ b : Bool, e = .returned (.bool b) ∧ Rd w' base g (q + 1) ∧ Only g (g + 1) w w' ∧ w.heap.size ≤ w'.heap.size
theorem odd_any (base g q : Nat) (n : Int) (w : World) (h : Rd w base g q) (hq : q ≤ 1000000) (hn : 1 ≤ n) (hn2 : n ≤ 1000) :
    Calls Try.prog 69 #[.pointer (some ⟨g, 0, none⟩), .int .i64 n] w (Odd base g q w) := by
  go_enter Try.func69, Try.ntmps69
  go_wp2_with fail
  refine (pick_any base g q n w h hq).mono ?_
  rintro e w1 ⟨k, rfl, _, _, _, hr, ho, hs⟩
  go_wp2
  go_ret
  exact ⟨_, rfl, hr, ho, hs⟩
/-- A new reader at the beginning of the code. -/
def Opened (w : World) (e : Ending) (w' : World) : Prop := ∃ g, e = .returned (.pointer (some ⟨g, 0, none⟩)) ∧ Rd w' w.heap.size g 0 ∧ Below w.heap.size w w' ∧ g < w'.heap.size
theorem open_any (A : Option Addr) (c : Nat) (xs : List Int) (w : World) (h : YAt w w.heap.size A xs) (hb : ∀ x ∈ xs, 0 ≤ x ∧ x ≤ 255) (hlen : xs.length ≤ c) (hc : c ≤ 9223372036854775807) :
    Calls Try.prog 45 #[.slice A xs.length c] w (Opened w) := by
  by_cases hl : 2000 < xs.length
  · have h2000 : (2000 : Int) < (xs.length : Int) := by omega
    obtain ⟨b, off, rfl, hb1, hb2, hcell⟩ := h (by omega)
    have HC := Lib.hid hcell
    have HB := Lib.hid hb
    have hc2 : (2000 : Int) ≤ (c : Int) := by omega
    clear hcell hb h
    go_enter Try.func45, Try.ntmps45
    go_wp2
    go_ret
    have hl2 : (xs.take 2000).length = 2000 := by rw [List.length_take]; omega
    refine ⟨w.heap.size, rfl, ⟨some ⟨b, off, none⟩, c, xs.take 2000, 0, ?_, ?_, by omega, fun x hx => HB.out x (List.mem_of_mem_take hx), Nat.le_refl _, Nat.le_refl _⟩, valloc (Below.refl _ _) _, by simp⟩
    · rw [hl2]; exact Blk.new _ _ _
    · intro _
      refine ⟨b, off, rfl, hb1, by simp; omega, fun i x hx => cA (HC.out i x ?_) _⟩
      have hi : i < 2000 := by have := (List.getElem?_eq_some_iff.1 hx).1; omega
      rwa [List.getElem?_take_of_lt hi] at hx
  · have HB := Lib.hid hb
    have HY := Lib.hid h
    clear hb h
    go_enter Try.func45, Try.ntmps45
    go_wp2
    go_ret
    exact ⟨w.heap.size, rfl, ⟨A, c, xs, 0, Blk.new _ _ _, HY.out.same ((Same.refl _ _ _).alloc _) (Nat.le_refl _), by omega, HB.out, Nat.le_refl _, Nat.le_refl _⟩, valloc (Below.refl _ _) _, by simp⟩
end Go.Proofs.Ytaifpindiphlkaa
