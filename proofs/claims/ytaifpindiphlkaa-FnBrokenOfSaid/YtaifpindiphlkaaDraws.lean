/- Contracts of the draws of a plan alone; for codes of bytes, whatever they are. -/
import Derived.Test.YtaifpindiphlkaaDrawTimes
namespace Go.Proofs.Ytaifpindiphlkaa
open Go.RowKit
set_option linter.unusedVariables false
set_option maxRecDepth 10000
set_option linter.unusedSimpArgs false

/-- The slice at A reads, in world w, as the bytes xs. -/
def Bytes (w : World) (A : Option Addr) (c : Nat) (xs : List Int) : Prop := YAt w w.heap.size A xs ∧ (∀ x ∈ xs, 0 ≤ x ∧ x ≤ 255) ∧ xs.length ≤ c ∧ c ≤ 9223372036854775807
theorem YAt.wide {w : World} {base base' : Nat} {A : Option Addr} {xs : List Int} (h : YAt w base A xs) (hb : base ≤ base') : YAt w base' A xs := by
  intro h0
  obtain ⟨b, off, e, h1, h2, h3⟩ := h h0
  exact ⟨b, off, e, by omega, h2, h3⟩
theorem Bytes.alloc {w : World} {A : Option Addr} {c : Nat} {xs : List Int} (h : Bytes w A c xs) (o : Obj) : Bytes (w.alloc o) A c xs := by
  obtain ⟨h1, h2, h3, h4⟩ := h
  exact ⟨(h1.same ((Same.refl _ _ _).alloc o) (Nat.le_refl _)).wide (by rw [sz]; omega), h2, h3, h4⟩
theorem open_of {w : World} {A : Option Addr} {c : Nat} {xs : List Int} (h : Bytes w A c xs) : Calls Try.prog 45 #[.slice A xs.length c] w (Opened w) := open_any A c xs w h.1 h.2.1 h.2.2.1 h.2.2.2
/-- Some plan, in new memory; nothing that was there has turned. -/
def DrawnP (w : World) (e : Ending) (w' : World) : Prop :=
  ∃ (n : Int) (A : Option Addr) (c : Nat) (bs : List Bd), e = .returned (.agg #[.int .i64 n, .slice A bs.length c]) ∧ PlanFacts n bs ∧ bs.length ≤ c ∧ (A = none → c = 0) ∧ RB w' w.heap.size w'.heap.size A bs ∧ Below w.heap.size w w'
theorem drawnP_end {w W : World} {lo : Nat} {n : Int} {A : Option Addr} {c : Nat} {bs : List Bd} {e : Ending} {u0 u1 : Value} (hf : PlanFacts n bs) (hc : bs.length ≤ c) (hn : A = none → c = 0) (hr : RB W lo W.heap.size A bs) (hlo : w.heap.size < lo) (hb : Below w.heap.size w W) (he : e = .returned (.agg #[.int .i64 n, .slice A bs.length c])) :
    DrawnP w e ((W.setCell ⟨w.heap.size, 0, none⟩ u0).setCell ⟨w.heap.size, 1, none⟩ u1) := by
  refine ⟨n, A, c, bs, he, hf, hc, hn, ?_, vset (vset hb (Nat.le_refl _) _) (Nat.le_refl _) _⟩
  have hs : ((W.setCell ⟨w.heap.size, 0, none⟩ u0).setCell ⟨w.heap.size, 1, none⟩ u1).heap.size = W.heap.size := by rw [szc, szc]
  rw [hs]
  exact (hr.same (((Same.refl _ _ _).set_ (.inl (by dsimp only; omega)) _).set_ (.inl (by dsimp only; omega)) _) (Nat.le_refl _)).wide (by omega) (Nat.le_refl _)
theorem drawPlanOk_any (A : Option Addr) (c : Nat) (xs : List Int) (w : World) (h : Bytes w A c xs) : Calls Try.prog 11 #[.slice A xs.length c] w (DrawnP w) := by
  go_enter Try.func11, Try.ntmps11
  go_wp2_with fail
  refine (open_of (h.alloc _)).mono ?_; rintro e w1 ⟨g, rfl, hr1, hb1, hg1⟩
  have hgb := hr1.base_le
  have hz1 := hb1.size
  simp only [sz] at hgb hz1
  go_wp2_with fail
  refine (plan_any _ g 0 _ w1 hr1 (by omega) (by omega) (by omega)).mono ?_; rintro e w2 ⟨n, A2, c2, bs, rfl, hf, hc, hn, hrb, hrd, ho⟩
  have q0 : w2.cell? ⟨w.heap.size, 0, none⟩ = some (.int .i64 0) := Only.cell ho (cBel hb1 (by simp) (by simp)) (by omega)
  have q1 : w2.cell? ⟨w.heap.size, 1, none⟩ = some (.slice none 0 0) := Only.cell ho (cBel hb1 (by simp) (by simp)) (by omega)
  have qb : Blk w2 w.heap.size 25 #[.int .i64 0, .slice none 0 0] := (((Blk.new w _ _).below hb1 (by simp)).only ho (by omega))
  have f0 := qb.frozen 0
  have f1 := qb.frozen 1
  have HB := Lib.hid (viaOnly ho (by omega) (via hb1 (valloc (Below.refl w.heap.size w) _)))
  have HRB := Lib.hid hrb
  have HN := Lib.hid hn
  clear hb1 ho hrb hn qb hr1 hrd
  go_wp2
  refine bodyPost_ret (v := .agg #[.int .i64 n, .slice A2 bs.length c2]) (by simp [results, Try.results11, go_sem, q0, q1]) rfl (drawnP_end hf hc HN.out HRB.out (by omega) HB.out rfl)
end Go.Proofs.Ytaifpindiphlkaa
