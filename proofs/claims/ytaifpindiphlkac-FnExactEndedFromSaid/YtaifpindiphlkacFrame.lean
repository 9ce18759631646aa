/- How the arguments of the laws are read: plans, rows of ints; no condition. -/
import Derived.Test.YtaifpindiphlkacKA
import Derived.OpenShut
import Derived.ShutString
import Derived.ChangeOld
import Derived.Below
import Derived.Lib.SmallJoins
import Derived.Deep.Slices
import Derived.Deep.Fields
import Derived.ChangeSame
namespace Go.Proofs.Ytaifpindiphlkac
open Go.ChangeShapes Go.WideShapes Go.ChangeAt Go.RowKit Go.Deep
open Go.ChangeMaps (open_string shut_string)
open Go.Joins
set_option linter.unusedVariables false
set_option maxRecDepth 10000
set_option linter.unusedSimpArgs false

theorem own : ownKnob Try.prog.godebug = none := by kernel_rfl
theorem laidOut : laidOutB Try.prog = true := by kernel_rfl

section
variable {H : Type} {enc : TypeId × Value → H} {P : Program} {w : World} {base : Nat} {spare : Nat → Bool} {held : Bool}
theorem open_slice_fields {t e : TypeId} {fs : Array Field} {fuel : Nat} {cs : List Value} {x : DataW H × List MemPlace} (ht : P.underlying t = some (.slice e)) (he : P.underlying e = some (.struct fs))
    (hone : oneCellFields P fs = true) (hC : P.cellsOf e = fs.size) (h : DataW.trod enc P w base spare held fuel t cs = some x) :
    (cs = [.slice none 0 0] ∧ x = (.nil, [])) ∨
    ∃ (a : Addr) (len cap m : Nat) (D : Nat → DataW H) (Pl : Nat → List MemPlace), cs = [.slice (some a) len cap] ∧ base ≤ a.block ∧ len ≤ cap ∧ cap ≤ maxLen ∧ m = (if spare a.block then cap else len) ∧
      x = (.slice ((List.range len).map D) ((List.range (m - len)).map fun j => D (len + j)), MemPlace.row a (m * fs.size) ++ (List.range m).flatMap Pl) ∧
      ∀ i, i < m → ∃ (ys : List (DataW H × List MemPlace)) (n : Nat), D i = .agg (ys.map (·.1)) ∧ Pl i = ys.flatMap (·.2) ∧ ys.length = fs.size ∧
        ∀ (j : Nat) (f : Field), fs[j]? = some f → ∃ (v : Value) (y : DataW H × List MemPlace), w.cell? (a.add (i * fs.size + j)) = some v ∧ ys[j]? = some y ∧ DataW.trod enc P w base spare held n f.type [v] = some y := by
  rcases open_slice ht h with h0 | ⟨a, len, cap, m, n, D, Pl, hcs, hb, hl, hm, hmm, hx, hi⟩
  · exact .inl h0
  · refine .inr ⟨a, len, cap, m, D, Pl, hcs, hb, hl, hm, hmm, by rw [hC] at hx; exact hx, fun i him => ?_⟩
    obtain ⟨cs', hc, ht'⟩ := hi i him
    rw [hC] at hc
    obtain ⟨ys, n', hn', hy, hlen, hyl, hf⟩ := DataW.trod_struct he ht'
    obtain ⟨_, hcl, hat⟩ := World.cells?_some hc
    simp only [Prod.mk.injEq] at hy
    refine ⟨ys, n', hy.1, hy.2, hyl, fun j f hj => ?_⟩
    obtain ⟨ho, hk⟩ := hone_of hone j f hj
    have hjl : j < fs.size := (Array.getElem?_eq_some_iff.1 hj).1
    have hcell := hat j hjl
    have hv : cs'[j]? = some (cs'[j]'(by omega)) := List.getElem?_eq_getElem (by omega)
    have h1 := hf j f hj
    rw [ho, hk] at h1
    have hone' : (cs'.drop j).take 1 = [cs'[j]'(by omega)] := by
      rw [List.drop_eq_getElem_cons (by omega)]
      rfl
    rw [hone'] at h1
    have hys : ys[j]? = some (ys[j]'(by omega)) := List.getElem?_eq_getElem (by omega)
    refine ⟨_, _, ?_, hys, h1.trans hys⟩
    rw [← Go.Deep.add_add, hcell, hv]
end

def vInt (v : Option Value) : Int := match v with | some (.int _ x) => x | _ => 0
/-- The bounds that lie at address a. -/
def bdsAt (w : World) (a : Addr) (n : Nat) : List Bd := (List.range n).map fun i => ⟨vInt (w.cell? (a.add (i * 3))), vInt (w.cell? (a.add (i * 3 + 1))), vInt (w.cell? (a.add (i * 3 + 2)))⟩

/-- A struct of three ints: the element of the slice that comes in. -/
theorem open_bounds {H : Type} {enc : TypeId × Value → H} {w : World} {base : Nat} {spare : Nat → Bool} {held : Bool} {fuel : Nat} {v : Value} {x : DataW H × List MemPlace}
    (hsp : ∀ b, spare b = true)
    (h : DataW.trod enc Try.prog w base spare held fuel 22 [v] = some x) :
    ∃ (A : Option Addr) (c : Nat) (bs : List Bd), v = .slice A bs.length c ∧ BAt w A bs ∧ bs.length ≤ 9223372036854775807 := by
  rcases open_slice_fields Try.underlying22 Try.underlying76 (by kernel_rfl) (by kernel_rfl) h with ⟨hcs, _⟩ | ⟨a, len, cap, m, D, Pl, hcs, hb, hl, hm, hmm, hx, hi⟩
  · simp only [List.cons.injEq, and_true] at hcs
    exact ⟨none, 0, [], hcs, fun h0 => absurd h0 (by simp), by simp⟩
  · simp only [List.cons.injEq, and_true] at hcs
    rw [hsp, if_pos rfl] at hmm
    have hlen : (bdsAt w a len).length = len := by simp [bdsAt]
    refine ⟨some a, cap, bdsAt w a len, by rw [hlen]; exact hcs, ?_, by rw [hlen]; unfold maxLen at hm; omega⟩
    intro h0
    rw [hlen] at h0
    have key : ∀ i, i < len → ∀ j, j < 3 → ∃ q, w.cell? (a.add (i * 3 + j)) = some (.int .i64 q) := by
      intro i hil j hj
      obtain ⟨ys, n, _, _, hyl, hf⟩ := hi i (by omega)
      match j, hj with
      | 0, _ =>
        obtain ⟨u, y, hc, _, ht⟩ := hf 0 _ rfl
        obtain ⟨q, e, _, _⟩ := DataW.trod_int Try.underlying3 ht
        simp only [List.cons.injEq, and_true] at e
        exact ⟨q, by rw [← e]; exact hc⟩
      | 1, _ =>
        obtain ⟨u, y, hc, _, ht⟩ := hf 1 _ rfl
        obtain ⟨q, e, _, _⟩ := DataW.trod_int Try.underlying3 ht
        simp only [List.cons.injEq, and_true] at e
        exact ⟨q, by rw [← e]; exact hc⟩
      | 2, _ =>
        obtain ⟨u, y, hc, _, ht⟩ := hf 2 _ rfl
        obtain ⟨q, e, _, _⟩ := DataW.trod_int Try.underlying3 ht
        simp only [List.cons.injEq, and_true] at e
        exact ⟨q, by rw [← e]; exact hc⟩
    obtain ⟨q0, hq0⟩ := key 0 h0 0 (by omega)
    obtain ⟨b, off, spot⟩ := a
    have hspot : spot = none := by simpa [Addr.add] using World.cell?_spot hq0
    subst hspot
    have hlt : b < w.heap.size := cell_lt (o := off) (by simpa [Addr.add] using hq0)
    refine ⟨b, off, rfl, hlt, fun i x hx => ?_⟩
    have hil : i < len := by have := (List.getElem?_eq_some_iff.1 hx).1; omega
    have hxe : x = ⟨vInt (w.cell? ((⟨b, off, none⟩ : Addr).add (i * 3))), vInt (w.cell? ((⟨b, off, none⟩ : Addr).add (i * 3 + 1))), vInt (w.cell? ((⟨b, off, none⟩ : Addr).add (i * 3 + 2)))⟩ := by
      have := (List.getElem?_eq_some_iff.1 hx).2
      rw [← this]; simp [bdsAt]
    have ea : ∀ j, (⟨b, off, none⟩ : Addr).add j = ⟨b, off + j, none⟩ := by
      intro j; unfold Addr.add; split <;> simp_all
    obtain ⟨p0, e0⟩ := key i hil 0 (by omega)
    obtain ⟨p1, e1⟩ := key i hil 1 (by omega)
    obtain ⟨p2, e2⟩ := key i hil 2 (by omega)
    simp only [Nat.add_zero] at e0
    rw [e0, e1, e2] at hxe
    rw [ea] at e0 e1 e2
    subst hxe
    exact ⟨e0, by rw [← Nat.add_assoc] at e1; exact e1, by rw [← Nat.add_assoc] at e2; exact e2⟩
/-- A plan that comes in. -/
theorem open_plan {H : Type} {enc : TypeId × Value → H} {w : World} {base : Nat} {spare : Nat → Bool} {held : Bool} {r : Reach} {b0 : Nat} {v : Value} {d : DataW H} {p : List MemPlace}
    (hsp : ∀ b, spare b = true) (hv : Value.okWide Try.prog w r b0 24 v) (h : DataW.Trod enc Try.prog w base spare held 24 v d p) :
    ∃ (n : Int) (A : Option Addr) (c : Nat) (bs : List Bd), v = .agg #[.int .i64 n, .slice A bs.length c] ∧ BAt w A bs ∧ bs.length ≤ 9223372036854775807 := by
  obtain ⟨v0, v1, y0, y1, m, rfl, rfl, rfl, h0, h1⟩ := open_agg2 Try.underlying24 (by kernel_rfl) (by kernel_rfl) hv h
  obtain ⟨n, e, _, hw⟩ := DataW.trod_int Try.underlying3 h0
  simp only [List.cons.injEq, and_true] at e
  subst e
  obtain ⟨A, c, bs, rfl, hB, hl⟩ := open_bounds hsp h1
  exact ⟨n, A, c, bs, rfl, hB, hl⟩
theorem row_add (b off j : Nat) : (⟨b, off, none⟩ : Addr).add j = ⟨b, off + j, none⟩ := by
  unfold Addr.add; split <;> simp_all
/-- A row of ints that comes in. -/
theorem open_list {H : Type} {enc : TypeId × Value → H} {w : World} {base : Nat} {spare : Nat → Bool} {held : Bool} {fuel : Nat} {v : Value} {x : DataW H × List MemPlace}
    (h : DataW.trod enc Try.prog w base spare held fuel 25 [v] = some x) :
    ∃ (A : Option Addr) (c : Nat) (xs : List Int), v = .slice A xs.length c ∧ IAt w A xs ∧ xs.length ≤ 9223372036854775807 := by
  rcases open_ints Try.underlying25 Try.underlying3 (by kernel_rfl) h with ⟨hcs, _⟩ | ⟨a, len, cap, zs, hcs, _, hl, hm, hz, _, hcell, hwz⟩
  · simp only [List.cons.injEq, and_true] at hcs
    exact ⟨none, 0, [], hcs, fun h0 => absurd h0 (by simp), by simp⟩
  · simp only [List.cons.injEq, and_true] at hcs
    have hle : len ≤ zs.length := by rw [hz]; split <;> omega
    have hlen : (zs.take len).length = len := by rw [List.length_take]; omega
    refine ⟨some a, cap, zs.take len, by rw [hlen]; exact hcs, ?_, by rw [hlen]; unfold maxLen at hm; omega⟩
    intro h0
    rw [hlen] at h0
    have hq0 := hcell 0 (by omega)
    obtain ⟨b, off, spot⟩ := a
    have hspot : spot = none := by simpa [Addr.add] using World.cell?_spot hq0
    subst hspot
    refine ⟨b, off, rfl, cell_lt (o := off) (by simpa [Addr.add] using hq0), fun i x hx => ?_⟩
    have hil : i < len := by have := (List.getElem?_eq_some_iff.1 hx).1; omega
    have hc := hcell i (by omega)
    rw [row_add] at hc
    rw [hc]
    rw [List.getElem?_take_of_lt hil] at hx
    rw [List.getD_eq_getElem?_getD, hx]; rfl
theorem open_list_arg {H : Type} {enc : TypeId × Value → H} {w : World} {base : Nat} {spare : Nat → Bool} {held : Bool} {r : Reach} {b0 : Nat} {v : Value} {d : DataW H} {p : List MemPlace}
    (hv : Value.okWide Try.prog w r b0 25 v) (h : DataW.Trod enc Try.prog w base spare held 25 v d p) :
    ∃ (A : Option Addr) (c : Nat) (xs : List Int), v = .slice A xs.length c ∧ IAt w A xs ∧ xs.length ≤ 9223372036854775807 := by
  obtain ⟨a0, len0, cap0, rfl⟩ := okWide_slice Try.underlying25 hv
  obtain ⟨fuel, hf⟩ := h
  exact open_list (fuel := fuel) (by simpa [Value.cells] using hf)
end Go.Proofs.Ytaifpindiphlkac
