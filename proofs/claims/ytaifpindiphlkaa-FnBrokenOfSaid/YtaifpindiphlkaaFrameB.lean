/- How a row of bytes comes in; no condition. -/
import Derived.Test.YtaifpindiphlkaaFrame
import Derived.Test.YtaifpindiphlkaaDraws
namespace Go.Proofs.Ytaifpindiphlkaa
open Go.ChangeShapes Go.WideShapes Go.ChangeAt Go.RowKit Go.Deep
open Go.ChangeMaps (open_string shut_string)
open Go.Joins
set_option linter.unusedVariables false
set_option maxRecDepth 10000
set_option linter.unusedSimpArgs false

theorem open_bytes_arg {H : Type} {enc : TypeId × Value → H} {w : World} {base : Nat} {spare : Nat → Bool} {held : Bool} {r : Reach} {b0 : Nat} {v : Value} {d : DataW H} {p : List MemPlace}
    (hv : Value.okWide Try.prog w r b0 22 v) (h : DataW.Trod enc Try.prog w base spare held 22 v d p) :
    ∃ (A : Option Addr) (c : Nat) (xs : List Int), v = .slice A xs.length c ∧ Bytes w A c xs ∧ xs.length ≤ 9223372036854775807 := by
  obtain ⟨a0, len0, cap0, rfl⟩ := okWide_slice Try.underlying22 hv
  obtain ⟨fuel, hf⟩ := h
  have hf' : DataW.trod enc Try.prog w base spare held fuel 22 [.slice a0 len0 cap0] = some (d, p) := by simpa [Value.cells] using hf
  rcases open_ints Try.underlying22 Try.underlying5 (by kernel_rfl) hf' with ⟨hcs, _⟩ | ⟨a, len, cap, zs, hcs, _, hl, hm, hz, _, hcell, hwz⟩
  · simp only [List.cons.injEq, and_true] at hcs
    injection hcs with e1 e2 e3
    subst e1; subst e2; subst e3
    exact ⟨none, 0, [], rfl, ⟨fun h0 => absurd h0 (by simp), by simp, by simp, by simp⟩, by simp⟩
  · simp only [List.cons.injEq, and_true] at hcs
    have hle : len ≤ zs.length := by rw [hz]; split <;> omega
    have hlen : (zs.take len).length = len := by rw [List.length_take]; omega
    unfold maxLen at hm
    refine ⟨some a, cap, zs.take len, by rw [hlen]; exact hcs, ⟨?_, fun x hx => ?_, by rw [hlen]; exact hl, hm⟩, by rw [hlen]; omega⟩
    · intro h0
      rw [hlen] at h0
      have hq0 := hcell 0 (by omega)
      obtain ⟨b, off, spot⟩ := a
      have hspot : spot = none := by simpa [Addr.add] using World.cell?_spot hq0
      subst hspot
      have hblt := cell_lt (w := w) (b := b) (o := off) (by simpa [Addr.add] using hq0)
      refine ⟨b, off, rfl, hblt, hblt, fun i x hx => ?_⟩
      have hil : i < len := by have := (List.getElem?_eq_some_iff.1 hx).1; omega
      have hc := hcell i (by omega)
      rw [row_add] at hc
      rw [hc]
      rw [List.getElem?_take_of_lt hil] at hx
      rw [List.getD_eq_getElem?_getD, hx]; rfl
    · have := hwz x (List.mem_of_mem_take hx)
      have h2 : (decide (IntKind.min .u8 ≤ x) && decide (x ≤ IntKind.max .u8)) = true := this
      simp only [Bool.and_eq_true, decide_eq_true_eq] at h2
      have e1 : IntKind.min .u8 = 0 := rfl
      have e2 : IntKind.max .u8 = 255 := rfl
      omega
end Go.Proofs.Ytaifpindiphlkaa
