/- Contracts of the two instances of slices.IndexFunc and slices.ContainsFunc that the program uses, for a test that answers by a Bool function; for slices of at most 2^40 elements. -/
import Derived.Test.YtedpaanhnbodfaaBase
namespace Go.Proofs.Ytedpaanhnbodfaa
open Go.RowKit
set_option linter.unusedVariables false
set_option maxRecDepth 10000
set_option linter.unusedSimpArgs false

def idxOf {α : Type} (q : α → Bool) (l : List α) : Int := match l.findIdx? q with | some i => i | none => -1
theorem idxOf_ge {α : Type} (q : α → Bool) (l : List α) : decide (0 ≤ idxOf q l) = l.any q := by
  unfold idxOf
  cases h : l.findIdx? q with
  | none => 
    simp [List.findIdx?_eq_none_iff] at h ⊢
    exact h
  | some i =>
    have := List.findIdx?_eq_some_iff_getElem.1 h
    obtain ⟨hl, hq, _⟩ := this
    simp
    exact ⟨_, List.getElem_mem hl, hq⟩
theorem idxOf_at {α : Type} (q : α → Bool) (l : List α) (k : Nat) (x : α) (hk : l[k]? = some x) (hq : q x = true) (hn : ∀ y ∈ l.take k, q y = false) : idxOf q l = k := by
  unfold idxOf
  have hl : k < l.length := (List.getElem?_eq_some_iff.1 hk).1
  have : l.findIdx? q = some k := by
    rw [List.findIdx?_eq_some_iff_getElem]
    refine ⟨hl, ?_, ?_⟩
    · have := (List.getElem?_eq_some_iff.1 hk).2
      rw [this]; exact hq
    · intro j hj
      simp [hn l[j] (by rw [List.mem_take_iff_getElem]; exact ⟨j, by omega, rfl⟩)]
  rw [this]
theorem idxOf_none {α : Type} (q : α → Bool) (l : List α) (hn : ∀ y ∈ l, q y = false) : idxOf q l = -1 := by
  unfold idxOf
  rw [List.findIdx?_eq_none_iff.2 hn]

theorem snoc_false {α : Type} {q : α → Bool} {l : List α} {k : Nat} {x : α} (hx : l[k]? = some x) (hn : ∀ y ∈ l.take k, q y = false) (hq : q x = false) : ∀ y ∈ l.take (k + 1), q y = false := by
  intro y hy
  have hl : k < l.length := (List.getElem?_eq_some_iff.1 hx).1
  have hv := (List.getElem?_eq_some_iff.1 hx).2
  rw [List.take_succ_eq_append_getElem hl, List.mem_append] at hy
  rcases hy with hy | hy
  · exact hn y hy
  · simp at hy; subst hy; rw [hv]; exact hq
theorem indexB_any (F : Nat) (caps : Array Value) (q : Bd → Bool) (A : Option Addr) (c : Nat) (bs : List Bd) (w : World) (h : BAt w A bs) (hlen : bs.length ≤ 1099511627776)
    (hF : ∀ args W, (callFunc F args).run Try.prog W = .ok (.enter F args) W)
    (hcl : ∀ W x, Below w.heap.size w W → x ∈ bs → Calls Try.prog F (#[.agg #[.int .i64 x.f, .int .i64 x.t, .int .i64 x.m]] ++ caps) W fun e w' => e = .returned (.bool (q x)) ∧ Below W.heap.size W w') :
    Calls Try.prog 145 #[.slice A bs.length c, .func (.func F) #[] caps] w fun e w' => e = .returned (.int .i64 (idxOf q bs)) ∧ Below w.heap.size w w' := by
  have HC := Lib.hid hcl
  clear hcl
  go_enter Try.func145, Try.ntmps145
  go_wp2
  go_loopw [8] (fun i W => ∃ k : Nat, k ≤ bs.length ∧ i = .int .i64 k ∧ (∀ y ∈ bs.take k, q y = false) ∧ Below w.heap.size w W) (fun i _ => bs.length - (intOf i).toNat)
  case atStart => exact ⟨0, Nat.zero_le _, rfl, by simp, Below.refl _ _⟩
  case round =>
    obtain ⟨k, hk, rfl, hn, hb⟩ := hrel
    by_cases hlt : k < bs.length
    · obtain ⟨b, off, rfl, hbl, hcells⟩ := h (by omega)
      obtain ⟨x, hx⟩ : ∃ x, bs[k]? = some x := ⟨_, List.getElem?_eq_getElem hlt⟩
      obtain ⟨c0, c1, c2⟩ := hcells k x hx
      have d0 := (hb.cell (p := ⟨b, off + k * 3, none⟩) hbl).trans c0
      have d1 := (hb.cell (p := ⟨b, off + k * 3 + 1, none⟩) hbl).trans c1
      have d2 := (hb.cell (p := ⟨b, off + k * 3 + 2, none⟩) hbl).trans c2
      have HX := Lib.hid hx
      have HN := Lib.hid hn
      clear hx hn c0 c1 c2 hcells
      go_wp2_with fail
      refine (HC.out _ x hb (List.mem_of_getElem? HX.out)).mono ?_
      rintro e w1 ⟨rfl, hb1⟩
      cases hq : q x
      · have HQ := Lib.hid hq
        clear hq
        go_wp2
        go_roundw
        case rel => exact ⟨k + 1, by omega, by go_num, snoc_false HX.out HN.out HQ.out, via hb1 hb⟩
        case measure => simp [intOf]; omega
      · have HQ := Lib.hid hq
        clear hq
        go_wp2
        go_ret
        exact ⟨ret_int (idxOf_at q bs k x HX.out HQ.out HN.out).symm, via hb1 hb⟩
    · have HN := Lib.hid hn
      clear hn
      go_wp2
      go_ret
      exact ⟨ret_int (idxOf_none q bs (by have := HN.out; rwa [List.take_of_length_le (by omega)] at this)).symm, hb⟩
theorem containsB_any (F : Nat) (caps : Array Value) (q : Bd → Bool) (A : Option Addr) (c : Nat) (bs : List Bd) (w : World) (h : BAt w A bs) (hlen : bs.length ≤ 1099511627776)
    (hF : ∀ args W, (callFunc F args).run Try.prog W = .ok (.enter F args) W)
    (hcl : ∀ W x, Below w.heap.size w W → x ∈ bs → Calls Try.prog F (#[.agg #[.int .i64 x.f, .int .i64 x.t, .int .i64 x.m]] ++ caps) W fun e w' => e = .returned (.bool (q x)) ∧ Below W.heap.size W w') :
    Calls Try.prog 100 #[.slice A bs.length c, .func (.func F) #[] caps] w fun e w' => e = .returned (.bool (bs.any q)) ∧ Below w.heap.size w w' := by
  have HC := Lib.hid (indexB_any F caps q A c bs w h hlen hF hcl)
  clear hcl h hF
  rw [← idxOf_ge]
  go_enter Try.func100, Try.ntmps100
  go_wp2_with fail
  refine HC.out.mono ?_
  rintro e w1 ⟨rfl, hb1⟩
  go_wp2
  go_ret
  exact ⟨rfl, hb1⟩
theorem indexI_any (F : Nat) (caps : Array Value) (q : Int → Bool) (A : Option Addr) (c : Nat) (bs : List Int) (w : World) (h : IAt w A bs) (hlen : bs.length ≤ 1099511627776)
    (hF : ∀ args W, (callFunc F args).run Try.prog W = .ok (.enter F args) W)
    (hcl : ∀ W x, Below w.heap.size w W → x ∈ bs → Calls Try.prog F (#[.int .i64 x] ++ caps) W fun e w' => e = .returned (.bool (q x)) ∧ Below W.heap.size W w') :
    Calls Try.prog 155 #[.slice A bs.length c, .func (.func F) #[] caps] w fun e w' => e = .returned (.int .i64 (idxOf q bs)) ∧ Below w.heap.size w w' := by
  have HC := Lib.hid hcl
  clear hcl
  go_enter Try.func155, Try.ntmps155
  go_wp2
  go_loopw [8] (fun i W => ∃ k : Nat, k ≤ bs.length ∧ i = .int .i64 k ∧ (∀ y ∈ bs.take k, q y = false) ∧ Below w.heap.size w W) (fun i _ => bs.length - (intOf i).toNat)
  case atStart => exact ⟨0, Nat.zero_le _, rfl, by simp, Below.refl _ _⟩
  case round =>
    obtain ⟨k, hk, rfl, hn, hb⟩ := hrel
    by_cases hlt : k < bs.length
    · obtain ⟨b, off, rfl, hbl, hcells⟩ := h (by omega)
      obtain ⟨x, hx⟩ : ∃ x, bs[k]? = some x := ⟨_, List.getElem?_eq_getElem hlt⟩
      have d0 := (hb.cell (p := ⟨b, off + k, none⟩) hbl).trans (hcells k x hx)
      have HX := Lib.hid hx
      have HN := Lib.hid hn
      clear hx hn hcells
      go_wp2_with fail
      refine (HC.out _ x hb (List.mem_of_getElem? HX.out)).mono ?_
      rintro e w1 ⟨rfl, hb1⟩
      cases hq : q x
      · have HQ := Lib.hid hq
        clear hq
        go_wp2
        go_roundw
        case rel => exact ⟨k + 1, by omega, by go_num, snoc_false HX.out HN.out HQ.out, via hb1 hb⟩
        case measure => simp [intOf]; omega
      · have HQ := Lib.hid hq
        clear hq
        go_wp2
        go_ret
        exact ⟨ret_int (idxOf_at q bs k x HX.out HQ.out HN.out).symm, via hb1 hb⟩
    · have HN := Lib.hid hn
      clear hn
      go_wp2
      go_ret
      exact ⟨ret_int (idxOf_none q bs (by have := HN.out; rwa [List.take_of_length_le (by omega)] at this)).symm, hb⟩
theorem containsI_any (F : Nat) (caps : Array Value) (q : Int → Bool) (A : Option Addr) (c : Nat) (bs : List Int) (w : World) (h : IAt w A bs) (hlen : bs.length ≤ 1099511627776)
    (hF : ∀ args W, (callFunc F args).run Try.prog W = .ok (.enter F args) W)
    (hcl : ∀ W x, Below w.heap.size w W → x ∈ bs → Calls Try.prog F (#[.int .i64 x] ++ caps) W fun e w' => e = .returned (.bool (q x)) ∧ Below W.heap.size W w') :
    Calls Try.prog 146 #[.slice A bs.length c, .func (.func F) #[] caps] w fun e w' => e = .returned (.bool (bs.any q)) ∧ Below w.heap.size w w' := by
  have HC := Lib.hid (indexI_any F caps q A c bs w h hlen hF hcl)
  clear hcl h hF
  rw [← idxOf_ge]
  go_enter Try.func146, Try.ntmps146
  go_wp2_with fail
  refine HC.out.mono ?_
  rintro e w1 ⟨rfl, hb1⟩
  go_wp2
  go_ret
  exact ⟨rfl, hb1⟩
end Go.Proofs.Ytedpaanhnbodfaa
