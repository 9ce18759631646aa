/- The closed facts of the seat's program that do not speak of one law: each proved by itself, so that no single one needs much memory; and the first words of the program's order line. -/
import Derived.Test.YtaifpindiphlkabFrame
namespace Go.Proofs.Ytaifpindiphlkab
open Go.ChangeShapes Go.WideShapes Go.ChangeAt Go.RowKit Go.Deep
open Go.Joins
set_option maxRecDepth 100000

theorem and2 {a b : Bool} (ha : a = true) (hb : b = true) : (a && b) = true := by rw [ha, hb]; rfl
theorem words_step (sp : Char) (hsp : sp = Char.ofNat 32) : ∀ (l a : List Char), (a.all fun c => !(c == sp)) = true → wordsSigns (a ++ sp :: l) = a :: wordsSigns l
  | l, [], _ => by subst hsp; rfl
  | l, c :: a, h => by
    simp only [List.all_cons, Bool.and_eq_true] at h
    have ih := words_step sp hsp l a h.2
    have hc : c ≠ sp := by simpa using h.1
    rw [List.cons_append, wordsSigns]
    · rw [ih]
    · intro e; exact hc (e.trans hsp.symm)
def cutAt (sp : Char) (k : Nat) (l : List Char) : Bool := ((l.take k).all fun c => !(c == sp)) && (match l.drop k with | c :: _ => c == sp | [] => false)
theorem words_cut {l : List Char} (k : Nat) (h : cutAt (Char.ofNat 32) k l = true) : wordsSigns l = l.take k :: wordsSigns (l.drop (k + 1)) := by
  unfold cutAt at h
  rw [Bool.and_eq_true] at h
  obtain ⟨h1, h2⟩ := h
  have e : l = l.take k ++ Char.ofNat 32 :: l.drop (k + 1) := by
    conv => lhs; rw [← List.take_append_drop k l]
    congr 1
    rw [← List.drop_drop]
    cases hd : l.drop k with
    | nil => rw [hd] at h2; cases h2
    | cons c r =>
      rw [hd] at h2
      rw [beq_iff_eq] at h2
      subst h2
      simp
  conv => lhs; rw [e]
  exact words_step _ rfl _ _ h1
theorem head_lit : ∃ l, Try.pinned.checked.prog.initOrder = String.ofList l ∧ (cutAt (Char.ofNat 32) 7 l && cutAt (Char.ofNat 32) 64 (l.drop 8) && cutAt (Char.ofNat 32) 3 (l.drop 73) && (isSumSigns ((l.drop 8).take 64) && (l.take 7 == "harness".toList) && ((l.drop 73).take 3 == "cut".toList))) = true := by
  refine ⟨_, rfl, ?_⟩
  kernel_rfl
theorem head_words : ∃ x r, wordsSigns Try.pinned.checked.prog.initOrder.toList = "harness".toList :: x :: "cut".toList :: r ∧ isSumSigns x = true := by
  obtain ⟨l, hl, h⟩ := head_lit
  simp only [Bool.and_eq_true, beq_iff_eq] at h
  obtain ⟨⟨⟨h1, h2⟩, h3⟩, ⟨h4, h5⟩, h6⟩ := h
  refine ⟨(l.drop 8).take 64, wordsSigns (l.drop 77), ?_, h4⟩
  rw [hl, String.toList_ofList, words_cut 7 h1, words_cut 64 h2, List.drop_drop, words_cut 3 h3, h5, h6, List.drop_drop]
theorem head_behind : ∃ r, behindMainWord (wordsSigns Try.pinned.checked.prog.initOrder.toList) = "cut".toList :: r := by
  obtain ⟨x, r, h, hx⟩ := head_words
  refine ⟨r, ?_⟩
  rw [h]
  show (if (("harness".toList == "harness".toList || "harness".toList == "ownmain".toList) && isSumSigns x) = true then "cut".toList :: r else _) = _
  rw [hx, if_pos (by decide)]
theorem strip_cut (r : List (List Char)) : stripLifts liftWords ("cut".toList :: r) = ([], "cut".toList :: r) := by kernel_rfl
theorem fact_lays : Try.pinned.checked.prog.laysLater = false := by kernel_rfl
def reflF (P : Program) (fn : Func) : Bool := Program.bearsReflect { P with funcs := #[fn] }
theorem bears_eq (P : Program) : P.bearsReflect = P.funcs.toList.any (reflF P) := by
  unfold reflF Program.bearsReflect
  simp
theorem any_step {f : Func → Bool} {l : List Func} {k m : Nat} (hm : k + 40 = m) (h : ((l.drop k).take 40).any f = false) (h2 : (l.drop m).any f = false) : (l.drop k).any f = false := by
  subst hm
  rw [← List.take_append_drop 40 (l.drop k), List.any_append, h, List.drop_drop, h2]; rfl
theorem refl_0 : ((Try.pinned.checked.prog.funcs.toList.drop 0).take 40).any (reflF Try.pinned.checked.prog) = false := by kernel_rfl
theorem refl_1 : ((Try.pinned.checked.prog.funcs.toList.drop 40).take 40).any (reflF Try.pinned.checked.prog) = false := by kernel_rfl
theorem refl_2 : ((Try.pinned.checked.prog.funcs.toList.drop 80).take 40).any (reflF Try.pinned.checked.prog) = false := by kernel_rfl
theorem refl_3 : ((Try.pinned.checked.prog.funcs.toList.drop 120).take 40).any (reflF Try.pinned.checked.prog) = false := by kernel_rfl
theorem refl_4 : ((Try.pinned.checked.prog.funcs.toList.drop 160).take 40).any (reflF Try.pinned.checked.prog) = false := by kernel_rfl
theorem refl_5 : ((Try.pinned.checked.prog.funcs.toList.drop 200).take 40).any (reflF Try.pinned.checked.prog) = false := by kernel_rfl
theorem refl_6 : ((Try.pinned.checked.prog.funcs.toList.drop 240).take 40).any (reflF Try.pinned.checked.prog) = false := by kernel_rfl
theorem refl_7 : ((Try.pinned.checked.prog.funcs.toList.drop 280).take 40).any (reflF Try.pinned.checked.prog) = false := by kernel_rfl
theorem refl_8 : (Try.pinned.checked.prog.funcs.toList.drop 320).any (reflF Try.pinned.checked.prog) = false := by kernel_rfl
theorem fact_reflect : Try.pinned.checked.prog.bearsReflect = false := by
  have h := any_step rfl refl_0 (any_step rfl refl_1 (any_step rfl refl_2 (any_step rfl refl_3 (any_step rfl refl_4 (any_step rfl refl_5 (any_step rfl refl_6 (any_step rfl refl_7 refl_8)))))))
  rw [List.drop_zero] at h
  rw [bears_eq]
  exact h
def doorF (P : Program) (fn : Func) : Bool := !(Program.doorRows { P with funcs := #[fn] }).isEmpty
theorem door_0 : ((Try.pinned.checked.prog.funcs.toList.drop 0).take 40).any (doorF Try.pinned.checked.prog) = false := by kernel_rfl
theorem door_1 : ((Try.pinned.checked.prog.funcs.toList.drop 40).take 40).any (doorF Try.pinned.checked.prog) = false := by kernel_rfl
theorem door_2 : ((Try.pinned.checked.prog.funcs.toList.drop 80).take 40).any (doorF Try.pinned.checked.prog) = false := by kernel_rfl
theorem door_3 : ((Try.pinned.checked.prog.funcs.toList.drop 120).take 40).any (doorF Try.pinned.checked.prog) = false := by kernel_rfl
theorem door_4 : ((Try.pinned.checked.prog.funcs.toList.drop 160).take 40).any (doorF Try.pinned.checked.prog) = false := by kernel_rfl
theorem door_5 : ((Try.pinned.checked.prog.funcs.toList.drop 200).take 40).any (doorF Try.pinned.checked.prog) = false := by kernel_rfl
theorem door_6 : ((Try.pinned.checked.prog.funcs.toList.drop 240).take 40).any (doorF Try.pinned.checked.prog) = false := by kernel_rfl
theorem door_7 : ((Try.pinned.checked.prog.funcs.toList.drop 280).take 40).any (doorF Try.pinned.checked.prog) = false := by kernel_rfl
theorem door_8 : (Try.pinned.checked.prog.funcs.toList.drop 320).any (doorF Try.pinned.checked.prog) = false := by kernel_rfl
theorem doors_none {P : Program} (h : P.funcs.toList.any (doorF P) = false) : P.doorRows = [] := by
  rw [List.any_eq_false] at h
  unfold Program.doorRows
  rw [List.map_eq_nil_iff, List.filter_eq_nil_iff]
  intro x hx hd
  apply h x hx
  unfold doorF Program.doorRows
  rw [show (#[x] : Array Func).toList = [x] from rfl, List.filter_cons, if_pos hd]
  rfl
theorem doors_fit {P : Program} (h : P.doorRows = []) : P.doorFits [] = true := by unfold Program.doorFits; rw [h]; rfl
theorem fact_door : Try.pinned.checked.prog.doorFits [] = true := by
  have h := any_step rfl door_0 (any_step rfl door_1 (any_step rfl door_2 (any_step rfl door_3 (any_step rfl door_4 (any_step rfl door_5 (any_step rfl door_6 (any_step rfl door_7 door_8)))))))
  rw [List.drop_zero] at h
  exact doors_fit (doors_none h)
theorem enter_of {P : Program} {r : List (List Char)} (h : behindMainWord (wordsSigns P.initOrder.toList) = "cut".toList :: r) (h1 : P.laysLater = false) (h2 : P.bearsReflect = false) (h3 : P.doorFits [] = true) : P.mayEnter = true := by
  unfold Program.mayEnter
  rw [h]
  simp only [strip_cut, h1, h2, h3]
  rw [Bool.or_eq_true]
  right
  simp
theorem fact_enter : Try.pinned.checked.prog.mayEnter = true := by
  obtain ⟨r, h⟩ := head_behind
  exact enter_of h fact_lays fact_reflect fact_door
theorem lifts_of {P : Program} {r : List (List Char)} (h : behindMainWord (wordsSigns P.initOrder.toList) = "cut".toList :: r) : P.liftsFinal = false := by
  unfold Program.liftsFinal Program.headLifts
  rw [h, strip_cut]
  simp
theorem fact_lifts : Try.pinned.checked.prog.liftsFinal = false := by
  obtain ⟨r, h⟩ := head_behind
  exact lifts_of h
theorem make_of {P : Program} {r : List (List Char)} (h : behindMainWord (wordsSigns P.initOrder.toList) = "cut".toList :: r) : P.make = some .cut := by
  unfold Program.make
  rw [h]
  rfl
theorem fact_make : Try.pinned.checked.prog.make = some .cut := by
  obtain ⟨r, h⟩ := head_behind
  exact make_of h
theorem fact_laid : laidOutB Try.pinned.checked.prog = true := by kernel_rfl
theorem fact_maps : mapsRowed Try.pinned.checked.prog = true := by kernel_rfl
theorem fact_stops : Try.pinned.checked.prog.stopsHeard = true := by kernel_rfl
end Go.Proofs.Ytaifpindiphlkab
