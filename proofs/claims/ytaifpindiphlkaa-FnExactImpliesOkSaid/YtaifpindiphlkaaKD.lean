/- Plain definitions: tables of differences, the table of bounds, and the closing of a table, as the program does it and as the reference does it; and that both agree. No program in sight; no condition. Tables in memory: slices of rows of ints. No condition. The contract of impl.table.close: it closes the table in place and tells whether it fits. The contract of impl.start: a new table of some bounds; for at most a thousand points and 2^40 bounds, whose ends are points. Contracts of impl.closed and impl.FitsOk; for slices of at most 2^40 bounds. -/
import Derived.Test.YtaifpindiphlkaaKA
import Derived.Deep.QuietTactic
import Derived.BigQuiet
import Derived.StillTailTactics
import Derived.WalkLawsBesides
namespace Go.Proofs.Ytaifpindiphlkaa
open Go.RowKit
set_option linter.unusedVariables false
set_option maxRecDepth 10000
set_option linter.unusedSimpArgs false

/-- A table: a number for each two points. -/
def Tab := Nat → Nat → Int
/-- The lesser of two numbers. -/
def mn (a b : Int) : Int := if b < a then b else a
theorem mn_le (a b : Int) : mn a b ≤ a := by unfold mn; split <;> omega
theorem mn_le' (a b : Int) : mn a b ≤ b := by unfold mn; split <;> omega
def upd (T : Tab) (i j : Nat) (v : Int) : Tab := fun a b => if a = i ∧ b = j then v else T a b
theorem upd_same (T : Tab) (i j : Nat) (v : Int) : upd T i j v i j = v := by simp [upd]
theorem upd_other (T : Tab) {i j a b : Nat} (v : Int) (h : ¬ (a = i ∧ b = j)) : upd T i j v a b = T a b := by simp only [upd, if_neg h]
/-- The table without bounds. -/
def tab0 : Tab := fun i j => if i = j then 0 else 100000
def putB (T : Tab) (x : Bd) : Tab := upd T x.f.toNat x.t.toNat (mn (T x.f.toNat x.t.toNat) x.m)
/-- The table of some bounds. -/
def startT (bs : List Bd) : Tab := bs.foldl putB tab0
theorem startT_snoc (bs : List Bd) (k : Nat) (x : Bd) (h : bs[k]? = some x) : startT (bs.take (k + 1)) = putB (startT (bs.take k)) x := by
  obtain ⟨hl, hv⟩ := List.getElem?_eq_some_iff.1 h
  unfold startT
  rw [List.take_succ_eq_append_getElem hl, List.foldl_append, hv]; rfl
/-- One number of a table becomes the sum over a third point, if that is less. -/
def relax (k i : Nat) (T : Tab) (j : Nat) : Tab := if T i k ≠ 100000 ∧ T k j ≠ 100000 then upd T i j (mn (T i j) (wrap64 (T i k + T k j))) else T
def relaxI (N k : Nat) (T : Tab) (i : Nat) : Tab := (List.range N).foldl (relax k i) T
def relaxK (N : Nat) (T : Tab) (k : Nat) : Tab := (List.range N).foldl (relaxI N k) T
/-- The closed table. -/
def closeT (N : Nat) (T : Tab) : Tab := (List.range N).foldl (relaxK N) T
theorem range_fold {α : Type} (f : α → Nat → α) (a : α) (k : Nat) : (List.range (k + 1)).foldl f a = f ((List.range k).foldl f a) k := by
  rw [List.range_succ, List.foldl_append]; rfl
/-- No number from a point to itself is less than 0. -/
def diagOk (N : Nat) (T : Tab) : Bool := decide (∀ i, i < N → 0 ≤ T i i)
theorem diagOk_bad {N i : Nat} {T : Tab} (hi : i < N) (h : T i i < 0) : diagOk N T = false := by
  unfold diagOk; rw [decide_eq_false_iff_not]; intro hh; have := hh i hi; omega
theorem diagOk_good {N : Nat} {T : Tab} (h : ∀ i, i < N → 0 ≤ T i i) : diagOk N T = true := by
  unfold diagOk; rw [decide_eq_true_iff]; exact h
/-- The closed table of a plan. -/
def closedT (n : Int) (bs : List Bd) : Tab := closeT n.toNat (startT bs)
/-- Does the plan fit? -/
def fitsOk (n : Int) (bs : List Bd) : Bool := planOk n bs && diagOk n.toNat (closedT n bs)
end Go.Proofs.Ytaifpindiphlkaa
namespace Go.Proofs.Ytaifpindiphlkaa
open Go.RowKit
set_option linter.unusedVariables false
set_option maxRecDepth 10000
set_option linter.unusedSimpArgs false

/-- Block g holds the N rows of a table, row i in block R i, all in blocks from lo up to hi; the numbers are T. -/
structure Grid (w : World) (lo hi g N : Nat) (R C : Nat → Nat) (T : Tab) : Prop where
  outer : ∃ cs, Blk w g 30 cs ∧ ∀ i, i < N → cs[i]? = some (.slice (some ⟨R i, 0, none⟩) N (C i))
  glo : lo ≤ g
  ghi : g < hi
  rows : ∀ i, i < N → ∃ rs, Blk w (R i) 3 rs ∧ ∀ j, j < N → rs[j]? = some (.int .i64 (T i j))
  rlo : ∀ i, i < N → lo ≤ R i
  rhi : ∀ i, i < N → R i < hi
  rne : ∀ i, i < N → R i ≠ g
  inj : ∀ i j, i < N → j < N → R i = R j → i = j
  cap : ∀ i, i < N → N ≤ C i
section
variable {w w1 : World} {lo hi g N : Nat} {R C : Nat → Nat} {T : Tab}
theorem Grid.row (h : Grid w lo hi g N R C T) {i : Nat} (hi' : i < N) : w.cell? ⟨g, i, none⟩ = some (.slice (some ⟨R i, 0, none⟩) N (C i)) := by
  obtain ⟨cs, hB, hc⟩ := h.outer
  exact (hB.cell i).trans (hc i hi')
theorem Grid.cell (h : Grid w lo hi g N R C T) {i j : Nat} (hi' : i < N) (hj : j < N) : w.cell? ⟨R i, j, none⟩ = some (.int .i64 (T i j)) := by
  obtain ⟨rs, hB, hc⟩ := h.rows i hi'
  exact (hB.cell j).trans (hc j hj)
theorem Grid.frozen (h : Grid w lo hi g N R C T) {i j : Nat} (hi' : i < N) : w.frozen? ⟨R i, j, none⟩ = false := by
  obtain ⟨rs, hB, hc⟩ := h.rows i hi'
  exact hB.frozen j
theorem Grid.same (h : Grid w lo hi g N R C T) (hs : Same lo hi w w1) (hh : hi ≤ w.heap.size) : Grid w1 lo hi g N R C T := by
  obtain ⟨h1, h2⟩ := hs.out hh
  refine ⟨?_, h.glo, h.ghi, ?_, h.rlo, h.rhi, h.rne, h.inj, h.cap⟩
  · obtain ⟨cs, hB, hc⟩ := h.outer
    exact ⟨cs, (h2 g h.glo h.ghi).trans hB, hc⟩
  · intro i hi'
    obtain ⟨rs, hB, hc⟩ := h.rows i hi'
    exact ⟨rs, (h2 _ (h.rlo i hi') (h.rhi i hi')).trans hB, hc⟩
theorem Grid.drewN (h : Grid w lo hi g N R C T) (n : Nat) : Grid (w.drewN n) lo hi g N R C T := ⟨h.outer, h.glo, h.ghi, h.rows, h.rlo, h.rhi, h.rne, h.inj, h.cap⟩
theorem Grid.drew (h : Grid w lo hi g N R C T) : Grid w.drew lo hi g N R C T := ⟨h.outer, h.glo, h.ghi, h.rows, h.rlo, h.rhi, h.rne, h.inj, h.cap⟩
theorem Grid.set_ (h : Grid w lo hi g N R C T) {i j : Nat} (hi' : i < N) (hj : j < N) (v : Int) : Grid (w.setCell ⟨R i, j, none⟩ (.int .i64 v)) lo hi g N R C (upd T i j v) := by
  refine ⟨?_, h.glo, h.ghi, ?_, h.rlo, h.rhi, h.rne, h.inj, h.cap⟩
  · obtain ⟨cs, hB, hc⟩ := h.outer
    exact ⟨cs, hB.far (fun e => h.rne i hi' e.symm) _, hc⟩
  · intro a ha
    obtain ⟨rs, hB, hc⟩ := h.rows a ha
    by_cases e : a = i
    · subst e
      refine ⟨_, hB.set_ j _, fun b hb => ?_⟩
      have hjs : j < rs.size := (Array.getElem?_eq_some_iff.1 (hc j hj)).1
      rw [Array.getElem?_setIfInBounds]
      by_cases e2 : j = b
      · subst e2
        rw [if_pos rfl, if_pos hjs, upd_same]
      · rw [if_neg e2, upd_other _ _ (by omega)]
        exact hc b hb
    · refine ⟨rs, hB.far (fun e2 => e (h.inj a i ha hi' e2)) _, fun b hb => ?_⟩
      rw [upd_other _ _ (by omega)]
      exact hc b hb
theorem Grid.eq_ (h : Grid w lo hi g N R C T) {T' : Tab} (he : ∀ i j, i < N → j < N → T i j = T' i j) : Grid w lo hi g N R C T' :=
  ⟨h.outer, h.glo, h.ghi, fun i hi' => by
    obtain ⟨rs, hB, hc⟩ := h.rows i hi'
    exact ⟨rs, hB, fun j hj => by rw [hc j hj, he i j hi' hj]⟩, h.rlo, h.rhi, h.rne, h.inj, h.cap⟩
theorem Grid.wide (h : Grid w lo hi g N R C T) {lo' hi' : Nat} (hl : lo' ≤ lo) (hh : hi ≤ hi') : Grid w lo' hi' g N R C T :=
  ⟨h.outer, by have := h.glo; omega, by have := h.ghi; omega, h.rows, fun i hi2 => by have := h.rlo i hi2; omega, fun i hi2 => by have := h.rhi i hi2; omega, h.rne, h.inj, h.cap⟩
theorem Grid.lt (h : Grid w lo hi g N R C T) : g < w.heap.size := by
  obtain ⟨cs, hB, hc⟩ := h.outer
  exact hB.lt
theorem Grid.rlt (h : Grid w lo hi g N R C T) {i : Nat} (hi' : i < N) : R i < w.heap.size := by
  obtain ⟨rs, hB, hc⟩ := h.rows i hi'
  exact hB.lt
end
end Go.Proofs.Ytaifpindiphlkaa
namespace Go.Proofs.Ytaifpindiphlkaa
open Go.RowKit
set_option linter.unusedVariables false
set_option maxRecDepth 10000
set_option linter.unusedSimpArgs false

set_option maxHeartbeats 4000000 in
theorem close_any (lo hi g N cg : Nat) (R C : Nat → Nat) (T : Tab) (w : World) (h : Grid w lo hi g N R C T) (hN : N ≤ 1000) :
    Calls Try.prog 77 #[.slice (some ⟨g, 0, none⟩) N cg] w fun e w' => e = .returned (.bool (diagOk N (closeT N T))) ∧ Grid w' lo hi g N R C (closeT N T) ∧ Only lo hi w w' := by
  have H0 := Lib.hid h
  clear h
  go_enter Try.func77, Try.ntmps77
  go_wp2
  go_loopw [9] (fun k W => ∃ kk : Nat, kk ≤ N ∧ k = .int .i64 kk ∧ Grid W lo hi g N R C ((List.range kk).foldl (relaxK N) T) ∧ Only lo hi w W) (fun k _ => N - (intOf k).toNat)
  case atStart => exact ⟨0, Nat.zero_le _, rfl, H0.out, Only.refl _ _ _⟩
  case round =>
    obtain ⟨k, hk, rfl, hG, hO⟩ := hrel
    have HG := Lib.hid hG
    clear hG
    by_cases hlt : k < N
    · obtain ⟨w1, hw1⟩ : ∃ w1 : World, w1 = wr := ⟨_, rfl⟩
      subst hw1
      have EK := Lib.hid (range_fold (relaxK N) T k)
      generalize hTk : (List.range k).foldl (relaxK N) T = Tk at *
      clear hTk
      go_wp2
      go_loopw [14] (fun i W => ∃ ii : Nat, ii ≤ N ∧ i = .int .i64 ii ∧ Grid W lo hi g N R C ((List.range ii).foldl (relaxI N k) Tk) ∧ Only lo hi w W) (fun i _ => N - (intOf i).toNat)
      case atStart => exact ⟨0, Nat.zero_le _, rfl, HG.out, hO⟩
      case round =>
        obtain ⟨i, hi', rfl, hG2, hO2⟩ := hrel
        have HG2 := Lib.hid hG2
        clear hG2
        by_cases hlt2 : i < N
        · obtain ⟨w2, hw2⟩ : ∃ w2 : World, w2 = wr := ⟨_, rfl⟩
          subst hw2
          have EI := Lib.hid (range_fold (relaxI N k) Tk i)
          generalize hTi : (List.range i).foldl (relaxI N k) Tk = Ti at *
          clear hTi
          go_wp2
          go_loopw [19] (fun j W => ∃ jj : Nat, jj ≤ N ∧ j = .int .i64 jj ∧ Grid W lo hi g N R C ((List.range jj).foldl (relax k i) Ti) ∧ Only lo hi w W) (fun j _ => N - (intOf j).toNat)
          case atStart => exact ⟨0, Nat.zero_le _, rfl, HG2.out, hO2⟩
          case round =>
            obtain ⟨j, hj, rfl, hG3, hO3⟩ := hrel
            by_cases hlt3 : j < N
            · have EJ := Lib.hid (range_fold (relax k i) Ti j)
              generalize hTj : (List.range j).foldl (relax k i) Ti = Tj at *
              clear hTj
              have c1 := hG3.row hlt2
              have c2 := hG3.row hlt
              have c3 := hG3.cell hlt2 hlt
              have c4 := hG3.cell hlt hlt3
              have c5 := hG3.cell hlt2 hlt3
              have f5 := hG3.frozen (j := j) hlt2
              have HG3 := Lib.hid hG3
              clear hG3
              by_cases h1 : Tj i k = 100000
              · have h1' : (Tj i k != 100000) = false := by simp [h1]
                have ER := Lib.hid (show relax k i Tj j = Tj from if_neg (fun hh => hh.1 h1))
                clear h1
                go_wp2
                go_roundw
                case rel => exact ⟨j + 1, by omega, by go_num, by rw [EJ.out, ER.out]; exact HG3.out, hO3⟩
                case measure => simp [intOf]; omega
              by_cases h2 : Tj k j = 100000
              · have h1' : (Tj i k != 100000) = true := by simpa using h1
                have h2' : (Tj k j != 100000) = false := by simp [h2]
                have ER := Lib.hid (show relax k i Tj j = Tj from if_neg (fun hh => hh.2 h2))
                clear h1 h2
                go_wp2
                go_roundw
                case rel => exact ⟨j + 1, by omega, by go_num, by rw [EJ.out, ER.out]; exact HG3.out, hO3⟩
                case measure => simp [intOf]; omega
              have h1' : (Tj i k != 100000) = true := by simpa using h1
              have h2' : (Tj k j != 100000) = true := by simpa using h2
              have ER := Lib.hid (show relax k i Tj j = upd Tj i j (mn (Tj i j) (wrap64 (Tj i k + Tj k j))) from if_pos ⟨h1, h2⟩)
              clear h1 h2
              go_wp2
              go_still_tail 29, (by kernel_rfl)
              change wpList _ _ _ _ _ wr.drew
              have F : Grid wr.drew lo hi g N R C Tj ∧ Only lo hi w wr.drew := ⟨HG3.out.drew, hO3.drew⟩
              clear c1 c2 c3 c4 c5 f5
              generalize wr.drew = w5 at F
              obtain ⟨hG5, hO5⟩ := F
              have c1 := hG5.row hlt2
              have c2 := hG5.row hlt
              have c3 := hG5.cell hlt2 hlt
              have c4 := hG5.cell hlt hlt3
              have c5 := hG5.cell hlt2 hlt3
              have f5 := hG5.frozen (j := j) hlt2
              have GS := Lib.hid (hG5.set_ hlt2 hlt3 (mn (Tj i j) (wrap64 (Tj i k + Tj k j))))
              have OS := Lib.hid (hO5.set_ (p := ⟨R i, j, none⟩) (hG5.rlo i hlt2) (hG5.rhi i hlt2) (.int .i64 (mn (Tj i j) (wrap64 (Tj i k + Tj k j)))))
              clear hG5 hO5
              go_wp2
              go_roundw
              case rel => exact ⟨j + 1, by omega, by go_num, by rw [EJ.out, ER.out]; exact GS.out, OS.out⟩
              case measure => simp [intOf]; omega
            · obtain rfl : j = N := by omega
              have HG3 := Lib.hid hG3
              clear hG3
              go_wp2
              go_roundw
              case rel => exact ⟨i + 1, by omega, by go_num, by rw [EI.out]; exact HG3.out, hO3⟩
              case measure => simp [intOf]; omega
        · obtain rfl : i = N := by omega
          go_wp2
          go_roundw
          case rel => exact ⟨k + 1, by omega, by go_num, by rw [EK.out]; exact HG2.out, hO2⟩
          case measure => simp [intOf]; omega
    · obtain rfl : k = N := by omega
      go_wp2
      go_loop [74] (fun i => ∃ ii : Nat, ii ≤ k ∧ i = .int .i64 ii ∧ ∀ a, a < ii → 0 ≤ closeT k T a a) (fun i => k - (intOf i).toNat)
      case atStart => exact ⟨0, Nat.zero_le _, rfl, fun a ha => absurd ha (Nat.not_lt_zero _)⟩
      case round =>
        obtain ⟨i, hi', rfl, hok⟩ := hrel
        have HOK := Lib.hid hok
        clear hok
        by_cases hlt2 : i < k
        · have c1 := HG.out.row hlt2
          have c2 : wr.cell? ⟨R i, i, none⟩ = some (.int .i64 (closeT k T i i)) := HG.out.cell hlt2 hlt2
          by_cases hd : closeT k T i i < 0
          · have HB := Lib.hid (diagOk_bad hlt2 hd)
            go_wp2
            go_ret
            exact ⟨ret_bool HB.out.symm, HG.out, hO⟩
          · go_wp2
            go_round
            case rel => exact ⟨i + 1, by omega, by go_num, fun a ha => by
              by_cases e : a = i
              · rw [e]; omega
              · exact HOK.out a (by omega)⟩
            case measure => simp [intOf]; omega
        · have HB := Lib.hid (diagOk_good (T := closeT k T) (N := k) (fun a ha => HOK.out a (by omega)))
          go_wp2
          go_ret
          exact ⟨ret_bool HB.out.symm, HG.out, hO⟩
end Go.Proofs.Ytaifpindiphlkaa
namespace Go.Proofs.Ytaifpindiphlkaa
open Go.RowKit
set_option linter.unusedVariables false
set_option maxRecDepth 10000
set_option linter.unusedSimpArgs false

theorem Try.infoInts : (Try.prog.info? 30).map (fun i => (i.zero, i.size, i.bytes)) = some (some (.slice none 0 0), 1, 24) := by kernel_rfl
/-- The first i rows of a new table are laid. -/
structure Laid (w : World) (lo g N i : Nat) (R : Nat → Nat) : Prop where
  outer : ∃ cs, Blk w g 30 cs ∧ cs.size = N ∧ ∀ a, a < i → cs[a]? = some (.slice (some ⟨R a, 0, none⟩) N N)
  glo : lo ≤ g
  rows : ∀ a, a < i → ∃ rs, Blk w (R a) 3 rs ∧ ∀ j, j < N → rs[j]? = some (.int .i64 (tab0 a j))
  rlo : ∀ a, a < i → lo ≤ R a
  rne : ∀ a, a < i → R a ≠ g
  inj : ∀ a b, a < i → b < i → R a = R b → a = b
theorem Laid.grid {w : World} {lo g N : Nat} {R : Nat → Nat} (h : Laid w lo g N N R) : Grid w lo w.heap.size g N R (fun _ => N) tab0 := by
  obtain ⟨cs, hB, hs, hc⟩ := h.outer
  exact ⟨⟨cs, hB, hc⟩, h.glo, hB.lt, h.rows, h.rlo, fun i hi => by obtain ⟨rs, hB, _⟩ := h.rows i hi; exact hB.lt, h.rne, h.inj, fun _ _ => Nat.le_refl _⟩
/-- One row more. -/
theorem Laid.step {w w1 : World} {lo g N i B : Nat} {R : Nat → Nat} {cs rs : Array Value} (h : Laid w lo g N i R) (hi : i < N) (hB : B = w.heap.size) (hlo : lo ≤ B)
    (hg0 : Blk w g 30 cs) (hg : Blk w1 g 30 (cs.setIfInBounds i (.slice (some ⟨B, 0, none⟩) N N))) (hs : cs.size = N) (hc : ∀ a, a < i → cs[a]? = some (.slice (some ⟨R a, 0, none⟩) N N))
    (hold : ∀ k, k < w.heap.size → k ≠ g → w1.heap[k]? = w.heap[k]?) (hr : Blk w1 B 3 rs) (hrs : ∀ j, j < N → rs[j]? = some (.int .i64 (tab0 i j))) :
    Laid w1 lo g N (i + 1) (fun a => if a = i then B else R a) := by
  have rlt : ∀ a, a < i → R a < w.heap.size := fun a ha => by obtain ⟨rs, hB, _⟩ := h.rows a ha; exact hB.lt
  refine ⟨⟨_, hg, by simpa using hs, fun a ha => ?_⟩, h.glo, fun a ha => ?_, fun a ha => ?_, fun a ha => ?_, fun a b ha hb he => ?_⟩
  · rw [Array.getElem?_setIfInBounds]
    by_cases e : i = a
    · subst e; simp only [if_true]; rw [if_pos (by omega)]
    · rw [if_neg e, hc a (by omega)]; simp only [if_neg (Ne.symm e)]
  · by_cases e : a = i
    · subst e; simp only [if_true]; exact ⟨rs, hr, hrs⟩
    · simp only [if_neg e]
      obtain ⟨rs', hB', hc'⟩ := h.rows a (by omega)
      exact ⟨rs', (hold _ hB'.lt (h.rne a (by omega))).trans hB', hc'⟩
  · by_cases e : a = i
    · simp only [if_pos e]; exact hlo
    · simp only [if_neg e]; exact h.rlo a (by omega)
  · by_cases e : a = i
    · simp only [if_pos e]; have := hg0.lt; omega
    · simp only [if_neg e]; exact h.rne a (by omega)
  · by_cases e : a = i <;> by_cases e2 : b = i
    · omega
    · simp only [if_pos e, if_neg e2] at he; have := rlt b (by omega); omega
    · simp only [if_neg e, if_pos e2] at he; have := rlt a (by omega); omega
    · simp only [if_neg e, if_neg e2] at he; exact h.inj a b (by omega) (by omega) he
/-- A new table. -/
def NewGrid (N : Nat) (T : Tab) (w : World) (e : Ending) (w' : World) : Prop :=
  ∃ g R, e = .returned (.slice (some ⟨g, 0, none⟩) N N) ∧ Grid w' w.heap.size w'.heap.size g N R (fun _ => N) T ∧ Below w.heap.size w w'
set_option maxHeartbeats 4000000 in
theorem start_any (N : Nat) (A : Option Addr) (c : Nat) (bs : List Bd) (w : World) (h : BAt w A bs) (hN : N ≤ 1000) (hlen : bs.length ≤ 1099511627776) (hin : ∀ x ∈ bs, 0 ≤ x.f ∧ x.f < N ∧ 0 ≤ x.t ∧ x.t < N) :
    Calls Try.prog 60 #[.int .i64 N, .slice A bs.length c] w (NewGrid N (startT bs) w) := by
  obtain ⟨i0, hi0, hz0, hz1, hz2⟩ := info_parts Try.infoInts
  have hmk := fun W => run_make_rowN (P := Try.prog) 72 30 i0 _ Try.underlying72 hi0 hz0 .i64 .i64 N N (Nat.le_refl _) (by rw [hz2]; omega) (by omega) W
  rw [hz1] at hmk
  obtain ⟨i1, hi1, hy0, hy1, hy2⟩ := info_parts Try.infoInt
  have hmk2 := fun W => run_make_rowN (P := Try.prog) 30 3 i1 _ Try.underlying30 hi1 hy0 .i64 .i64 N N (Nat.le_refl _) (by rw [hy2]; omega) (by omega) W
  rw [hy1] at hmk2
  have HIN := Lib.hid hin
  clear hin
  go_enter Try.func60, Try.ntmps60
  go_wp2
  clear hmk
  go_loopw [14] (fun i W => ∃ (ii : Nat) (R : Nat → Nat), ii ≤ N ∧ i = .int .i64 ii ∧ Laid W w.heap.size w.heap.size N ii R ∧ Below w.heap.size w W) (fun i _ => N - (intOf i).toNat)
  case atStart => exact ⟨0, fun _ => 0, Nat.zero_le _, rfl, ⟨⟨_, Blk.new _ _ _, by simp [madeCells], fun a ha => absurd ha (Nat.not_lt_zero _)⟩, Nat.le_refl _, fun a ha => absurd ha (Nat.not_lt_zero _), fun a ha => absurd ha (Nat.not_lt_zero _), fun a ha => absurd ha (Nat.not_lt_zero _), fun a b ha => absurd ha (Nat.not_lt_zero _)⟩, valloc (Below.refl _ _) _⟩
  case round =>
    obtain ⟨i, R, hi, rfl, hL, hb⟩ := hrel
    have HL := Lib.hid hL
    obtain ⟨cs, hB, hcs, hc⟩ := hL.outer
    clear hL
    by_cases hlt : i < N
    · have v0 : cs[i]? = some cs[i] := Array.getElem?_eq_getElem (by omega)
      generalize cs[i] = u0 at v0
      have d0 := (hB.cell i).trans v0
      have f0 := hB.frozen i
      have hgl := hB.lt
      have HB := Lib.hid hB
      have HC := Lib.hid hc
      clear hB v0 hc
      obtain ⟨w1, hw1⟩ : ∃ w1 : World, w1 = wr := ⟨_, rfl⟩
      subst hw1
      go_wp2
      clear hmk2
      go_loopw [27] (fun kx W => ∃ (kk : Nat) (rs : Array Value), kk ≤ N ∧ kx = .int .i64 kk ∧ Blk W w1.heap.size 3 rs ∧ rs.size = N ∧ (∀ j, j < kk → rs[j]? = some (.int .i64 100000)) ∧ Blk W w.heap.size 30 (cs.setIfInBounds i (.slice (some ⟨w1.heap.size, 0, none⟩) N N)) ∧ (∀ k, k < w1.heap.size → k ≠ w.heap.size → W.heap[k]? = w1.heap[k]?) ∧ Below w.heap.size w W) (fun kx _ => N - (intOf kx).toNat)
      case atStart =>
        exact ⟨0, _, Nat.zero_le _, rfl, Blk.new' (by rw [szc]) _ _, by simp [madeCells], fun j hj => absurd hj (Nat.not_lt_zero _), (HB.out.set_ _ _).alloc _, fun k hk hne => (Below.heap_alloc _ _ _ (by rw [szc]; exact hk)).trans (Below.heap_setCell _ _ _ _ hne), valloc (vset hb (Nat.le_refl _) _) _⟩
      case round =>
        obtain ⟨k, rs, hk, rfl, hRr, hrs, hfar, hOut, hold, hb2⟩ := hrel
        have HR := Lib.hid hRr
        have HO := Lib.hid hOut
        have HF := Lib.hid hfar
        have HOLD := Lib.hid hold
        have o1 : wr.cell? ⟨w.heap.size, i, none⟩ = some (.slice (some ⟨w1.heap.size, 0, none⟩) N N) := by
          refine (hOut.cell i).trans ?_
          rw [Array.getElem?_setIfInBounds, if_pos rfl, if_pos (by omega)]
        clear hOut hfar hold
        by_cases hlt2 : k < N
        · have v0 : rs[k]? = some rs[k] := Array.getElem?_eq_getElem (by omega)
          generalize rs[k] = u1 at v0
          have d1 := (hRr.cell k).trans v0
          have f1 := hRr.frozen k
          clear hRr v0
          go_wp2
          go_roundw
          case rel =>
            refine ⟨k + 1, _, by omega, by go_num, HR.out.set_ _ _, by simpa using hrs, fun j hj => ?_, HO.out.far (by dsimp only; omega) _, fun q hq hne => (Below.heap_setCell _ _ _ _ (by dsimp only; omega)).trans (HOLD.out q hq hne), vset hb2 (by dsimp only; omega) _⟩
            rw [Array.getElem?_setIfInBounds]
            by_cases e : k = j
            · rw [if_pos e, if_pos (by omega)]
            · rw [if_neg e]; exact HF.out j (by omega)
          case measure => simp [intOf]; omega
        · obtain rfl : k = N := by omega
          have v0 : rs[i]? = some rs[i] := Array.getElem?_eq_getElem (by omega)
          generalize rs[i] = u1 at v0
          have d1 := (hRr.cell i).trans v0
          have f1 := hRr.frozen i
          clear hRr v0
          go_wp2
          go_roundw
          case rel =>
            refine ⟨i + 1, _, by omega, by go_num, HL.out.step hlt rfl (by omega) HB.out (HO.out.far (by dsimp only; omega) _) hcs HC.out (fun q hq hne => (Below.heap_setCell _ _ _ _ (by dsimp only; omega)).trans (HOLD.out q hq hne)) (HR.out.set_ _ _) (fun j hj => ?_), vset hb2 (by dsimp only; omega) _⟩
            rw [Array.getElem?_setIfInBounds]
            by_cases e : i = j
            · rw [if_pos e, if_pos (by omega)]; simp [tab0, e]
            · rw [if_neg e, HF.out j hj]; simp [tab0, e]
          case measure => simp [intOf]; omega
    · obtain rfl : i = N := by omega
      have HG := Lib.hid HL.out.grid
      clear hmk2 HL hcs hc hB
      go_wp2
      obtain ⟨w3, hw3⟩ : ∃ w3 : World, w3 = wr := ⟨_, rfl⟩
      subst hw3
      go_loopw [46] (fun kx W => ∃ k : Nat, k ≤ bs.length ∧ kx = .int .i64 k ∧ Grid W w.heap.size w3.heap.size w.heap.size i R (fun _ => i) (startT (bs.take k)) ∧ Below w.heap.size w W ∧ w3.heap.size ≤ W.heap.size) (fun kx _ => bs.length - (intOf kx).toNat)
      case atStart => exact ⟨0, Nat.zero_le _, rfl, HG.out, hb, Nat.le_refl _⟩
      case round =>
        obtain ⟨k, hk, rfl, hG, hb2, hz⟩ := hrel
        have HG2 := Lib.hid hG
        clear hG
        by_cases hlt2 : k < bs.length
        · obtain ⟨b, off, x, rfl, hbl, hx, hxm, c0, c1, c2⟩ := (h.below hb2).at_ hlt2
          obtain ⟨p1, p2, p3, p4⟩ := HIN.out x hxm
          have EB := Lib.hid (startT_snoc bs k x hx)
          obtain ⟨f, t, m⟩ := x
          simp only at p1 p2 p3 p4 c0 c1 c2
          obtain ⟨f, rfl⟩ := Int.eq_ofNat_of_zero_le p1
          obtain ⟨t, rfl⟩ := Int.eq_ofNat_of_zero_le p3
          have hf' : f < i := by omega
          have ht' : t < i := by omega
          generalize startT (bs.take k) = Tk at *
          have EP := Lib.hid (show putB Tk ⟨(f : Int), (t : Int), m⟩ = upd Tk f t (mn (Tk f t) m) from rfl)
          clear hx
          have hfi : (f : Int) < (i : Int) := p2
          have hti : (t : Int) < (i : Int) := p4
          go_wp2
          have F : ∀ o, Grid (wr.alloc o) w.heap.size w3.heap.size w.heap.size i R (fun _ => i) Tk ∧ Below w.heap.size w (wr.alloc o) ∧ w3.heap.size ≤ (wr.alloc o).heap.size := fun o => ⟨HG2.out.same ((Same.refl _ _ _).alloc o) hz, valloc hb2 o, Nat.le_trans hz (leA wr o)⟩
          have FB := Blk.new wr 64 #[.int .i64 (f : Int), .int .i64 (t : Int), .int .i64 m]
          replace F := F (.cells #[.int .i64 (f : Int), .int .i64 (t : Int), .int .i64 m] 64)
          clear c0 c1 c2
          generalize (wr.alloc (.cells #[.int .i64 (f : Int), .int .i64 (t : Int), .int .i64 m] 64)) = w4 at F FB ⊢
          obtain ⟨hG4, hb4, hz4⟩ := F
          have x0 : w4.cell? ⟨wr.heap.size, 0, none⟩ = some (.int .i64 (f : Int)) := FB.cell 0
          have x1 : w4.cell? ⟨wr.heap.size, 1, none⟩ = some (.int .i64 (t : Int)) := FB.cell 1
          have x2 : w4.cell? ⟨wr.heap.size, 2, none⟩ = some (.int .i64 m) := FB.cell 2
          have r1 := hG4.row hf'
          have r2 := hG4.cell hf' ht'
          have HG4 := Lib.hid hG4
          clear hG4 FB
          go_still_tail 20, (by kernel_rfl)
          change wpList _ _ _ _ _ w4.drew
          have F : Grid w4.drew w.heap.size w3.heap.size w.heap.size i R (fun _ => i) Tk ∧ Below w.heap.size w w4.drew ∧ w3.heap.size ≤ w4.drew.heap.size := ⟨HG4.out.drew, vdrew hb4, hz4⟩
          clear r1 r2 x0 x1 x2 HG4 hb4 hz4
          generalize w4.drew = w5 at F ⊢
          obtain ⟨hG5, hb5, hz5⟩ := F
          have d1 := hG5.cell hf' ht'
          have d2 := hG5.frozen (j := t) hf'
          have GS := Lib.hid (hG5.set_ hf' ht' (mn (Tk f t) m))
          have BS := Lib.hid (vset hb5 (p := ⟨R f, t, none⟩) (hG5.rlo f hf') (.int .i64 (mn (Tk f t) m)))
          have hzs : w3.heap.size ≤ (w5.setCell ⟨R f, t, none⟩ (.int .i64 (mn (Tk f t) m))).heap.size := by rw [szc]; exact hz5
          have HZ := Lib.hid hzs
          clear hG5 hb5 hzs
          go_wp2
          go_roundw
          case rel => exact ⟨k + 1, by omega, by go_num, by rw [EB.out, EP.out]; exact GS.out, BS.out, HZ.out⟩
          case measure => simp [intOf]; omega
        · obtain rfl : k = bs.length := by omega
          go_wp2
          go_ret
          have := HG2.out
          rw [List.take_length] at this
          exact ⟨_, R, rfl, this.wide (Nat.le_refl _) hz, hb2⟩
end Go.Proofs.Ytaifpindiphlkaa
namespace Go.Proofs.Ytaifpindiphlkaa
open Go.RowKit
set_option linter.unusedVariables false
set_option maxRecDepth 10000
set_option linter.unusedSimpArgs false

/-- A new closed table, and true. -/
def NewTable (n : Int) (bs : List Bd) (w : World) (e : Ending) (w' : World) : Prop :=
  ∃ (g N : Nat) (R : Nat → Nat), n = (N : Int) ∧ 1 ≤ N ∧ N ≤ 6 ∧ e = .returned (.tuple #[.slice (some ⟨g, 0, none⟩) N N, .bool true]) ∧ Grid w' w.heap.size w'.heap.size g N R (fun _ => N) (closedT n bs) ∧ Below w.heap.size w w'
theorem closed_no (n : Int) (A : Option Addr) (c : Nat) (bs : List Bd) (w : World) (h : BAt w A bs) (hlen : bs.length ≤ 1099511627776) (hf : fitsOk n bs = false) :
    Calls Try.prog 68 #[.agg #[.int .i64 n, .slice A bs.length c]] w fun e w' => e = .returned (.tuple #[.slice none 0 0, .bool false]) ∧ Below w.heap.size w w' := by
  cases hp : planOk n bs
  · clear hf
    go_enter Try.func68, Try.ntmps68
    go_wp2_with fail
    refine (planOk_any _ _ _ bs _ (h.below (by repeat (first | with_reducible exact Below.refl _ _ | with_reducible refine valloc ?_ _ | with_reducible refine vdrew ?_ | with_reducible refine vdrewN ?_ _ | with_reducible refine via (by assumption) ?_ | refine vset ?_ (by first | exact Nat.le_refl _ | (simp; done) | (simp; omega) | omega) _))) hlen).mono ?_; rintro e w1 ⟨rfl, hbw1⟩
    go_wp2
    go_ret2
    refine ⟨rfl, ?_⟩
    repeat (first | with_reducible exact Below.refl _ _ | with_reducible refine valloc ?_ _ | with_reducible refine vdrew ?_ | with_reducible refine vdrewN ?_ _ | with_reducible refine via (by assumption) ?_ | refine vset ?_ (by first | exact Nat.le_refl _ | (simp; done) | (simp; omega) | omega) _)
  · obtain ⟨h1, h6, _, hin⟩ := planOk_of hp
    obtain ⟨N, rfl⟩ := Int.eq_ofNat_of_zero_le (show 0 ≤ n by omega)
    have HD := Lib.hid (show diagOk N (closeT N (startT bs)) = false by simpa [fitsOk, hp, closedT] using hf)
    have HIN := Lib.hid (show ∀ x ∈ bs, 0 ≤ x.f ∧ x.f < N ∧ 0 ≤ x.t ∧ x.t < N from fun x hx => by have := hin x hx; omega)
    clear hf hin
    go_enter Try.func68, Try.ntmps68
    go_wp2_with fail
    refine (planOk_any _ _ _ bs _ (h.below (by repeat (first | with_reducible exact Below.refl _ _ | with_reducible refine valloc ?_ _ | with_reducible refine vdrew ?_ | with_reducible refine vdrewN ?_ _ | with_reducible refine via (by assumption) ?_ | refine vset ?_ (by first | exact Nat.le_refl _ | (simp; done) | (simp; omega) | omega) _))) hlen).mono ?_; rintro e w1 ⟨rfl, hbw1⟩; obtain ⟨hcw1, hfw1⟩ := bcell hbw1; have hzw1 := hbw1.size; (try simp only [sz] at hzw1); (try simp only [szc] at hzw1); have hzw1_0 : w.heap.size < w1.heap.size := (by omega)
    go_wp2_with fail
    refine (start_any N _ _ bs _ (h.below (by repeat (first | with_reducible exact Below.refl _ _ | with_reducible refine valloc ?_ _ | with_reducible refine vdrew ?_ | with_reducible refine vdrewN ?_ _ | with_reducible refine via (by assumption) ?_ | refine vset ?_ (by first | exact Nat.le_refl _ | (simp; done) | (simp; omega) | omega) _))) (by omega) hlen HIN.out).mono ?_; rintro e w2 ⟨g, R, rfl, hG, hbw2⟩
    go_wp2_with fail
    refine (close_any _ _ g N N R _ _ _ hG (by omega)).mono ?_; rintro e w3 ⟨rfl, hG3, hO⟩
    have hd := HD.out
    go_wp2
    go_ret2
    refine ⟨rfl, viaOnly hO (show w.heap.size ≤ w1.heap.size by omega) ?_⟩
    repeat (first | with_reducible exact Below.refl _ _ | with_reducible refine valloc ?_ _ | with_reducible refine vdrew ?_ | with_reducible refine vdrewN ?_ _ | with_reducible refine via (by assumption) ?_ | refine vset ?_ (by first | exact Nat.le_refl _ | (simp; done) | (simp; omega) | omega) _)
theorem closed_yes (n : Int) (A : Option Addr) (c : Nat) (bs : List Bd) (w : World) (h : BAt w A bs) (hlen : bs.length ≤ 1099511627776) (hf : fitsOk n bs = true) :
    Calls Try.prog 68 #[.agg #[.int .i64 n, .slice A bs.length c]] w (NewTable n bs w) := by
  have hp : planOk n bs = true := by simp only [fitsOk, Bool.and_eq_true] at hf; exact hf.1
  obtain ⟨h1, h6, _, hin⟩ := planOk_of hp
  obtain ⟨N, rfl⟩ := Int.eq_ofNat_of_zero_le (show 0 ≤ n by omega)
  have HD := Lib.hid (show diagOk N (closeT N (startT bs)) = true by simpa [fitsOk, hp, closedT] using hf)
  have HIN := Lib.hid (show ∀ x ∈ bs, 0 ≤ x.f ∧ x.f < N ∧ 0 ≤ x.t ∧ x.t < N from fun x hx => by have := hin x hx; omega)
  clear hf hin
  go_enter Try.func68, Try.ntmps68
  go_wp2_with fail
  refine (planOk_any _ _ _ bs _ (h.below (by repeat (first | with_reducible exact Below.refl _ _ | with_reducible refine valloc ?_ _ | with_reducible refine vdrew ?_ | with_reducible refine vdrewN ?_ _ | with_reducible refine via (by assumption) ?_ | refine vset ?_ (by first | exact Nat.le_refl _ | (simp; done) | (simp; omega) | omega) _))) hlen).mono ?_; rintro e w1 ⟨rfl, hbw1⟩; obtain ⟨hcw1, hfw1⟩ := bcell hbw1; have hzw1 := hbw1.size; (try simp only [sz] at hzw1); (try simp only [szc] at hzw1); have hzw1_0 : w.heap.size < w1.heap.size := (by omega)
  go_wp2_with fail
  refine (start_any N _ _ bs _ (h.below (by repeat (first | with_reducible exact Below.refl _ _ | with_reducible refine valloc ?_ _ | with_reducible refine vdrew ?_ | with_reducible refine vdrewN ?_ _ | with_reducible refine via (by assumption) ?_ | refine vset ?_ (by first | exact Nat.le_refl _ | (simp; done) | (simp; omega) | omega) _))) (by omega) hlen HIN.out).mono ?_; rintro e w2 ⟨g, R, rfl, hG, hbw2⟩
  go_wp2_with fail
  refine (close_any _ _ g N N R _ _ _ hG (by omega)).mono ?_; rintro e w3 ⟨rfl, hG3, hO⟩
  have HG3 := Lib.hid hG3
  have hd := HD.out
  clear hG hG3
  go_wp2
  go_ret2
  refine ⟨g, N, R, rfl, by omega, by omega, rfl, HG3.out.wide (by omega) hO.size, viaOnly hO (show w.heap.size ≤ w1.heap.size by omega) ?_⟩
  repeat (first | with_reducible exact Below.refl _ _ | with_reducible refine valloc ?_ _ | with_reducible refine vdrew ?_ | with_reducible refine vdrewN ?_ _ | with_reducible refine via (by assumption) ?_ | refine vset ?_ (by first | exact Nat.le_refl _ | (simp; done) | (simp; omega) | omega) _)
end Go.Proofs.Ytaifpindiphlkaa
