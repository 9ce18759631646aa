/- Words for the search of a bad ring, in plain Lean; no condition. -/
import Derived.Test.YtnompncmachgjaaPlainBack
import Derived.Test.YtnompncmachgjaaPlainL4
import Derived.Test.YtnompncmachgjaaKD
import Derived.Test.YtnompncmachgjaaKI
namespace Go.Proofs.Ytnompncmachgjaa
open Go.RowKit
set_option linter.unusedVariables false
set_option maxRecDepth 10000
set_option linter.unusedSimpArgs false

theorem rangeF_none {α : Type} {f : Nat → Option α} : ∀ (L : Nat), (∀ a, a < L → f a = none) → (List.range L).findSome? f = none
  | 0, _ => rfl
  | L + 1, hn => by
    rw [List.range_succ, List.findSome?_append, rangeF_none L (fun a ha => hn a (by omega))]
    simp [hn L (Nat.lt_succ_self L)]
theorem rangeF_some {α : Type} {f : Nat → Option α} {r : α} : ∀ (L : Nat) {k : Nat}, k < L → f k = some r → (∀ a, a < k → f a = none) → (List.range L).findSome? f = some r
  | 0, k, h, _, _ => by omega
  | L + 1, k, h, hf, hn => by
    rw [List.range_succ, List.findSome?_append]
    by_cases e : k < L
    · rw [rangeF_some L e hf hn]; rfl
    · obtain rfl : k = L := by omega
      rw [rangeF_none k hn]; simp [hf]
/-- One round of the search. -/
def stepS (bs : List Bd) (d : Nat) (row : List Nat) (sum : Int) (k : Nat) : Option (List Nat) := if goes bs row k = true then srch bs d (row ++ [k]) (sum + (bdAt bs k).m) else none
theorem srch_succ (bs : List Bd) (d : Nat) (row : List Nat) (sum : Int) : srch bs (d + 1) row sum = (List.range bs.length).findSome? (stepS bs d row sum) := rfl
theorem srch_zero (bs : List Bd) (row : List Nat) (sum : Int) : srch bs 0 row sum = if back bs row = true ∧ sum < 0 then some row else none := rfl
theorem stepS_no {bs : List Bd} {d : Nat} {row : List Nat} {sum : Int} {k : Nat} (h : goes bs row k = false) : stepS bs d row sum k = none := by unfold stepS; rw [h]; rfl
theorem stepS_yes {bs : List Bd} {d : Nat} {row : List Nat} {sum : Int} {k : Nat} (h : goes bs row k = true) : stepS bs d row sum k = srch bs d (row ++ [k]) (sum + (bdAt bs k).m) := if_pos h
theorem runs_snoc (bs : List Bd) : ∀ (ks row : List Nat) (k : Nat), runs bs row (ks ++ [k]) = (runs bs row ks && goes bs (row ++ ks) k)
  | [], row, k => by simp [runs]
  | a :: ks, row, k => by
    have ih := runs_snoc bs ks (row ++ [a]) k
    show (goes bs row a && runs bs (row ++ [a]) (ks ++ [k])) = (goes bs row a && runs bs (row ++ [a]) ks && goes bs (row ++ a :: ks) k)
    rw [ih, List.append_assoc, List.singleton_append, Bool.and_assoc]
theorem goes_nil (bs : List Bd) (k : Nat) : goes bs [] k = true := rfl
theorem goes_snoc (bs : List Bd) (row : List Nat) (a k : Nat) : goes bs (row ++ [a]) k = decide ((bdAt bs a).t = (bdAt bs k).f) := by
  unfold goes; rw [List.getLast?_concat]
theorem ints_snoc (row : List Nat) (k : Nat) : ints (row ++ [k]) = ints row ++ [(k : Int)] := by simp [ints]
theorem ints_nil : ints [] = [] := rfl
theorem ints_at {row : List Nat} {k a : Nat} (h : row[k]? = some a) : (ints row)[k]? = some (a : Int) := by simp [ints, h]
/-- What the search hands back: nil; or a row of the call's own, or the row that came in. -/
def SrchRes (bs : List Bd) (d : Nat) (row : List Nat) (sum : Int) (A' : Option Addr) (w : World) (e : Ending) (w' : World) : Prop :=
  Below w.heap.size w w' ∧ ((srch bs d row sum = none ∧ e = .returned (.slice none 0 0)) ∨ ∃ out ad c, srch bs d row sum = some out ∧ e = .returned (.slice (some ad) out.length c) ∧ (RI w' w.heap.size w'.heap.size (some ad) (ints out) ∨ (out = row ∧ A' = some ad)))
/-- The same for the reference: an empty row if there is none. -/
def SrchResS (bs : List Bd) (d : Nat) (row : List Nat) (sum : Int) (A' : Option Addr) (w : World) (e : Ending) (w' : World) : Prop :=
  Below w.heap.size w w' ∧ ((srch bs d row sum = none ∧ ∃ G c, e = .returned (.slice G 0 c)) ∨ ∃ out ad c, srch bs d row sum = some out ∧ e = .returned (.slice (some ad) out.length c) ∧ (RI w' w.heap.size w'.heap.size (some ad) (ints out) ∨ (out = row ∧ A' = some ad)))
theorem fewF_none {t : Nat → Bool} : ∀ (c m : Nat), (∀ a, m ≤ a → a < m + c → t a = false) → fewF t c m = 6
  | 0, _, _ => rfl
  | c + 1, m, h => by
    unfold fewF
    rw [if_neg (by rw [h m (Nat.le_refl _) (by omega)]; simp)]
    exact fewF_none c (m + 1) (fun a h1 h2 => h a (by omega) (by omega))
theorem negD_no {N : Nat} {T : Tab} (h : ∀ i, i < N → 0 ≤ T i i) : negD N T = false := by
  cases e : negD N T with
  | false => rfl
  | true => obtain ⟨i, h1, h2⟩ := (negD_iff N T).1 e; have := h i h1; omega
theorem negD_yes {N i : Nat} {T : Tab} (hi : i < N) (h : T i i < 0) : negD N T = true := (negD_iff N T).2 ⟨i, hi, h⟩
/- the tables of fewestBad -/
def farT (i : Nat) : Tab := fun a b => if a = b ∧ a < i then 100000 else tab0 a b
theorem farT_zero (a b : Nat) : tab0 a b = farT 0 a b := by unfold farT; rw [if_neg (by omega)]
theorem farT_step (i a b : Nat) : upd (farT i) i i 100000 a b = farT (i + 1) a b := by
  unfold upd farT tab0
  repeat' split
  all_goals omega
def oneK (bs : List Bd) (k : Nat) : Tab := fun a b => (bs.take k).foldl (entB a b) 100000
theorem farT_one {N : Nat} (bs : List Bd) (a b : Nat) (ha : a < N) : farT N a b = oneK bs 0 a b := by
  show farT N a b = 100000
  unfold farT tab0
  repeat' split
  all_goals omega
theorem oneK_step {bs : List Bd} {k f t : Nat} {m : Int} (h : bs[k]? = some ⟨f, t, m⟩) (a b : Nat) : upd (oneK bs k) f t (mn (oneK bs k f t) m) a b = oneK bs (k + 1) a b := by
  have e : bs.take (k + 1) = bs.take k ++ [⟨f, t, m⟩] := by rw [List.take_add_one, h]; rfl
  have e2 : oneK bs (k + 1) a b = entB a b (oneK bs k a b) ⟨f, t, m⟩ := by unfold oneK; rw [e, List.foldl_append]; rfl
  rw [e2]
  unfold upd entB
  by_cases c : a = f ∧ b = t
  · obtain ⟨rfl, rfl⟩ := c
    rw [if_pos ⟨rfl, rfl⟩, if_pos ⟨rfl, rfl⟩]
  · rw [if_neg c, if_neg (by simp only; omega)]
theorem oneK_all (bs : List Bd) (a b : Nat) : oneK bs bs.length a b = oneT bs a b := by unfold oneK oneT; rw [List.take_length]
def rowS (N : Nat) (A B : Tab) (i : Nat) : Tab := fun a b => if a < i then nextT N A B a b else tab0 a b
def rowT (N : Nat) (A B : Tab) (i j k : Nat) : Tab := fun a b => if a < i then nextT N A B a b else if a = i then (if b < j then nextT N A B a b else if b = j then (List.range k).foldl (overK A B a b) 100000 else 100000) else tab0 a b
theorem rowS_zero (N : Nat) (A B : Tab) (a b : Nat) : tab0 a b = rowS N A B 0 a b := by unfold rowS; rw [if_neg (by omega)]
theorem rowT_zero (N : Nat) (A B : Tab) (i a b : Nat) : upd (rowS N A B i) i i 100000 a b = rowT N A B i 0 0 a b := by
  unfold upd rowS rowT
  by_cases c : a = i
  · subst c
    rw [if_neg (Nat.lt_irrefl _), if_neg (Nat.lt_irrefl _), if_pos rfl, if_neg (Nat.not_lt_zero _)]
    have e0 : (List.range 0).foldl (overK A B a b) 100000 = 100000 := rfl
    rw [e0]
    by_cases c2 : b = a
    · rw [if_pos ⟨rfl, c2⟩]; split <;> rfl
    · rw [if_neg (fun h => c2 h.2)]
      unfold tab0
      rw [if_neg (fun h => c2 h.symm)]
      split <;> rfl
  · rw [if_neg (fun h => c h.1), if_neg c]
theorem rowT_step (N : Nat) (A B : Tab) (i j k a b : Nat) : upd (rowT N A B i j k) i j (overK A B i j (rowT N A B i j k i j) k) a b = rowT N A B i j (k + 1) a b := by
  have e : rowT N A B i j k i j = (List.range k).foldl (overK A B i j) 100000 := by
    unfold rowT; rw [if_neg (Nat.lt_irrefl _), if_pos rfl, if_neg (Nat.lt_irrefl _), if_pos rfl]
  rw [e]
  unfold upd
  by_cases c : a = i ∧ b = j
  · obtain ⟨rfl, rfl⟩ := c
    rw [if_pos ⟨rfl, rfl⟩]
    unfold rowT
    rw [if_neg (Nat.lt_irrefl _), if_pos rfl, if_neg (Nat.lt_irrefl _), if_pos rfl, range_fold]
  · rw [if_neg c]
    unfold rowT
    split
    · rfl
    · split
      · split
        · rfl
        · rw [if_neg (by omega), if_neg (by omega)]
      · rfl
theorem rowT_skip {N : Nat} {A B : Tab} {i j k : Nat} (h : ¬ (A i k ≠ 100000 ∧ B k j ≠ 100000)) (a b : Nat) : rowT N A B i j k a b = rowT N A B i j (k + 1) a b := by
  rw [← rowT_step]
  unfold upd
  split
  · rename_i c
    rw [c.1, c.2]
    unfold overK
    rw [if_neg h]
  · rfl
theorem rowT_take {N : Nat} {A B : Tab} {i j k : Nat} (h : A i k ≠ 100000 ∧ B k j ≠ 100000) (a b : Nat) : upd (rowT N A B i j k) i j (mn (rowT N A B i j k i j) (wrap64 (A i k + B k j))) a b = rowT N A B i j (k + 1) a b := by
  rw [← rowT_step]
  unfold overK
  rw [if_pos h]
theorem rowT_col (N : Nat) (A B : Tab) (i j a b : Nat) : rowT N A B i j N a b = rowT N A B i (j + 1) 0 a b := by
  have e0 : (List.range 0).foldl (overK A B a b) 100000 = 100000 := rfl
  unfold rowT
  rw [e0]
  split
  · rfl
  · split
    · by_cases c : b < j
      · rw [if_pos c, if_pos (by omega)]
      · rw [if_neg c]
        by_cases c2 : b = j
        · rw [if_pos c2, if_pos (by omega)]; rfl
        · rw [if_neg c2, if_neg (by omega)]; split <;> rfl
    · rfl
theorem rowT_row (N : Nat) (A B : Tab) (i a b : Nat) (hb : b < N) : rowT N A B i N 0 a b = rowS N A B (i + 1) a b := by
  unfold rowT rowS
  by_cases c : a < i
  · rw [if_pos c, if_pos (by omega)]
  · rw [if_neg c]
    by_cases c2 : a = i
    · rw [if_pos c2, if_pos hb, if_pos (by omega)]
    · rw [if_neg c2, if_neg (by omega)]
theorem rowS_all (N : Nat) (A B : Tab) (a b : Nat) (ha : a < N) : rowS N A B N a b = nextT N A B a b := if_pos ha
theorem OwnL.rcap {w : World} {base : Nat} {v : Value} {xs : List Int} (h : OwnL w base v xs) : ∃ G c, v = .slice G xs.length c ∧ RI w base w.heap.size G xs ∧ xs.length ≤ c ∧ (G = none → c = 0) := by
  obtain ⟨G, c, rfl, hr⟩ := h.ri
  refine ⟨G, c, rfl, hr, ?_, ?_⟩ <;> obtain ⟨h1, ⟨e, h0⟩ | ⟨g2, cap, cur, hv, _, _, hn2, _⟩⟩ := h
  · omega
  · injection hv with e1 e2 e3; omega
  · injection e with e1 e2 e3; exact fun _ => e3
  · injection hv with e1 e2 e3; intro e; rw [e] at e1; cases e1
end Go.Proofs.Ytnompncmachgjaa
