/-
  No cell of these rows narrows 'for every input' (looked for: loops, veiled, ifaces, maps, wideKeys, modest, calm, conditions, laid).
  DERIVED. THE GIVEN ROWS OF THIS SEAT. 12 by the template 'for every input the law returns true; each argument reads behind the call as it read before'; 0 by the template 'total and deterministic' (their statements: YtacalapbfcmlgaaTotals.lean).
  GIVEN WITH THE SEED: the statements are not yours to turn. If you find one false, say at which input.
  Laid BY PROGRAM, IN A SANDBOX (cutbox-rows.mjs): the forced cells as the released guide's own fill.sh prints them over the translation 2020d83f4fe93679… (all of the seat's roots in one cut). By AI agents, Wed Nov 11 2026. No macro, syntax, notation, axiom, sorry.
-/
import Derived.Test.YtacalapbfcmlgaaChecked
import GoSem.Claim
import GoSem.ClaimJoined
import GoSem.ClaimMapViews
import Derived.JoinedTies
import Derived.KernelRfl
namespace Go.Proofs.Ytacalapbfcmlgaa
/- THE CELL 'sum', in the pinned program and in every row, IS THE sha256 OF THE DUMP (.gsa) THAT YtacalapbfcmlgaaProg.lean LOADS. Nothing in Lean hashes anything: it is a label: what it is worth is what the hold of that sum in a sandbox is worth. -/
noncomputable def Try.pinned : Pinned := { name := "ytacalapbfcmlgaa", sum := "2020d83f4fe93679273f819f6853800ca76914493fefba4ad64267243e84bce2", checked := Try.checked }
namespace Rows
def none {H : Type} : Left H := { results := [], args := [] }

/-- 'laws.FnExactBrokenOf': WHATEVER THE INPUT: true; the input reads as it did. -/
def fnExactBrokenOfSpec : ChangeSpec := { name := "fnExactBrokenOf", fn := fun _ => fun
  | [d1, d2] => { results := [.lit (.bool true)], args := [d1, d2] }
  | _ => none }
def fnExactBrokenOfRow : OpenClaim := { program := "ytacalapbfcmlgaa", sum := "2020d83f4fe93679273f819f6853800ca76914493fefba4ad64267243e84bce2", func := "loop.example/plansandpromises/laws.FnExactBrokenOf", spec := "fnExactBrokenOf", unfollowed := true, recurses := true, apart := false }
def FnExactBrokenOfSaid : Prop := fnExactBrokenOfRow.holds Try.pinned (OpenSpec.ofChange fnExactBrokenOfSpec)

/-- ITS FALSE NEIGHBOUR: 'it returns false'. Refute it at one input. -/
def fnExactBrokenOfWrong : ChangeSpec := { name := "fnExactBrokenOf", fn := fun _ => fun
  | [d1, d2] => { results := [.lit (.bool false)], args := [d1, d2] }
  | _ => none }
def FnExactBrokenOfWrongFalsely : Prop := fnExactBrokenOfRow.holds Try.pinned (OpenSpec.ofChange fnExactBrokenOfWrong)

/-- 'laws.FnExactMovedBy': WHATEVER THE INPUT: true; the input reads as it did. -/
def fnExactMovedBySpec : ChangeSpec := { name := "fnExactMovedBy", fn := fun _ => fun
  | [d1, d2, d3] => { results := [.lit (.bool true)], args := [d1, d2, d3] }
  | _ => none }
def fnExactMovedByRow : OpenClaim := { program := "ytacalapbfcmlgaa", sum := "2020d83f4fe93679273f819f6853800ca76914493fefba4ad64267243e84bce2", func := "loop.example/plansandpromises/laws.FnExactMovedBy", spec := "fnExactMovedBy", unfollowed := true, recurses := true, apart := false }
def FnExactMovedBySaid : Prop := fnExactMovedByRow.holds Try.pinned (OpenSpec.ofChange fnExactMovedBySpec)

/-- ITS FALSE NEIGHBOUR: 'it returns false'. Refute it at one input. -/
def fnExactMovedByWrong : ChangeSpec := { name := "fnExactMovedBy", fn := fun _ => fun
  | [d1, d2, d3] => { results := [.lit (.bool false)], args := [d1, d2, d3] }
  | _ => none }
def FnExactMovedByWrongFalsely : Prop := fnExactMovedByRow.holds Try.pinned (OpenSpec.ofChange fnExactMovedByWrong)

/-- 'laws.FnExactFitsOk': WHATEVER THE INPUT: true; the input reads as it did. -/
def fnExactFitsOkSpec : ChangeSpec := { name := "fnExactFitsOk", fn := fun _ => fun
  | [d] => { results := [.lit (.bool true)], args := [d] }
  | _ => none }
def fnExactFitsOkRow : OpenClaim := { program := "ytacalapbfcmlgaa", sum := "2020d83f4fe93679273f819f6853800ca76914493fefba4ad64267243e84bce2", func := "loop.example/plansandpromises/laws.FnExactFitsOk", spec := "fnExactFitsOk", unfollowed := true, recurses := true, apart := false }
def FnExactFitsOkSaid : Prop := fnExactFitsOkRow.holds Try.pinned (OpenSpec.ofChange fnExactFitsOkSpec)

/-- ITS FALSE NEIGHBOUR: 'it returns false'. Refute it at one input. -/
def fnExactFitsOkWrong : ChangeSpec := { name := "fnExactFitsOk", fn := fun _ => fun
  | [d] => { results := [.lit (.bool false)], args := [d] }
  | _ => none }
def FnExactFitsOkWrongFalsely : Prop := fnExactFitsOkRow.holds Try.pinned (OpenSpec.ofChange fnExactFitsOkWrong)

/-- 'laws.FnExactMostOf': WHATEVER THE INPUT: true; the input reads as it did. -/
def fnExactMostOfSpec : ChangeSpec := { name := "fnExactMostOf", fn := fun _ => fun
  | [d1, d2, d3] => { results := [.lit (.bool true)], args := [d1, d2, d3] }
  | _ => none }
def fnExactMostOfRow : OpenClaim := { program := "ytacalapbfcmlgaa", sum := "2020d83f4fe93679273f819f6853800ca76914493fefba4ad64267243e84bce2", func := "loop.example/plansandpromises/laws.FnExactMostOf", spec := "fnExactMostOf", unfollowed := true, recurses := true, apart := false }
def FnExactMostOfSaid : Prop := fnExactMostOfRow.holds Try.pinned (OpenSpec.ofChange fnExactMostOfSpec)

/-- ITS FALSE NEIGHBOUR: 'it returns false'. Refute it at one input. -/
def fnExactMostOfWrong : ChangeSpec := { name := "fnExactMostOf", fn := fun _ => fun
  | [d1, d2, d3] => { results := [.lit (.bool false)], args := [d1, d2, d3] }
  | _ => none }
def FnExactMostOfWrongFalsely : Prop := fnExactMostOfRow.holds Try.pinned (OpenSpec.ofChange fnExactMostOfWrong)

/-- 'laws.FnExactTightOk': WHATEVER THE INPUT: true; the input reads as it did. -/
def fnExactTightOkSpec : ChangeSpec := { name := "fnExactTightOk", fn := fun _ => fun
  | [d1, d2] => { results := [.lit (.bool true)], args := [d1, d2] }
  | _ => none }
def fnExactTightOkRow : OpenClaim := { program := "ytacalapbfcmlgaa", sum := "2020d83f4fe93679273f819f6853800ca76914493fefba4ad64267243e84bce2", func := "loop.example/plansandpromises/laws.FnExactTightOk", spec := "fnExactTightOk", unfollowed := true, recurses := true, apart := false }
def FnExactTightOkSaid : Prop := fnExactTightOkRow.holds Try.pinned (OpenSpec.ofChange fnExactTightOkSpec)

/-- ITS FALSE NEIGHBOUR: 'it returns false'. Refute it at one input. -/
def fnExactTightOkWrong : ChangeSpec := { name := "fnExactTightOk", fn := fun _ => fun
  | [d1, d2] => { results := [.lit (.bool false)], args := [d1, d2] }
  | _ => none }
def FnExactTightOkWrongFalsely : Prop := fnExactTightOkRow.holds Try.pinned (OpenSpec.ofChange fnExactTightOkWrong)

/-- 'laws.FnExactLeastOf': WHATEVER THE INPUT: true; the input reads as it did. -/
def fnExactLeastOfSpec : ChangeSpec := { name := "fnExactLeastOf", fn := fun _ => fun
  | [d1, d2, d3] => { results := [.lit (.bool true)], args := [d1, d2, d3] }
  | _ => none }
def fnExactLeastOfRow : OpenClaim := { program := "ytacalapbfcmlgaa", sum := "2020d83f4fe93679273f819f6853800ca76914493fefba4ad64267243e84bce2", func := "loop.example/plansandpromises/laws.FnExactLeastOf", spec := "fnExactLeastOf", unfollowed := true, recurses := true, apart := false }
def FnExactLeastOfSaid : Prop := fnExactLeastOfRow.holds Try.pinned (OpenSpec.ofChange fnExactLeastOfSpec)

/-- ITS FALSE NEIGHBOUR: 'it returns false'. Refute it at one input. -/
def fnExactLeastOfWrong : ChangeSpec := { name := "fnExactLeastOf", fn := fun _ => fun
  | [d1, d2, d3] => { results := [.lit (.bool false)], args := [d1, d2, d3] }
  | _ => none }
def FnExactLeastOfWrongFalsely : Prop := fnExactLeastOfRow.holds Try.pinned (OpenSpec.ofChange fnExactLeastOfWrong)

/-- 'laws.FnExactTableOf': WHATEVER THE INPUT: true; the input reads as it did. -/
def fnExactTableOfSpec : ChangeSpec := { name := "fnExactTableOf", fn := fun _ => fun
  | [d] => { results := [.lit (.bool true)], args := [d] }
  | _ => none }
def fnExactTableOfRow : OpenClaim := { program := "ytacalapbfcmlgaa", sum := "2020d83f4fe93679273f819f6853800ca76914493fefba4ad64267243e84bce2", func := "loop.example/plansandpromises/laws.FnExactTableOf", spec := "fnExactTableOf", unfollowed := true, recurses := true, apart := false }
def FnExactTableOfSaid : Prop := fnExactTableOfRow.holds Try.pinned (OpenSpec.ofChange fnExactTableOfSpec)

/-- ITS FALSE NEIGHBOUR: 'it returns false'. Refute it at one input. -/
def fnExactTableOfWrong : ChangeSpec := { name := "fnExactTableOf", fn := fun _ => fun
  | [d] => { results := [.lit (.bool false)], args := [d] }
  | _ => none }
def FnExactTableOfWrongFalsely : Prop := fnExactTableOfRow.holds Try.pinned (OpenSpec.ofChange fnExactTableOfWrong)

/-- 'laws.FnExactMayBeOk': WHATEVER THE INPUT: true; the input reads as it did. -/
def fnExactMayBeOkSpec : ChangeSpec := { name := "fnExactMayBeOk", fn := fun _ => fun
  | [d1, d2, d3, d4] => { results := [.lit (.bool true)], args := [d1, d2, d3, d4] }
  | _ => none }
def fnExactMayBeOkRow : OpenClaim := { program := "ytacalapbfcmlgaa", sum := "2020d83f4fe93679273f819f6853800ca76914493fefba4ad64267243e84bce2", func := "loop.example/plansandpromises/laws.FnExactMayBeOk", spec := "fnExactMayBeOk", unfollowed := true, recurses := true, apart := false }
def FnExactMayBeOkSaid : Prop := fnExactMayBeOkRow.holds Try.pinned (OpenSpec.ofChange fnExactMayBeOkSpec)

/-- ITS FALSE NEIGHBOUR: 'it returns false'. Refute it at one input. -/
def fnExactMayBeOkWrong : ChangeSpec := { name := "fnExactMayBeOk", fn := fun _ => fun
  | [d1, d2, d3, d4] => { results := [.lit (.bool false)], args := [d1, d2, d3, d4] }
  | _ => none }
def FnExactMayBeOkWrongFalsely : Prop := fnExactMayBeOkRow.holds Try.pinned (OpenSpec.ofChange fnExactMayBeOkWrong)

/-- 'laws.FnExactImpliesOk': WHATEVER THE INPUT: true; the input reads as it did. -/
def fnExactImpliesOkSpec : ChangeSpec := { name := "fnExactImpliesOk", fn := fun _ => fun
  | [d1, d2] => { results := [.lit (.bool true)], args := [d1, d2] }
  | _ => none }
def fnExactImpliesOkRow : OpenClaim := { program := "ytacalapbfcmlgaa", sum := "2020d83f4fe93679273f819f6853800ca76914493fefba4ad64267243e84bce2", func := "loop.example/plansandpromises/laws.FnExactImpliesOk", spec := "fnExactImpliesOk", unfollowed := true, recurses := true, apart := false }
def FnExactImpliesOkSaid : Prop := fnExactImpliesOkRow.holds Try.pinned (OpenSpec.ofChange fnExactImpliesOkSpec)

/-- ITS FALSE NEIGHBOUR: 'it returns false'. Refute it at one input. -/
def fnExactImpliesOkWrong : ChangeSpec := { name := "fnExactImpliesOk", fn := fun _ => fun
  | [d1, d2] => { results := [.lit (.bool false)], args := [d1, d2] }
  | _ => none }
def FnExactImpliesOkWrongFalsely : Prop := fnExactImpliesOkRow.holds Try.pinned (OpenSpec.ofChange fnExactImpliesOkWrong)

/-- 'laws.FnExactWideOf': WHATEVER THE INPUT: true; the input reads as it did. -/
def fnExactWideOfSpec : ChangeSpec := { name := "fnExactWideOf", fn := fun _ => fun
  | [d1, d2, d3] => { results := [.lit (.bool true)], args := [d1, d2, d3] }
  | _ => none }
def fnExactWideOfRow : OpenClaim := { program := "ytacalapbfcmlgaa", sum := "2020d83f4fe93679273f819f6853800ca76914493fefba4ad64267243e84bce2", func := "loop.example/plansandpromises/laws.FnExactWideOf", spec := "fnExactWideOf", unfollowed := true, recurses := true, apart := false }
def FnExactWideOfSaid : Prop := fnExactWideOfRow.holds Try.pinned (OpenSpec.ofChange fnExactWideOfSpec)

/-- ITS FALSE NEIGHBOUR: 'it returns false'. Refute it at one input. -/
def fnExactWideOfWrong : ChangeSpec := { name := "fnExactWideOf", fn := fun _ => fun
  | [d1, d2, d3] => { results := [.lit (.bool false)], args := [d1, d2, d3] }
  | _ => none }
def FnExactWideOfWrongFalsely : Prop := fnExactWideOfRow.holds Try.pinned (OpenSpec.ofChange fnExactWideOfWrong)

/-- 'laws.FnExactAlikeOk': WHATEVER THE INPUT: true; the input reads as it did. -/
def fnExactAlikeOkSpec : ChangeSpec := { name := "fnExactAlikeOk", fn := fun _ => fun
  | [d1, d2] => { results := [.lit (.bool true)], args := [d1, d2] }
  | _ => none }
def fnExactAlikeOkRow : OpenClaim := { program := "ytacalapbfcmlgaa", sum := "2020d83f4fe93679273f819f6853800ca76914493fefba4ad64267243e84bce2", func := "loop.example/plansandpromises/laws.FnExactAlikeOk", spec := "fnExactAlikeOk", unfollowed := true, recurses := true, apart := false }
def FnExactAlikeOkSaid : Prop := fnExactAlikeOkRow.holds Try.pinned (OpenSpec.ofChange fnExactAlikeOkSpec)

/-- ITS FALSE NEIGHBOUR: 'it returns false'. Refute it at one input. -/
def fnExactAlikeOkWrong : ChangeSpec := { name := "fnExactAlikeOk", fn := fun _ => fun
  | [d1, d2] => { results := [.lit (.bool false)], args := [d1, d2] }
  | _ => none }
def FnExactAlikeOkWrongFalsely : Prop := fnExactAlikeOkRow.holds Try.pinned (OpenSpec.ofChange fnExactAlikeOkWrong)

/-- 'laws.FnExactStartOk': WHATEVER THE INPUT: true; the input reads as it did. -/
def fnExactStartOkSpec : ChangeSpec := { name := "fnExactStartOk", fn := fun _ => fun
  | [d1, d2] => { results := [.lit (.bool true)], args := [d1, d2] }
  | _ => none }
def fnExactStartOkRow : OpenClaim := { program := "ytacalapbfcmlgaa", sum := "2020d83f4fe93679273f819f6853800ca76914493fefba4ad64267243e84bce2", func := "loop.example/plansandpromises/laws.FnExactStartOk", spec := "fnExactStartOk", unfollowed := true, recurses := true, apart := false }
def FnExactStartOkSaid : Prop := fnExactStartOkRow.holds Try.pinned (OpenSpec.ofChange fnExactStartOkSpec)

/-- ITS FALSE NEIGHBOUR: 'it returns false'. Refute it at one input. -/
def fnExactStartOkWrong : ChangeSpec := { name := "fnExactStartOk", fn := fun _ => fun
  | [d1, d2] => { results := [.lit (.bool false)], args := [d1, d2] }
  | _ => none }
def FnExactStartOkWrongFalsely : Prop := fnExactStartOkRow.holds Try.pinned (OpenSpec.ofChange fnExactStartOkWrong)

/- THE SECOND FORM. 'bulk': how many values and letters a reading holds, each counted each time it is reached (what is shared counts as often as it is met; a slice's spare places count too). A statement '..UptoSaid' is the law's where the arguments, and the package variables that the reading takes, are together of bulk at most 1048576: NARROWER than '..Said'. Prove '..Said' where nothing that the law and all that it calls make is longer than what came in: it says more and counts as full. Else prove '..UptoSaid'. A law counts once. -/
mutual
def uptoBulk {H : Type} : DataW H → Nat
  | .lit (.string bytes) => bytes.length + 1
  | .lit _ => 1
  | .nil => 1
  | .ptr d => uptoBulk d + 1
  | .slice elems spare => uptoBulkAll elems + uptoBulkAll spare + 1
  | .agg parts => uptoBulkAll parts + 1
  | .iface _ d => uptoBulk d + 1
  | .map entries => uptoBulkEntries entries + 1
  | .held _ => 1
def uptoBulkAll {H : Type} : List (DataW H) → Nat
  | [] => 0
  | d :: r => uptoBulk d + uptoBulkAll r
def uptoBulkEntries {H : Type} : List (Lit × DataW H) → Nat
  | [] => 0
  | x :: r => uptoBulkEntry x + uptoBulkEntries r
def uptoBulkEntry {H : Type} : Lit × DataW H → Nat
  | (.string bytes, d) => bytes.length + uptoBulk d + 1
  | (_, d) => uptoBulk d + 1
 end
def uptoSmall : (H : Type) → List (DataW H) → Bool := fun _ ds => decide (uptoBulkAll ds ≤ 1048576)
def OpenSpec.upto (s : _root_.Go.ChangeSpec) : _root_.Go.OpenSpec := { _root_.Go.OpenSpec.ofChange s with cond := some uptoSmall }

/-- 'laws.FnExactBrokenOf', WHERE WHAT IT READS IS OF BULK AT MOST 1048576: true; the input reads as it did. -/
def fnExactBrokenOfUptoRow : OpenClaim := { program := "ytacalapbfcmlgaa", sum := "2020d83f4fe93679273f819f6853800ca76914493fefba4ad64267243e84bce2", func := "loop.example/plansandpromises/laws.FnExactBrokenOf", spec := "fnExactBrokenOf", unfollowed := true, recurses := true, apart := false, narrowed := true }
def FnExactBrokenOfUptoSaid : Prop := fnExactBrokenOfUptoRow.holds Try.pinned (OpenSpec.upto fnExactBrokenOfSpec)

/-- 'laws.FnExactMovedBy', WHERE WHAT IT READS IS OF BULK AT MOST 1048576: true; the input reads as it did. -/
def fnExactMovedByUptoRow : OpenClaim := { program := "ytacalapbfcmlgaa", sum := "2020d83f4fe93679273f819f6853800ca76914493fefba4ad64267243e84bce2", func := "loop.example/plansandpromises/laws.FnExactMovedBy", spec := "fnExactMovedBy", unfollowed := true, recurses := true, apart := false, narrowed := true }
def FnExactMovedByUptoSaid : Prop := fnExactMovedByUptoRow.holds Try.pinned (OpenSpec.upto fnExactMovedBySpec)

/-- 'laws.FnExactFitsOk', WHERE WHAT IT READS IS OF BULK AT MOST 1048576: true; the input reads as it did. -/
def fnExactFitsOkUptoRow : OpenClaim := { program := "ytacalapbfcmlgaa", sum := "2020d83f4fe93679273f819f6853800ca76914493fefba4ad64267243e84bce2", func := "loop.example/plansandpromises/laws.FnExactFitsOk", spec := "fnExactFitsOk", unfollowed := true, recurses := true, apart := false, narrowed := true }
def FnExactFitsOkUptoSaid : Prop := fnExactFitsOkUptoRow.holds Try.pinned (OpenSpec.upto fnExactFitsOkSpec)

/-- 'laws.FnExactMostOf', WHERE WHAT IT READS IS OF BULK AT MOST 1048576: true; the input reads as it did. -/
def fnExactMostOfUptoRow : OpenClaim := { program := "ytacalapbfcmlgaa", sum := "2020d83f4fe93679273f819f6853800ca76914493fefba4ad64267243e84bce2", func := "loop.example/plansandpromises/laws.FnExactMostOf", spec := "fnExactMostOf", unfollowed := true, recurses := true, apart := false, narrowed := true }
def FnExactMostOfUptoSaid : Prop := fnExactMostOfUptoRow.holds Try.pinned (OpenSpec.upto fnExactMostOfSpec)

/-- 'laws.FnExactTightOk', WHERE WHAT IT READS IS OF BULK AT MOST 1048576: true; the input reads as it did. -/
def fnExactTightOkUptoRow : OpenClaim := { program := "ytacalapbfcmlgaa", sum := "2020d83f4fe93679273f819f6853800ca76914493fefba4ad64267243e84bce2", func := "loop.example/plansandpromises/laws.FnExactTightOk", spec := "fnExactTightOk", unfollowed := true, recurses := true, apart := false, narrowed := true }
def FnExactTightOkUptoSaid : Prop := fnExactTightOkUptoRow.holds Try.pinned (OpenSpec.upto fnExactTightOkSpec)

/-- 'laws.FnExactLeastOf', WHERE WHAT IT READS IS OF BULK AT MOST 1048576: true; the input reads as it did. -/
def fnExactLeastOfUptoRow : OpenClaim := { program := "ytacalapbfcmlgaa", sum := "2020d83f4fe93679273f819f6853800ca76914493fefba4ad64267243e84bce2", func := "loop.example/plansandpromises/laws.FnExactLeastOf", spec := "fnExactLeastOf", unfollowed := true, recurses := true, apart := false, narrowed := true }
def FnExactLeastOfUptoSaid : Prop := fnExactLeastOfUptoRow.holds Try.pinned (OpenSpec.upto fnExactLeastOfSpec)

/-- 'laws.FnExactTableOf', WHERE WHAT IT READS IS OF BULK AT MOST 1048576: true; the input reads as it did. -/
def fnExactTableOfUptoRow : OpenClaim := { program := "ytacalapbfcmlgaa", sum := "2020d83f4fe93679273f819f6853800ca76914493fefba4ad64267243e84bce2", func := "loop.example/plansandpromises/laws.FnExactTableOf", spec := "fnExactTableOf", unfollowed := true, recurses := true, apart := false, narrowed := true }
def FnExactTableOfUptoSaid : Prop := fnExactTableOfUptoRow.holds Try.pinned (OpenSpec.upto fnExactTableOfSpec)

/-- 'laws.FnExactMayBeOk', WHERE WHAT IT READS IS OF BULK AT MOST 1048576: true; the input reads as it did. -/
def fnExactMayBeOkUptoRow : OpenClaim := { program := "ytacalapbfcmlgaa", sum := "2020d83f4fe93679273f819f6853800ca76914493fefba4ad64267243e84bce2", func := "loop.example/plansandpromises/laws.FnExactMayBeOk", spec := "fnExactMayBeOk", unfollowed := true, recurses := true, apart := false, narrowed := true }
def FnExactMayBeOkUptoSaid : Prop := fnExactMayBeOkUptoRow.holds Try.pinned (OpenSpec.upto fnExactMayBeOkSpec)

/-- 'laws.FnExactImpliesOk', WHERE WHAT IT READS IS OF BULK AT MOST 1048576: true; the input reads as it did. -/
def fnExactImpliesOkUptoRow : OpenClaim := { program := "ytacalapbfcmlgaa", sum := "2020d83f4fe93679273f819f6853800ca76914493fefba4ad64267243e84bce2", func := "loop.example/plansandpromises/laws.FnExactImpliesOk", spec := "fnExactImpliesOk", unfollowed := true, recurses := true, apart := false, narrowed := true }
def FnExactImpliesOkUptoSaid : Prop := fnExactImpliesOkUptoRow.holds Try.pinned (OpenSpec.upto fnExactImpliesOkSpec)

/-- 'laws.FnExactWideOf', WHERE WHAT IT READS IS OF BULK AT MOST 1048576: true; the input reads as it did. -/
def fnExactWideOfUptoRow : OpenClaim := { program := "ytacalapbfcmlgaa", sum := "2020d83f4fe93679273f819f6853800ca76914493fefba4ad64267243e84bce2", func := "loop.example/plansandpromises/laws.FnExactWideOf", spec := "fnExactWideOf", unfollowed := true, recurses := true, apart := false, narrowed := true }
def FnExactWideOfUptoSaid : Prop := fnExactWideOfUptoRow.holds Try.pinned (OpenSpec.upto fnExactWideOfSpec)

/-- 'laws.FnExactAlikeOk', WHERE WHAT IT READS IS OF BULK AT MOST 1048576: true; the input reads as it did. -/
def fnExactAlikeOkUptoRow : OpenClaim := { program := "ytacalapbfcmlgaa", sum := "2020d83f4fe93679273f819f6853800ca76914493fefba4ad64267243e84bce2", func := "loop.example/plansandpromises/laws.FnExactAlikeOk", spec := "fnExactAlikeOk", unfollowed := true, recurses := true, apart := false, narrowed := true }
def FnExactAlikeOkUptoSaid : Prop := fnExactAlikeOkUptoRow.holds Try.pinned (OpenSpec.upto fnExactAlikeOkSpec)

/-- 'laws.FnExactStartOk', WHERE WHAT IT READS IS OF BULK AT MOST 1048576: true; the input reads as it did. -/
def fnExactStartOkUptoRow : OpenClaim := { program := "ytacalapbfcmlgaa", sum := "2020d83f4fe93679273f819f6853800ca76914493fefba4ad64267243e84bce2", func := "loop.example/plansandpromises/laws.FnExactStartOk", spec := "fnExactStartOk", unfollowed := true, recurses := true, apart := false, narrowed := true }
def FnExactStartOkUptoSaid : Prop := fnExactStartOkUptoRow.holds Try.pinned (OpenSpec.upto fnExactStartOkSpec)

end Rows
end Go.Proofs.Ytacalapbfcmlgaa
