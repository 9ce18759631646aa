/-
  No cell of these rows narrows 'for every input' (looked for: loops, veiled, ifaces, maps, wideKeys, modest, calm, conditions, laid).
  DERIVED. THE GIVEN ROWS OF THIS SEAT. 12 by the template 'for every input the law returns true; each argument reads behind the call as it read before'; 0 by the template 'total and deterministic' (their statements: YtnagjnbfpafocaaTotals.lean).
  GIVEN WITH THE SEED: the statements are not yours to turn. If you find one false, say at which input.
  Laid BY PROGRAM, IN A SANDBOX (cutbox-rows.mjs): the forced cells as the released guide's own fill.sh prints them over the translation ea6bae9d01dad69c… (all of the seat's roots in one cut). By AI agents, Wed Nov 11 2026. No macro, syntax, notation, axiom, sorry.
-/
import Derived.Test.YtnagjnbfpafocaaChecked
import GoSem.Claim
import GoSem.ClaimJoined
import GoSem.ClaimMapViews
import Derived.JoinedTies
import Derived.KernelRfl
namespace Go.Proofs.Ytnagjnbfpafocaa
/- THE CELL 'sum', in the pinned program and in every row, IS THE sha256 OF THE DUMP (.gsa) THAT YtnagjnbfpafocaaProg.lean LOADS. Nothing in Lean hashes anything: it is a label: what it is worth is what the hold of that sum in a sandbox is worth. -/
noncomputable def Try.pinned : Pinned := { name := "ytnagjnbfpafocaa", sum := "ea6bae9d01dad69cf4dd8d1e6e32168db5f7dc7652d432026b2b7035d7e86d20", checked := Try.checked }
namespace Rows
def none {H : Type} : Left H := { results := [], args := [] }

/-- 'laws.FnExactConstants': WHATEVER THE INPUT: true; the input reads as it did. -/
def fnExactConstantsSpec : ChangeSpec := { name := "fnExactConstants", fn := fun _ => fun
  | [] => { results := [.lit (.bool true)], args := [] }
  | _ => none }
def fnExactConstantsRow : OpenClaim := { program := "ytnagjnbfpafocaa", sum := "ea6bae9d01dad69cf4dd8d1e6e32168db5f7dc7652d432026b2b7035d7e86d20", func := "loop.example/plansandpromises/laws.FnExactConstants", spec := "fnExactConstants", apart := false }
def FnExactConstantsSaid : Prop := fnExactConstantsRow.holds Try.pinned (OpenSpec.ofChange fnExactConstantsSpec)

/-- ITS FALSE NEIGHBOUR: 'it returns false'. Refute it at one input. -/
def fnExactConstantsWrong : ChangeSpec := { name := "fnExactConstants", fn := fun _ => fun
  | [] => { results := [.lit (.bool false)], args := [] }
  | _ => none }
def FnExactConstantsWrongFalsely : Prop := fnExactConstantsRow.holds Try.pinned (OpenSpec.ofChange fnExactConstantsWrong)

/-- 'laws.FnPlanOk': WHATEVER THE INPUT: true; the input reads as it did. -/
def fnPlanOkSpec : ChangeSpec := { name := "fnPlanOk", fn := fun _ => fun
  | [d] => { results := [.lit (.bool true)], args := [d] }
  | _ => none }
def fnPlanOkRow : OpenClaim := { program := "ytnagjnbfpafocaa", sum := "ea6bae9d01dad69cf4dd8d1e6e32168db5f7dc7652d432026b2b7035d7e86d20", func := "loop.example/plansandpromises/laws.FnPlanOk", spec := "fnPlanOk", unfollowed := true, recurses := true, apart := false }
def FnPlanOkSaid : Prop := fnPlanOkRow.holds Try.pinned (OpenSpec.ofChange fnPlanOkSpec)

/-- ITS FALSE NEIGHBOUR: 'it returns false'. Refute it at one input. -/
def fnPlanOkWrong : ChangeSpec := { name := "fnPlanOk", fn := fun _ => fun
  | [d] => { results := [.lit (.bool false)], args := [d] }
  | _ => none }
def FnPlanOkWrongFalsely : Prop := fnPlanOkRow.holds Try.pinned (OpenSpec.ofChange fnPlanOkWrong)

/-- 'laws.FnExactPlanOk': WHATEVER THE INPUT: true; the input reads as it did. -/
def fnExactPlanOkSpec : ChangeSpec := { name := "fnExactPlanOk", fn := fun _ => fun
  | [d] => { results := [.lit (.bool true)], args := [d] }
  | _ => none }
def fnExactPlanOkRow : OpenClaim := { program := "ytnagjnbfpafocaa", sum := "ea6bae9d01dad69cf4dd8d1e6e32168db5f7dc7652d432026b2b7035d7e86d20", func := "loop.example/plansandpromises/laws.FnExactPlanOk", spec := "fnExactPlanOk", unfollowed := true, recurses := true, apart := false }
def FnExactPlanOkSaid : Prop := fnExactPlanOkRow.holds Try.pinned (OpenSpec.ofChange fnExactPlanOkSpec)

/-- ITS FALSE NEIGHBOUR: 'it returns false'. Refute it at one input. -/
def fnExactPlanOkWrong : ChangeSpec := { name := "fnExactPlanOk", fn := fun _ => fun
  | [d] => { results := [.lit (.bool false)], args := [d] }
  | _ => none }
def FnExactPlanOkWrongFalsely : Prop := fnExactPlanOkRow.holds Try.pinned (OpenSpec.ofChange fnExactPlanOkWrong)

/-- 'laws.FnTimesOk': WHATEVER THE INPUT: true; the input reads as it did. -/
def fnTimesOkSpec : ChangeSpec := { name := "fnTimesOk", fn := fun _ => fun
  | [d] => { results := [.lit (.bool true)], args := [d] }
  | _ => none }
def fnTimesOkRow : OpenClaim := { program := "ytnagjnbfpafocaa", sum := "ea6bae9d01dad69cf4dd8d1e6e32168db5f7dc7652d432026b2b7035d7e86d20", func := "loop.example/plansandpromises/laws.FnTimesOk", spec := "fnTimesOk", unfollowed := true, recurses := true, apart := false }
def FnTimesOkSaid : Prop := fnTimesOkRow.holds Try.pinned (OpenSpec.ofChange fnTimesOkSpec)

/-- ITS FALSE NEIGHBOUR: 'it returns false'. Refute it at one input. -/
def fnTimesOkWrong : ChangeSpec := { name := "fnTimesOk", fn := fun _ => fun
  | [d] => { results := [.lit (.bool false)], args := [d] }
  | _ => none }
def FnTimesOkWrongFalsely : Prop := fnTimesOkRow.holds Try.pinned (OpenSpec.ofChange fnTimesOkWrong)

/-- 'laws.FnExactTimesOk': WHATEVER THE INPUT: true; the input reads as it did. -/
def fnExactTimesOkSpec : ChangeSpec := { name := "fnExactTimesOk", fn := fun _ => fun
  | [d1, d2] => { results := [.lit (.bool true)], args := [d1, d2] }
  | _ => none }
def fnExactTimesOkRow : OpenClaim := { program := "ytnagjnbfpafocaa", sum := "ea6bae9d01dad69cf4dd8d1e6e32168db5f7dc7652d432026b2b7035d7e86d20", func := "loop.example/plansandpromises/laws.FnExactTimesOk", spec := "fnExactTimesOk", unfollowed := true, recurses := true, apart := false }
def FnExactTimesOkSaid : Prop := fnExactTimesOkRow.holds Try.pinned (OpenSpec.ofChange fnExactTimesOkSpec)

/-- ITS FALSE NEIGHBOUR: 'it returns false'. Refute it at one input. -/
def fnExactTimesOkWrong : ChangeSpec := { name := "fnExactTimesOk", fn := fun _ => fun
  | [d1, d2] => { results := [.lit (.bool false)], args := [d1, d2] }
  | _ => none }
def FnExactTimesOkWrongFalsely : Prop := fnExactTimesOkRow.holds Try.pinned (OpenSpec.ofChange fnExactTimesOkWrong)

/-- 'laws.FnExactRingOk': WHATEVER THE INPUT: true; the input reads as it did. -/
def fnExactRingOkSpec : ChangeSpec := { name := "fnExactRingOk", fn := fun _ => fun
  | [d1, d2] => { results := [.lit (.bool true)], args := [d1, d2] }
  | _ => none }
def fnExactRingOkRow : OpenClaim := { program := "ytnagjnbfpafocaa", sum := "ea6bae9d01dad69cf4dd8d1e6e32168db5f7dc7652d432026b2b7035d7e86d20", func := "loop.example/plansandpromises/laws.FnExactRingOk", spec := "fnExactRingOk", unfollowed := true, recurses := true, apart := false }
def FnExactRingOkSaid : Prop := fnExactRingOkRow.holds Try.pinned (OpenSpec.ofChange fnExactRingOkSpec)

/-- ITS FALSE NEIGHBOUR: 'it returns false'. Refute it at one input. -/
def fnExactRingOkWrong : ChangeSpec := { name := "fnExactRingOk", fn := fun _ => fun
  | [d1, d2] => { results := [.lit (.bool false)], args := [d1, d2] }
  | _ => none }
def FnExactRingOkWrongFalsely : Prop := fnExactRingOkRow.holds Try.pinned (OpenSpec.ofChange fnExactRingOkWrong)

/-- 'laws.FnExactKeepsOk': WHATEVER THE INPUT: true; the input reads as it did. -/
def fnExactKeepsOkSpec : ChangeSpec := { name := "fnExactKeepsOk", fn := fun _ => fun
  | [d1, d2] => { results := [.lit (.bool true)], args := [d1, d2] }
  | _ => none }
def fnExactKeepsOkRow : OpenClaim := { program := "ytnagjnbfpafocaa", sum := "ea6bae9d01dad69cf4dd8d1e6e32168db5f7dc7652d432026b2b7035d7e86d20", func := "loop.example/plansandpromises/laws.FnExactKeepsOk", spec := "fnExactKeepsOk", unfollowed := true, recurses := true, apart := false }
def FnExactKeepsOkSaid : Prop := fnExactKeepsOkRow.holds Try.pinned (OpenSpec.ofChange fnExactKeepsOkSpec)

/-- ITS FALSE NEIGHBOUR: 'it returns false'. Refute it at one input. -/
def fnExactKeepsOkWrong : ChangeSpec := { name := "fnExactKeepsOk", fn := fun _ => fun
  | [d1, d2] => { results := [.lit (.bool false)], args := [d1, d2] }
  | _ => none }
def FnExactKeepsOkWrongFalsely : Prop := fnExactKeepsOkRow.holds Try.pinned (OpenSpec.ofChange fnExactKeepsOkWrong)

/-- 'laws.FnLaterOf': WHATEVER THE INPUT: true; the input reads as it did. -/
def fnLaterOfSpec : ChangeSpec := { name := "fnLaterOf", fn := fun _ => fun
  | [d] => { results := [.lit (.bool true)], args := [d] }
  | _ => none }
def fnLaterOfRow : OpenClaim := { program := "ytnagjnbfpafocaa", sum := "ea6bae9d01dad69cf4dd8d1e6e32168db5f7dc7652d432026b2b7035d7e86d20", func := "loop.example/plansandpromises/laws.FnLaterOf", spec := "fnLaterOf", unfollowed := true, recurses := true, apart := false }
def FnLaterOfSaid : Prop := fnLaterOfRow.holds Try.pinned (OpenSpec.ofChange fnLaterOfSpec)

/-- ITS FALSE NEIGHBOUR: 'it returns false'. Refute it at one input. -/
def fnLaterOfWrong : ChangeSpec := { name := "fnLaterOf", fn := fun _ => fun
  | [d] => { results := [.lit (.bool false)], args := [d] }
  | _ => none }
def FnLaterOfWrongFalsely : Prop := fnLaterOfRow.holds Try.pinned (OpenSpec.ofChange fnLaterOfWrong)

/-- 'laws.FnMovedBy': WHATEVER THE INPUT: true; the input reads as it did. -/
def fnMovedBySpec : ChangeSpec := { name := "fnMovedBy", fn := fun _ => fun
  | [d] => { results := [.lit (.bool true)], args := [d] }
  | _ => none }
def fnMovedByRow : OpenClaim := { program := "ytnagjnbfpafocaa", sum := "ea6bae9d01dad69cf4dd8d1e6e32168db5f7dc7652d432026b2b7035d7e86d20", func := "loop.example/plansandpromises/laws.FnMovedBy", spec := "fnMovedBy", unfollowed := true, recurses := true, apart := false }
def FnMovedBySaid : Prop := fnMovedByRow.holds Try.pinned (OpenSpec.ofChange fnMovedBySpec)

/-- ITS FALSE NEIGHBOUR: 'it returns false'. Refute it at one input. -/
def fnMovedByWrong : ChangeSpec := { name := "fnMovedBy", fn := fun _ => fun
  | [d] => { results := [.lit (.bool false)], args := [d] }
  | _ => none }
def FnMovedByWrongFalsely : Prop := fnMovedByRow.holds Try.pinned (OpenSpec.ofChange fnMovedByWrong)

/-- 'laws.FnExactRingSum': WHATEVER THE INPUT: true; the input reads as it did. -/
def fnExactRingSumSpec : ChangeSpec := { name := "fnExactRingSum", fn := fun _ => fun
  | [d1, d2] => { results := [.lit (.bool true)], args := [d1, d2] }
  | _ => none }
def fnExactRingSumRow : OpenClaim := { program := "ytnagjnbfpafocaa", sum := "ea6bae9d01dad69cf4dd8d1e6e32168db5f7dc7652d432026b2b7035d7e86d20", func := "loop.example/plansandpromises/laws.FnExactRingSum", spec := "fnExactRingSum", unfollowed := true, recurses := true, apart := false }
def FnExactRingSumSaid : Prop := fnExactRingSumRow.holds Try.pinned (OpenSpec.ofChange fnExactRingSumSpec)

/-- ITS FALSE NEIGHBOUR: 'it returns false'. Refute it at one input. -/
def fnExactRingSumWrong : ChangeSpec := { name := "fnExactRingSum", fn := fun _ => fun
  | [d1, d2] => { results := [.lit (.bool false)], args := [d1, d2] }
  | _ => none }
def FnExactRingSumWrongFalsely : Prop := fnExactRingSumRow.holds Try.pinned (OpenSpec.ofChange fnExactRingSumWrong)

/-- 'laws.FnBrokenOf': WHATEVER THE INPUT: true; the input reads as it did. -/
def fnBrokenOfSpec : ChangeSpec := { name := "fnBrokenOf", fn := fun _ => fun
  | [d] => { results := [.lit (.bool true)], args := [d] }
  | _ => none }
def fnBrokenOfRow : OpenClaim := { program := "ytnagjnbfpafocaa", sum := "ea6bae9d01dad69cf4dd8d1e6e32168db5f7dc7652d432026b2b7035d7e86d20", func := "loop.example/plansandpromises/laws.FnBrokenOf", spec := "fnBrokenOf", unfollowed := true, recurses := true, apart := false }
def FnBrokenOfSaid : Prop := fnBrokenOfRow.holds Try.pinned (OpenSpec.ofChange fnBrokenOfSpec)

/-- ITS FALSE NEIGHBOUR: 'it returns false'. Refute it at one input. -/
def fnBrokenOfWrong : ChangeSpec := { name := "fnBrokenOf", fn := fun _ => fun
  | [d] => { results := [.lit (.bool false)], args := [d] }
  | _ => none }
def FnBrokenOfWrongFalsely : Prop := fnBrokenOfRow.holds Try.pinned (OpenSpec.ofChange fnBrokenOfWrong)

/-- 'laws.FnExactLaterOf': WHATEVER THE INPUT: true; the input reads as it did. -/
def fnExactLaterOfSpec : ChangeSpec := { name := "fnExactLaterOf", fn := fun _ => fun
  | [d1, d2, d3] => { results := [.lit (.bool true)], args := [d1, d2, d3] }
  | _ => none }
def fnExactLaterOfRow : OpenClaim := { program := "ytnagjnbfpafocaa", sum := "ea6bae9d01dad69cf4dd8d1e6e32168db5f7dc7652d432026b2b7035d7e86d20", func := "loop.example/plansandpromises/laws.FnExactLaterOf", spec := "fnExactLaterOf", unfollowed := true, recurses := true, apart := false }
def FnExactLaterOfSaid : Prop := fnExactLaterOfRow.holds Try.pinned (OpenSpec.ofChange fnExactLaterOfSpec)

/-- ITS FALSE NEIGHBOUR: 'it returns false'. Refute it at one input. -/
def fnExactLaterOfWrong : ChangeSpec := { name := "fnExactLaterOf", fn := fun _ => fun
  | [d1, d2, d3] => { results := [.lit (.bool false)], args := [d1, d2, d3] }
  | _ => none }
def FnExactLaterOfWrongFalsely : Prop := fnExactLaterOfRow.holds Try.pinned (OpenSpec.ofChange fnExactLaterOfWrong)

/- THE SECOND FORM. 'bulk': how many values and letters a reading holds, each counted each time it is reached (what is shared counts as often as it is met; a slice's spare places count too). A statement '..UptoSaid' is the law's where the arguments, and the package variables that the reading takes, are together of bulk at most 1048576: NARROWER than '..Said'. Prove '..Said' where nothing that the law and all that it calls make is longer than what came in: it says more and counts as full. Else prove '..UptoSaid'. A law counts once. -/
mutual
def uptoBulk {H : Type} : DataW H → Nat
  | .lit (.string bytes) => bytes.length + 1
  | .lit _ => 1
  | .nil => 1
  | .ptr d => uptoBulk d + 1
  | .slice elems spare => uptoBulkAll elems + uptoBulkAll spare + 1
  | .agg parts => uptoBulkAll parts + 1
  | .iface _ d => uptoBulk d + 1
  | .map entries => uptoBulkEntries entries + 1
  | .held _ => 1
def uptoBulkAll {H : Type} : List (DataW H) → Nat
  | [] => 0
  | d :: r => uptoBulk d + uptoBulkAll r
def uptoBulkEntries {H : Type} : List (Lit × DataW H) → Nat
  | [] => 0
  | x :: r => uptoBulkEntry x + uptoBulkEntries r
def uptoBulkEntry {H : Type} : Lit × DataW H → Nat
  | (.string bytes, d) => bytes.length + uptoBulk d + 1
  | (_, d) => uptoBulk d + 1
 end
def uptoSmall : (H : Type) → List (DataW H) → Bool := fun _ ds => decide (uptoBulkAll ds ≤ 1048576)
def OpenSpec.upto (s : _root_.Go.ChangeSpec) : _root_.Go.OpenSpec := { _root_.Go.OpenSpec.ofChange s with cond := some uptoSmall }

/-- 'laws.FnExactConstants', WHERE WHAT IT READS IS OF BULK AT MOST 1048576: true; the input reads as it did. -/
def fnExactConstantsUptoRow : OpenClaim := { program := "ytnagjnbfpafocaa", sum := "ea6bae9d01dad69cf4dd8d1e6e32168db5f7dc7652d432026b2b7035d7e86d20", func := "loop.example/plansandpromises/laws.FnExactConstants", spec := "fnExactConstants", apart := false, narrowed := true }
def FnExactConstantsUptoSaid : Prop := fnExactConstantsUptoRow.holds Try.pinned (OpenSpec.upto fnExactConstantsSpec)

/-- 'laws.FnPlanOk', WHERE WHAT IT READS IS OF BULK AT MOST 1048576: true; the input reads as it did. -/
def fnPlanOkUptoRow : OpenClaim := { program := "ytnagjnbfpafocaa", sum := "ea6bae9d01dad69cf4dd8d1e6e32168db5f7dc7652d432026b2b7035d7e86d20", func := "loop.example/plansandpromises/laws.FnPlanOk", spec := "fnPlanOk", unfollowed := true, recurses := true, apart := false, narrowed := true }
def FnPlanOkUptoSaid : Prop := fnPlanOkUptoRow.holds Try.pinned (OpenSpec.upto fnPlanOkSpec)

/-- 'laws.FnExactPlanOk', WHERE WHAT IT READS IS OF BULK AT MOST 1048576: true; the input reads as it did. -/
def fnExactPlanOkUptoRow : OpenClaim := { program := "ytnagjnbfpafocaa", sum := "ea6bae9d01dad69cf4dd8d1e6e32168db5f7dc7652d432026b2b7035d7e86d20", func := "loop.example/plansandpromises/laws.FnExactPlanOk", spec := "fnExactPlanOk", unfollowed := true, recurses := true, apart := false, narrowed := true }
def FnExactPlanOkUptoSaid : Prop := fnExactPlanOkUptoRow.holds Try.pinned (OpenSpec.upto fnExactPlanOkSpec)

/-- 'laws.FnTimesOk', WHERE WHAT IT READS IS OF BULK AT MOST 1048576: true; the input reads as it did. -/
def fnTimesOkUptoRow : OpenClaim := { program := "ytnagjnbfpafocaa", sum := "ea6bae9d01dad69cf4dd8d1e6e32168db5f7dc7652d432026b2b7035d7e86d20", func := "loop.example/plansandpromises/laws.FnTimesOk", spec := "fnTimesOk", unfollowed := true, recurses := true, apart := false, narrowed := true }
def FnTimesOkUptoSaid : Prop := fnTimesOkUptoRow.holds Try.pinned (OpenSpec.upto fnTimesOkSpec)

/-- 'laws.FnExactTimesOk', WHERE WHAT IT READS IS OF BULK AT MOST 1048576: true; the input reads as it did. -/
def fnExactTimesOkUptoRow : OpenClaim := { program := "ytnagjnbfpafocaa", sum := "ea6bae9d01dad69cf4dd8d1e6e32168db5f7dc7652d432026b2b7035d7e86d20", func := "loop.example/plansandpromises/laws.FnExactTimesOk", spec := "fnExactTimesOk", unfollowed := true, recurses := true, apart := false, narrowed := true }
def FnExactTimesOkUptoSaid : Prop := fnExactTimesOkUptoRow.holds Try.pinned (OpenSpec.upto fnExactTimesOkSpec)

/-- 'laws.FnExactRingOk', WHERE WHAT IT READS IS OF BULK AT MOST 1048576: true; the input reads as it did. -/
def fnExactRingOkUptoRow : OpenClaim := { program := "ytnagjnbfpafocaa", sum := "ea6bae9d01dad69cf4dd8d1e6e32168db5f7dc7652d432026b2b7035d7e86d20", func := "loop.example/plansandpromises/laws.FnExactRingOk", spec := "fnExactRingOk", unfollowed := true, recurses := true, apart := false, narrowed := true }
def FnExactRingOkUptoSaid : Prop := fnExactRingOkUptoRow.holds Try.pinned (OpenSpec.upto fnExactRingOkSpec)

/-- 'laws.FnExactKeepsOk', WHERE WHAT IT READS IS OF BULK AT MOST 1048576: true; the input reads as it did. -/
def fnExactKeepsOkUptoRow : OpenClaim := { program := "ytnagjnbfpafocaa", sum := "ea6bae9d01dad69cf4dd8d1e6e32168db5f7dc7652d432026b2b7035d7e86d20", func := "loop.example/plansandpromises/laws.FnExactKeepsOk", spec := "fnExactKeepsOk", unfollowed := true, recurses := true, apart := false, narrowed := true }
def FnExactKeepsOkUptoSaid : Prop := fnExactKeepsOkUptoRow.holds Try.pinned (OpenSpec.upto fnExactKeepsOkSpec)

/-- 'laws.FnLaterOf', WHERE WHAT IT READS IS OF BULK AT MOST 1048576: true; the input reads as it did. -/
def fnLaterOfUptoRow : OpenClaim := { program := "ytnagjnbfpafocaa", sum := "ea6bae9d01dad69cf4dd8d1e6e32168db5f7dc7652d432026b2b7035d7e86d20", func := "loop.example/plansandpromises/laws.FnLaterOf", spec := "fnLaterOf", unfollowed := true, recurses := true, apart := false, narrowed := true }
def FnLaterOfUptoSaid : Prop := fnLaterOfUptoRow.holds Try.pinned (OpenSpec.upto fnLaterOfSpec)

/-- 'laws.FnMovedBy', WHERE WHAT IT READS IS OF BULK AT MOST 1048576: true; the input reads as it did. -/
def fnMovedByUptoRow : OpenClaim := { program := "ytnagjnbfpafocaa", sum := "ea6bae9d01dad69cf4dd8d1e6e32168db5f7dc7652d432026b2b7035d7e86d20", func := "loop.example/plansandpromises/laws.FnMovedBy", spec := "fnMovedBy", unfollowed := true, recurses := true, apart := false, narrowed := true }
def FnMovedByUptoSaid : Prop := fnMovedByUptoRow.holds Try.pinned (OpenSpec.upto fnMovedBySpec)

/-- 'laws.FnExactRingSum', WHERE WHAT IT READS IS OF BULK AT MOST 1048576: true; the input reads as it did. -/
def fnExactRingSumUptoRow : OpenClaim := { program := "ytnagjnbfpafocaa", sum := "ea6bae9d01dad69cf4dd8d1e6e32168db5f7dc7652d432026b2b7035d7e86d20", func := "loop.example/plansandpromises/laws.FnExactRingSum", spec := "fnExactRingSum", unfollowed := true, recurses := true, apart := false, narrowed := true }
def FnExactRingSumUptoSaid : Prop := fnExactRingSumUptoRow.holds Try.pinned (OpenSpec.upto fnExactRingSumSpec)

/-- 'laws.FnBrokenOf', WHERE WHAT IT READS IS OF BULK AT MOST 1048576: true; the input reads as it did. -/
def fnBrokenOfUptoRow : OpenClaim := { program := "ytnagjnbfpafocaa", sum := "ea6bae9d01dad69cf4dd8d1e6e32168db5f7dc7652d432026b2b7035d7e86d20", func := "loop.example/plansandpromises/laws.FnBrokenOf", spec := "fnBrokenOf", unfollowed := true, recurses := true, apart := false, narrowed := true }
def FnBrokenOfUptoSaid : Prop := fnBrokenOfUptoRow.holds Try.pinned (OpenSpec.upto fnBrokenOfSpec)

/-- 'laws.FnExactLaterOf', WHERE WHAT IT READS IS OF BULK AT MOST 1048576: true; the input reads as it did. -/
def fnExactLaterOfUptoRow : OpenClaim := { program := "ytnagjnbfpafocaa", sum := "ea6bae9d01dad69cf4dd8d1e6e32168db5f7dc7652d432026b2b7035d7e86d20", func := "loop.example/plansandpromises/laws.FnExactLaterOf", spec := "fnExactLaterOf", unfollowed := true, recurses := true, apart := false, narrowed := true }
def FnExactLaterOfUptoSaid : Prop := fnExactLaterOfUptoRow.holds Try.pinned (OpenSpec.upto fnExactLaterOfSpec)

end Rows
end Go.Proofs.Ytnagjnbfpafocaa
