/-
  No cell of these rows narrows 'for every input' (looked for: loops, veiled, ifaces, maps, wideKeys, modest, calm, conditions, laid).
  DERIVED. THE GIVEN ROWS OF THIS SEAT. 14 by the template 'for every input the law returns true; each argument reads behind the call as it read before'; 0 by the template 'total and deterministic' (their statements: YtnompncmachgjaaTotals.lean).
  GIVEN WITH THE SEED: the statements are not yours to turn. If you find one false, say at which input.
  Laid BY PROGRAM, IN A SANDBOX (cutbox-rows.mjs): the forced cells as the released guide's own fill.sh prints them over the translation 8d3953ee5455ff93… (all of the seat's roots in one cut). By AI agents, Wed Nov 11 2026. No macro, syntax, notation, axiom, sorry.
-/
import Derived.Test.YtnompncmachgjaaChecked
import GoSem.Claim
import GoSem.ClaimJoined
import GoSem.ClaimMapViews
import Derived.JoinedTies
import Derived.KernelRfl
namespace Go.Proofs.Ytnompncmachgjaa
/- THE CELL 'sum', in the pinned program and in every row, IS THE sha256 OF THE DUMP (.gsa) THAT YtnompncmachgjaaProg.lean LOADS. Nothing in Lean hashes anything: it is a label: what it is worth is what the hold of that sum in a sandbox is worth. -/
noncomputable def Try.pinned : Pinned := { name := "ytnompncmachgjaa", sum := "8d3953ee5455ff93cd368764d10e77013be098144a8d8e3650d10db2a7c89fa5", checked := Try.checked }
namespace Rows
def none {H : Type} : Left H := { results := [], args := [] }

/-- 'laws.FnTimesFor': WHATEVER THE INPUT: true; the input reads as it did. -/
def fnTimesForSpec : ChangeSpec := { name := "fnTimesFor", fn := fun _ => fun
  | [d] => { results := [.lit (.bool true)], args := [d] }
  | _ => none }
def fnTimesForRow : OpenClaim := { program := "ytnompncmachgjaa", sum := "8d3953ee5455ff93cd368764d10e77013be098144a8d8e3650d10db2a7c89fa5", func := "loop.example/plansandpromises/laws.FnTimesFor", spec := "fnTimesFor", unfollowed := true, recurses := true, apart := false }
def FnTimesForSaid : Prop := fnTimesForRow.holds Try.pinned (OpenSpec.ofChange fnTimesForSpec)

/-- ITS FALSE NEIGHBOUR: 'it returns false'. Refute it at one input. -/
def fnTimesForWrong : ChangeSpec := { name := "fnTimesFor", fn := fun _ => fun
  | [d] => { results := [.lit (.bool false)], args := [d] }
  | _ => none }
def FnTimesForWrongFalsely : Prop := fnTimesForRow.holds Try.pinned (OpenSpec.ofChange fnTimesForWrong)

/-- 'laws.FnLeastOf': WHATEVER THE INPUT: true; the input reads as it did. -/
def fnLeastOfSpec : ChangeSpec := { name := "fnLeastOf", fn := fun _ => fun
  | [d] => { results := [.lit (.bool true)], args := [d] }
  | _ => none }
def fnLeastOfRow : OpenClaim := { program := "ytnompncmachgjaa", sum := "8d3953ee5455ff93cd368764d10e77013be098144a8d8e3650d10db2a7c89fa5", func := "loop.example/plansandpromises/laws.FnLeastOf", spec := "fnLeastOf", unfollowed := true, recurses := true, apart := false }
def FnLeastOfSaid : Prop := fnLeastOfRow.holds Try.pinned (OpenSpec.ofChange fnLeastOfSpec)

/-- ITS FALSE NEIGHBOUR: 'it returns false'. Refute it at one input. -/
def fnLeastOfWrong : ChangeSpec := { name := "fnLeastOf", fn := fun _ => fun
  | [d] => { results := [.lit (.bool false)], args := [d] }
  | _ => none }
def FnLeastOfWrongFalsely : Prop := fnLeastOfRow.holds Try.pinned (OpenSpec.ofChange fnLeastOfWrong)

/-- 'laws.FnFromPoint': WHATEVER THE INPUT: true; the input reads as it did. -/
def fnFromPointSpec : ChangeSpec := { name := "fnFromPoint", fn := fun _ => fun
  | [d] => { results := [.lit (.bool true)], args := [d] }
  | _ => none }
def fnFromPointRow : OpenClaim := { program := "ytnompncmachgjaa", sum := "8d3953ee5455ff93cd368764d10e77013be098144a8d8e3650d10db2a7c89fa5", func := "loop.example/plansandpromises/laws.FnFromPoint", spec := "fnFromPoint", unfollowed := true, recurses := true, apart := false }
def FnFromPointSaid : Prop := fnFromPointRow.holds Try.pinned (OpenSpec.ofChange fnFromPointSpec)

/-- ITS FALSE NEIGHBOUR: 'it returns false'. Refute it at one input. -/
def fnFromPointWrong : ChangeSpec := { name := "fnFromPoint", fn := fun _ => fun
  | [d] => { results := [.lit (.bool false)], args := [d] }
  | _ => none }
def FnFromPointWrongFalsely : Prop := fnFromPointRow.holds Try.pinned (OpenSpec.ofChange fnFromPointWrong)

/-- 'laws.FnClosedOf': WHATEVER THE INPUT: true; the input reads as it did. -/
def fnClosedOfSpec : ChangeSpec := { name := "fnClosedOf", fn := fun _ => fun
  | [d] => { results := [.lit (.bool true)], args := [d] }
  | _ => none }
def fnClosedOfRow : OpenClaim := { program := "ytnompncmachgjaa", sum := "8d3953ee5455ff93cd368764d10e77013be098144a8d8e3650d10db2a7c89fa5", func := "loop.example/plansandpromises/laws.FnClosedOf", spec := "fnClosedOf", unfollowed := true, recurses := true, apart := false }
def FnClosedOfSaid : Prop := fnClosedOfRow.holds Try.pinned (OpenSpec.ofChange fnClosedOfSpec)

/-- ITS FALSE NEIGHBOUR: 'it returns false'. Refute it at one input. -/
def fnClosedOfWrong : ChangeSpec := { name := "fnClosedOf", fn := fun _ => fun
  | [d] => { results := [.lit (.bool false)], args := [d] }
  | _ => none }
def FnClosedOfWrongFalsely : Prop := fnClosedOfRow.holds Try.pinned (OpenSpec.ofChange fnClosedOfWrong)

/-- 'laws.FnTightOk': WHATEVER THE INPUT: true; the input reads as it did. -/
def fnTightOkSpec : ChangeSpec := { name := "fnTightOk", fn := fun _ => fun
  | [d] => { results := [.lit (.bool true)], args := [d] }
  | _ => none }
def fnTightOkRow : OpenClaim := { program := "ytnompncmachgjaa", sum := "8d3953ee5455ff93cd368764d10e77013be098144a8d8e3650d10db2a7c89fa5", func := "loop.example/plansandpromises/laws.FnTightOk", spec := "fnTightOk", unfollowed := true, recurses := true, apart := false }
def FnTightOkSaid : Prop := fnTightOkRow.holds Try.pinned (OpenSpec.ofChange fnTightOkSpec)

/-- ITS FALSE NEIGHBOUR: 'it returns false'. Refute it at one input. -/
def fnTightOkWrong : ChangeSpec := { name := "fnTightOk", fn := fun _ => fun
  | [d] => { results := [.lit (.bool false)], args := [d] }
  | _ => none }
def FnTightOkWrongFalsely : Prop := fnTightOkRow.holds Try.pinned (OpenSpec.ofChange fnTightOkWrong)

/-- 'laws.FnMayBeOk': WHATEVER THE INPUT: true; the input reads as it did. -/
def fnMayBeOkSpec : ChangeSpec := { name := "fnMayBeOk", fn := fun _ => fun
  | [d] => { results := [.lit (.bool true)], args := [d] }
  | _ => none }
def fnMayBeOkRow : OpenClaim := { program := "ytnompncmachgjaa", sum := "8d3953ee5455ff93cd368764d10e77013be098144a8d8e3650d10db2a7c89fa5", func := "loop.example/plansandpromises/laws.FnMayBeOk", spec := "fnMayBeOk", unfollowed := true, recurses := true, apart := false }
def FnMayBeOkSaid : Prop := fnMayBeOkRow.holds Try.pinned (OpenSpec.ofChange fnMayBeOkSpec)

/-- ITS FALSE NEIGHBOUR: 'it returns false'. Refute it at one input. -/
def fnMayBeOkWrong : ChangeSpec := { name := "fnMayBeOk", fn := fun _ => fun
  | [d] => { results := [.lit (.bool false)], args := [d] }
  | _ => none }
def FnMayBeOkWrongFalsely : Prop := fnMayBeOkRow.holds Try.pinned (OpenSpec.ofChange fnMayBeOkWrong)

/-- 'laws.FnStateNew': WHATEVER THE INPUT: true; the input reads as it did. -/
def fnStateNewSpec : ChangeSpec := { name := "fnStateNew", fn := fun _ => fun
  | [d] => { results := [.lit (.bool true)], args := [d] }
  | _ => none }
def fnStateNewRow : OpenClaim := { program := "ytnompncmachgjaa", sum := "8d3953ee5455ff93cd368764d10e77013be098144a8d8e3650d10db2a7c89fa5", func := "loop.example/plansandpromises/laws.FnStateNew", spec := "fnStateNew", unfollowed := true, recurses := true, apart := false }
def FnStateNewSaid : Prop := fnStateNewRow.holds Try.pinned (OpenSpec.ofChange fnStateNewSpec)

/-- ITS FALSE NEIGHBOUR: 'it returns false'. Refute it at one input. -/
def fnStateNewWrong : ChangeSpec := { name := "fnStateNew", fn := fun _ => fun
  | [d] => { results := [.lit (.bool false)], args := [d] }
  | _ => none }
def FnStateNewWrongFalsely : Prop := fnStateNewRow.holds Try.pinned (OpenSpec.ofChange fnStateNewWrong)

/-- 'laws.FnStartOk': WHATEVER THE INPUT: true; the input reads as it did. -/
def fnStartOkSpec : ChangeSpec := { name := "fnStartOk", fn := fun _ => fun
  | [d] => { results := [.lit (.bool true)], args := [d] }
  | _ => none }
def fnStartOkRow : OpenClaim := { program := "ytnompncmachgjaa", sum := "8d3953ee5455ff93cd368764d10e77013be098144a8d8e3650d10db2a7c89fa5", func := "loop.example/plansandpromises/laws.FnStartOk", spec := "fnStartOk", unfollowed := true, recurses := true, apart := false }
def FnStartOkSaid : Prop := fnStartOkRow.holds Try.pinned (OpenSpec.ofChange fnStartOkSpec)

/-- ITS FALSE NEIGHBOUR: 'it returns false'. Refute it at one input. -/
def fnStartOkWrong : ChangeSpec := { name := "fnStartOk", fn := fun _ => fun
  | [d] => { results := [.lit (.bool false)], args := [d] }
  | _ => none }
def FnStartOkWrongFalsely : Prop := fnStartOkRow.holds Try.pinned (OpenSpec.ofChange fnStartOkWrong)

/-- 'laws.FnRingSum': WHATEVER THE INPUT: true; the input reads as it did. -/
def fnRingSumSpec : ChangeSpec := { name := "fnRingSum", fn := fun _ => fun
  | [d] => { results := [.lit (.bool true)], args := [d] }
  | _ => none }
def fnRingSumRow : OpenClaim := { program := "ytnompncmachgjaa", sum := "8d3953ee5455ff93cd368764d10e77013be098144a8d8e3650d10db2a7c89fa5", func := "loop.example/plansandpromises/laws.FnRingSum", spec := "fnRingSum", unfollowed := true, recurses := true, apart := false }
def FnRingSumSaid : Prop := fnRingSumRow.holds Try.pinned (OpenSpec.ofChange fnRingSumSpec)

/-- ITS FALSE NEIGHBOUR: 'it returns false'. Refute it at one input. -/
def fnRingSumWrong : ChangeSpec := { name := "fnRingSum", fn := fun _ => fun
  | [d] => { results := [.lit (.bool false)], args := [d] }
  | _ => none }
def FnRingSumWrongFalsely : Prop := fnRingSumRow.holds Try.pinned (OpenSpec.ofChange fnRingSumWrong)

/-- 'laws.FnAlikeOk': WHATEVER THE INPUT: true; the input reads as it did. -/
def fnAlikeOkSpec : ChangeSpec := { name := "fnAlikeOk", fn := fun _ => fun
  | [d] => { results := [.lit (.bool true)], args := [d] }
  | _ => none }
def fnAlikeOkRow : OpenClaim := { program := "ytnompncmachgjaa", sum := "8d3953ee5455ff93cd368764d10e77013be098144a8d8e3650d10db2a7c89fa5", func := "loop.example/plansandpromises/laws.FnAlikeOk", spec := "fnAlikeOk", unfollowed := true, recurses := true, apart := false }
def FnAlikeOkSaid : Prop := fnAlikeOkRow.holds Try.pinned (OpenSpec.ofChange fnAlikeOkSpec)

/-- ITS FALSE NEIGHBOUR: 'it returns false'. Refute it at one input. -/
def fnAlikeOkWrong : ChangeSpec := { name := "fnAlikeOk", fn := fun _ => fun
  | [d] => { results := [.lit (.bool false)], args := [d] }
  | _ => none }
def FnAlikeOkWrongFalsely : Prop := fnAlikeOkRow.holds Try.pinned (OpenSpec.ofChange fnAlikeOkWrong)

/-- 'laws.FnBadRing': WHATEVER THE INPUT: true; the input reads as it did. -/
def fnBadRingSpec : ChangeSpec := { name := "fnBadRing", fn := fun _ => fun
  | [d] => { results := [.lit (.bool true)], args := [d] }
  | _ => none }
def fnBadRingRow : OpenClaim := { program := "ytnompncmachgjaa", sum := "8d3953ee5455ff93cd368764d10e77013be098144a8d8e3650d10db2a7c89fa5", func := "loop.example/plansandpromises/laws.FnBadRing", spec := "fnBadRing", unfollowed := true, recurses := true, apart := false }
def FnBadRingSaid : Prop := fnBadRingRow.holds Try.pinned (OpenSpec.ofChange fnBadRingSpec)

/-- ITS FALSE NEIGHBOUR: 'it returns false'. Refute it at one input. -/
def fnBadRingWrong : ChangeSpec := { name := "fnBadRing", fn := fun _ => fun
  | [d] => { results := [.lit (.bool false)], args := [d] }
  | _ => none }
def FnBadRingWrongFalsely : Prop := fnBadRingRow.holds Try.pinned (OpenSpec.ofChange fnBadRingWrong)

/-- 'laws.FnEarliestOf': WHATEVER THE INPUT: true; the input reads as it did. -/
def fnEarliestOfSpec : ChangeSpec := { name := "fnEarliestOf", fn := fun _ => fun
  | [d1, d2] => { results := [.lit (.bool true)], args := [d1, d2] }
  | _ => none }
def fnEarliestOfRow : OpenClaim := { program := "ytnompncmachgjaa", sum := "8d3953ee5455ff93cd368764d10e77013be098144a8d8e3650d10db2a7c89fa5", func := "loop.example/plansandpromises/laws.FnEarliestOf", spec := "fnEarliestOf", unfollowed := true, recurses := true, apart := false }
def FnEarliestOfSaid : Prop := fnEarliestOfRow.holds Try.pinned (OpenSpec.ofChange fnEarliestOfSpec)

/-- ITS FALSE NEIGHBOUR: 'it returns false'. Refute it at one input. -/
def fnEarliestOfWrong : ChangeSpec := { name := "fnEarliestOf", fn := fun _ => fun
  | [d1, d2] => { results := [.lit (.bool false)], args := [d1, d2] }
  | _ => none }
def FnEarliestOfWrongFalsely : Prop := fnEarliestOfRow.holds Try.pinned (OpenSpec.ofChange fnEarliestOfWrong)

/-- 'laws.FnEndedFrom': WHATEVER THE INPUT: true; the input reads as it did. -/
def fnEndedFromSpec : ChangeSpec := { name := "fnEndedFrom", fn := fun _ => fun
  | [d] => { results := [.lit (.bool true)], args := [d] }
  | _ => none }
def fnEndedFromRow : OpenClaim := { program := "ytnompncmachgjaa", sum := "8d3953ee5455ff93cd368764d10e77013be098144a8d8e3650d10db2a7c89fa5", func := "loop.example/plansandpromises/laws.FnEndedFrom", spec := "fnEndedFrom", unfollowed := true, recurses := true, apart := false }
def FnEndedFromSaid : Prop := fnEndedFromRow.holds Try.pinned (OpenSpec.ofChange fnEndedFromSpec)

/-- ITS FALSE NEIGHBOUR: 'it returns false'. Refute it at one input. -/
def fnEndedFromWrong : ChangeSpec := { name := "fnEndedFrom", fn := fun _ => fun
  | [d] => { results := [.lit (.bool false)], args := [d] }
  | _ => none }
def FnEndedFromWrongFalsely : Prop := fnEndedFromRow.holds Try.pinned (OpenSpec.ofChange fnEndedFromWrong)

/-- 'laws.FnExactBadRing': WHATEVER THE INPUT: true; the input reads as it did. -/
def fnExactBadRingSpec : ChangeSpec := { name := "fnExactBadRing", fn := fun _ => fun
  | [d] => { results := [.lit (.bool true)], args := [d] }
  | _ => none }
def fnExactBadRingRow : OpenClaim := { program := "ytnompncmachgjaa", sum := "8d3953ee5455ff93cd368764d10e77013be098144a8d8e3650d10db2a7c89fa5", func := "loop.example/plansandpromises/laws.FnExactBadRing", spec := "fnExactBadRing", unfollowed := true, recurses := true, apart := false }
def FnExactBadRingSaid : Prop := fnExactBadRingRow.holds Try.pinned (OpenSpec.ofChange fnExactBadRingSpec)

/-- ITS FALSE NEIGHBOUR: 'it returns false'. Refute it at one input. -/
def fnExactBadRingWrong : ChangeSpec := { name := "fnExactBadRing", fn := fun _ => fun
  | [d] => { results := [.lit (.bool false)], args := [d] }
  | _ => none }
def FnExactBadRingWrongFalsely : Prop := fnExactBadRingRow.holds Try.pinned (OpenSpec.ofChange fnExactBadRingWrong)

/- THE SECOND FORM. 'bulk': how many values and letters a reading holds, each counted each time it is reached (what is shared counts as often as it is met; a slice's spare places count too). A statement '..UptoSaid' is the law's where the arguments, and the package variables that the reading takes, are together of bulk at most 1048576: NARROWER than '..Said'. Prove '..Said' where nothing that the law and all that it calls make is longer than what came in: it says more and counts as full. Else prove '..UptoSaid'. A law counts once. -/
mutual
def uptoBulk {H : Type} : DataW H → Nat
  | .lit (.string bytes) => bytes.length + 1
  | .lit _ => 1
  | .nil => 1
  | .ptr d => uptoBulk d + 1
  | .slice elems spare => uptoBulkAll elems + uptoBulkAll spare + 1
  | .agg parts => uptoBulkAll parts + 1
  | .iface _ d => uptoBulk d + 1
  | .map entries => uptoBulkEntries entries + 1
  | .held _ => 1
def uptoBulkAll {H : Type} : List (DataW H) → Nat
  | [] => 0
  | d :: r => uptoBulk d + uptoBulkAll r
def uptoBulkEntries {H : Type} : List (Lit × DataW H) → Nat
  | [] => 0
  | x :: r => uptoBulkEntry x + uptoBulkEntries r
def uptoBulkEntry {H : Type} : Lit × DataW H → Nat
  | (.string bytes, d) => bytes.length + uptoBulk d + 1
  | (_, d) => uptoBulk d + 1
 end
def uptoSmall : (H : Type) → List (DataW H) → Bool := fun _ ds => decide (uptoBulkAll ds ≤ 1048576)
def OpenSpec.upto (s : _root_.Go.ChangeSpec) : _root_.Go.OpenSpec := { _root_.Go.OpenSpec.ofChange s with cond := some uptoSmall }

/-- 'laws.FnTimesFor', WHERE WHAT IT READS IS OF BULK AT MOST 1048576: true; the input reads as it did. -/
def fnTimesForUptoRow : OpenClaim := { program := "ytnompncmachgjaa", sum := "8d3953ee5455ff93cd368764d10e77013be098144a8d8e3650d10db2a7c89fa5", func := "loop.example/plansandpromises/laws.FnTimesFor", spec := "fnTimesFor", unfollowed := true, recurses := true, apart := false, narrowed := true }
def FnTimesForUptoSaid : Prop := fnTimesForUptoRow.holds Try.pinned (OpenSpec.upto fnTimesForSpec)

/-- 'laws.FnLeastOf', WHERE WHAT IT READS IS OF BULK AT MOST 1048576: true; the input reads as it did. -/
def fnLeastOfUptoRow : OpenClaim := { program := "ytnompncmachgjaa", sum := "8d3953ee5455ff93cd368764d10e77013be098144a8d8e3650d10db2a7c89fa5", func := "loop.example/plansandpromises/laws.FnLeastOf", spec := "fnLeastOf", unfollowed := true, recurses := true, apart := false, narrowed := true }
def FnLeastOfUptoSaid : Prop := fnLeastOfUptoRow.holds Try.pinned (OpenSpec.upto fnLeastOfSpec)

/-- 'laws.FnFromPoint', WHERE WHAT IT READS IS OF BULK AT MOST 1048576: true; the input reads as it did. -/
def fnFromPointUptoRow : OpenClaim := { program := "ytnompncmachgjaa", sum := "8d3953ee5455ff93cd368764d10e77013be098144a8d8e3650d10db2a7c89fa5", func := "loop.example/plansandpromises/laws.FnFromPoint", spec := "fnFromPoint", unfollowed := true, recurses := true, apart := false, narrowed := true }
def FnFromPointUptoSaid : Prop := fnFromPointUptoRow.holds Try.pinned (OpenSpec.upto fnFromPointSpec)

/-- 'laws.FnClosedOf', WHERE WHAT IT READS IS OF BULK AT MOST 1048576: true; the input reads as it did. -/
def fnClosedOfUptoRow : OpenClaim := { program := "ytnompncmachgjaa", sum := "8d3953ee5455ff93cd368764d10e77013be098144a8d8e3650d10db2a7c89fa5", func := "loop.example/plansandpromises/laws.FnClosedOf", spec := "fnClosedOf", unfollowed := true, recurses := true, apart := false, narrowed := true }
def FnClosedOfUptoSaid : Prop := fnClosedOfUptoRow.holds Try.pinned (OpenSpec.upto fnClosedOfSpec)

/-- 'laws.FnTightOk', WHERE WHAT IT READS IS OF BULK AT MOST 1048576: true; the input reads as it did. -/
def fnTightOkUptoRow : OpenClaim := { program := "ytnompncmachgjaa", sum := "8d3953ee5455ff93cd368764d10e77013be098144a8d8e3650d10db2a7c89fa5", func := "loop.example/plansandpromises/laws.FnTightOk", spec := "fnTightOk", unfollowed := true, recurses := true, apart := false, narrowed := true }
def FnTightOkUptoSaid : Prop := fnTightOkUptoRow.holds Try.pinned (OpenSpec.upto fnTightOkSpec)

/-- 'laws.FnMayBeOk', WHERE WHAT IT READS IS OF BULK AT MOST 1048576: true; the input reads as it did. -/
def fnMayBeOkUptoRow : OpenClaim := { program := "ytnompncmachgjaa", sum := "8d3953ee5455ff93cd368764d10e77013be098144a8d8e3650d10db2a7c89fa5", func := "loop.example/plansandpromises/laws.FnMayBeOk", spec := "fnMayBeOk", unfollowed := true, recurses := true, apart := false, narrowed := true }
def FnMayBeOkUptoSaid : Prop := fnMayBeOkUptoRow.holds Try.pinned (OpenSpec.upto fnMayBeOkSpec)

/-- 'laws.FnStateNew', WHERE WHAT IT READS IS OF BULK AT MOST 1048576: true; the input reads as it did. -/
def fnStateNewUptoRow : OpenClaim := { program := "ytnompncmachgjaa", sum := "8d3953ee5455ff93cd368764d10e77013be098144a8d8e3650d10db2a7c89fa5", func := "loop.example/plansandpromises/laws.FnStateNew", spec := "fnStateNew", unfollowed := true, recurses := true, apart := false, narrowed := true }
def FnStateNewUptoSaid : Prop := fnStateNewUptoRow.holds Try.pinned (OpenSpec.upto fnStateNewSpec)

/-- 'laws.FnStartOk', WHERE WHAT IT READS IS OF BULK AT MOST 1048576: true; the input reads as it did. -/
def fnStartOkUptoRow : OpenClaim := { program := "ytnompncmachgjaa", sum := "8d3953ee5455ff93cd368764d10e77013be098144a8d8e3650d10db2a7c89fa5", func := "loop.example/plansandpromises/laws.FnStartOk", spec := "fnStartOk", unfollowed := true, recurses := true, apart := false, narrowed := true }
def FnStartOkUptoSaid : Prop := fnStartOkUptoRow.holds Try.pinned (OpenSpec.upto fnStartOkSpec)

/-- 'laws.FnRingSum', WHERE WHAT IT READS IS OF BULK AT MOST 1048576: true; the input reads as it did. -/
def fnRingSumUptoRow : OpenClaim := { program := "ytnompncmachgjaa", sum := "8d3953ee5455ff93cd368764d10e77013be098144a8d8e3650d10db2a7c89fa5", func := "loop.example/plansandpromises/laws.FnRingSum", spec := "fnRingSum", unfollowed := true, recurses := true, apart := false, narrowed := true }
def FnRingSumUptoSaid : Prop := fnRingSumUptoRow.holds Try.pinned (OpenSpec.upto fnRingSumSpec)

/-- 'laws.FnAlikeOk', WHERE WHAT IT READS IS OF BULK AT MOST 1048576: true; the input reads as it did. -/
def fnAlikeOkUptoRow : OpenClaim := { program := "ytnompncmachgjaa", sum := "8d3953ee5455ff93cd368764d10e77013be098144a8d8e3650d10db2a7c89fa5", func := "loop.example/plansandpromises/laws.FnAlikeOk", spec := "fnAlikeOk", unfollowed := true, recurses := true, apart := false, narrowed := true }
def FnAlikeOkUptoSaid : Prop := fnAlikeOkUptoRow.holds Try.pinned (OpenSpec.upto fnAlikeOkSpec)

/-- 'laws.FnBadRing', WHERE WHAT IT READS IS OF BULK AT MOST 1048576: true; the input reads as it did. -/
def fnBadRingUptoRow : OpenClaim := { program := "ytnompncmachgjaa", sum := "8d3953ee5455ff93cd368764d10e77013be098144a8d8e3650d10db2a7c89fa5", func := "loop.example/plansandpromises/laws.FnBadRing", spec := "fnBadRing", unfollowed := true, recurses := true, apart := false, narrowed := true }
def FnBadRingUptoSaid : Prop := fnBadRingUptoRow.holds Try.pinned (OpenSpec.upto fnBadRingSpec)

/-- 'laws.FnEarliestOf', WHERE WHAT IT READS IS OF BULK AT MOST 1048576: true; the input reads as it did. -/
def fnEarliestOfUptoRow : OpenClaim := { program := "ytnompncmachgjaa", sum := "8d3953ee5455ff93cd368764d10e77013be098144a8d8e3650d10db2a7c89fa5", func := "loop.example/plansandpromises/laws.FnEarliestOf", spec := "fnEarliestOf", unfollowed := true, recurses := true, apart := false, narrowed := true }
def FnEarliestOfUptoSaid : Prop := fnEarliestOfUptoRow.holds Try.pinned (OpenSpec.upto fnEarliestOfSpec)

/-- 'laws.FnEndedFrom', WHERE WHAT IT READS IS OF BULK AT MOST 1048576: true; the input reads as it did. -/
def fnEndedFromUptoRow : OpenClaim := { program := "ytnompncmachgjaa", sum := "8d3953ee5455ff93cd368764d10e77013be098144a8d8e3650d10db2a7c89fa5", func := "loop.example/plansandpromises/laws.FnEndedFrom", spec := "fnEndedFrom", unfollowed := true, recurses := true, apart := false, narrowed := true }
def FnEndedFromUptoSaid : Prop := fnEndedFromUptoRow.holds Try.pinned (OpenSpec.upto fnEndedFromSpec)

/-- 'laws.FnExactBadRing', WHERE WHAT IT READS IS OF BULK AT MOST 1048576: true; the input reads as it did. -/
def fnExactBadRingUptoRow : OpenClaim := { program := "ytnompncmachgjaa", sum := "8d3953ee5455ff93cd368764d10e77013be098144a8d8e3650d10db2a7c89fa5", func := "loop.example/plansandpromises/laws.FnExactBadRing", spec := "fnExactBadRing", unfollowed := true, recurses := true, apart := false, narrowed := true }
def FnExactBadRingUptoSaid : Prop := fnExactBadRingUptoRow.holds Try.pinned (OpenSpec.upto fnExactBadRingSpec)

end Rows
end Go.Proofs.Ytnompncmachgjaa
