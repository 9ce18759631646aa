/-
  No cell of these rows narrows 'for every input' (looked for: loops, veiled, ifaces, maps, wideKeys, modest, calm, conditions, laid).
  DERIVED. THE GIVEN ROWS OF THIS SEAT. 5 by the template 'for every input the law returns true; each argument reads behind the call as it read before'; 0 by the template 'total and deterministic' (their statements: YtaifpindiphlkacTotals.lean).
  GIVEN WITH THE SEED: the statements are not yours to turn. If you find one false, say at which input.
  Laid BY PROGRAM, IN A SANDBOX (cutbox-rows.mjs): the forced cells as the released guide's own fill.sh prints them over the translation 79be7b42c455f369… (all of the seat's roots in one cut). By AI agents, Wed Nov 11 2026. No macro, syntax, notation, axiom, sorry.
-/
import Derived.Test.YtaifpindiphlkacChecked
import GoSem.Claim
import GoSem.ClaimJoined
import GoSem.ClaimMapViews
import Derived.JoinedTies
import Derived.KernelRfl
namespace Go.Proofs.Ytaifpindiphlkac
/- THE CELL 'sum', in the pinned program and in every row, IS THE sha256 OF THE DUMP (.gsa) THAT YtaifpindiphlkacProg.lean LOADS. Nothing in Lean hashes anything: it is a label: what it is worth is what the hold of that sum in a sandbox is worth. -/
noncomputable def Try.pinned : Pinned := { name := "ytaifpindiphlkac", sum := "79be7b42c455f36949805e5b3f777d1123336867c92b5ab84cb44f31d6fa8234", checked := Try.checked }
namespace Rows
def none {H : Type} : Left H := { results := [], args := [] }

/-- 'laws.FnExactWindowOf': WHATEVER THE INPUT: true; the input reads as it did. -/
def fnExactWindowOfSpec : ChangeSpec := { name := "fnExactWindowOf", fn := fun _ => fun
  | [d1, d2, d3] => { results := [.lit (.bool true)], args := [d1, d2, d3] }
  | _ => none }
def fnExactWindowOfRow : OpenClaim := { program := "ytaifpindiphlkac", sum := "79be7b42c455f36949805e5b3f777d1123336867c92b5ab84cb44f31d6fa8234", func := "loop.example/plansandpromises/laws.FnExactWindowOf", spec := "fnExactWindowOf", unfollowed := true, recurses := true, apart := false }
def FnExactWindowOfSaid : Prop := fnExactWindowOfRow.holds Try.pinned (OpenSpec.ofChange fnExactWindowOfSpec)

/-- ITS FALSE NEIGHBOUR: 'it returns false'. Refute it at one input. -/
def fnExactWindowOfWrong : ChangeSpec := { name := "fnExactWindowOf", fn := fun _ => fun
  | [d1, d2, d3] => { results := [.lit (.bool false)], args := [d1, d2, d3] }
  | _ => none }
def FnExactWindowOfWrongFalsely : Prop := fnExactWindowOfRow.holds Try.pinned (OpenSpec.ofChange fnExactWindowOfWrong)

/-- 'laws.FnExactReadyOk': WHATEVER THE INPUT: true; the input reads as it did. -/
def fnExactReadyOkSpec : ChangeSpec := { name := "fnExactReadyOk", fn := fun _ => fun
  | [d1, d2, d3] => { results := [.lit (.bool true)], args := [d1, d2, d3] }
  | _ => none }
def fnExactReadyOkRow : OpenClaim := { program := "ytaifpindiphlkac", sum := "79be7b42c455f36949805e5b3f777d1123336867c92b5ab84cb44f31d6fa8234", func := "loop.example/plansandpromises/laws.FnExactReadyOk", spec := "fnExactReadyOk", unfollowed := true, recurses := true, apart := false }
def FnExactReadyOkSaid : Prop := fnExactReadyOkRow.holds Try.pinned (OpenSpec.ofChange fnExactReadyOkSpec)

/-- ITS FALSE NEIGHBOUR: 'it returns false'. Refute it at one input. -/
def fnExactReadyOkWrong : ChangeSpec := { name := "fnExactReadyOk", fn := fun _ => fun
  | [d1, d2, d3] => { results := [.lit (.bool false)], args := [d1, d2, d3] }
  | _ => none }
def FnExactReadyOkWrongFalsely : Prop := fnExactReadyOkRow.holds Try.pinned (OpenSpec.ofChange fnExactReadyOkWrong)

/-- 'laws.FnExactDeadlineOf': WHATEVER THE INPUT: true; the input reads as it did. -/
def fnExactDeadlineOfSpec : ChangeSpec := { name := "fnExactDeadlineOf", fn := fun _ => fun
  | [d1, d2] => { results := [.lit (.bool true)], args := [d1, d2] }
  | _ => none }
def fnExactDeadlineOfRow : OpenClaim := { program := "ytaifpindiphlkac", sum := "79be7b42c455f36949805e5b3f777d1123336867c92b5ab84cb44f31d6fa8234", func := "loop.example/plansandpromises/laws.FnExactDeadlineOf", spec := "fnExactDeadlineOf", unfollowed := true, recurses := true, apart := false }
def FnExactDeadlineOfSaid : Prop := fnExactDeadlineOfRow.holds Try.pinned (OpenSpec.ofChange fnExactDeadlineOfSpec)

/-- ITS FALSE NEIGHBOUR: 'it returns false'. Refute it at one input. -/
def fnExactDeadlineOfWrong : ChangeSpec := { name := "fnExactDeadlineOf", fn := fun _ => fun
  | [d1, d2] => { results := [.lit (.bool false)], args := [d1, d2] }
  | _ => none }
def FnExactDeadlineOfWrongFalsely : Prop := fnExactDeadlineOfRow.holds Try.pinned (OpenSpec.ofChange fnExactDeadlineOfWrong)

/-- 'laws.FnExactTimesFor': WHATEVER THE INPUT: true; the input reads as it did. -/
def fnExactTimesForSpec : ChangeSpec := { name := "fnExactTimesFor", fn := fun _ => fun
  | [d] => { results := [.lit (.bool true)], args := [d] }
  | _ => none }
def fnExactTimesForRow : OpenClaim := { program := "ytaifpindiphlkac", sum := "79be7b42c455f36949805e5b3f777d1123336867c92b5ab84cb44f31d6fa8234", func := "loop.example/plansandpromises/laws.FnExactTimesFor", spec := "fnExactTimesFor", unfollowed := true, recurses := true, apart := false }
def FnExactTimesForSaid : Prop := fnExactTimesForRow.holds Try.pinned (OpenSpec.ofChange fnExactTimesForSpec)

/-- ITS FALSE NEIGHBOUR: 'it returns false'. Refute it at one input. -/
def fnExactTimesForWrong : ChangeSpec := { name := "fnExactTimesFor", fn := fun _ => fun
  | [d] => { results := [.lit (.bool false)], args := [d] }
  | _ => none }
def FnExactTimesForWrongFalsely : Prop := fnExactTimesForRow.holds Try.pinned (OpenSpec.ofChange fnExactTimesForWrong)

/-- 'laws.FnExactEndedFrom': WHATEVER THE INPUT: true; the input reads as it did. -/
def fnExactEndedFromSpec : ChangeSpec := { name := "fnExactEndedFrom", fn := fun _ => fun
  | [d1, d2] => { results := [.lit (.bool true)], args := [d1, d2] }
  | _ => none }
def fnExactEndedFromRow : OpenClaim := { program := "ytaifpindiphlkac", sum := "79be7b42c455f36949805e5b3f777d1123336867c92b5ab84cb44f31d6fa8234", func := "loop.example/plansandpromises/laws.FnExactEndedFrom", spec := "fnExactEndedFrom", unfollowed := true, recurses := true, apart := false }
def FnExactEndedFromSaid : Prop := fnExactEndedFromRow.holds Try.pinned (OpenSpec.ofChange fnExactEndedFromSpec)

/-- ITS FALSE NEIGHBOUR: 'it returns false'. Refute it at one input. -/
def fnExactEndedFromWrong : ChangeSpec := { name := "fnExactEndedFrom", fn := fun _ => fun
  | [d1, d2] => { results := [.lit (.bool false)], args := [d1, d2] }
  | _ => none }
def FnExactEndedFromWrongFalsely : Prop := fnExactEndedFromRow.holds Try.pinned (OpenSpec.ofChange fnExactEndedFromWrong)

/- THE SECOND FORM. 'bulk': how many values and letters a reading holds, each counted each time it is reached (what is shared counts as often as it is met; a slice's spare places count too). A statement '..UptoSaid' is the law's where the arguments, and the package variables that the reading takes, are together of bulk at most 1048576: NARROWER than '..Said'. Prove '..Said' where nothing that the law and all that it calls make is longer than what came in: it says more and counts as full. Else prove '..UptoSaid'. A law counts once. -/
mutual
def uptoBulk {H : Type} : DataW H → Nat
  | .lit (.string bytes) => bytes.length + 1
  | .lit _ => 1
  | .nil => 1
  | .ptr d => uptoBulk d + 1
  | .slice elems spare => uptoBulkAll elems + uptoBulkAll spare + 1
  | .agg parts => uptoBulkAll parts + 1
  | .iface _ d => uptoBulk d + 1
  | .map entries => uptoBulkEntries entries + 1
  | .held _ => 1
def uptoBulkAll {H : Type} : List (DataW H) → Nat
  | [] => 0
  | d :: r => uptoBulk d + uptoBulkAll r
def uptoBulkEntries {H : Type} : List (Lit × DataW H) → Nat
  | [] => 0
  | x :: r => uptoBulkEntry x + uptoBulkEntries r
def uptoBulkEntry {H : Type} : Lit × DataW H → Nat
  | (.string bytes, d) => bytes.length + uptoBulk d + 1
  | (_, d) => uptoBulk d + 1
 end
def uptoSmall : (H : Type) → List (DataW H) → Bool := fun _ ds => decide (uptoBulkAll ds ≤ 1048576)
def OpenSpec.upto (s : _root_.Go.ChangeSpec) : _root_.Go.OpenSpec := { _root_.Go.OpenSpec.ofChange s with cond := some uptoSmall }

/-- 'laws.FnExactWindowOf', WHERE WHAT IT READS IS OF BULK AT MOST 1048576: true; the input reads as it did. -/
def fnExactWindowOfUptoRow : OpenClaim := { program := "ytaifpindiphlkac", sum := "79be7b42c455f36949805e5b3f777d1123336867c92b5ab84cb44f31d6fa8234", func := "loop.example/plansandpromises/laws.FnExactWindowOf", spec := "fnExactWindowOf", unfollowed := true, recurses := true, apart := false, narrowed := true }
def FnExactWindowOfUptoSaid : Prop := fnExactWindowOfUptoRow.holds Try.pinned (OpenSpec.upto fnExactWindowOfSpec)

/-- 'laws.FnExactReadyOk', WHERE WHAT IT READS IS OF BULK AT MOST 1048576: true; the input reads as it did. -/
def fnExactReadyOkUptoRow : OpenClaim := { program := "ytaifpindiphlkac", sum := "79be7b42c455f36949805e5b3f777d1123336867c92b5ab84cb44f31d6fa8234", func := "loop.example/plansandpromises/laws.FnExactReadyOk", spec := "fnExactReadyOk", unfollowed := true, recurses := true, apart := false, narrowed := true }
def FnExactReadyOkUptoSaid : Prop := fnExactReadyOkUptoRow.holds Try.pinned (OpenSpec.upto fnExactReadyOkSpec)

/-- 'laws.FnExactDeadlineOf', WHERE WHAT IT READS IS OF BULK AT MOST 1048576: true; the input reads as it did. -/
def fnExactDeadlineOfUptoRow : OpenClaim := { program := "ytaifpindiphlkac", sum := "79be7b42c455f36949805e5b3f777d1123336867c92b5ab84cb44f31d6fa8234", func := "loop.example/plansandpromises/laws.FnExactDeadlineOf", spec := "fnExactDeadlineOf", unfollowed := true, recurses := true, apart := false, narrowed := true }
def FnExactDeadlineOfUptoSaid : Prop := fnExactDeadlineOfUptoRow.holds Try.pinned (OpenSpec.upto fnExactDeadlineOfSpec)

/-- 'laws.FnExactTimesFor', WHERE WHAT IT READS IS OF BULK AT MOST 1048576: true; the input reads as it did. -/
def fnExactTimesForUptoRow : OpenClaim := { program := "ytaifpindiphlkac", sum := "79be7b42c455f36949805e5b3f777d1123336867c92b5ab84cb44f31d6fa8234", func := "loop.example/plansandpromises/laws.FnExactTimesFor", spec := "fnExactTimesFor", unfollowed := true, recurses := true, apart := false, narrowed := true }
def FnExactTimesForUptoSaid : Prop := fnExactTimesForUptoRow.holds Try.pinned (OpenSpec.upto fnExactTimesForSpec)

/-- 'laws.FnExactEndedFrom', WHERE WHAT IT READS IS OF BULK AT MOST 1048576: true; the input reads as it did. -/
def fnExactEndedFromUptoRow : OpenClaim := { program := "ytaifpindiphlkac", sum := "79be7b42c455f36949805e5b3f777d1123336867c92b5ab84cb44f31d6fa8234", func := "loop.example/plansandpromises/laws.FnExactEndedFrom", spec := "fnExactEndedFrom", unfollowed := true, recurses := true, apart := false, narrowed := true }
def FnExactEndedFromUptoSaid : Prop := fnExactEndedFromUptoRow.holds Try.pinned (OpenSpec.upto fnExactEndedFromSpec)

end Rows
end Go.Proofs.Ytaifpindiphlkac
