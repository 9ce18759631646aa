/-
  No cell of these rows narrows 'for every input' (looked for: loops, veiled, ifaces, maps, wideKeys, modest, calm, conditions, laid).
  DERIVED. THE GIVEN ROWS OF THIS SEAT. 8 by the template 'for every input the law returns true; each argument reads behind the call as it read before'; 0 by the template 'total and deterministic' (their statements: YtaifpindiphlkabTotals.lean).
  GIVEN WITH THE SEED: the statements are not yours to turn. If you find one false, say at which input.
  Laid BY PROGRAM, IN A SANDBOX (cutbox-rows.mjs): the forced cells as the released guide's own fill.sh prints them over the translation e3ee871603c607ac… (all of the seat's roots in one cut). By AI agents, Wed Nov 11 2026. No macro, syntax, notation, axiom, sorry.
-/
import Derived.Test.YtaifpindiphlkabChecked
import GoSem.Claim
import GoSem.ClaimJoined
import GoSem.ClaimMapViews
import Derived.JoinedTies
import Derived.KernelRfl
namespace Go.Proofs.Ytaifpindiphlkab
/- THE CELL 'sum', in the pinned program and in every row, IS THE sha256 OF THE DUMP (.gsa) THAT YtaifpindiphlkabProg.lean LOADS. Nothing in Lean hashes anything: it is a label: what it is worth is what the hold of that sum in a sandbox is worth. -/
noncomputable def Try.pinned : Pinned := { name := "ytaifpindiphlkab", sum := "e3ee871603c607ac753888ac4c3b0ce0bb12f68bd82b304f16c2602726c82dc7", checked := Try.checked }
namespace Rows
def none {H : Type} : Left H := { results := [], args := [] }

/-- 'laws.FnExactStartOk': WHATEVER THE INPUT: true; the input reads as it did. -/
def fnExactStartOkSpec : ChangeSpec := { name := "fnExactStartOk", fn := fun _ => fun
  | [d1, d2] => { results := [.lit (.bool true)], args := [d1, d2] }
  | _ => none }
def fnExactStartOkRow : OpenClaim := { program := "ytaifpindiphlkab", sum := "e3ee871603c607ac753888ac4c3b0ce0bb12f68bd82b304f16c2602726c82dc7", func := "loop.example/plansandpromises/laws.FnExactStartOk", spec := "fnExactStartOk", unfollowed := true, recurses := true, apart := false }
def FnExactStartOkSaid : Prop := fnExactStartOkRow.holds Try.pinned (OpenSpec.ofChange fnExactStartOkSpec)

/-- ITS FALSE NEIGHBOUR: 'it returns false'. Refute it at one input. -/
def fnExactStartOkWrong : ChangeSpec := { name := "fnExactStartOk", fn := fun _ => fun
  | [d1, d2] => { results := [.lit (.bool false)], args := [d1, d2] }
  | _ => none }
def FnExactStartOkWrongFalsely : Prop := fnExactStartOkRow.holds Try.pinned (OpenSpec.ofChange fnExactStartOkWrong)

/-- 'laws.FnExactFromPoint': WHATEVER THE INPUT: true; the input reads as it did. -/
def fnExactFromPointSpec : ChangeSpec := { name := "fnExactFromPoint", fn := fun _ => fun
  | [d1, d2] => { results := [.lit (.bool true)], args := [d1, d2] }
  | _ => none }
def fnExactFromPointRow : OpenClaim := { program := "ytaifpindiphlkab", sum := "e3ee871603c607ac753888ac4c3b0ce0bb12f68bd82b304f16c2602726c82dc7", func := "loop.example/plansandpromises/laws.FnExactFromPoint", spec := "fnExactFromPoint", unfollowed := true, recurses := true, apart := false }
def FnExactFromPointSaid : Prop := fnExactFromPointRow.holds Try.pinned (OpenSpec.ofChange fnExactFromPointSpec)

/-- ITS FALSE NEIGHBOUR: 'it returns false'. Refute it at one input. -/
def fnExactFromPointWrong : ChangeSpec := { name := "fnExactFromPoint", fn := fun _ => fun
  | [d1, d2] => { results := [.lit (.bool false)], args := [d1, d2] }
  | _ => none }
def FnExactFromPointWrongFalsely : Prop := fnExactFromPointRow.holds Try.pinned (OpenSpec.ofChange fnExactFromPointWrong)

/-- 'laws.FnExactClosedOf': WHATEVER THE INPUT: true; the input reads as it did. -/
def fnExactClosedOfSpec : ChangeSpec := { name := "fnExactClosedOf", fn := fun _ => fun
  | [d] => { results := [.lit (.bool true)], args := [d] }
  | _ => none }
def fnExactClosedOfRow : OpenClaim := { program := "ytaifpindiphlkab", sum := "e3ee871603c607ac753888ac4c3b0ce0bb12f68bd82b304f16c2602726c82dc7", func := "loop.example/plansandpromises/laws.FnExactClosedOf", spec := "fnExactClosedOf", unfollowed := true, recurses := true, apart := false }
def FnExactClosedOfSaid : Prop := fnExactClosedOfRow.holds Try.pinned (OpenSpec.ofChange fnExactClosedOfSpec)

/-- ITS FALSE NEIGHBOUR: 'it returns false'. Refute it at one input. -/
def fnExactClosedOfWrong : ChangeSpec := { name := "fnExactClosedOf", fn := fun _ => fun
  | [d] => { results := [.lit (.bool false)], args := [d] }
  | _ => none }
def FnExactClosedOfWrongFalsely : Prop := fnExactClosedOfRow.holds Try.pinned (OpenSpec.ofChange fnExactClosedOfWrong)

/-- 'laws.FnExactStateOk': WHATEVER THE INPUT: true; the input reads as it did. -/
def fnExactStateOkSpec : ChangeSpec := { name := "fnExactStateOk", fn := fun _ => fun
  | [d1, d2] => { results := [.lit (.bool true)], args := [d1, d2] }
  | _ => none }
def fnExactStateOkRow : OpenClaim := { program := "ytaifpindiphlkab", sum := "e3ee871603c607ac753888ac4c3b0ce0bb12f68bd82b304f16c2602726c82dc7", func := "loop.example/plansandpromises/laws.FnExactStateOk", spec := "fnExactStateOk", unfollowed := true, recurses := true, apart := false }
def FnExactStateOkSaid : Prop := fnExactStateOkRow.holds Try.pinned (OpenSpec.ofChange fnExactStateOkSpec)

/-- ITS FALSE NEIGHBOUR: 'it returns false'. Refute it at one input. -/
def fnExactStateOkWrong : ChangeSpec := { name := "fnExactStateOk", fn := fun _ => fun
  | [d1, d2] => { results := [.lit (.bool false)], args := [d1, d2] }
  | _ => none }
def FnExactStateOkWrongFalsely : Prop := fnExactStateOkRow.holds Try.pinned (OpenSpec.ofChange fnExactStateOkWrong)

/-- 'laws.FnExactStateNew': WHATEVER THE INPUT: true; the input reads as it did. -/
def fnExactStateNewSpec : ChangeSpec := { name := "fnExactStateNew", fn := fun _ => fun
  | [d] => { results := [.lit (.bool true)], args := [d] }
  | _ => none }
def fnExactStateNewRow : OpenClaim := { program := "ytaifpindiphlkab", sum := "e3ee871603c607ac753888ac4c3b0ce0bb12f68bd82b304f16c2602726c82dc7", func := "loop.example/plansandpromises/laws.FnExactStateNew", spec := "fnExactStateNew", unfollowed := true, recurses := true, apart := false }
def FnExactStateNewSaid : Prop := fnExactStateNewRow.holds Try.pinned (OpenSpec.ofChange fnExactStateNewSpec)

/-- ITS FALSE NEIGHBOUR: 'it returns false'. Refute it at one input. -/
def fnExactStateNewWrong : ChangeSpec := { name := "fnExactStateNew", fn := fun _ => fun
  | [d] => { results := [.lit (.bool false)], args := [d] }
  | _ => none }
def FnExactStateNewWrongFalsely : Prop := fnExactStateNewRow.holds Try.pinned (OpenSpec.ofChange fnExactStateNewWrong)

/-- 'laws.FnExactLatestOf': WHATEVER THE INPUT: true; the input reads as it did. -/
def fnExactLatestOfSpec : ChangeSpec := { name := "fnExactLatestOf", fn := fun _ => fun
  | [d1, d2] => { results := [.lit (.bool true)], args := [d1, d2] }
  | _ => none }
def fnExactLatestOfRow : OpenClaim := { program := "ytaifpindiphlkab", sum := "e3ee871603c607ac753888ac4c3b0ce0bb12f68bd82b304f16c2602726c82dc7", func := "loop.example/plansandpromises/laws.FnExactLatestOf", spec := "fnExactLatestOf", unfollowed := true, recurses := true, apart := false }
def FnExactLatestOfSaid : Prop := fnExactLatestOfRow.holds Try.pinned (OpenSpec.ofChange fnExactLatestOfSpec)

/-- ITS FALSE NEIGHBOUR: 'it returns false'. Refute it at one input. -/
def fnExactLatestOfWrong : ChangeSpec := { name := "fnExactLatestOf", fn := fun _ => fun
  | [d1, d2] => { results := [.lit (.bool false)], args := [d1, d2] }
  | _ => none }
def FnExactLatestOfWrongFalsely : Prop := fnExactLatestOfRow.holds Try.pinned (OpenSpec.ofChange fnExactLatestOfWrong)

/-- 'laws.FnExactEarliestOf': WHATEVER THE INPUT: true; the input reads as it did. -/
def fnExactEarliestOfSpec : ChangeSpec := { name := "fnExactEarliestOf", fn := fun _ => fun
  | [d1, d2] => { results := [.lit (.bool true)], args := [d1, d2] }
  | _ => none }
def fnExactEarliestOfRow : OpenClaim := { program := "ytaifpindiphlkab", sum := "e3ee871603c607ac753888ac4c3b0ce0bb12f68bd82b304f16c2602726c82dc7", func := "loop.example/plansandpromises/laws.FnExactEarliestOf", spec := "fnExactEarliestOf", unfollowed := true, recurses := true, apart := false }
def FnExactEarliestOfSaid : Prop := fnExactEarliestOfRow.holds Try.pinned (OpenSpec.ofChange fnExactEarliestOfSpec)

/-- ITS FALSE NEIGHBOUR: 'it returns false'. Refute it at one input. -/
def fnExactEarliestOfWrong : ChangeSpec := { name := "fnExactEarliestOf", fn := fun _ => fun
  | [d1, d2] => { results := [.lit (.bool false)], args := [d1, d2] }
  | _ => none }
def FnExactEarliestOfWrongFalsely : Prop := fnExactEarliestOfRow.holds Try.pinned (OpenSpec.ofChange fnExactEarliestOfWrong)

/-- 'laws.FnExactGoesOnOk': WHATEVER THE INPUT: true; the input reads as it did. -/
def fnExactGoesOnOkSpec : ChangeSpec := { name := "fnExactGoesOnOk", fn := fun _ => fun
  | [d1, d2] => { results := [.lit (.bool true)], args := [d1, d2] }
  | _ => none }
def fnExactGoesOnOkRow : OpenClaim := { program := "ytaifpindiphlkab", sum := "e3ee871603c607ac753888ac4c3b0ce0bb12f68bd82b304f16c2602726c82dc7", func := "loop.example/plansandpromises/laws.FnExactGoesOnOk", spec := "fnExactGoesOnOk", unfollowed := true, recurses := true, apart := false }
def FnExactGoesOnOkSaid : Prop := fnExactGoesOnOkRow.holds Try.pinned (OpenSpec.ofChange fnExactGoesOnOkSpec)

/-- ITS FALSE NEIGHBOUR: 'it returns false'. Refute it at one input. -/
def fnExactGoesOnOkWrong : ChangeSpec := { name := "fnExactGoesOnOk", fn := fun _ => fun
  | [d1, d2] => { results := [.lit (.bool false)], args := [d1, d2] }
  | _ => none }
def FnExactGoesOnOkWrongFalsely : Prop := fnExactGoesOnOkRow.holds Try.pinned (OpenSpec.ofChange fnExactGoesOnOkWrong)

/- THE SECOND FORM. 'bulk': how many values and letters a reading holds, each counted each time it is reached (what is shared counts as often as it is met; a slice's spare places count too). A statement '..UptoSaid' is the law's where the arguments, and the package variables that the reading takes, are together of bulk at most 1048576: NARROWER than '..Said'. Prove '..Said' where nothing that the law and all that it calls make is longer than what came in: it says more and counts as full. Else prove '..UptoSaid'. A law counts once. -/
mutual
def uptoBulk {H : Type} : DataW H → Nat
  | .lit (.string bytes) => bytes.length + 1
  | .lit _ => 1
  | .nil => 1
  | .ptr d => uptoBulk d + 1
  | .slice elems spare => uptoBulkAll elems + uptoBulkAll spare + 1
  | .agg parts => uptoBulkAll parts + 1
  | .iface _ d => uptoBulk d + 1
  | .map entries => uptoBulkEntries entries + 1
  | .held _ => 1
def uptoBulkAll {H : Type} : List (DataW H) → Nat
  | [] => 0
  | d :: r => uptoBulk d + uptoBulkAll r
def uptoBulkEntries {H : Type} : List (Lit × DataW H) → Nat
  | [] => 0
  | x :: r => uptoBulkEntry x + uptoBulkEntries r
def uptoBulkEntry {H : Type} : Lit × DataW H → Nat
  | (.string bytes, d) => bytes.length + uptoBulk d + 1
  | (_, d) => uptoBulk d + 1
 end
def uptoSmall : (H : Type) → List (DataW H) → Bool := fun _ ds => decide (uptoBulkAll ds ≤ 1048576)
def OpenSpec.upto (s : _root_.Go.ChangeSpec) : _root_.Go.OpenSpec := { _root_.Go.OpenSpec.ofChange s with cond := some uptoSmall }

/-- 'laws.FnExactStartOk', WHERE WHAT IT READS IS OF BULK AT MOST 1048576: true; the input reads as it did. -/
def fnExactStartOkUptoRow : OpenClaim := { program := "ytaifpindiphlkab", sum := "e3ee871603c607ac753888ac4c3b0ce0bb12f68bd82b304f16c2602726c82dc7", func := "loop.example/plansandpromises/laws.FnExactStartOk", spec := "fnExactStartOk", unfollowed := true, recurses := true, apart := false, narrowed := true }
def FnExactStartOkUptoSaid : Prop := fnExactStartOkUptoRow.holds Try.pinned (OpenSpec.upto fnExactStartOkSpec)

/-- 'laws.FnExactFromPoint', WHERE WHAT IT READS IS OF BULK AT MOST 1048576: true; the input reads as it did. -/
def fnExactFromPointUptoRow : OpenClaim := { program := "ytaifpindiphlkab", sum := "e3ee871603c607ac753888ac4c3b0ce0bb12f68bd82b304f16c2602726c82dc7", func := "loop.example/plansandpromises/laws.FnExactFromPoint", spec := "fnExactFromPoint", unfollowed := true, recurses := true, apart := false, narrowed := true }
def FnExactFromPointUptoSaid : Prop := fnExactFromPointUptoRow.holds Try.pinned (OpenSpec.upto fnExactFromPointSpec)

/-- 'laws.FnExactClosedOf', WHERE WHAT IT READS IS OF BULK AT MOST 1048576: true; the input reads as it did. -/
def fnExactClosedOfUptoRow : OpenClaim := { program := "ytaifpindiphlkab", sum := "e3ee871603c607ac753888ac4c3b0ce0bb12f68bd82b304f16c2602726c82dc7", func := "loop.example/plansandpromises/laws.FnExactClosedOf", spec := "fnExactClosedOf", unfollowed := true, recurses := true, apart := false, narrowed := true }
def FnExactClosedOfUptoSaid : Prop := fnExactClosedOfUptoRow.holds Try.pinned (OpenSpec.upto fnExactClosedOfSpec)

/-- 'laws.FnExactStateOk', WHERE WHAT IT READS IS OF BULK AT MOST 1048576: true; the input reads as it did. -/
def fnExactStateOkUptoRow : OpenClaim := { program := "ytaifpindiphlkab", sum := "e3ee871603c607ac753888ac4c3b0ce0bb12f68bd82b304f16c2602726c82dc7", func := "loop.example/plansandpromises/laws.FnExactStateOk", spec := "fnExactStateOk", unfollowed := true, recurses := true, apart := false, narrowed := true }
def FnExactStateOkUptoSaid : Prop := fnExactStateOkUptoRow.holds Try.pinned (OpenSpec.upto fnExactStateOkSpec)

/-- 'laws.FnExactStateNew', WHERE WHAT IT READS IS OF BULK AT MOST 1048576: true; the input reads as it did. -/
def fnExactStateNewUptoRow : OpenClaim := { program := "ytaifpindiphlkab", sum := "e3ee871603c607ac753888ac4c3b0ce0bb12f68bd82b304f16c2602726c82dc7", func := "loop.example/plansandpromises/laws.FnExactStateNew", spec := "fnExactStateNew", unfollowed := true, recurses := true, apart := false, narrowed := true }
def FnExactStateNewUptoSaid : Prop := fnExactStateNewUptoRow.holds Try.pinned (OpenSpec.upto fnExactStateNewSpec)

/-- 'laws.FnExactLatestOf', WHERE WHAT IT READS IS OF BULK AT MOST 1048576: true; the input reads as it did. -/
def fnExactLatestOfUptoRow : OpenClaim := { program := "ytaifpindiphlkab", sum := "e3ee871603c607ac753888ac4c3b0ce0bb12f68bd82b304f16c2602726c82dc7", func := "loop.example/plansandpromises/laws.FnExactLatestOf", spec := "fnExactLatestOf", unfollowed := true, recurses := true, apart := false, narrowed := true }
def FnExactLatestOfUptoSaid : Prop := fnExactLatestOfUptoRow.holds Try.pinned (OpenSpec.upto fnExactLatestOfSpec)

/-- 'laws.FnExactEarliestOf', WHERE WHAT IT READS IS OF BULK AT MOST 1048576: true; the input reads as it did. -/
def fnExactEarliestOfUptoRow : OpenClaim := { program := "ytaifpindiphlkab", sum := "e3ee871603c607ac753888ac4c3b0ce0bb12f68bd82b304f16c2602726c82dc7", func := "loop.example/plansandpromises/laws.FnExactEarliestOf", spec := "fnExactEarliestOf", unfollowed := true, recurses := true, apart := false, narrowed := true }
def FnExactEarliestOfUptoSaid : Prop := fnExactEarliestOfUptoRow.holds Try.pinned (OpenSpec.upto fnExactEarliestOfSpec)

/-- 'laws.FnExactGoesOnOk', WHERE WHAT IT READS IS OF BULK AT MOST 1048576: true; the input reads as it did. -/
def fnExactGoesOnOkUptoRow : OpenClaim := { program := "ytaifpindiphlkab", sum := "e3ee871603c607ac753888ac4c3b0ce0bb12f68bd82b304f16c2602726c82dc7", func := "loop.example/plansandpromises/laws.FnExactGoesOnOk", spec := "fnExactGoesOnOk", unfollowed := true, recurses := true, apart := false, narrowed := true }
def FnExactGoesOnOkUptoSaid : Prop := fnExactGoesOnOkUptoRow.holds Try.pinned (OpenSpec.upto fnExactGoesOnOkSpec)

end Rows
end Go.Proofs.Ytaifpindiphlkab
