/-
  No cell of these rows narrows 'for every input' (looked for: loops, veiled, ifaces, maps, wideKeys, modest, calm, conditions, laid).
  DERIVED. THE GIVEN ROWS OF THIS SEAT. 8 by the template 'for every input the law returns true; each argument reads behind the call as it read before'; 0 by the template 'total and deterministic' (their statements: YtaifpindiphlkaaTotals.lean).
  GIVEN WITH THE SEED: the statements are not yours to turn. If you find one false, say at which input.
  Laid BY PROGRAM, IN A SANDBOX (cutbox-rows.mjs): the forced cells as the released guide's own fill.sh prints them over the translation 22cd7b22a046629e… (all of the seat's roots in one cut). By AI agents, Wed Nov 11 2026. No macro, syntax, notation, axiom, sorry.
-/
import Derived.Test.YtaifpindiphlkaaChecked
import GoSem.Claim
import GoSem.ClaimJoined
import GoSem.ClaimMapViews
import Derived.JoinedTies
import Derived.KernelRfl
namespace Go.Proofs.Ytaifpindiphlkaa
/- THE CELL 'sum', in the pinned program and in every row, IS THE sha256 OF THE DUMP (.gsa) THAT YtaifpindiphlkaaProg.lean LOADS. Nothing in Lean hashes anything: it is a label: what it is worth is what the hold of that sum in a sandbox is worth. -/
noncomputable def Try.pinned : Pinned := { name := "ytaifpindiphlkaa", sum := "22cd7b22a046629e171284fcb29a702314d1288c1eb3ce662a75261b6edd40a8", checked := Try.checked }
namespace Rows
def none {H : Type} : Left H := { results := [], args := [] }

/-- 'laws.FnPlanOk': WHATEVER THE INPUT: true; the input reads as it did. -/
def fnPlanOkSpec : ChangeSpec := { name := "fnPlanOk", fn := fun _ => fun
  | [d] => { results := [.lit (.bool true)], args := [d] }
  | _ => none }
def fnPlanOkRow : OpenClaim := { program := "ytaifpindiphlkaa", sum := "22cd7b22a046629e171284fcb29a702314d1288c1eb3ce662a75261b6edd40a8", func := "loop.example/plansandpromises/laws.FnPlanOk", spec := "fnPlanOk", unfollowed := true, recurses := true, apart := false }
def FnPlanOkSaid : Prop := fnPlanOkRow.holds Try.pinned (OpenSpec.ofChange fnPlanOkSpec)

/-- ITS FALSE NEIGHBOUR: 'it returns false'. Refute it at one input. -/
def fnPlanOkWrong : ChangeSpec := { name := "fnPlanOk", fn := fun _ => fun
  | [d] => { results := [.lit (.bool false)], args := [d] }
  | _ => none }
def FnPlanOkWrongFalsely : Prop := fnPlanOkRow.holds Try.pinned (OpenSpec.ofChange fnPlanOkWrong)

/-- 'laws.FnTimesOk': WHATEVER THE INPUT: true; the input reads as it did. -/
def fnTimesOkSpec : ChangeSpec := { name := "fnTimesOk", fn := fun _ => fun
  | [d] => { results := [.lit (.bool true)], args := [d] }
  | _ => none }
def fnTimesOkRow : OpenClaim := { program := "ytaifpindiphlkaa", sum := "22cd7b22a046629e171284fcb29a702314d1288c1eb3ce662a75261b6edd40a8", func := "loop.example/plansandpromises/laws.FnTimesOk", spec := "fnTimesOk", unfollowed := true, recurses := true, apart := false }
def FnTimesOkSaid : Prop := fnTimesOkRow.holds Try.pinned (OpenSpec.ofChange fnTimesOkSpec)

/-- ITS FALSE NEIGHBOUR: 'it returns false'. Refute it at one input. -/
def fnTimesOkWrong : ChangeSpec := { name := "fnTimesOk", fn := fun _ => fun
  | [d] => { results := [.lit (.bool false)], args := [d] }
  | _ => none }
def FnTimesOkWrongFalsely : Prop := fnTimesOkRow.holds Try.pinned (OpenSpec.ofChange fnTimesOkWrong)

/-- 'laws.FnLaterOf': WHATEVER THE INPUT: true; the input reads as it did. -/
def fnLaterOfSpec : ChangeSpec := { name := "fnLaterOf", fn := fun _ => fun
  | [d] => { results := [.lit (.bool true)], args := [d] }
  | _ => none }
def fnLaterOfRow : OpenClaim := { program := "ytaifpindiphlkaa", sum := "22cd7b22a046629e171284fcb29a702314d1288c1eb3ce662a75261b6edd40a8", func := "loop.example/plansandpromises/laws.FnLaterOf", spec := "fnLaterOf", unfollowed := true, recurses := true, apart := false }
def FnLaterOfSaid : Prop := fnLaterOfRow.holds Try.pinned (OpenSpec.ofChange fnLaterOfSpec)

/-- ITS FALSE NEIGHBOUR: 'it returns false'. Refute it at one input. -/
def fnLaterOfWrong : ChangeSpec := { name := "fnLaterOf", fn := fun _ => fun
  | [d] => { results := [.lit (.bool false)], args := [d] }
  | _ => none }
def FnLaterOfWrongFalsely : Prop := fnLaterOfRow.holds Try.pinned (OpenSpec.ofChange fnLaterOfWrong)

/-- 'laws.FnMovedBy': WHATEVER THE INPUT: true; the input reads as it did. -/
def fnMovedBySpec : ChangeSpec := { name := "fnMovedBy", fn := fun _ => fun
  | [d] => { results := [.lit (.bool true)], args := [d] }
  | _ => none }
def fnMovedByRow : OpenClaim := { program := "ytaifpindiphlkaa", sum := "22cd7b22a046629e171284fcb29a702314d1288c1eb3ce662a75261b6edd40a8", func := "loop.example/plansandpromises/laws.FnMovedBy", spec := "fnMovedBy", unfollowed := true, recurses := true, apart := false }
def FnMovedBySaid : Prop := fnMovedByRow.holds Try.pinned (OpenSpec.ofChange fnMovedBySpec)

/-- ITS FALSE NEIGHBOUR: 'it returns false'. Refute it at one input. -/
def fnMovedByWrong : ChangeSpec := { name := "fnMovedBy", fn := fun _ => fun
  | [d] => { results := [.lit (.bool false)], args := [d] }
  | _ => none }
def FnMovedByWrongFalsely : Prop := fnMovedByRow.holds Try.pinned (OpenSpec.ofChange fnMovedByWrong)

/-- 'laws.FnBrokenOf': WHATEVER THE INPUT: true; the input reads as it did. -/
def fnBrokenOfSpec : ChangeSpec := { name := "fnBrokenOf", fn := fun _ => fun
  | [d] => { results := [.lit (.bool true)], args := [d] }
  | _ => none }
def fnBrokenOfRow : OpenClaim := { program := "ytaifpindiphlkaa", sum := "22cd7b22a046629e171284fcb29a702314d1288c1eb3ce662a75261b6edd40a8", func := "loop.example/plansandpromises/laws.FnBrokenOf", spec := "fnBrokenOf", unfollowed := true, recurses := true, apart := false }
def FnBrokenOfSaid : Prop := fnBrokenOfRow.holds Try.pinned (OpenSpec.ofChange fnBrokenOfSpec)

/-- ITS FALSE NEIGHBOUR: 'it returns false'. Refute it at one input. -/
def fnBrokenOfWrong : ChangeSpec := { name := "fnBrokenOf", fn := fun _ => fun
  | [d] => { results := [.lit (.bool false)], args := [d] }
  | _ => none }
def FnBrokenOfWrongFalsely : Prop := fnBrokenOfRow.holds Try.pinned (OpenSpec.ofChange fnBrokenOfWrong)

/-- 'laws.FnExactTableOf': WHATEVER THE INPUT: true; the input reads as it did. -/
def fnExactTableOfSpec : ChangeSpec := { name := "fnExactTableOf", fn := fun _ => fun
  | [d] => { results := [.lit (.bool true)], args := [d] }
  | _ => none }
def fnExactTableOfRow : OpenClaim := { program := "ytaifpindiphlkaa", sum := "22cd7b22a046629e171284fcb29a702314d1288c1eb3ce662a75261b6edd40a8", func := "loop.example/plansandpromises/laws.FnExactTableOf", spec := "fnExactTableOf", unfollowed := true, recurses := true, apart := false }
def FnExactTableOfSaid : Prop := fnExactTableOfRow.holds Try.pinned (OpenSpec.ofChange fnExactTableOfSpec)

/-- ITS FALSE NEIGHBOUR: 'it returns false'. Refute it at one input. -/
def fnExactTableOfWrong : ChangeSpec := { name := "fnExactTableOf", fn := fun _ => fun
  | [d] => { results := [.lit (.bool false)], args := [d] }
  | _ => none }
def FnExactTableOfWrongFalsely : Prop := fnExactTableOfRow.holds Try.pinned (OpenSpec.ofChange fnExactTableOfWrong)

/-- 'laws.FnExactImpliesOk': WHATEVER THE INPUT: true; the input reads as it did. -/
def fnExactImpliesOkSpec : ChangeSpec := { name := "fnExactImpliesOk", fn := fun _ => fun
  | [d1, d2] => { results := [.lit (.bool true)], args := [d1, d2] }
  | _ => none }
def fnExactImpliesOkRow : OpenClaim := { program := "ytaifpindiphlkaa", sum := "22cd7b22a046629e171284fcb29a702314d1288c1eb3ce662a75261b6edd40a8", func := "loop.example/plansandpromises/laws.FnExactImpliesOk", spec := "fnExactImpliesOk", unfollowed := true, recurses := true, apart := false }
def FnExactImpliesOkSaid : Prop := fnExactImpliesOkRow.holds Try.pinned (OpenSpec.ofChange fnExactImpliesOkSpec)

/-- ITS FALSE NEIGHBOUR: 'it returns false'. Refute it at one input. -/
def fnExactImpliesOkWrong : ChangeSpec := { name := "fnExactImpliesOk", fn := fun _ => fun
  | [d1, d2] => { results := [.lit (.bool false)], args := [d1, d2] }
  | _ => none }
def FnExactImpliesOkWrongFalsely : Prop := fnExactImpliesOkRow.holds Try.pinned (OpenSpec.ofChange fnExactImpliesOkWrong)

/-- 'laws.FnExactAlikeOk': WHATEVER THE INPUT: true; the input reads as it did. -/
def fnExactAlikeOkSpec : ChangeSpec := { name := "fnExactAlikeOk", fn := fun _ => fun
  | [d1, d2] => { results := [.lit (.bool true)], args := [d1, d2] }
  | _ => none }
def fnExactAlikeOkRow : OpenClaim := { program := "ytaifpindiphlkaa", sum := "22cd7b22a046629e171284fcb29a702314d1288c1eb3ce662a75261b6edd40a8", func := "loop.example/plansandpromises/laws.FnExactAlikeOk", spec := "fnExactAlikeOk", unfollowed := true, recurses := true, apart := false }
def FnExactAlikeOkSaid : Prop := fnExactAlikeOkRow.holds Try.pinned (OpenSpec.ofChange fnExactAlikeOkSpec)

/-- ITS FALSE NEIGHBOUR: 'it returns false'. Refute it at one input. -/
def fnExactAlikeOkWrong : ChangeSpec := { name := "fnExactAlikeOk", fn := fun _ => fun
  | [d1, d2] => { results := [.lit (.bool false)], args := [d1, d2] }
  | _ => none }
def FnExactAlikeOkWrongFalsely : Prop := fnExactAlikeOkRow.holds Try.pinned (OpenSpec.ofChange fnExactAlikeOkWrong)

/- THE SECOND FORM. 'bulk': how many values and letters a reading holds, each counted each time it is reached (what is shared counts as often as it is met; a slice's spare places count too). A statement '..UptoSaid' is the law's where the arguments, and the package variables that the reading takes, are together of bulk at most 1048576: NARROWER than '..Said'. Prove '..Said' where nothing that the law and all that it calls make is longer than what came in: it says more and counts as full. Else prove '..UptoSaid'. A law counts once. -/
mutual
def uptoBulk {H : Type} : DataW H → Nat
  | .lit (.string bytes) => bytes.length + 1
  | .lit _ => 1
  | .nil => 1
  | .ptr d => uptoBulk d + 1
  | .slice elems spare => uptoBulkAll elems + uptoBulkAll spare + 1
  | .agg parts => uptoBulkAll parts + 1
  | .iface _ d => uptoBulk d + 1
  | .map entries => uptoBulkEntries entries + 1
  | .held _ => 1
def uptoBulkAll {H : Type} : List (DataW H) → Nat
  | [] => 0
  | d :: r => uptoBulk d + uptoBulkAll r
def uptoBulkEntries {H : Type} : List (Lit × DataW H) → Nat
  | [] => 0
  | x :: r => uptoBulkEntry x + uptoBulkEntries r
def uptoBulkEntry {H : Type} : Lit × DataW H → Nat
  | (.string bytes, d) => bytes.length + uptoBulk d + 1
  | (_, d) => uptoBulk d + 1
 end
def uptoSmall : (H : Type) → List (DataW H) → Bool := fun _ ds => decide (uptoBulkAll ds ≤ 1048576)
def OpenSpec.upto (s : _root_.Go.ChangeSpec) : _root_.Go.OpenSpec := { _root_.Go.OpenSpec.ofChange s with cond := some uptoSmall }

/-- 'laws.FnPlanOk', WHERE WHAT IT READS IS OF BULK AT MOST 1048576: true; the input reads as it did. -/
def fnPlanOkUptoRow : OpenClaim := { program := "ytaifpindiphlkaa", sum := "22cd7b22a046629e171284fcb29a702314d1288c1eb3ce662a75261b6edd40a8", func := "loop.example/plansandpromises/laws.FnPlanOk", spec := "fnPlanOk", unfollowed := true, recurses := true, apart := false, narrowed := true }
def FnPlanOkUptoSaid : Prop := fnPlanOkUptoRow.holds Try.pinned (OpenSpec.upto fnPlanOkSpec)

/-- 'laws.FnTimesOk', WHERE WHAT IT READS IS OF BULK AT MOST 1048576: true; the input reads as it did. -/
def fnTimesOkUptoRow : OpenClaim := { program := "ytaifpindiphlkaa", sum := "22cd7b22a046629e171284fcb29a702314d1288c1eb3ce662a75261b6edd40a8", func := "loop.example/plansandpromises/laws.FnTimesOk", spec := "fnTimesOk", unfollowed := true, recurses := true, apart := false, narrowed := true }
def FnTimesOkUptoSaid : Prop := fnTimesOkUptoRow.holds Try.pinned (OpenSpec.upto fnTimesOkSpec)

/-- 'laws.FnLaterOf', WHERE WHAT IT READS IS OF BULK AT MOST 1048576: true; the input reads as it did. -/
def fnLaterOfUptoRow : OpenClaim := { program := "ytaifpindiphlkaa", sum := "22cd7b22a046629e171284fcb29a702314d1288c1eb3ce662a75261b6edd40a8", func := "loop.example/plansandpromises/laws.FnLaterOf", spec := "fnLaterOf", unfollowed := true, recurses := true, apart := false, narrowed := true }
def FnLaterOfUptoSaid : Prop := fnLaterOfUptoRow.holds Try.pinned (OpenSpec.upto fnLaterOfSpec)

/-- 'laws.FnMovedBy', WHERE WHAT IT READS IS OF BULK AT MOST 1048576: true; the input reads as it did. -/
def fnMovedByUptoRow : OpenClaim := { program := "ytaifpindiphlkaa", sum := "22cd7b22a046629e171284fcb29a702314d1288c1eb3ce662a75261b6edd40a8", func := "loop.example/plansandpromises/laws.FnMovedBy", spec := "fnMovedBy", unfollowed := true, recurses := true, apart := false, narrowed := true }
def FnMovedByUptoSaid : Prop := fnMovedByUptoRow.holds Try.pinned (OpenSpec.upto fnMovedBySpec)

/-- 'laws.FnBrokenOf', WHERE WHAT IT READS IS OF BULK AT MOST 1048576: true; the input reads as it did. -/
def fnBrokenOfUptoRow : OpenClaim := { program := "ytaifpindiphlkaa", sum := "22cd7b22a046629e171284fcb29a702314d1288c1eb3ce662a75261b6edd40a8", func := "loop.example/plansandpromises/laws.FnBrokenOf", spec := "fnBrokenOf", unfollowed := true, recurses := true, apart := false, narrowed := true }
def FnBrokenOfUptoSaid : Prop := fnBrokenOfUptoRow.holds Try.pinned (OpenSpec.upto fnBrokenOfSpec)

/-- 'laws.FnExactTableOf', WHERE WHAT IT READS IS OF BULK AT MOST 1048576: true; the input reads as it did. -/
def fnExactTableOfUptoRow : OpenClaim := { program := "ytaifpindiphlkaa", sum := "22cd7b22a046629e171284fcb29a702314d1288c1eb3ce662a75261b6edd40a8", func := "loop.example/plansandpromises/laws.FnExactTableOf", spec := "fnExactTableOf", unfollowed := true, recurses := true, apart := false, narrowed := true }
def FnExactTableOfUptoSaid : Prop := fnExactTableOfUptoRow.holds Try.pinned (OpenSpec.upto fnExactTableOfSpec)

/-- 'laws.FnExactImpliesOk', WHERE WHAT IT READS IS OF BULK AT MOST 1048576: true; the input reads as it did. -/
def fnExactImpliesOkUptoRow : OpenClaim := { program := "ytaifpindiphlkaa", sum := "22cd7b22a046629e171284fcb29a702314d1288c1eb3ce662a75261b6edd40a8", func := "loop.example/plansandpromises/laws.FnExactImpliesOk", spec := "fnExactImpliesOk", unfollowed := true, recurses := true, apart := false, narrowed := true }
def FnExactImpliesOkUptoSaid : Prop := fnExactImpliesOkUptoRow.holds Try.pinned (OpenSpec.upto fnExactImpliesOkSpec)

/-- 'laws.FnExactAlikeOk', WHERE WHAT IT READS IS OF BULK AT MOST 1048576: true; the input reads as it did. -/
def fnExactAlikeOkUptoRow : OpenClaim := { program := "ytaifpindiphlkaa", sum := "22cd7b22a046629e171284fcb29a702314d1288c1eb3ce662a75261b6edd40a8", func := "loop.example/plansandpromises/laws.FnExactAlikeOk", spec := "fnExactAlikeOk", unfollowed := true, recurses := true, apart := false, narrowed := true }
def FnExactAlikeOkUptoSaid : Prop := fnExactAlikeOkUptoRow.holds Try.pinned (OpenSpec.upto fnExactAlikeOkSpec)

end Rows
end Go.Proofs.Ytaifpindiphlkaa
