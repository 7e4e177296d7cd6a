/-
  No cell of these rows narrows 'for every input' (looked for: loops, veiled, ifaces, maps, wideKeys, modest, calm, conditions, laid).
  DERIVED. THE GIVEN ROWS OF THIS SEAT. 5 by the template 'for every input the law returns true; each argument reads behind the call as it read before'; 0 by the template 'total and deterministic' (their statements: YtnnnpippekpibaaTotals.lean).
  GIVEN WITH THE SEED: the statements are not yours to turn. If you find one false, say at which input.
  Laid BY PROGRAM, IN A SANDBOX (cutbox-rows.mjs): the forced cells as the released guide's own fill.sh prints them over the translation eb754abebf638ccf… (all of the seat's roots in one cut). By AI agents, Wed Nov 11 2026. No macro, syntax, notation, axiom, sorry.
-/
import Derived.Test.YtnnnpippekpibaaChecked
import GoSem.Claim
import GoSem.ClaimJoined
import GoSem.ClaimMapViews
import Derived.JoinedTies
import Derived.KernelRfl
namespace Go.Proofs.Ytnnnpippekpibaa
/- THE CELL 'sum', in the pinned program and in every row, IS THE sha256 OF THE DUMP (.gsa) THAT YtnnnpippekpibaaProg.lean LOADS. Nothing in Lean hashes anything: it is a label: what it is worth is what the hold of that sum in a sandbox is worth. -/
noncomputable def Try.pinned : Pinned := { name := "ytnnnpippekpibaa", sum := "eb754abebf638ccf83e4f0b6b76524ddb4ea36a7babb9289f1e208a580e1aff7", checked := Try.checked }
namespace Rows
def none {H : Type} : Left H := { results := [], args := [] }

/-- 'pianolalaw22.SvmNames': WHATEVER THE INPUT: true; the input reads as it did. -/
def svmNamesSpec : ChangeSpec := { name := "svmNames", fn := fun _ => fun
  | [] => { results := [.lit (.bool true)], args := [] }
  | _ => none }
def svmNamesRow : OpenClaim := { program := "ytnnnpippekpibaa", sum := "eb754abebf638ccf83e4f0b6b76524ddb4ea36a7babb9289f1e208a580e1aff7", func := "pianola/pianolalaw22.SvmNames", spec := "svmNames", unfollowed := true, recurses := true, apart := false }
def SvmNamesSaid : Prop := svmNamesRow.holds Try.pinned (OpenSpec.ofChange svmNamesSpec)

/-- ITS FALSE NEIGHBOUR: 'it returns false'. Refute it at one input. -/
def svmNamesWrong : ChangeSpec := { name := "svmNames", fn := fun _ => fun
  | [] => { results := [.lit (.bool false)], args := [] }
  | _ => none }
def SvmNamesWrongFalsely : Prop := svmNamesRow.holds Try.pinned (OpenSpec.ofChange svmNamesWrong)

/-- 'pianolalaw22.SvmSteps': WHATEVER THE INPUT: true; the input reads as it did. -/
def svmStepsSpec : ChangeSpec := { name := "svmSteps", fn := fun _ => fun
  | [d1, d2, d3] => { results := [.lit (.bool true)], args := [d1, d2, d3] }
  | _ => none }
def svmStepsRow : OpenClaim := { program := "ytnnnpippekpibaa", sum := "eb754abebf638ccf83e4f0b6b76524ddb4ea36a7babb9289f1e208a580e1aff7", func := "pianola/pianolalaw22.SvmSteps", spec := "svmSteps", unfollowed := true, recurses := true, apart := false }
def SvmStepsSaid : Prop := svmStepsRow.holds Try.pinned (OpenSpec.ofChange svmStepsSpec)

/-- ITS FALSE NEIGHBOUR: 'it returns false'. Refute it at one input. -/
def svmStepsWrong : ChangeSpec := { name := "svmSteps", fn := fun _ => fun
  | [d1, d2, d3] => { results := [.lit (.bool false)], args := [d1, d2, d3] }
  | _ => none }
def SvmStepsWrongFalsely : Prop := svmStepsRow.holds Try.pinned (OpenSpec.ofChange svmStepsWrong)

/-- 'pianolalaw22.SvmFeeds': WHATEVER THE INPUT: true; the input reads as it did. -/
def svmFeedsSpec : ChangeSpec := { name := "svmFeeds", fn := fun _ => fun
  | [d1, d2, d3] => { results := [.lit (.bool true)], args := [d1, d2, d3] }
  | _ => none }
def svmFeedsRow : OpenClaim := { program := "ytnnnpippekpibaa", sum := "eb754abebf638ccf83e4f0b6b76524ddb4ea36a7babb9289f1e208a580e1aff7", func := "pianola/pianolalaw22.SvmFeeds", spec := "svmFeeds", unfollowed := true, recurses := true, apart := false }
def SvmFeedsSaid : Prop := svmFeedsRow.holds Try.pinned (OpenSpec.ofChange svmFeedsSpec)

/-- ITS FALSE NEIGHBOUR: 'it returns false'. Refute it at one input. -/
def svmFeedsWrong : ChangeSpec := { name := "svmFeeds", fn := fun _ => fun
  | [d1, d2, d3] => { results := [.lit (.bool false)], args := [d1, d2, d3] }
  | _ => none }
def SvmFeedsWrongFalsely : Prop := svmFeedsRow.holds Try.pinned (OpenSpec.ofChange svmFeedsWrong)

/-- 'pianolalaw22.SvmStands': WHATEVER THE INPUT: true; the input reads as it did. -/
def svmStandsSpec : ChangeSpec := { name := "svmStands", fn := fun _ => fun
  | [d1, d2, d3] => { results := [.lit (.bool true)], args := [d1, d2, d3] }
  | _ => none }
def svmStandsRow : OpenClaim := { program := "ytnnnpippekpibaa", sum := "eb754abebf638ccf83e4f0b6b76524ddb4ea36a7babb9289f1e208a580e1aff7", func := "pianola/pianolalaw22.SvmStands", spec := "svmStands", unfollowed := true, recurses := true, apart := false }
def SvmStandsSaid : Prop := svmStandsRow.holds Try.pinned (OpenSpec.ofChange svmStandsSpec)

/-- ITS FALSE NEIGHBOUR: 'it returns false'. Refute it at one input. -/
def svmStandsWrong : ChangeSpec := { name := "svmStands", fn := fun _ => fun
  | [d1, d2, d3] => { results := [.lit (.bool false)], args := [d1, d2, d3] }
  | _ => none }
def SvmStandsWrongFalsely : Prop := svmStandsRow.holds Try.pinned (OpenSpec.ofChange svmStandsWrong)

/-- 'pianolalaw22.SvmNil': WHATEVER THE INPUT: true; the input reads as it did. -/
def svmNilSpec : ChangeSpec := { name := "svmNil", fn := fun _ => fun
  | [d1, d2] => { results := [.lit (.bool true)], args := [d1, d2] }
  | _ => none }
def svmNilRow : OpenClaim := { program := "ytnnnpippekpibaa", sum := "eb754abebf638ccf83e4f0b6b76524ddb4ea36a7babb9289f1e208a580e1aff7", func := "pianola/pianolalaw22.SvmNil", spec := "svmNil", unfollowed := true, recurses := true, apart := false }
def SvmNilSaid : Prop := svmNilRow.holds Try.pinned (OpenSpec.ofChange svmNilSpec)

/-- ITS FALSE NEIGHBOUR: 'it returns false'. Refute it at one input. -/
def svmNilWrong : ChangeSpec := { name := "svmNil", fn := fun _ => fun
  | [d1, d2] => { results := [.lit (.bool false)], args := [d1, d2] }
  | _ => none }
def SvmNilWrongFalsely : Prop := svmNilRow.holds Try.pinned (OpenSpec.ofChange svmNilWrong)

/- THE SECOND FORM. 'bulk': how many values and letters a reading holds, each counted each time it is reached (what is shared counts as often as it is met; a slice's spare places count too). A statement '..UptoSaid' is the law's where the arguments, and the package variables that the reading takes, are together of bulk at most 1048576: NARROWER than '..Said'. Prove '..Said' where nothing that the law and all that it calls make is longer than what came in: it says more and counts as full. Else prove '..UptoSaid'. A law counts once. -/
mutual
def uptoBulk {H : Type} : DataW H → Nat
  | .lit (.string bytes) => bytes.length + 1
  | .lit _ => 1
  | .nil => 1
  | .ptr d => uptoBulk d + 1
  | .slice elems spare => uptoBulkAll elems + uptoBulkAll spare + 1
  | .agg parts => uptoBulkAll parts + 1
  | .iface _ d => uptoBulk d + 1
  | .map entries => uptoBulkEntries entries + 1
  | .held _ => 1
def uptoBulkAll {H : Type} : List (DataW H) → Nat
  | [] => 0
  | d :: r => uptoBulk d + uptoBulkAll r
def uptoBulkEntries {H : Type} : List (Lit × DataW H) → Nat
  | [] => 0
  | x :: r => uptoBulkEntry x + uptoBulkEntries r
def uptoBulkEntry {H : Type} : Lit × DataW H → Nat
  | (.string bytes, d) => bytes.length + uptoBulk d + 1
  | (_, d) => uptoBulk d + 1
 end
def uptoSmall : (H : Type) → List (DataW H) → Bool := fun _ ds => decide (uptoBulkAll ds ≤ 1048576)
def OpenSpec.upto (s : _root_.Go.ChangeSpec) : _root_.Go.OpenSpec := { _root_.Go.OpenSpec.ofChange s with cond := some uptoSmall }

/-- 'pianolalaw22.SvmNames', WHERE WHAT IT READS IS OF BULK AT MOST 1048576: true; the input reads as it did. -/
def svmNamesUptoRow : OpenClaim := { program := "ytnnnpippekpibaa", sum := "eb754abebf638ccf83e4f0b6b76524ddb4ea36a7babb9289f1e208a580e1aff7", func := "pianola/pianolalaw22.SvmNames", spec := "svmNames", unfollowed := true, recurses := true, apart := false, narrowed := true }
def SvmNamesUptoSaid : Prop := svmNamesUptoRow.holds Try.pinned (OpenSpec.upto svmNamesSpec)

/-- 'pianolalaw22.SvmSteps', WHERE WHAT IT READS IS OF BULK AT MOST 1048576: true; the input reads as it did. -/
def svmStepsUptoRow : OpenClaim := { program := "ytnnnpippekpibaa", sum := "eb754abebf638ccf83e4f0b6b76524ddb4ea36a7babb9289f1e208a580e1aff7", func := "pianola/pianolalaw22.SvmSteps", spec := "svmSteps", unfollowed := true, recurses := true, apart := false, narrowed := true }
def SvmStepsUptoSaid : Prop := svmStepsUptoRow.holds Try.pinned (OpenSpec.upto svmStepsSpec)

/-- 'pianolalaw22.SvmFeeds', WHERE WHAT IT READS IS OF BULK AT MOST 1048576: true; the input reads as it did. -/
def svmFeedsUptoRow : OpenClaim := { program := "ytnnnpippekpibaa", sum := "eb754abebf638ccf83e4f0b6b76524ddb4ea36a7babb9289f1e208a580e1aff7", func := "pianola/pianolalaw22.SvmFeeds", spec := "svmFeeds", unfollowed := true, recurses := true, apart := false, narrowed := true }
def SvmFeedsUptoSaid : Prop := svmFeedsUptoRow.holds Try.pinned (OpenSpec.upto svmFeedsSpec)

/-- 'pianolalaw22.SvmStands', WHERE WHAT IT READS IS OF BULK AT MOST 1048576: true; the input reads as it did. -/
def svmStandsUptoRow : OpenClaim := { program := "ytnnnpippekpibaa", sum := "eb754abebf638ccf83e4f0b6b76524ddb4ea36a7babb9289f1e208a580e1aff7", func := "pianola/pianolalaw22.SvmStands", spec := "svmStands", unfollowed := true, recurses := true, apart := false, narrowed := true }
def SvmStandsUptoSaid : Prop := svmStandsUptoRow.holds Try.pinned (OpenSpec.upto svmStandsSpec)

/-- 'pianolalaw22.SvmNil', WHERE WHAT IT READS IS OF BULK AT MOST 1048576: true; the input reads as it did. -/
def svmNilUptoRow : OpenClaim := { program := "ytnnnpippekpibaa", sum := "eb754abebf638ccf83e4f0b6b76524ddb4ea36a7babb9289f1e208a580e1aff7", func := "pianola/pianolalaw22.SvmNil", spec := "svmNil", unfollowed := true, recurses := true, apart := false, narrowed := true }
def SvmNilUptoSaid : Prop := svmNilUptoRow.holds Try.pinned (OpenSpec.upto svmNilSpec)

end Rows
end Go.Proofs.Ytnnnpippekpibaa
