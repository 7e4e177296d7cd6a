/-
  No cell of these rows narrows 'for every input' (looked for: loops, veiled, ifaces, maps, wideKeys, modest, calm, conditions, laid).
  DERIVED. THE GIVEN ROWS OF THIS SEAT. 9 by the template 'for every input the law returns true; each argument reads behind the call as it read before'; 0 by the template 'total and deterministic' (their statements: YtknmiiajeafjpaaTotals.lean).
  GIVEN WITH THE SEED: the statements are not yours to turn. If you find one false, say at which input.
  Laid BY PROGRAM, IN A SANDBOX (cutbox-rows.mjs): the forced cells as the released guide's own fill.sh prints them over the translation 7cd55ff1e3fcd464… (all of the seat's roots in one cut). By AI agents, Wed Nov 11 2026. No macro, syntax, notation, axiom, sorry.
-/
import Derived.Test.YtknmiiajeafjpaaChecked
import GoSem.Claim
import GoSem.ClaimJoined
import GoSem.ClaimMapViews
import Derived.JoinedTies
import Derived.KernelRfl
namespace Go.Proofs.Ytknmiiajeafjpaa
/- THE CELL 'sum', in the pinned program and in every row, IS THE sha256 OF THE DUMP (.gsa) THAT YtknmiiajeafjpaaProg.lean LOADS. Nothing in Lean hashes anything: it is a label: what it is worth is what the hold of that sum in a sandbox is worth. -/
noncomputable def Try.pinned : Pinned := { name := "ytknmiiajeafjpaa", sum := "7cd55ff1e3fcd464f56a3137b636d82bb528b3462aab2f5fe61a1e158dca6009", checked := Try.checked }
namespace Rows
def none {H : Type} : Left H := { results := [], args := [] }

/-- 'pianolalaw07.ActorsUpDown': WHATEVER THE INPUT: true; the input reads as it did. -/
def actorsUpDownSpec : ChangeSpec := { name := "actorsUpDown", fn := fun _ => fun
  | [d1, d2] => { results := [.lit (.bool true)], args := [d1, d2] }
  | _ => none }
def actorsUpDownRow : OpenClaim := { program := "ytknmiiajeafjpaa", sum := "7cd55ff1e3fcd464f56a3137b636d82bb528b3462aab2f5fe61a1e158dca6009", func := "pianola/pianolalaw07.ActorsUpDown", spec := "actorsUpDown", unfollowed := true, recurses := true, apart := false }
def ActorsUpDownSaid : Prop := actorsUpDownRow.holds Try.pinned (OpenSpec.ofChange actorsUpDownSpec)

/-- ITS FALSE NEIGHBOUR: 'it returns false'. Refute it at one input. -/
def actorsUpDownWrong : ChangeSpec := { name := "actorsUpDown", fn := fun _ => fun
  | [d1, d2] => { results := [.lit (.bool false)], args := [d1, d2] }
  | _ => none }
def ActorsUpDownWrongFalsely : Prop := actorsUpDownRow.holds Try.pinned (OpenSpec.ofChange actorsUpDownWrong)

/-- 'pianolalaw07.ActorsWeaves': WHATEVER THE INPUT: true; the input reads as it did. -/
def actorsWeavesSpec : ChangeSpec := { name := "actorsWeaves", fn := fun _ => fun
  | [d1, d2, d3] => { results := [.lit (.bool true)], args := [d1, d2, d3] }
  | _ => none }
def actorsWeavesRow : OpenClaim := { program := "ytknmiiajeafjpaa", sum := "7cd55ff1e3fcd464f56a3137b636d82bb528b3462aab2f5fe61a1e158dca6009", func := "pianola/pianolalaw07.ActorsWeaves", spec := "actorsWeaves", unfollowed := true, recurses := true, apart := false }
def ActorsWeavesSaid : Prop := actorsWeavesRow.holds Try.pinned (OpenSpec.ofChange actorsWeavesSpec)

/-- ITS FALSE NEIGHBOUR: 'it returns false'. Refute it at one input. -/
def actorsWeavesWrong : ChangeSpec := { name := "actorsWeaves", fn := fun _ => fun
  | [d1, d2, d3] => { results := [.lit (.bool false)], args := [d1, d2, d3] }
  | _ => none }
def ActorsWeavesWrongFalsely : Prop := actorsWeavesRow.holds Try.pinned (OpenSpec.ofChange actorsWeavesWrong)

/-- 'pianolalaw07.ActorsCopies': WHATEVER THE INPUT: true; the input reads as it did. -/
def actorsCopiesSpec : ChangeSpec := { name := "actorsCopies", fn := fun _ => fun
  | [d1, d2] => { results := [.lit (.bool true)], args := [d1, d2] }
  | _ => none }
def actorsCopiesRow : OpenClaim := { program := "ytknmiiajeafjpaa", sum := "7cd55ff1e3fcd464f56a3137b636d82bb528b3462aab2f5fe61a1e158dca6009", func := "pianola/pianolalaw07.ActorsCopies", spec := "actorsCopies", unfollowed := true, recurses := true, apart := false }
def ActorsCopiesSaid : Prop := actorsCopiesRow.holds Try.pinned (OpenSpec.ofChange actorsCopiesSpec)

/-- ITS FALSE NEIGHBOUR: 'it returns false'. Refute it at one input. -/
def actorsCopiesWrong : ChangeSpec := { name := "actorsCopies", fn := fun _ => fun
  | [d1, d2] => { results := [.lit (.bool false)], args := [d1, d2] }
  | _ => none }
def ActorsCopiesWrongFalsely : Prop := actorsCopiesRow.holds Try.pinned (OpenSpec.ofChange actorsCopiesWrong)

/-- 'pianolalaw07.ActorsFilters': WHATEVER THE INPUT: true; the input reads as it did. -/
def actorsFiltersSpec : ChangeSpec := { name := "actorsFilters", fn := fun _ => fun
  | [d1, d2] => { results := [.lit (.bool true)], args := [d1, d2] }
  | _ => none }
def actorsFiltersRow : OpenClaim := { program := "ytknmiiajeafjpaa", sum := "7cd55ff1e3fcd464f56a3137b636d82bb528b3462aab2f5fe61a1e158dca6009", func := "pianola/pianolalaw07.ActorsFilters", spec := "actorsFilters", unfollowed := true, recurses := true, apart := false }
def ActorsFiltersSaid : Prop := actorsFiltersRow.holds Try.pinned (OpenSpec.ofChange actorsFiltersSpec)

/-- ITS FALSE NEIGHBOUR: 'it returns false'. Refute it at one input. -/
def actorsFiltersWrong : ChangeSpec := { name := "actorsFilters", fn := fun _ => fun
  | [d1, d2] => { results := [.lit (.bool false)], args := [d1, d2] }
  | _ => none }
def ActorsFiltersWrongFalsely : Prop := actorsFiltersRow.holds Try.pinned (OpenSpec.ofChange actorsFiltersWrong)

/-- 'pianolalaw07.ActorsSumDiff': WHATEVER THE INPUT: true; the input reads as it did. -/
def actorsSumDiffSpec : ChangeSpec := { name := "actorsSumDiff", fn := fun _ => fun
  | [d] => { results := [.lit (.bool true)], args := [d] }
  | _ => none }
def actorsSumDiffRow : OpenClaim := { program := "ytknmiiajeafjpaa", sum := "7cd55ff1e3fcd464f56a3137b636d82bb528b3462aab2f5fe61a1e158dca6009", func := "pianola/pianolalaw07.ActorsSumDiff", spec := "actorsSumDiff", unfollowed := true, recurses := true, apart := false }
def ActorsSumDiffSaid : Prop := actorsSumDiffRow.holds Try.pinned (OpenSpec.ofChange actorsSumDiffSpec)

/-- ITS FALSE NEIGHBOUR: 'it returns false'. Refute it at one input. -/
def actorsSumDiffWrong : ChangeSpec := { name := "actorsSumDiff", fn := fun _ => fun
  | [d] => { results := [.lit (.bool false)], args := [d] }
  | _ => none }
def ActorsSumDiffWrongFalsely : Prop := actorsSumDiffRow.holds Try.pinned (OpenSpec.ofChange actorsSumDiffWrong)

/-- 'pianolalaw07.ActorsFails': WHATEVER THE INPUT: true; the input reads as it did. -/
def actorsFailsSpec : ChangeSpec := { name := "actorsFails", fn := fun _ => fun
  | [d1, d2, d3] => { results := [.lit (.bool true)], args := [d1, d2, d3] }
  | _ => none }
def actorsFailsRow : OpenClaim := { program := "ytknmiiajeafjpaa", sum := "7cd55ff1e3fcd464f56a3137b636d82bb528b3462aab2f5fe61a1e158dca6009", func := "pianola/pianolalaw07.ActorsFails", spec := "actorsFails", unfollowed := true, recurses := true, apart := false }
def ActorsFailsSaid : Prop := actorsFailsRow.holds Try.pinned (OpenSpec.ofChange actorsFailsSpec)

/-- ITS FALSE NEIGHBOUR: 'it returns false'. Refute it at one input. -/
def actorsFailsWrong : ChangeSpec := { name := "actorsFails", fn := fun _ => fun
  | [d1, d2, d3] => { results := [.lit (.bool false)], args := [d1, d2, d3] }
  | _ => none }
def ActorsFailsWrongFalsely : Prop := actorsFailsRow.holds Try.pinned (OpenSpec.ofChange actorsFailsWrong)

/-- 'pianolalaw07.ActorsPlays': WHATEVER THE INPUT: true; the input reads as it did. -/
def actorsPlaysSpec : ChangeSpec := { name := "actorsPlays", fn := fun _ => fun
  | [d1, d2, d3] => { results := [.lit (.bool true)], args := [d1, d2, d3] }
  | _ => none }
def actorsPlaysRow : OpenClaim := { program := "ytknmiiajeafjpaa", sum := "7cd55ff1e3fcd464f56a3137b636d82bb528b3462aab2f5fe61a1e158dca6009", func := "pianola/pianolalaw07.ActorsPlays", spec := "actorsPlays", unfollowed := true, recurses := true, apart := false }
def ActorsPlaysSaid : Prop := actorsPlaysRow.holds Try.pinned (OpenSpec.ofChange actorsPlaysSpec)

/-- ITS FALSE NEIGHBOUR: 'it returns false'. Refute it at one input. -/
def actorsPlaysWrong : ChangeSpec := { name := "actorsPlays", fn := fun _ => fun
  | [d1, d2, d3] => { results := [.lit (.bool false)], args := [d1, d2, d3] }
  | _ => none }
def ActorsPlaysWrongFalsely : Prop := actorsPlaysRow.holds Try.pinned (OpenSpec.ofChange actorsPlaysWrong)

/-- 'pianolalaw07.ActorsNil': WHATEVER THE INPUT: true; the input reads as it did. -/
def actorsNilSpec : ChangeSpec := { name := "actorsNil", fn := fun _ => fun
  | [d] => { results := [.lit (.bool true)], args := [d] }
  | _ => none }
def actorsNilRow : OpenClaim := { program := "ytknmiiajeafjpaa", sum := "7cd55ff1e3fcd464f56a3137b636d82bb528b3462aab2f5fe61a1e158dca6009", func := "pianola/pianolalaw07.ActorsNil", spec := "actorsNil", unfollowed := true, recurses := true, apart := false }
def ActorsNilSaid : Prop := actorsNilRow.holds Try.pinned (OpenSpec.ofChange actorsNilSpec)

/-- ITS FALSE NEIGHBOUR: 'it returns false'. Refute it at one input. -/
def actorsNilWrong : ChangeSpec := { name := "actorsNil", fn := fun _ => fun
  | [d] => { results := [.lit (.bool false)], args := [d] }
  | _ => none }
def ActorsNilWrongFalsely : Prop := actorsNilRow.holds Try.pinned (OpenSpec.ofChange actorsNilWrong)

/-- 'pianolalaw07.ActorsTwo': WHATEVER THE INPUT: true; the input reads as it did. -/
def actorsTwoSpec : ChangeSpec := { name := "actorsTwo", fn := fun _ => fun
  | [d1, d2, d3] => { results := [.lit (.bool true)], args := [d1, d2, d3] }
  | _ => none }
def actorsTwoRow : OpenClaim := { program := "ytknmiiajeafjpaa", sum := "7cd55ff1e3fcd464f56a3137b636d82bb528b3462aab2f5fe61a1e158dca6009", func := "pianola/pianolalaw07.ActorsTwo", spec := "actorsTwo", unfollowed := true, recurses := true, apart := false }
def ActorsTwoSaid : Prop := actorsTwoRow.holds Try.pinned (OpenSpec.ofChange actorsTwoSpec)

/-- ITS FALSE NEIGHBOUR: 'it returns false'. Refute it at one input. -/
def actorsTwoWrong : ChangeSpec := { name := "actorsTwo", fn := fun _ => fun
  | [d1, d2, d3] => { results := [.lit (.bool false)], args := [d1, d2, d3] }
  | _ => none }
def ActorsTwoWrongFalsely : Prop := actorsTwoRow.holds Try.pinned (OpenSpec.ofChange actorsTwoWrong)

/- THE SECOND FORM. 'bulk': how many values and letters a reading holds, each counted each time it is reached (what is shared counts as often as it is met; a slice's spare places count too). A statement '..UptoSaid' is the law's where the arguments, and the package variables that the reading takes, are together of bulk at most 1048576: NARROWER than '..Said'. Prove '..Said' where nothing that the law and all that it calls make is longer than what came in: it says more and counts as full. Else prove '..UptoSaid'. A law counts once. -/
mutual
def uptoBulk {H : Type} : DataW H → Nat
  | .lit (.string bytes) => bytes.length + 1
  | .lit _ => 1
  | .nil => 1
  | .ptr d => uptoBulk d + 1
  | .slice elems spare => uptoBulkAll elems + uptoBulkAll spare + 1
  | .agg parts => uptoBulkAll parts + 1
  | .iface _ d => uptoBulk d + 1
  | .map entries => uptoBulkEntries entries + 1
  | .held _ => 1
def uptoBulkAll {H : Type} : List (DataW H) → Nat
  | [] => 0
  | d :: r => uptoBulk d + uptoBulkAll r
def uptoBulkEntries {H : Type} : List (Lit × DataW H) → Nat
  | [] => 0
  | x :: r => uptoBulkEntry x + uptoBulkEntries r
def uptoBulkEntry {H : Type} : Lit × DataW H → Nat
  | (.string bytes, d) => bytes.length + uptoBulk d + 1
  | (_, d) => uptoBulk d + 1
 end
def uptoSmall : (H : Type) → List (DataW H) → Bool := fun _ ds => decide (uptoBulkAll ds ≤ 1048576)
def OpenSpec.upto (s : _root_.Go.ChangeSpec) : _root_.Go.OpenSpec := { _root_.Go.OpenSpec.ofChange s with cond := some uptoSmall }

/-- 'pianolalaw07.ActorsUpDown', WHERE WHAT IT READS IS OF BULK AT MOST 1048576: true; the input reads as it did. -/
def actorsUpDownUptoRow : OpenClaim := { program := "ytknmiiajeafjpaa", sum := "7cd55ff1e3fcd464f56a3137b636d82bb528b3462aab2f5fe61a1e158dca6009", func := "pianola/pianolalaw07.ActorsUpDown", spec := "actorsUpDown", unfollowed := true, recurses := true, apart := false, narrowed := true }
def ActorsUpDownUptoSaid : Prop := actorsUpDownUptoRow.holds Try.pinned (OpenSpec.upto actorsUpDownSpec)

/-- 'pianolalaw07.ActorsWeaves', WHERE WHAT IT READS IS OF BULK AT MOST 1048576: true; the input reads as it did. -/
def actorsWeavesUptoRow : OpenClaim := { program := "ytknmiiajeafjpaa", sum := "7cd55ff1e3fcd464f56a3137b636d82bb528b3462aab2f5fe61a1e158dca6009", func := "pianola/pianolalaw07.ActorsWeaves", spec := "actorsWeaves", unfollowed := true, recurses := true, apart := false, narrowed := true }
def ActorsWeavesUptoSaid : Prop := actorsWeavesUptoRow.holds Try.pinned (OpenSpec.upto actorsWeavesSpec)

/-- 'pianolalaw07.ActorsCopies', WHERE WHAT IT READS IS OF BULK AT MOST 1048576: true; the input reads as it did. -/
def actorsCopiesUptoRow : OpenClaim := { program := "ytknmiiajeafjpaa", sum := "7cd55ff1e3fcd464f56a3137b636d82bb528b3462aab2f5fe61a1e158dca6009", func := "pianola/pianolalaw07.ActorsCopies", spec := "actorsCopies", unfollowed := true, recurses := true, apart := false, narrowed := true }
def ActorsCopiesUptoSaid : Prop := actorsCopiesUptoRow.holds Try.pinned (OpenSpec.upto actorsCopiesSpec)

/-- 'pianolalaw07.ActorsFilters', WHERE WHAT IT READS IS OF BULK AT MOST 1048576: true; the input reads as it did. -/
def actorsFiltersUptoRow : OpenClaim := { program := "ytknmiiajeafjpaa", sum := "7cd55ff1e3fcd464f56a3137b636d82bb528b3462aab2f5fe61a1e158dca6009", func := "pianola/pianolalaw07.ActorsFilters", spec := "actorsFilters", unfollowed := true, recurses := true, apart := false, narrowed := true }
def ActorsFiltersUptoSaid : Prop := actorsFiltersUptoRow.holds Try.pinned (OpenSpec.upto actorsFiltersSpec)

/-- 'pianolalaw07.ActorsSumDiff', WHERE WHAT IT READS IS OF BULK AT MOST 1048576: true; the input reads as it did. -/
def actorsSumDiffUptoRow : OpenClaim := { program := "ytknmiiajeafjpaa", sum := "7cd55ff1e3fcd464f56a3137b636d82bb528b3462aab2f5fe61a1e158dca6009", func := "pianola/pianolalaw07.ActorsSumDiff", spec := "actorsSumDiff", unfollowed := true, recurses := true, apart := false, narrowed := true }
def ActorsSumDiffUptoSaid : Prop := actorsSumDiffUptoRow.holds Try.pinned (OpenSpec.upto actorsSumDiffSpec)

/-- 'pianolalaw07.ActorsFails', WHERE WHAT IT READS IS OF BULK AT MOST 1048576: true; the input reads as it did. -/
def actorsFailsUptoRow : OpenClaim := { program := "ytknmiiajeafjpaa", sum := "7cd55ff1e3fcd464f56a3137b636d82bb528b3462aab2f5fe61a1e158dca6009", func := "pianola/pianolalaw07.ActorsFails", spec := "actorsFails", unfollowed := true, recurses := true, apart := false, narrowed := true }
def ActorsFailsUptoSaid : Prop := actorsFailsUptoRow.holds Try.pinned (OpenSpec.upto actorsFailsSpec)

/-- 'pianolalaw07.ActorsPlays', WHERE WHAT IT READS IS OF BULK AT MOST 1048576: true; the input reads as it did. -/
def actorsPlaysUptoRow : OpenClaim := { program := "ytknmiiajeafjpaa", sum := "7cd55ff1e3fcd464f56a3137b636d82bb528b3462aab2f5fe61a1e158dca6009", func := "pianola/pianolalaw07.ActorsPlays", spec := "actorsPlays", unfollowed := true, recurses := true, apart := false, narrowed := true }
def ActorsPlaysUptoSaid : Prop := actorsPlaysUptoRow.holds Try.pinned (OpenSpec.upto actorsPlaysSpec)

/-- 'pianolalaw07.ActorsNil', WHERE WHAT IT READS IS OF BULK AT MOST 1048576: true; the input reads as it did. -/
def actorsNilUptoRow : OpenClaim := { program := "ytknmiiajeafjpaa", sum := "7cd55ff1e3fcd464f56a3137b636d82bb528b3462aab2f5fe61a1e158dca6009", func := "pianola/pianolalaw07.ActorsNil", spec := "actorsNil", unfollowed := true, recurses := true, apart := false, narrowed := true }
def ActorsNilUptoSaid : Prop := actorsNilUptoRow.holds Try.pinned (OpenSpec.upto actorsNilSpec)

/-- 'pianolalaw07.ActorsTwo', WHERE WHAT IT READS IS OF BULK AT MOST 1048576: true; the input reads as it did. -/
def actorsTwoUptoRow : OpenClaim := { program := "ytknmiiajeafjpaa", sum := "7cd55ff1e3fcd464f56a3137b636d82bb528b3462aab2f5fe61a1e158dca6009", func := "pianola/pianolalaw07.ActorsTwo", spec := "actorsTwo", unfollowed := true, recurses := true, apart := false, narrowed := true }
def ActorsTwoUptoSaid : Prop := actorsTwoUptoRow.holds Try.pinned (OpenSpec.upto actorsTwoSpec)

end Rows
end Go.Proofs.Ytknmiiajeafjpaa
