/-
  No cell of these rows narrows 'for every input' (looked for: loops, veiled, ifaces, maps, wideKeys, modest, calm, conditions, laid).
  DERIVED. THE GIVEN ROWS OF THIS SEAT. 6 by the template 'for every input the law returns true; each argument reads behind the call as it read before'; 0 by the template 'total and deterministic' (their statements: YtifhnealecndnaaTotals.lean).
  GIVEN WITH THE SEED: the statements are not yours to turn. If you find one false, say at which input.
  Laid BY PROGRAM, IN A SANDBOX (cutbox-rows.mjs): the forced cells as the released guide's own fill.sh prints them over the translation 5909ac7375da1de7… (all of the seat's roots in one cut). By AI agents, Wed Nov 11 2026. No macro, syntax, notation, axiom, sorry.
-/
import Derived.Test.YtifhnealecndnaaChecked
import GoSem.Claim
import GoSem.ClaimJoined
import GoSem.ClaimMapViews
import Derived.JoinedTies
import Derived.KernelRfl
namespace Go.Proofs.Ytifhnealecndnaa
/- THE CELL 'sum', in the pinned program and in every row, IS THE sha256 OF THE DUMP (.gsa) THAT YtifhnealecndnaaProg.lean LOADS. Nothing in Lean hashes anything: it is a label: what it is worth is what the hold of that sum in a sandbox is worth. -/
noncomputable def Try.pinned : Pinned := { name := "ytifhnealecndnaa", sum := "5909ac7375da1de7e3b5c04ca22ed412622dfb20c93d6d7b6696c8f3e86d96e0", checked := Try.checked }
namespace Rows
def none {H : Type} : Left H := { results := [], args := [] }

/-- 'pianolalaw23.FifoPairs': WHATEVER THE INPUT: true; the input reads as it did. -/
def fifoPairsSpec : ChangeSpec := { name := "fifoPairs", fn := fun _ => fun
  | [d1, d2, d3] => { results := [.lit (.bool true)], args := [d1, d2, d3] }
  | _ => none }
def fifoPairsRow : OpenClaim := { program := "ytifhnealecndnaa", sum := "5909ac7375da1de7e3b5c04ca22ed412622dfb20c93d6d7b6696c8f3e86d96e0", func := "pianola/pianolalaw23.FifoPairs", spec := "fifoPairs", apart := false }
def FifoPairsSaid : Prop := fifoPairsRow.holds Try.pinned (OpenSpec.ofChange fifoPairsSpec)

/-- ITS FALSE NEIGHBOUR: 'it returns false'. Refute it at one input. -/
def fifoPairsWrong : ChangeSpec := { name := "fifoPairs", fn := fun _ => fun
  | [d1, d2, d3] => { results := [.lit (.bool false)], args := [d1, d2, d3] }
  | _ => none }
def FifoPairsWrongFalsely : Prop := fifoPairsRow.holds Try.pinned (OpenSpec.ofChange fifoPairsWrong)

/-- 'pianolalaw23.FifoPlays': WHATEVER THE INPUT: true; the input reads as it did. -/
def fifoPlaysSpec : ChangeSpec := { name := "fifoPlays", fn := fun _ => fun
  | [d1, d2, d3] => { results := [.lit (.bool true)], args := [d1, d2, d3] }
  | _ => none }
def fifoPlaysRow : OpenClaim := { program := "ytifhnealecndnaa", sum := "5909ac7375da1de7e3b5c04ca22ed412622dfb20c93d6d7b6696c8f3e86d96e0", func := "pianola/pianolalaw23.FifoPlays", spec := "fifoPlays", unfollowed := true, recurses := true, apart := false }
def FifoPlaysSaid : Prop := fifoPlaysRow.holds Try.pinned (OpenSpec.ofChange fifoPlaysSpec)

/-- ITS FALSE NEIGHBOUR: 'it returns false'. Refute it at one input. -/
def fifoPlaysWrong : ChangeSpec := { name := "fifoPlays", fn := fun _ => fun
  | [d1, d2, d3] => { results := [.lit (.bool false)], args := [d1, d2, d3] }
  | _ => none }
def FifoPlaysWrongFalsely : Prop := fifoPlaysRow.holds Try.pinned (OpenSpec.ofChange fifoPlaysWrong)

/-- 'pianolalaw23.FifoOrder': WHATEVER THE INPUT: true; the input reads as it did. -/
def fifoOrderSpec : ChangeSpec := { name := "fifoOrder", fn := fun _ => fun
  | [d1, d2, d3] => { results := [.lit (.bool true)], args := [d1, d2, d3] }
  | _ => none }
def fifoOrderRow : OpenClaim := { program := "ytifhnealecndnaa", sum := "5909ac7375da1de7e3b5c04ca22ed412622dfb20c93d6d7b6696c8f3e86d96e0", func := "pianola/pianolalaw23.FifoOrder", spec := "fifoOrder", unfollowed := true, recurses := true, apart := false }
def FifoOrderSaid : Prop := fifoOrderRow.holds Try.pinned (OpenSpec.ofChange fifoOrderSpec)

/-- ITS FALSE NEIGHBOUR: 'it returns false'. Refute it at one input. -/
def fifoOrderWrong : ChangeSpec := { name := "fifoOrder", fn := fun _ => fun
  | [d1, d2, d3] => { results := [.lit (.bool false)], args := [d1, d2, d3] }
  | _ => none }
def FifoOrderWrongFalsely : Prop := fifoOrderRow.holds Try.pinned (OpenSpec.ofChange fifoOrderWrong)

/-- 'pianolalaw23.FifoRange': WHATEVER THE INPUT: true; the input reads as it did. -/
def fifoRangeSpec : ChangeSpec := { name := "fifoRange", fn := fun _ => fun
  | [d] => { results := [.lit (.bool true)], args := [d] }
  | _ => none }
def fifoRangeRow : OpenClaim := { program := "ytifhnealecndnaa", sum := "5909ac7375da1de7e3b5c04ca22ed412622dfb20c93d6d7b6696c8f3e86d96e0", func := "pianola/pianolalaw23.FifoRange", spec := "fifoRange", unfollowed := true, recurses := true, apart := false }
def FifoRangeSaid : Prop := fifoRangeRow.holds Try.pinned (OpenSpec.ofChange fifoRangeSpec)

/-- ITS FALSE NEIGHBOUR: 'it returns false'. Refute it at one input. -/
def fifoRangeWrong : ChangeSpec := { name := "fifoRange", fn := fun _ => fun
  | [d] => { results := [.lit (.bool false)], args := [d] }
  | _ => none }
def FifoRangeWrongFalsely : Prop := fifoRangeRow.holds Try.pinned (OpenSpec.ofChange fifoRangeWrong)

/-- 'pianolalaw23.FifoTwo': WHATEVER THE INPUT: true; the input reads as it did. -/
def fifoTwoSpec : ChangeSpec := { name := "fifoTwo", fn := fun _ => fun
  | [d1, d2, d3] => { results := [.lit (.bool true)], args := [d1, d2, d3] }
  | _ => none }
def fifoTwoRow : OpenClaim := { program := "ytifhnealecndnaa", sum := "5909ac7375da1de7e3b5c04ca22ed412622dfb20c93d6d7b6696c8f3e86d96e0", func := "pianola/pianolalaw23.FifoTwo", spec := "fifoTwo", unfollowed := true, recurses := true, apart := false }
def FifoTwoSaid : Prop := fifoTwoRow.holds Try.pinned (OpenSpec.ofChange fifoTwoSpec)

/-- ITS FALSE NEIGHBOUR: 'it returns false'. Refute it at one input. -/
def fifoTwoWrong : ChangeSpec := { name := "fifoTwo", fn := fun _ => fun
  | [d1, d2, d3] => { results := [.lit (.bool false)], args := [d1, d2, d3] }
  | _ => none }
def FifoTwoWrongFalsely : Prop := fifoTwoRow.holds Try.pinned (OpenSpec.ofChange fifoTwoWrong)

/-- 'pianolalaw23.FifoNil': WHATEVER THE INPUT: true; the input reads as it did. -/
def fifoNilSpec : ChangeSpec := { name := "fifoNil", fn := fun _ => fun
  | [d] => { results := [.lit (.bool true)], args := [d] }
  | _ => none }
def fifoNilRow : OpenClaim := { program := "ytifhnealecndnaa", sum := "5909ac7375da1de7e3b5c04ca22ed412622dfb20c93d6d7b6696c8f3e86d96e0", func := "pianola/pianolalaw23.FifoNil", spec := "fifoNil", unfollowed := true, recurses := true, apart := false }
def FifoNilSaid : Prop := fifoNilRow.holds Try.pinned (OpenSpec.ofChange fifoNilSpec)

/-- ITS FALSE NEIGHBOUR: 'it returns false'. Refute it at one input. -/
def fifoNilWrong : ChangeSpec := { name := "fifoNil", fn := fun _ => fun
  | [d] => { results := [.lit (.bool false)], args := [d] }
  | _ => none }
def FifoNilWrongFalsely : Prop := fifoNilRow.holds Try.pinned (OpenSpec.ofChange fifoNilWrong)

/- THE SECOND FORM. 'bulk': how many values and letters a reading holds, each counted each time it is reached (what is shared counts as often as it is met; a slice's spare places count too). A statement '..UptoSaid' is the law's where the arguments, and the package variables that the reading takes, are together of bulk at most 1048576: NARROWER than '..Said'. Prove '..Said' where nothing that the law and all that it calls make is longer than what came in: it says more and counts as full. Else prove '..UptoSaid'. A law counts once. -/
mutual
def uptoBulk {H : Type} : DataW H → Nat
  | .lit (.string bytes) => bytes.length + 1
  | .lit _ => 1
  | .nil => 1
  | .ptr d => uptoBulk d + 1
  | .slice elems spare => uptoBulkAll elems + uptoBulkAll spare + 1
  | .agg parts => uptoBulkAll parts + 1
  | .iface _ d => uptoBulk d + 1
  | .map entries => uptoBulkEntries entries + 1
  | .held _ => 1
def uptoBulkAll {H : Type} : List (DataW H) → Nat
  | [] => 0
  | d :: r => uptoBulk d + uptoBulkAll r
def uptoBulkEntries {H : Type} : List (Lit × DataW H) → Nat
  | [] => 0
  | x :: r => uptoBulkEntry x + uptoBulkEntries r
def uptoBulkEntry {H : Type} : Lit × DataW H → Nat
  | (.string bytes, d) => bytes.length + uptoBulk d + 1
  | (_, d) => uptoBulk d + 1
 end
def uptoSmall : (H : Type) → List (DataW H) → Bool := fun _ ds => decide (uptoBulkAll ds ≤ 1048576)
def OpenSpec.upto (s : _root_.Go.ChangeSpec) : _root_.Go.OpenSpec := { _root_.Go.OpenSpec.ofChange s with cond := some uptoSmall }

/-- 'pianolalaw23.FifoPairs', WHERE WHAT IT READS IS OF BULK AT MOST 1048576: true; the input reads as it did. -/
def fifoPairsUptoRow : OpenClaim := { program := "ytifhnealecndnaa", sum := "5909ac7375da1de7e3b5c04ca22ed412622dfb20c93d6d7b6696c8f3e86d96e0", func := "pianola/pianolalaw23.FifoPairs", spec := "fifoPairs", apart := false, narrowed := true }
def FifoPairsUptoSaid : Prop := fifoPairsUptoRow.holds Try.pinned (OpenSpec.upto fifoPairsSpec)

/-- 'pianolalaw23.FifoPlays', WHERE WHAT IT READS IS OF BULK AT MOST 1048576: true; the input reads as it did. -/
def fifoPlaysUptoRow : OpenClaim := { program := "ytifhnealecndnaa", sum := "5909ac7375da1de7e3b5c04ca22ed412622dfb20c93d6d7b6696c8f3e86d96e0", func := "pianola/pianolalaw23.FifoPlays", spec := "fifoPlays", unfollowed := true, recurses := true, apart := false, narrowed := true }
def FifoPlaysUptoSaid : Prop := fifoPlaysUptoRow.holds Try.pinned (OpenSpec.upto fifoPlaysSpec)

/-- 'pianolalaw23.FifoOrder', WHERE WHAT IT READS IS OF BULK AT MOST 1048576: true; the input reads as it did. -/
def fifoOrderUptoRow : OpenClaim := { program := "ytifhnealecndnaa", sum := "5909ac7375da1de7e3b5c04ca22ed412622dfb20c93d6d7b6696c8f3e86d96e0", func := "pianola/pianolalaw23.FifoOrder", spec := "fifoOrder", unfollowed := true, recurses := true, apart := false, narrowed := true }
def FifoOrderUptoSaid : Prop := fifoOrderUptoRow.holds Try.pinned (OpenSpec.upto fifoOrderSpec)

/-- 'pianolalaw23.FifoRange', WHERE WHAT IT READS IS OF BULK AT MOST 1048576: true; the input reads as it did. -/
def fifoRangeUptoRow : OpenClaim := { program := "ytifhnealecndnaa", sum := "5909ac7375da1de7e3b5c04ca22ed412622dfb20c93d6d7b6696c8f3e86d96e0", func := "pianola/pianolalaw23.FifoRange", spec := "fifoRange", unfollowed := true, recurses := true, apart := false, narrowed := true }
def FifoRangeUptoSaid : Prop := fifoRangeUptoRow.holds Try.pinned (OpenSpec.upto fifoRangeSpec)

/-- 'pianolalaw23.FifoTwo', WHERE WHAT IT READS IS OF BULK AT MOST 1048576: true; the input reads as it did. -/
def fifoTwoUptoRow : OpenClaim := { program := "ytifhnealecndnaa", sum := "5909ac7375da1de7e3b5c04ca22ed412622dfb20c93d6d7b6696c8f3e86d96e0", func := "pianola/pianolalaw23.FifoTwo", spec := "fifoTwo", unfollowed := true, recurses := true, apart := false, narrowed := true }
def FifoTwoUptoSaid : Prop := fifoTwoUptoRow.holds Try.pinned (OpenSpec.upto fifoTwoSpec)

/-- 'pianolalaw23.FifoNil', WHERE WHAT IT READS IS OF BULK AT MOST 1048576: true; the input reads as it did. -/
def fifoNilUptoRow : OpenClaim := { program := "ytifhnealecndnaa", sum := "5909ac7375da1de7e3b5c04ca22ed412622dfb20c93d6d7b6696c8f3e86d96e0", func := "pianola/pianolalaw23.FifoNil", spec := "fifoNil", unfollowed := true, recurses := true, apart := false, narrowed := true }
def FifoNilUptoSaid : Prop := fifoNilUptoRow.holds Try.pinned (OpenSpec.upto fifoNilSpec)

end Rows
end Go.Proofs.Ytifhnealecndnaa
