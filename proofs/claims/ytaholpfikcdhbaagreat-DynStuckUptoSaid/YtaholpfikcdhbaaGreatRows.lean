/-
  No cell of these rows narrows 'for every input' (looked for: loops, veiled, ifaces, maps, wideKeys, modest, calm, conditions, laid).
  DERIVED. THE GIVEN ROWS OF THIS SEAT. 9 by the template 'for every input the law returns true; each argument reads behind the call as it read before'; 0 by the template 'total and deterministic' (their statements: YtaholpfikcdhbaaGreatTotals.lean).
  GIVEN WITH THE SEED: the statements are not yours to turn. If you find one false, say at which input.
  Laid BY PROGRAM, IN A SANDBOX (cutbox-rows.mjs): the forced cells as the released guide's own fill.sh prints them over the translation 828d3d14876b0ab9… (all of the seat's roots in one cut). By AI agents, Wed Nov 11 2026. No macro, syntax, notation, axiom, sorry.
-/
import Derived.Test.YtaholpfikcdhbaaGreatChecked
import GoSem.Claim
import GoSem.ClaimJoined
import GoSem.ClaimMapViews
import Derived.JoinedTies
import Derived.KernelRfl
namespace Go.Proofs.YtaholpfikcdhbaaGreat
/- THE CELL 'sum', in the pinned program and in every row, IS THE sha256 OF THE DUMP (.gsa) THAT YtaholpfikcdhbaaGreatProg.lean LOADS. Nothing in Lean hashes anything: it is a label: what it is worth is what the hold of that sum in a sandbox is worth. -/
noncomputable def Tryz.pinned : Pinned := { name := "ytaholpfikcdhbaagreat", sum := "828d3d14876b0ab974e995bf238f6094f6d30f6ef347f82108dedd6671dd323b", checked := Tryz.checked }
namespace Rows
def none {H : Type} : Left H := { results := [], args := [] }

/-- 'pianolalaw24.DynStays': WHATEVER THE INPUT: true; the input reads as it did. -/
def dynStaysSpec : ChangeSpec := { name := "dynStays", fn := fun _ => fun
  | [d1, d2, d3] => { results := [.lit (.bool true)], args := [d1, d2, d3] }
  | _ => none }
def dynStaysRow : OpenClaim := { program := "ytaholpfikcdhbaagreat", sum := "828d3d14876b0ab974e995bf238f6094f6d30f6ef347f82108dedd6671dd323b", func := "pianola/pianolalaw24.DynStays", spec := "dynStays", unfollowed := true, recurses := true, apart := false }
def DynStaysSaid : Prop := dynStaysRow.holds Tryz.pinned (OpenSpec.ofChange dynStaysSpec)

/-- ITS FALSE NEIGHBOUR: 'it returns false'. Refute it at one input. -/
def dynStaysWrong : ChangeSpec := { name := "dynStays", fn := fun _ => fun
  | [d1, d2, d3] => { results := [.lit (.bool false)], args := [d1, d2, d3] }
  | _ => none }
def DynStaysWrongFalsely : Prop := dynStaysRow.holds Tryz.pinned (OpenSpec.ofChange dynStaysWrong)

/-- 'pianolalaw24.DynWidens': WHATEVER THE INPUT: true; the input reads as it did. -/
def dynWidensSpec : ChangeSpec := { name := "dynWidens", fn := fun _ => fun
  | [d1, d2, d3] => { results := [.lit (.bool true)], args := [d1, d2, d3] }
  | _ => none }
def dynWidensRow : OpenClaim := { program := "ytaholpfikcdhbaagreat", sum := "828d3d14876b0ab974e995bf238f6094f6d30f6ef347f82108dedd6671dd323b", func := "pianola/pianolalaw24.DynWidens", spec := "dynWidens", unfollowed := true, recurses := true, apart := false }
def DynWidensSaid : Prop := dynWidensRow.holds Tryz.pinned (OpenSpec.ofChange dynWidensSpec)

/-- ITS FALSE NEIGHBOUR: 'it returns false'. Refute it at one input. -/
def dynWidensWrong : ChangeSpec := { name := "dynWidens", fn := fun _ => fun
  | [d1, d2, d3] => { results := [.lit (.bool false)], args := [d1, d2, d3] }
  | _ => none }
def DynWidensWrongFalsely : Prop := dynWidensRow.holds Tryz.pinned (OpenSpec.ofChange dynWidensWrong)

/-- 'pianolalaw24.DynRounds': WHATEVER THE INPUT: true; the input reads as it did. -/
def dynRoundsSpec : ChangeSpec := { name := "dynRounds", fn := fun _ => fun
  | [d1, d2] => { results := [.lit (.bool true)], args := [d1, d2] }
  | _ => none }
def dynRoundsRow : OpenClaim := { program := "ytaholpfikcdhbaagreat", sum := "828d3d14876b0ab974e995bf238f6094f6d30f6ef347f82108dedd6671dd323b", func := "pianola/pianolalaw24.DynRounds", spec := "dynRounds", unfollowed := true, recurses := true, apart := false }
def DynRoundsSaid : Prop := dynRoundsRow.holds Tryz.pinned (OpenSpec.ofChange dynRoundsSpec)

/-- ITS FALSE NEIGHBOUR: 'it returns false'. Refute it at one input. -/
def dynRoundsWrong : ChangeSpec := { name := "dynRounds", fn := fun _ => fun
  | [d1, d2] => { results := [.lit (.bool false)], args := [d1, d2] }
  | _ => none }
def DynRoundsWrongFalsely : Prop := dynRoundsRow.holds Tryz.pinned (OpenSpec.ofChange dynRoundsWrong)

/-- 'pianolalaw24.DynPlays': WHATEVER THE INPUT: true; the input reads as it did. -/
def dynPlaysSpec : ChangeSpec := { name := "dynPlays", fn := fun _ => fun
  | [d1, d2, d3] => { results := [.lit (.bool true)], args := [d1, d2, d3] }
  | _ => none }
def dynPlaysRow : OpenClaim := { program := "ytaholpfikcdhbaagreat", sum := "828d3d14876b0ab974e995bf238f6094f6d30f6ef347f82108dedd6671dd323b", func := "pianola/pianolalaw24.DynPlays", spec := "dynPlays", unfollowed := true, recurses := true, apart := false }
def DynPlaysSaid : Prop := dynPlaysRow.holds Tryz.pinned (OpenSpec.ofChange dynPlaysSpec)

/-- ITS FALSE NEIGHBOUR: 'it returns false'. Refute it at one input. -/
def dynPlaysWrong : ChangeSpec := { name := "dynPlays", fn := fun _ => fun
  | [d1, d2, d3] => { results := [.lit (.bool false)], args := [d1, d2, d3] }
  | _ => none }
def DynPlaysWrongFalsely : Prop := dynPlaysRow.holds Tryz.pinned (OpenSpec.ofChange dynPlaysWrong)

/-- 'pianolalaw24.DynMeets': WHATEVER THE INPUT: true; the input reads as it did. -/
def dynMeetsSpec : ChangeSpec := { name := "dynMeets", fn := fun _ => fun
  | [d1, d2, d3] => { results := [.lit (.bool true)], args := [d1, d2, d3] }
  | _ => none }
def dynMeetsRow : OpenClaim := { program := "ytaholpfikcdhbaagreat", sum := "828d3d14876b0ab974e995bf238f6094f6d30f6ef347f82108dedd6671dd323b", func := "pianola/pianolalaw24.DynMeets", spec := "dynMeets", unfollowed := true, recurses := true, apart := false }
def DynMeetsSaid : Prop := dynMeetsRow.holds Tryz.pinned (OpenSpec.ofChange dynMeetsSpec)

/-- ITS FALSE NEIGHBOUR: 'it returns false'. Refute it at one input. -/
def dynMeetsWrong : ChangeSpec := { name := "dynMeets", fn := fun _ => fun
  | [d1, d2, d3] => { results := [.lit (.bool false)], args := [d1, d2, d3] }
  | _ => none }
def DynMeetsWrongFalsely : Prop := dynMeetsRow.holds Tryz.pinned (OpenSpec.ofChange dynMeetsWrong)

/-- 'pianolalaw24.DynSwaps': WHATEVER THE INPUT: true; the input reads as it did. -/
def dynSwapsSpec : ChangeSpec := { name := "dynSwaps", fn := fun _ => fun
  | [d1, d2, d3] => { results := [.lit (.bool true)], args := [d1, d2, d3] }
  | _ => none }
def dynSwapsRow : OpenClaim := { program := "ytaholpfikcdhbaagreat", sum := "828d3d14876b0ab974e995bf238f6094f6d30f6ef347f82108dedd6671dd323b", func := "pianola/pianolalaw24.DynSwaps", spec := "dynSwaps", unfollowed := true, recurses := true, apart := false }
def DynSwapsSaid : Prop := dynSwapsRow.holds Tryz.pinned (OpenSpec.ofChange dynSwapsSpec)

/-- ITS FALSE NEIGHBOUR: 'it returns false'. Refute it at one input. -/
def dynSwapsWrong : ChangeSpec := { name := "dynSwaps", fn := fun _ => fun
  | [d1, d2, d3] => { results := [.lit (.bool false)], args := [d1, d2, d3] }
  | _ => none }
def DynSwapsWrongFalsely : Prop := dynSwapsRow.holds Tryz.pinned (OpenSpec.ofChange dynSwapsWrong)

/-- 'pianolalaw24.DynLate': WHATEVER THE INPUT: true; the input reads as it did. -/
def dynLateSpec : ChangeSpec := { name := "dynLate", fn := fun _ => fun
  | [d1, d2, d3] => { results := [.lit (.bool true)], args := [d1, d2, d3] }
  | _ => none }
def dynLateRow : OpenClaim := { program := "ytaholpfikcdhbaagreat", sum := "828d3d14876b0ab974e995bf238f6094f6d30f6ef347f82108dedd6671dd323b", func := "pianola/pianolalaw24.DynLate", spec := "dynLate", unfollowed := true, recurses := true, apart := false }
def DynLateSaid : Prop := dynLateRow.holds Tryz.pinned (OpenSpec.ofChange dynLateSpec)

/-- ITS FALSE NEIGHBOUR: 'it returns false'. Refute it at one input. -/
def dynLateWrong : ChangeSpec := { name := "dynLate", fn := fun _ => fun
  | [d1, d2, d3] => { results := [.lit (.bool false)], args := [d1, d2, d3] }
  | _ => none }
def DynLateWrongFalsely : Prop := dynLateRow.holds Tryz.pinned (OpenSpec.ofChange dynLateWrong)

/-- 'pianolalaw24.DynRoom': WHATEVER THE INPUT: true; the input reads as it did. -/
def dynRoomSpec : ChangeSpec := { name := "dynRoom", fn := fun _ => fun
  | [d1, d2] => { results := [.lit (.bool true)], args := [d1, d2] }
  | _ => none }
def dynRoomRow : OpenClaim := { program := "ytaholpfikcdhbaagreat", sum := "828d3d14876b0ab974e995bf238f6094f6d30f6ef347f82108dedd6671dd323b", func := "pianola/pianolalaw24.DynRoom", spec := "dynRoom", unfollowed := true, recurses := true, apart := false }
def DynRoomSaid : Prop := dynRoomRow.holds Tryz.pinned (OpenSpec.ofChange dynRoomSpec)

/-- ITS FALSE NEIGHBOUR: 'it returns false'. Refute it at one input. -/
def dynRoomWrong : ChangeSpec := { name := "dynRoom", fn := fun _ => fun
  | [d1, d2] => { results := [.lit (.bool false)], args := [d1, d2] }
  | _ => none }
def DynRoomWrongFalsely : Prop := dynRoomRow.holds Tryz.pinned (OpenSpec.ofChange dynRoomWrong)

/-- 'pianolalaw24.DynStuck': WHATEVER THE INPUT: true; the input reads as it did. -/
def dynStuckSpec : ChangeSpec := { name := "dynStuck", fn := fun _ => fun
  | [d1, d2, d3] => { results := [.lit (.bool true)], args := [d1, d2, d3] }
  | _ => none }
def dynStuckRow : OpenClaim := { program := "ytaholpfikcdhbaagreat", sum := "828d3d14876b0ab974e995bf238f6094f6d30f6ef347f82108dedd6671dd323b", func := "pianola/pianolalaw24.DynStuck", spec := "dynStuck", unfollowed := true, recurses := true, apart := false }
def DynStuckSaid : Prop := dynStuckRow.holds Tryz.pinned (OpenSpec.ofChange dynStuckSpec)

/-- ITS FALSE NEIGHBOUR: 'it returns false'. Refute it at one input. -/
def dynStuckWrong : ChangeSpec := { name := "dynStuck", fn := fun _ => fun
  | [d1, d2, d3] => { results := [.lit (.bool false)], args := [d1, d2, d3] }
  | _ => none }
def DynStuckWrongFalsely : Prop := dynStuckRow.holds Tryz.pinned (OpenSpec.ofChange dynStuckWrong)

/- THE SECOND FORM. 'bulk': how many values and letters a reading holds, each counted each time it is reached (what is shared counts as often as it is met; a slice's spare places count too). A statement '..UptoSaid' is the law's where the arguments, and the package variables that the reading takes, are together of bulk at most 1048576: NARROWER than '..Said'. Prove '..Said' where nothing that the law and all that it calls make is longer than what came in: it says more and counts as full. Else prove '..UptoSaid'. A law counts once. -/
mutual
def uptoBulk {H : Type} : DataW H → Nat
  | .lit (.string bytes) => bytes.length + 1
  | .lit _ => 1
  | .nil => 1
  | .ptr d => uptoBulk d + 1
  | .slice elems spare => uptoBulkAll elems + uptoBulkAll spare + 1
  | .agg parts => uptoBulkAll parts + 1
  | .iface _ d => uptoBulk d + 1
  | .map entries => uptoBulkEntries entries + 1
  | .held _ => 1
def uptoBulkAll {H : Type} : List (DataW H) → Nat
  | [] => 0
  | d :: r => uptoBulk d + uptoBulkAll r
def uptoBulkEntries {H : Type} : List (Lit × DataW H) → Nat
  | [] => 0
  | x :: r => uptoBulkEntry x + uptoBulkEntries r
def uptoBulkEntry {H : Type} : Lit × DataW H → Nat
  | (.string bytes, d) => bytes.length + uptoBulk d + 1
  | (_, d) => uptoBulk d + 1
 end
def uptoSmall : (H : Type) → List (DataW H) → Bool := fun _ ds => decide (uptoBulkAll ds ≤ 1048576)
def OpenSpec.upto (s : _root_.Go.ChangeSpec) : _root_.Go.OpenSpec := { _root_.Go.OpenSpec.ofChange s with cond := some uptoSmall }

/-- 'pianolalaw24.DynStays', WHERE WHAT IT READS IS OF BULK AT MOST 1048576: true; the input reads as it did. -/
def dynStaysUptoRow : OpenClaim := { program := "ytaholpfikcdhbaagreat", sum := "828d3d14876b0ab974e995bf238f6094f6d30f6ef347f82108dedd6671dd323b", func := "pianola/pianolalaw24.DynStays", spec := "dynStays", unfollowed := true, recurses := true, apart := false, narrowed := true }
def DynStaysUptoSaid : Prop := dynStaysUptoRow.holds Tryz.pinned (OpenSpec.upto dynStaysSpec)

/-- 'pianolalaw24.DynWidens', WHERE WHAT IT READS IS OF BULK AT MOST 1048576: true; the input reads as it did. -/
def dynWidensUptoRow : OpenClaim := { program := "ytaholpfikcdhbaagreat", sum := "828d3d14876b0ab974e995bf238f6094f6d30f6ef347f82108dedd6671dd323b", func := "pianola/pianolalaw24.DynWidens", spec := "dynWidens", unfollowed := true, recurses := true, apart := false, narrowed := true }
def DynWidensUptoSaid : Prop := dynWidensUptoRow.holds Tryz.pinned (OpenSpec.upto dynWidensSpec)

/-- 'pianolalaw24.DynRounds', WHERE WHAT IT READS IS OF BULK AT MOST 1048576: true; the input reads as it did. -/
def dynRoundsUptoRow : OpenClaim := { program := "ytaholpfikcdhbaagreat", sum := "828d3d14876b0ab974e995bf238f6094f6d30f6ef347f82108dedd6671dd323b", func := "pianola/pianolalaw24.DynRounds", spec := "dynRounds", unfollowed := true, recurses := true, apart := false, narrowed := true }
def DynRoundsUptoSaid : Prop := dynRoundsUptoRow.holds Tryz.pinned (OpenSpec.upto dynRoundsSpec)

/-- 'pianolalaw24.DynPlays', WHERE WHAT IT READS IS OF BULK AT MOST 1048576: true; the input reads as it did. -/
def dynPlaysUptoRow : OpenClaim := { program := "ytaholpfikcdhbaagreat", sum := "828d3d14876b0ab974e995bf238f6094f6d30f6ef347f82108dedd6671dd323b", func := "pianola/pianolalaw24.DynPlays", spec := "dynPlays", unfollowed := true, recurses := true, apart := false, narrowed := true }
def DynPlaysUptoSaid : Prop := dynPlaysUptoRow.holds Tryz.pinned (OpenSpec.upto dynPlaysSpec)

/-- 'pianolalaw24.DynMeets', WHERE WHAT IT READS IS OF BULK AT MOST 1048576: true; the input reads as it did. -/
def dynMeetsUptoRow : OpenClaim := { program := "ytaholpfikcdhbaagreat", sum := "828d3d14876b0ab974e995bf238f6094f6d30f6ef347f82108dedd6671dd323b", func := "pianola/pianolalaw24.DynMeets", spec := "dynMeets", unfollowed := true, recurses := true, apart := false, narrowed := true }
def DynMeetsUptoSaid : Prop := dynMeetsUptoRow.holds Tryz.pinned (OpenSpec.upto dynMeetsSpec)

/-- 'pianolalaw24.DynSwaps', WHERE WHAT IT READS IS OF BULK AT MOST 1048576: true; the input reads as it did. -/
def dynSwapsUptoRow : OpenClaim := { program := "ytaholpfikcdhbaagreat", sum := "828d3d14876b0ab974e995bf238f6094f6d30f6ef347f82108dedd6671dd323b", func := "pianola/pianolalaw24.DynSwaps", spec := "dynSwaps", unfollowed := true, recurses := true, apart := false, narrowed := true }
def DynSwapsUptoSaid : Prop := dynSwapsUptoRow.holds Tryz.pinned (OpenSpec.upto dynSwapsSpec)

/-- 'pianolalaw24.DynLate', WHERE WHAT IT READS IS OF BULK AT MOST 1048576: true; the input reads as it did. -/
def dynLateUptoRow : OpenClaim := { program := "ytaholpfikcdhbaagreat", sum := "828d3d14876b0ab974e995bf238f6094f6d30f6ef347f82108dedd6671dd323b", func := "pianola/pianolalaw24.DynLate", spec := "dynLate", unfollowed := true, recurses := true, apart := false, narrowed := true }
def DynLateUptoSaid : Prop := dynLateUptoRow.holds Tryz.pinned (OpenSpec.upto dynLateSpec)

/-- 'pianolalaw24.DynRoom', WHERE WHAT IT READS IS OF BULK AT MOST 1048576: true; the input reads as it did. -/
def dynRoomUptoRow : OpenClaim := { program := "ytaholpfikcdhbaagreat", sum := "828d3d14876b0ab974e995bf238f6094f6d30f6ef347f82108dedd6671dd323b", func := "pianola/pianolalaw24.DynRoom", spec := "dynRoom", unfollowed := true, recurses := true, apart := false, narrowed := true }
def DynRoomUptoSaid : Prop := dynRoomUptoRow.holds Tryz.pinned (OpenSpec.upto dynRoomSpec)

/-- 'pianolalaw24.DynStuck', WHERE WHAT IT READS IS OF BULK AT MOST 1048576: true; the input reads as it did. -/
def dynStuckUptoRow : OpenClaim := { program := "ytaholpfikcdhbaagreat", sum := "828d3d14876b0ab974e995bf238f6094f6d30f6ef347f82108dedd6671dd323b", func := "pianola/pianolalaw24.DynStuck", spec := "dynStuck", unfollowed := true, recurses := true, apart := false, narrowed := true }
def DynStuckUptoSaid : Prop := dynStuckUptoRow.holds Tryz.pinned (OpenSpec.upto dynStuckSpec)

end Rows
end Go.Proofs.YtaholpfikcdhbaaGreat
