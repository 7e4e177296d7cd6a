/-
  NARROWER THAN 'FOR EVERY INPUT', by the rows' own cells (each row's printed sentence says how): EmitMakes: loops · EmitSound: loops · EmitFires: loops.
  DERIVED. THE GIVEN ROWS OF THIS SEAT. 6 by the template 'for every input the law returns true; each argument reads behind the call as it read before'; 0 by the template 'total and deterministic' (their statements: YtbmbfifempkhgaaTotals.lean).
  GIVEN WITH THE SEED: the statements are not yours to turn. If you find one false, say at which input.
  Laid BY PROGRAM, IN A SANDBOX (cutbox-rows.mjs): the forced cells as the released guide's own fill.sh prints them over the translation 3fa2f09ff19b0424… (all of the seat's roots in one cut). By AI agents, Wed Nov 11 2026. No macro, syntax, notation, axiom, sorry.
-/
import Derived.Test.YtbmbfifempkhgaaChecked
import GoSem.Claim
import GoSem.ClaimJoined
import GoSem.ClaimMapViews
import Derived.JoinedTies
import Derived.KernelRfl
namespace Go.Proofs.Ytbmbfifempkhgaa
/- THE CELL 'sum', in the pinned program and in every row, IS THE sha256 OF THE DUMP (.gsa) THAT YtbmbfifempkhgaaProg.lean LOADS. Nothing in Lean hashes anything: it is a label: what it is worth is what the hold of that sum in a sandbox is worth. -/
noncomputable def Try.pinned : Pinned := { name := "ytbmbfifempkhgaa", sum := "3fa2f09ff19b042403214adc2c31d5b078840e73d70337cd6128d22a96148a63", checked := Try.checked }
namespace Rows
def none {H : Type} : Left H := { results := [], args := [] }

/-- 'pianolalaw21.EmitMakes': WHATEVER THE INPUT: true; the input reads as it did. -/
def emitMakesSpec : ChangeSpec := { name := "emitMakes", fn := fun _ => fun
  | [d1, d2, d3] => { results := [.lit (.bool true)], args := [d1, d2, d3] }
  | _ => none }
def emitMakesRow : OpenClaim := { program := "ytbmbfifempkhgaa", sum := "3fa2f09ff19b042403214adc2c31d5b078840e73d70337cd6128d22a96148a63", func := "pianola/pianolalaw21.EmitMakes", spec := "emitMakes", unfollowed := true, recurses := true, loops := true, plainKeys := false, apart := false }
def EmitMakesSaid : Prop := emitMakesRow.holds Try.pinned (OpenSpec.ofChange emitMakesSpec)

/-- ITS FALSE NEIGHBOUR: 'it returns false'. Refute it at one input. -/
def emitMakesWrong : ChangeSpec := { name := "emitMakes", fn := fun _ => fun
  | [d1, d2, d3] => { results := [.lit (.bool false)], args := [d1, d2, d3] }
  | _ => none }
def EmitMakesWrongFalsely : Prop := emitMakesRow.holds Try.pinned (OpenSpec.ofChange emitMakesWrong)

/-- 'pianolalaw21.EmitPorts': WHATEVER THE INPUT: true; the input reads as it did. -/
def emitPortsSpec : ChangeSpec := { name := "emitPorts", fn := fun _ => fun
  | [d1, d2, d3] => { results := [.lit (.bool true)], args := [d1, d2, d3] }
  | _ => none }
def emitPortsRow : OpenClaim := { program := "ytbmbfifempkhgaa", sum := "3fa2f09ff19b042403214adc2c31d5b078840e73d70337cd6128d22a96148a63", func := "pianola/pianolalaw21.EmitPorts", spec := "emitPorts", unfollowed := true, recurses := true, plainKeys := false, apart := false }
def EmitPortsSaid : Prop := emitPortsRow.holds Try.pinned (OpenSpec.ofChange emitPortsSpec)

/-- ITS FALSE NEIGHBOUR: 'it returns false'. Refute it at one input. -/
def emitPortsWrong : ChangeSpec := { name := "emitPorts", fn := fun _ => fun
  | [d1, d2, d3] => { results := [.lit (.bool false)], args := [d1, d2, d3] }
  | _ => none }
def EmitPortsWrongFalsely : Prop := emitPortsRow.holds Try.pinned (OpenSpec.ofChange emitPortsWrong)

/-- 'pianolalaw21.EmitNames': WHATEVER THE INPUT: true; the input reads as it did. -/
def emitNamesSpec : ChangeSpec := { name := "emitNames", fn := fun _ => fun
  | [] => { results := [.lit (.bool true)], args := [] }
  | _ => none }
def emitNamesRow : OpenClaim := { program := "ytbmbfifempkhgaa", sum := "3fa2f09ff19b042403214adc2c31d5b078840e73d70337cd6128d22a96148a63", func := "pianola/pianolalaw21.EmitNames", spec := "emitNames", unfollowed := true, recurses := true, plainKeys := false, apart := false }
def EmitNamesSaid : Prop := emitNamesRow.holds Try.pinned (OpenSpec.ofChange emitNamesSpec)

/-- ITS FALSE NEIGHBOUR: 'it returns false'. Refute it at one input. -/
def emitNamesWrong : ChangeSpec := { name := "emitNames", fn := fun _ => fun
  | [] => { results := [.lit (.bool false)], args := [] }
  | _ => none }
def EmitNamesWrongFalsely : Prop := emitNamesRow.holds Try.pinned (OpenSpec.ofChange emitNamesWrong)

/-- 'pianolalaw21.EmitSmall': WHATEVER THE INPUT: true; the input reads as it did. -/
def emitSmallSpec : ChangeSpec := { name := "emitSmall", fn := fun _ => fun
  | [d1, d2, d3] => { results := [.lit (.bool true)], args := [d1, d2, d3] }
  | _ => none }
def emitSmallRow : OpenClaim := { program := "ytbmbfifempkhgaa", sum := "3fa2f09ff19b042403214adc2c31d5b078840e73d70337cd6128d22a96148a63", func := "pianola/pianolalaw21.EmitSmall", spec := "emitSmall", unfollowed := true, recurses := true, plainKeys := false, apart := false }
def EmitSmallSaid : Prop := emitSmallRow.holds Try.pinned (OpenSpec.ofChange emitSmallSpec)

/-- ITS FALSE NEIGHBOUR: 'it returns false'. Refute it at one input. -/
def emitSmallWrong : ChangeSpec := { name := "emitSmall", fn := fun _ => fun
  | [d1, d2, d3] => { results := [.lit (.bool false)], args := [d1, d2, d3] }
  | _ => none }
def EmitSmallWrongFalsely : Prop := emitSmallRow.holds Try.pinned (OpenSpec.ofChange emitSmallWrong)

/-- 'pianolalaw21.EmitSound': WHATEVER THE INPUT: true; the input reads as it did. -/
def emitSoundSpec : ChangeSpec := { name := "emitSound", fn := fun _ => fun
  | [d1, d2, d3] => { results := [.lit (.bool true)], args := [d1, d2, d3] }
  | _ => none }
def emitSoundRow : OpenClaim := { program := "ytbmbfifempkhgaa", sum := "3fa2f09ff19b042403214adc2c31d5b078840e73d70337cd6128d22a96148a63", func := "pianola/pianolalaw21.EmitSound", spec := "emitSound", unfollowed := true, recurses := true, loops := true, plainKeys := false, apart := false }
def EmitSoundSaid : Prop := emitSoundRow.holds Try.pinned (OpenSpec.ofChange emitSoundSpec)

/-- ITS FALSE NEIGHBOUR: 'it returns false'. Refute it at one input. -/
def emitSoundWrong : ChangeSpec := { name := "emitSound", fn := fun _ => fun
  | [d1, d2, d3] => { results := [.lit (.bool false)], args := [d1, d2, d3] }
  | _ => none }
def EmitSoundWrongFalsely : Prop := emitSoundRow.holds Try.pinned (OpenSpec.ofChange emitSoundWrong)

/-- 'pianolalaw21.EmitFires': WHATEVER THE INPUT: true; the input reads as it did. -/
def emitFiresSpec : ChangeSpec := { name := "emitFires", fn := fun _ => fun
  | [d1, d2, d3] => { results := [.lit (.bool true)], args := [d1, d2, d3] }
  | _ => none }
def emitFiresRow : OpenClaim := { program := "ytbmbfifempkhgaa", sum := "3fa2f09ff19b042403214adc2c31d5b078840e73d70337cd6128d22a96148a63", func := "pianola/pianolalaw21.EmitFires", spec := "emitFires", unfollowed := true, recurses := true, loops := true, plainKeys := false, apart := false }
def EmitFiresSaid : Prop := emitFiresRow.holds Try.pinned (OpenSpec.ofChange emitFiresSpec)

/-- ITS FALSE NEIGHBOUR: 'it returns false'. Refute it at one input. -/
def emitFiresWrong : ChangeSpec := { name := "emitFires", fn := fun _ => fun
  | [d1, d2, d3] => { results := [.lit (.bool false)], args := [d1, d2, d3] }
  | _ => none }
def EmitFiresWrongFalsely : Prop := emitFiresRow.holds Try.pinned (OpenSpec.ofChange emitFiresWrong)

/- THE SECOND FORM. 'bulk': how many values and letters a reading holds, each counted each time it is reached (what is shared counts as often as it is met; a slice's spare places count too). A statement '..UptoSaid' is the law's where the arguments, and the package variables that the reading takes, are together of bulk at most 1048576: NARROWER than '..Said'. Prove '..Said' where nothing that the law and all that it calls make is longer than what came in: it says more and counts as full. Else prove '..UptoSaid'. A law counts once. -/
mutual
def uptoBulk {H : Type} : DataW H → Nat
  | .lit (.string bytes) => bytes.length + 1
  | .lit _ => 1
  | .nil => 1
  | .ptr d => uptoBulk d + 1
  | .slice elems spare => uptoBulkAll elems + uptoBulkAll spare + 1
  | .agg parts => uptoBulkAll parts + 1
  | .iface _ d => uptoBulk d + 1
  | .map entries => uptoBulkEntries entries + 1
  | .held _ => 1
def uptoBulkAll {H : Type} : List (DataW H) → Nat
  | [] => 0
  | d :: r => uptoBulk d + uptoBulkAll r
def uptoBulkEntries {H : Type} : List (Lit × DataW H) → Nat
  | [] => 0
  | x :: r => uptoBulkEntry x + uptoBulkEntries r
def uptoBulkEntry {H : Type} : Lit × DataW H → Nat
  | (.string bytes, d) => bytes.length + uptoBulk d + 1
  | (_, d) => uptoBulk d + 1
 end
def uptoSmall : (H : Type) → List (DataW H) → Bool := fun _ ds => decide (uptoBulkAll ds ≤ 1048576)
def OpenSpec.upto (s : _root_.Go.ChangeSpec) : _root_.Go.OpenSpec := { _root_.Go.OpenSpec.ofChange s with cond := some uptoSmall }

/-- 'pianolalaw21.EmitMakes', WHERE WHAT IT READS IS OF BULK AT MOST 1048576: true; the input reads as it did. -/
def emitMakesUptoRow : OpenClaim := { program := "ytbmbfifempkhgaa", sum := "3fa2f09ff19b042403214adc2c31d5b078840e73d70337cd6128d22a96148a63", func := "pianola/pianolalaw21.EmitMakes", spec := "emitMakes", unfollowed := true, recurses := true, loops := true, plainKeys := false, apart := false, narrowed := true }
def EmitMakesUptoSaid : Prop := emitMakesUptoRow.holds Try.pinned (OpenSpec.upto emitMakesSpec)

/-- 'pianolalaw21.EmitPorts', WHERE WHAT IT READS IS OF BULK AT MOST 1048576: true; the input reads as it did. -/
def emitPortsUptoRow : OpenClaim := { program := "ytbmbfifempkhgaa", sum := "3fa2f09ff19b042403214adc2c31d5b078840e73d70337cd6128d22a96148a63", func := "pianola/pianolalaw21.EmitPorts", spec := "emitPorts", unfollowed := true, recurses := true, plainKeys := false, apart := false, narrowed := true }
def EmitPortsUptoSaid : Prop := emitPortsUptoRow.holds Try.pinned (OpenSpec.upto emitPortsSpec)

/-- 'pianolalaw21.EmitNames', WHERE WHAT IT READS IS OF BULK AT MOST 1048576: true; the input reads as it did. -/
def emitNamesUptoRow : OpenClaim := { program := "ytbmbfifempkhgaa", sum := "3fa2f09ff19b042403214adc2c31d5b078840e73d70337cd6128d22a96148a63", func := "pianola/pianolalaw21.EmitNames", spec := "emitNames", unfollowed := true, recurses := true, plainKeys := false, apart := false, narrowed := true }
def EmitNamesUptoSaid : Prop := emitNamesUptoRow.holds Try.pinned (OpenSpec.upto emitNamesSpec)

/-- 'pianolalaw21.EmitSmall', WHERE WHAT IT READS IS OF BULK AT MOST 1048576: true; the input reads as it did. -/
def emitSmallUptoRow : OpenClaim := { program := "ytbmbfifempkhgaa", sum := "3fa2f09ff19b042403214adc2c31d5b078840e73d70337cd6128d22a96148a63", func := "pianola/pianolalaw21.EmitSmall", spec := "emitSmall", unfollowed := true, recurses := true, plainKeys := false, apart := false, narrowed := true }
def EmitSmallUptoSaid : Prop := emitSmallUptoRow.holds Try.pinned (OpenSpec.upto emitSmallSpec)

/-- 'pianolalaw21.EmitSound', WHERE WHAT IT READS IS OF BULK AT MOST 1048576: true; the input reads as it did. -/
def emitSoundUptoRow : OpenClaim := { program := "ytbmbfifempkhgaa", sum := "3fa2f09ff19b042403214adc2c31d5b078840e73d70337cd6128d22a96148a63", func := "pianola/pianolalaw21.EmitSound", spec := "emitSound", unfollowed := true, recurses := true, loops := true, plainKeys := false, apart := false, narrowed := true }
def EmitSoundUptoSaid : Prop := emitSoundUptoRow.holds Try.pinned (OpenSpec.upto emitSoundSpec)

/-- 'pianolalaw21.EmitFires', WHERE WHAT IT READS IS OF BULK AT MOST 1048576: true; the input reads as it did. -/
def emitFiresUptoRow : OpenClaim := { program := "ytbmbfifempkhgaa", sum := "3fa2f09ff19b042403214adc2c31d5b078840e73d70337cd6128d22a96148a63", func := "pianola/pianolalaw21.EmitFires", spec := "emitFires", unfollowed := true, recurses := true, loops := true, plainKeys := false, apart := false, narrowed := true }
def EmitFiresUptoSaid : Prop := emitFiresUptoRow.holds Try.pinned (OpenSpec.upto emitFiresSpec)

end Rows
end Go.Proofs.Ytbmbfifempkhgaa
