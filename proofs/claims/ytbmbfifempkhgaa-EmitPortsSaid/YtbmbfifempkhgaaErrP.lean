/- Which number the error of a shape has. No program in sight. -/
import Derived.WalkKit
namespace Go.Proofs.Ytbmbfifempkhgaa
def errP (t : Int) : Int := if 1 ≤ t ∧ t ≤ 11 then 61 else 60
def TagOk (t : Int) : Prop := t = 1 ∨ t = 2 ∨ t = 3 ∨ t = 4 ∨ t = 5 ∨ t = 6 ∨ t = 7 ∨ t = 8 ∨ t = 9 ∨ t = 10 ∨ t = 11
end Go.Proofs.Ytbmbfifempkhgaa
