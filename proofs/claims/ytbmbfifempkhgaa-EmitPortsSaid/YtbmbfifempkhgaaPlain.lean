/- An actor as plain data: what may be its parameters, its rates, what it keeps, what a firing gives. No program in sight. -/
import Derived.WalkKit
namespace Go.Proofs.Ytbmbfifempkhgaa

def hd (ps : List Int) : Int := ps[0]?.getD 0
def hd1 (ps : List Int) : Int := ps[1]?.getD 0
def pairP (ps : List Int) : Prop := ps.length = 2 ∧ (1 ≤ hd ps ∧ hd ps ≤ 16) ∧ (1 ≤ hd1 ps ∧ hd1 ps ≤ 64) ∧ hd ps * hd1 ps ≤ 64
def oneP (ps : List Int) (m : Int) : Prop := ps.length = 1 ∧ 1 ≤ hd ps ∧ hd ps ≤ m
/-- may these be the parameters of a tag? -/
def goodP (t : Int) (ps : List Int) : Prop :=
  (t = 1 ∧ 1 ≤ ps.length ∧ ps.length ≤ 16) ∨ (t = 2 ∧ oneP ps 64) ∨ (t = 3 ∧ oneP ps 64) ∨ (t = 4 ∧ pairP ps) ∨ (t = 5 ∧ pairP ps) ∨ (t = 6 ∧ oneP ps 16) ∨ (t = 7 ∧ ps.length = 0) ∨ (t = 8 ∧ ps.length = 0) ∨ (t = 9 ∧ oneP ps 16) ∨ (t = 10 ∧ ps.length = 2) ∨ (t = 11 ∧ oneP ps 64)
def insP (t : Int) (ps : List Int) : List Int :=
  if t = 3 ∨ t = 11 then [hd ps] else if t = 4 then List.replicate (hd ps).toNat (hd1 ps) else if t = 5 then [hd ps * hd1 ps] else if t = 6 then List.replicate (hd ps).toNat 1 else if t = 7 then [1, 1] else if t = 10 then [] else [1]
def outsP (t : Int) (ps : List Int) : List Int :=
  if t = 2 then [hd ps] else if t = 4 then [hd ps * hd1 ps] else if t = 5 then List.replicate (hd ps).toNat (hd1 ps) else if t = 9 then List.replicate (hd ps).toNat 1 else if t = 11 then [] else [1]

instance (ps : List Int) : Decidable (pairP ps) := by unfold pairP; infer_instance
instance (ps : List Int) (m : Int) : Decidable (oneP ps m) := by unfold oneP; infer_instance
instance (t : Int) (ps : List Int) : Decidable (goodP t ps) := by unfold goodP; infer_instance

end Go.Proofs.Ytbmbfifempkhgaa
