/- What is wrong with a graph: as plain functions. No program in sight. -/
import Derived.Test.YtbmbfifempkhgaaGData
import Derived.Test.YtbmbfifempkhgaaPlain
import Derived.Test.YtbmbfifempkhgaaErrP
namespace Go.Proofs.Ytbmbfifempkhgaa
open Go.RowKit

instance : DecidableEq ByteArray := fun a b => decidable_of_iff (a.data = b.data) (ByteArray.ext_iff).symm

/-- a byte of a text; 0 behind its end -/
def byteP (s : ByteArray) (i : Nat) : Int := if h : i < s.size then ((s[i]'h).toNat : Int) else 0
def letterP (b : Int) : Bool := decide (97 ≤ b) && decide (b ≤ 122)
def digitP (b : Int) : Bool := decide (48 ≤ b) && decide (b ≤ 57)
def insideP (b : Int) : Bool := letterP b || digitP b || decide (b = 95)
def nameP (s : ByteArray) : Bool := letterP (byteP s 0) && (List.range s.size).all (fun i => insideP (byteP s i)) && decide (s.size ≤ 16)

/-- a name is taken -/
def nameE (seen : List ByteArray) (s : ByteArray) : Int := if nameP s then (if seen.any (fun x => decide (x = s)) then 83 else 0) else 82

def side1 (side : List (List Bool)) (a : Int) : List Bool := side[a.toNat]?.getD []
def takeE (side : List (List Bool)) (a p : Int) : Int :=
  if a < 0 ∨ (side.length : Int) ≤ a then 84
  else if p < 0 ∨ ((side1 side a).length : Int) ≤ p then 85
  else if (side1 side a)[p.toNat]?.getD false then 86 else 0
def takeS (side : List (List Bool)) (a p : Int) : List (List Bool) := side.set a.toNat ((side1 side a).set p.toNat true)

structure Chk where
  seen : List ByteArray
  ins : List (List Bool)
  outs : List (List Bool)

def actorE (seen : List ByteArray) (a : GActor) : Int := if nameE seen a.name ≠ 0 then nameE seen a.name else if goodP a.tag a.params then 0 else errP a.tag
def actorC (c : Chk) (a : GActor) : Chk := ⟨c.seen ++ [a.name], c.ins ++ [List.replicate (insP a.tag a.params).length false], c.outs ++ [List.replicate (outsP a.tag a.params).length false]⟩
def actorsE : Chk → List GActor → Int
  | _, [] => 0
  | c, a :: r => if actorE c.seen a ≠ 0 then actorE c.seen a else actorsE (actorC c a) r
def actorsC (c : Chk) (l : List GActor) : Chk := l.foldl actorC c

def edgeE (c : Chk) (e : GEdge) : Int := if takeE c.outs e.src e.sport ≠ 0 then takeE c.outs e.src e.sport else if takeE c.ins e.dst e.dport ≠ 0 then takeE c.ins e.dst e.dport else if 256 < e.start.length then 88 else 0
def edgeC (c : Chk) (e : GEdge) : Chk := ⟨c.seen, takeS c.ins e.dst e.dport, takeS c.outs e.src e.sport⟩
def edgesE : Chk → List GEdge → Int
  | _, [] => 0
  | c, e :: r => if edgeE c e ≠ 0 then edgeE c e else edgesE (edgeC c e) r
def edgesC (c : Chk) (l : List GEdge) : Chk := l.foldl edgeC c

/-- inputs or outputs: what is seen, and one side -/
def portE (seen : List ByteArray) (side : List (List Bool)) (p : GPort) : Int := if nameE seen p.name ≠ 0 then nameE seen p.name else takeE side p.actor p.port
def portsE : List ByteArray → List (List Bool) → List GPort → Int
  | _, _, [] => 0
  | seen, side, p :: r => if portE seen side p ≠ 0 then portE seen side p else portsE (seen ++ [p.name]) (takeS side p.actor p.port) r
def portsS (side : List (List Bool)) (l : List GPort) : List (List Bool) := l.foldl (fun s p => takeS s p.actor p.port) side
def portsN (seen : List ByteArray) (l : List GPort) : List ByteArray := seen ++ l.map GPort.name

def headE (g : GGraph) : Int :=
  if !nameP g.name then 82 else if g.actors.length = 0 then 80 else if 32 < g.actors.length then 81 else if 96 < g.edges.length then 81 else if 16 < g.ins.length then 81 else if 16 < g.outs.length then 81 else 0
def openE (ins outs : List (List Bool)) : Int := if (ins.all fun s => s.all id) && (outs.all fun s => s.all id) then 0 else 87

def chk0 : Chk := ⟨[], [], []⟩
def chk1 (g : GGraph) : Chk := actorsC chk0 g.actors
def chk2 (g : GGraph) : Chk := edgesC (chk1 g) g.edges
/-- the first error -/
def checkE (g : GGraph) : Int :=
  if headE g ≠ 0 then headE g
  else if actorsE chk0 g.actors ≠ 0 then actorsE chk0 g.actors
  else if edgesE (chk1 g) g.edges ≠ 0 then edgesE (chk1 g) g.edges
  else if portsE (chk2 g).seen (chk2 g).ins g.ins ≠ 0 then portsE (chk2 g).seen (chk2 g).ins g.ins
  else if portsE (portsN (chk2 g).seen g.ins) (chk2 g).outs g.outs ≠ 0 then portsE (portsN (chk2 g).seen g.ins) (chk2 g).outs g.outs
  else openE (portsS (chk2 g).ins g.ins) (portsS (chk2 g).outs g.outs)
end Go.Proofs.Ytbmbfifempkhgaa
