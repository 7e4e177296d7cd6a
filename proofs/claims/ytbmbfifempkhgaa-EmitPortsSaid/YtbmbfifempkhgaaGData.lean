/- Graphs, plans, nests: as plain data, and how they lie in memory. No program in sight. -/
import Derived.Test.YtbmbfifempkhgaaOuts
namespace Go.Proofs.Ytbmbfifempkhgaa
open Go.RowKit

structure GActor where
  name : ByteArray
  tag : Int
  params : List Int
structure GEdge where
  src : Int
  sport : Int
  dst : Int
  dport : Int
  start : List Int
structure GPort where
  name : ByteArray
  actor : Int
  port : Int
structure GGraph where
  name : ByteArray
  actors : List GActor
  edges : List GEdge
  ins : List GPort
  outs : List GPort
structure GRegion where
  base : Int
  size : Int
structure GPlan where
  regions : List GRegion
  total : Int
/-- loops, one behind the other: each has its times, its node, its body -/
inductive Nest where
  | nil : Nest
  | cons (times node : Int) (body rest : Nest) : Nest

def Nest.items : Nest → List (Int × Int × Nest)
  | .nil => []
  | .cons t n b r => (t, n, b) :: r.items
def Nest.isNil : Nest → Bool
  | .nil => true
  | .cons _ _ _ _ => false

section
variable {w w' : World}

/-- v is a slice of records of sz cells each; R: what the cells of one are -/
def Recs {α : Type} (w : World) (sz : Nat) (R : World → α → List Value → Prop) (v : Value) (l : List α) : Prop :=
  (l = [] ∧ ∃ ao cap, v = .slice ao 0 cap) ∨
  (0 < l.length ∧ ∃ b off cap, v = .slice (some ⟨b, off, none⟩) l.length cap ∧ l.length ≤ cap ∧ b < w.heap.size ∧
    ∀ k (hk : k < l.length), ∃ cs, cs.length = sz ∧ R w l[k] cs ∧ ∀ i, i < sz → w.cell? ⟨b, off + k * sz + i, none⟩ = some (cs[i]?.getD undef))

def Steady {α : Type} (R : World → α → List Value → Prop) : Prop := ∀ w w' a cs, Below w.heap.size w w' → R w a cs → R w' a cs

theorem Recs.below {α : Type} {sz : Nat} {R : World → α → List Value → Prop} (hR : Steady R) {v : Value} {l : List α} (h : Recs w sz R v l) (hb : Below w.heap.size w w') : Recs w' sz R v l := by
  rcases h with h | ⟨hp, b, off, cap, e, hl, hlt, h⟩
  · exact .inl h
  · refine .inr ⟨hp, b, off, cap, e, hl, Nat.lt_of_lt_of_le hlt hb.size, fun k hk => ?_⟩
    obtain ⟨cs, h1, h2, h3⟩ := h k hk
    exact ⟨cs, h1, hR w w' _ _ hb h2, fun i hi => (hb.cell hlt).trans (h3 i hi)⟩
theorem Recs.slice {α : Type} {sz : Nat} {R : World → α → List Value → Prop} {v : Value} {l : List α} (h : Recs w sz R v l) : ∃ ao cap, v = .slice ao l.length cap := by
  rcases h with ⟨rfl, ao, cap, rfl⟩ | ⟨_, b, off, cap, rfl, _⟩
  · exact ⟨_, _, rfl⟩
  · exact ⟨_, _, rfl⟩
theorem Recs.len {α : Type} {sz : Nat} {R : World → α → List Value → Prop} {ao : Option Addr} {n cap : Nat} {l : List α} (h : Recs w sz R (.slice ao n cap) l) : n = l.length := by
  obtain ⟨ao', cap', e⟩ := h.slice
  cases e; rfl
theorem Recs.at {α : Type} {sz : Nat} {R : World → α → List Value → Prop} {ao : Option Addr} {n cap : Nat} {l : List α} (h : Recs w sz R (.slice ao n cap) l) (hp : 0 < l.length) :
    ∃ b off, ao = some ⟨b, off, none⟩ ∧ l.length ≤ cap ∧ b < w.heap.size ∧ ∀ k (hk : k < l.length), ∃ cs, cs.length = sz ∧ R w l[k] cs ∧ ∀ i, i < sz → w.cell? ⟨b, off + k * sz + i, none⟩ = some (cs[i]?.getD undef) := by
  rcases h with ⟨rfl, _⟩ | ⟨_, b, off, cap', e, hl, hlt, h⟩
  · simp at hp
  · cases e
    exact ⟨b, off, rfl, hl, hlt, h⟩

def ActorR (w : World) (a : GActor) (cs : List Value) : Prop := ∃ x, cs = [.string a.name, .int .u8 a.tag, x] ∧ Has w x (ivs a.params)
def EdgeR (w : World) (e : GEdge) (cs : List Value) : Prop := ∃ x, cs = [.int .i64 e.src, .int .i64 e.sport, .int .i64 e.dst, .int .i64 e.dport, x] ∧ Has w x (ivs e.start)
def PortR (_ : World) (p : GPort) (cs : List Value) : Prop := cs = [.string p.name, .int .i64 p.actor, .int .i64 p.port]
def RegionR (_ : World) (r : GRegion) (cs : List Value) : Prop := cs = [.int .i64 r.base, .int .i64 r.size]

theorem actor_steady : Steady ActorR := fun _ _ _ _ hb ⟨x, h1, h2⟩ => ⟨x, h1, h2.below hb⟩
theorem edge_steady : Steady EdgeR := fun _ _ _ _ hb ⟨x, h1, h2⟩ => ⟨x, h1, h2.below hb⟩
theorem port_steady : Steady PortR := fun _ _ _ _ _ h => h
theorem region_steady : Steady RegionR := fun _ _ _ _ _ h => h

structure HasGraph (w : World) (v : Value) (g : GGraph) : Prop where
  shape : ∃ va ve vi vo, v = .agg #[.string g.name, va, ve, vi, vo] ∧ Recs w 3 ActorR va g.actors ∧ Recs w 5 EdgeR ve g.edges ∧ Recs w 3 PortR vi g.ins ∧ Recs w 3 PortR vo g.outs
theorem HasGraph.below {v : Value} {g : GGraph} (h : HasGraph w v g) (hb : Below w.heap.size w w') : HasGraph w' v g := by
  obtain ⟨va, ve, vi, vo, h0, h1, h2, h3, h4⟩ := h.shape
  exact ⟨va, ve, vi, vo, h0, h1.below actor_steady hb, h2.below edge_steady hb, h3.below port_steady hb, h4.below port_steady hb⟩
def HasPlan (w : World) (v : Value) (p : GPlan) : Prop := ∃ vr, v = .agg #[vr, .int .i64 p.total] ∧ Recs w 2 RegionR vr p.regions
theorem HasPlan.below {v : Value} {p : GPlan} (h : HasPlan w v p) (hb : Below w.heap.size w w') : HasPlan w' v p := by
  obtain ⟨vr, h0, h1⟩ := h
  exact ⟨vr, h0, h1.below region_steady hb⟩

/-- a nest, no deeper than d -/
def HasNestD : Nat → World → Value → Nest → Prop
  | 0, _, v, l => l = .nil ∧ ∃ ao cap, v = .slice ao 0 cap
  | d + 1, w, v, l => Recs w 3 (fun w x cs => ∃ y, cs = [.int .i64 x.1, .int .i64 x.2.1, y] ∧ HasNestD d w y x.2.2) v l.items
theorem nestD_below : ∀ (d : Nat) {w w' : World} {v : Value} {l : Nest}, HasNestD d w v l → Below w.heap.size w w' → HasNestD d w' v l
  | 0, _, _, _, _, h, _ => h
  | d + 1, _, _, _, _, h, hb => Recs.below (fun _ _ _ _ hb ⟨y, h1, h2⟩ => ⟨y, h1, nestD_below d h2 hb⟩) h hb
theorem nestD_slice : ∀ (d : Nat) {w : World} {v : Value} {l : Nest}, HasNestD d w v l → ∃ ao cap, v = .slice ao l.items.length cap
  | 0, _, _, _, ⟨h, ao, cap, e⟩ => ⟨ao, cap, by rw [h]; exact e⟩
  | _ + 1, _, _, _, h => Recs.slice h
end
end Go.Proofs.Ytbmbfifempkhgaa
