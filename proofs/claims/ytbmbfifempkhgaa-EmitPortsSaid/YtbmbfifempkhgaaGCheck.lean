/- graph.Check. -/
import Derived.Test.YtbmbfifempkhgaaGFind2
namespace Go.Proofs.Ytbmbfifempkhgaa
open Go.RowKit

/-- the bounds that every text and list keeps -/
def GSized (g : GGraph) : Prop := g.name.size ≤ 4611686018427387904 ∧ (∀ p ∈ g.actors, p.name.size ≤ 4611686018427387904 ∧ p.params.length ≤ 17600000000000) ∧ (∀ p ∈ g.ins, p.name.size ≤ 4611686018427387904) ∧ ∀ p ∈ g.outs, p.name.size ≤ 4611686018427387904

set_option maxRecDepth 100000 in
theorem gcheck_any (w : World) (v : Value) (g : GGraph) (h : HasGraph w v g) (hs : GSized g) : Calls Try.prog 39 #[v] w (Tells (.int .i64 (checkE g)) w) := by
  obtain ⟨va, ve, vi, vo, rfl, _⟩ := h.shape
  have hbG := below_alloc w (.cells #[.string g.name, va, ve, vi, vo] 26)
  have hG := heap_alloc_new w (.cells #[.string g.name, va, ve, vi, vo] 26)
  have q0 := cells_row _ _ hG 0 _ rfl
  have q1 := cells_row _ _ hG 1 _ rfl
  have q2 := cells_row _ _ hG 2 _ rfl
  have q3 := cells_row _ _ hG 3 _ rfl
  have q4 := cells_row _ _ hG 4 _ rfl
  have HG := Lib.hid (h.below hbG)
  have HB := Lib.hid hbG
  have HS := Lib.hid hs
  obtain ⟨E, hE⟩ : ∃ E, checkE g = E := ⟨_, rfl⟩
  rw [hE]
  have HE := Lib.hid hE
  clear h hs hbG hG hE
  go_enter Try.func39, Try.ntmps39
  go_wp2_with fail
  refine (gfind_any _ _ g HG.out HS.out.1 HS.out.2.1 HS.out.2.2.1 HS.out.2.2.2).mono ?_
  rintro e w1 ⟨⟨a, b, c, rfl⟩, hb1⟩
  rw [HE.out]
  have hb : Below w.heap.size w w1 := HB.out.trans (hb1.mono HB.out.size)
  have HBB := Lib.hid (hb.alloc hb.size (.cells #[.int .u8 a, .int .i64 b, .int .i64 c] 140))
  clear hb hb1 q0 q1 q2 q3 q4
  go_wp2
  go_ret
  exact ⟨rfl, HBB.out⟩
end Go.Proofs.Ytbmbfifempkhgaa
