/- The graph's find: what it is before its calls. -/
import Derived.Test.YtbmbfifempkhgaaGHead
import Derived.Test.YtbmbfifempkhgaaGEdges
import Derived.Test.YtbmbfifempkhgaaGPortsO
import Derived.Test.YtbmbfifempkhgaaGActors
import Derived.Test.YtbmbfifempkhgaaGOpen
import Derived.Carry
namespace Go.Proofs.Ytbmbfifempkhgaa
open Go.RowKit

/-- the colours of find's own blocks -/
def findO (N : Nat) : Col := fun k => if k < N then 0 else if k = N + 2 then 2 else if k = N + 3 then 1 else 7
/-- the four blocks that find makes first -/
def findW (w : World) (s : ByteArray) (va ve vi vo : Value) : World :=
  (((w.alloc (.cells #[.string s, va, ve, vi, vo] 26)).alloc (.cells #[.int .u8 0, .int .i64 0, .int .i64 0] 140)).alloc (.map #[] 0)).alloc (.cells #[.string s, va, ve, vi, vo, .map (some (w.heap.size + 2)), .slice none 0 0, .slice none 0 0] 179)

theorem find_start (w : World) (s : ByteArray) (va ve vi vo : Value) :
    Kept w.heap.size (findO w.heap.size) w (findW w s va ve vi vo) ∧ ChkAt (findW w s va ve vi vo) (findO w.heap.size) (w.heap.size + 3) (w.heap.size + 2) ⟨s, va, ve, vi, vo, .slice none 0 0, .slice none 0 0⟩ chk0 ∧
    Blk (findW w s va ve vi vo) (findO w.heap.size) 7 w.heap.size 26 #[.string s, va, ve, vi, vo] ∧ Blk (findW w s va ve vi vo) (findO w.heap.size) 7 (w.heap.size + 1) 140 #[.int .u8 0, .int .i64 0, .int .i64 0] := by
  have h0 := heap_alloc_new w (.cells #[.string s, va, ve, vi, vo] 26)
  have h1 := heap_alloc_new (w.alloc (.cells #[.string s, va, ve, vi, vo] 26)) (.cells #[.int .u8 0, .int .i64 0, .int .i64 0] 140)
  have hm := World.ownsMap_made (H := Unit) ((w.alloc (.cells #[.string s, va, ve, vi, vo] 26)).alloc (.cells #[.int .u8 0, .int .i64 0, .int .i64 0] 140)) Try.prog 9 (plainElem Try.prog 3)
  have h3 := heap_alloc_new (((w.alloc (.cells #[.string s, va, ve, vi, vo] 26)).alloc (.cells #[.int .u8 0, .int .i64 0, .int .i64 0] 140)).alloc (.map #[] 0)) (.cells #[.string s, va, ve, vi, vo, .map (some (w.heap.size + 2)), .slice none 0 0, .slice none 0 0] 179)
  simp only [World.size_alloc] at h1 hm h3
  have hb : Below w.heap.size w (findW w s va ve vi vo) := (((below_alloc w _).alloc (by simp) _).alloc (by simp; omega) _).alloc (by simp; omega) _
  refine ⟨⟨hb, fun k hk => by simp [findO, hk], hb.size⟩, ⟨_, 0, [], [], ⟨h3, by simp [findO]⟩, hm.alloc _, by simp [findO], seen_start, Nat.zero_le _, Side.nil _ _ _ _, Side.nil _ _ _ _⟩, ⟨block_alloc (block_alloc (block_alloc h0 _) _) _, by simp [findO]⟩, ⟨block_alloc (block_alloc h1 _) _, by simp [findO]⟩⟩
end Go.Proofs.Ytbmbfifempkhgaa
