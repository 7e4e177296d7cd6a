/- The reference's New. -/
import Derived.Test.YtknmiiajeafjpaaRef3
import Derived.Laws.ResultCell
import Derived.Laws.Rows
namespace Go.Proofs.Ytknmiiajeafjpaa
open Go.RowKit

def refZero : Value := .agg #[.int .u8 0, .slice none 0 0, .slice none 0 0, .slice none 0 0, .slice none 0 0, .int .i64 0]

theorem results_row_tmp {P : Program} {fn : Func} {p u : Tmp} {ty : TypeId} (h : fn.results = #[.cell p ty, .tmp u]) (tmps : Array Value) (w : World) (g : Nat) (t : TypeId) (cs : Array Value) (fr : Nat × Nat) (d : TypeDesc)
    (hp : tmps.getD p undef = .pointer (some ⟨g, 0, none⟩)) (hg : w.heap[g]? = some (.cells cs t fr))
    (hu : P.underlying ty = some d) (hd : (match d with | .struct _ | .array _ _ => true | _ => false) = true) (hi : (P.info? ty).map (·.size) = some cs.size) :
    (results fn tmps).run P w = .ok (.tuple #[.agg cs, tmps.getD u undef]) w := by
  rw [results_cell_tmp h, hp]
  simp [asAddr, run_loadVar_row w g t ty cs fr d hg hu hd hi, Result.andThen]

set_option maxRecDepth 100000 in
theorem rnew_no {o : Col} {c : Nat} (w : World) (t : Int) (ao : Option Addr) (n cap : Nat) (ps : List Int) (hg : ¬ goodP t ps) (h : Ints w o c (.slice ao n cap) ps) : Calls Try.prog 23 #[.int .u8 t, .slice ao n cap] w fun e w' => e = .returned (.tuple #[refZero, .int .i64 (errP t)]) ∧ Below w.heap.size w w' := by
  have HH := Lib.hid h
  have HG := Lib.hid hg
  clear h hg
  go_enter Try.func23, Try.ntmps23
  go_wp2_with fail
  refine (rof_no _ t ao n cap ps HG.out (HH.out.has.below (below_alloc w _))).mono ?_
  rintro e w1 ⟨rfl, hb1⟩
  have hB := heap_alloc_new w (.cells #[.int .u8 0, .slice none 0 0, .slice none 0 0, .slice none 0 0, .slice none 0 0, .int .i64 0] 48)
  have hB1 := block_mods hB (Mods.of_below hb1 (fun _ => False)) (fun h => h)
  have q0 := cells_row w1 _ hB1 0 _ rfl
  have q1 := cells_row w1 _ hB1 1 _ rfl
  have q2 := cells_row w1 _ hB1 2 _ rfl
  have q3 := cells_row w1 _ hB1 3 _ rfl
  have q4 := cells_row w1 _ hB1 4 _ rfl
  have q5 := cells_row w1 _ hB1 5 _ rfl
  have r0 := frozen_of_block hB1 0
  have r1 := frozen_of_block hB1 1
  have r2 := frozen_of_block hB1 2
  have r3 := frozen_of_block hB1 3
  have r4 := frozen_of_block hB1 4
  have r5 := frozen_of_block hB1 5
  clear hB
  have hx : errP t = 60 ∨ errP t = 61 := by unfold errP; split <;> simp
  have hb : Below w.heap.size w w1 := (below_alloc w _).trans (hb1.mono (by simp))
  rcases hx with hx | hx
  · rw [hx]
    go_wp2
    have hK := block_setCell (block_setCell (block_setCell (block_setCell (block_setCell (block_setCell hB1 0 (.int .u8 0)) 1 (.slice none 0 0)) 2 (.slice none 0 0)) 3 (.slice none 0 0)) 4 (.slice none 0 0)) 5 (.int .i64 0)
    refine bodyPost_ret_by (results_row_tmp rfl _ _ _ _ _ _ _ rfl hK Try.underlying48 rfl (by kernel_rfl)) rfl ?_
    refine ⟨?_, ?_⟩
    · rw [hx]; rfl
    · exact ((((((hb.setCell (by simp) _).setCell (by simp) _).setCell (by simp) _).setCell (by simp) _).setCell (by simp) _).setCell (by simp) _)
  · rw [hx]
    go_wp2
    have hK := block_setCell (block_setCell (block_setCell (block_setCell (block_setCell (block_setCell hB1 0 (.int .u8 0)) 1 (.slice none 0 0)) 2 (.slice none 0 0)) 3 (.slice none 0 0)) 4 (.slice none 0 0)) 5 (.int .i64 0)
    refine bodyPost_ret_by (results_row_tmp rfl _ _ _ _ _ _ _ rfl hK Try.underlying48 rfl (by kernel_rfl)) rfl ?_
    refine ⟨?_, ?_⟩
    · rw [hx]; rfl
    · exact ((((((hb.setCell (by simp) _).setCell (by simp) _).setCell (by simp) _).setCell (by simp) _).setCell (by simp) _).setCell (by simp) _)
end Go.Proofs.Ytknmiiajeafjpaa
