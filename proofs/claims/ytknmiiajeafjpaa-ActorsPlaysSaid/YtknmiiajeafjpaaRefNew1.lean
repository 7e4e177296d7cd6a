/- The reference's New of a filter. -/
import Derived.Test.YtknmiiajeafjpaaRefNew2
namespace Go.Proofs.Ytknmiiajeafjpaa
open Go.RowKit


set_option maxRecDepth 100000 in
set_option maxHeartbeats 1000000 in
theorem rnew_1 {o : Col} {c : Nat} (w : World) (ao : Option Addr) (n cap : Nat) (ps : List Int) (hg : goodP 1 ps) (h : Ints w o c (.slice ao n cap) ps) : Calls Try.prog 23 #[.int .u8 1, .slice ao n cap] w (RefNew w 1 ps) := by
  have hl2 : 1 ≤ ps.length ∧ ps.length ≤ 16 := by simpa [goodP] using hg
  obtain ⟨i0, hi, hz0, hz1, hz2⟩ := info_parts info_int
  have hl : ps.length ≤ 64 := by omega
  have hpi : (1 : Int) ≤ ps.length := by omega
  have hpi2 : (ps.length : Int) ≤ 16 := by omega
  obtain rfl := h.len
  have HG := Lib.hid hg
  have HH := Lib.hid h
  clear h hg
  go_enter Try.func23, Try.ntmps23
  go_wp2_with fail
  refine (rof_ok _ 1 ao _ cap ps HG.out (HH.out.has.below (below_alloc w _))).mono ?_
  rintro e w1 ⟨vi, vo, rfl, o1, o2, hb1⟩
  have hB := heap_alloc_new w (.cells #[.int .u8 0, .slice none 0 0, .slice none 0 0, .slice none 0 0, .slice none 0 0, .int .i64 0] 48)
  have hB1 := block_mods hB (Mods.of_below hb1 (fun _ => False)) (fun h => h)
  have hb : Below w.heap.size w w1 := (below_alloc w _).trans (hb1.mono (by simp))
  have HH1 := Lib.hid (HH.out.has.below hb)
  obtain ⟨ai, ci, rfl⟩ := owns_slice o1
  obtain ⟨a2, c2, rfl⟩ := owns_slice o2
  rw [World.size_alloc] at o1 o2
  have O1 := Lib.hid o1
  have O2 := Lib.hid o2
  have HB1 := Lib.hid hB1
  clear o1 o2 hB hB1
  go_wp2_with fail
  refine (rints_any _ ao _ cap ps HH1.out (by omega)).mono ?_
  rintro e w2 ⟨vp, rfl, o3, hb2⟩
  obtain ⟨a3, c3, rfl⟩ := owns_slice o3
  have O3 := Lib.hid o3
  clear o3
  have HB2 := Lib.hid (block_mods HB1.out (Mods.of_below hb2 (fun _ => False)) (fun h => h))
  obtain ⟨w3, hr, hown, hg⟩ := run_make_full (P := Try.prog) (w2.alloc (.cells #[.int .u8 1, .slice a3 ps.length c3, .slice ai (insP 1 ps).length ci, .slice a2 (outsP 1 ps).length c2, .slice none 0 0, .int .i64 0] 48)) (w2.alloc (.cells #[.int .u8 1, .slice a3 ps.length c3, .slice ai (insP 1 ps).length ci, .slice a2 (outsP 1 ps).length c2, .slice none 0 0, .int .i64 0] 48)).heap.size 22 3 i0 _ 1 Try.underlying22 hi hz0 hz1 .i64 .i64 (ps.length - 1) (by rw [hz2]; omega) (by unfold maxLen; omega) (Nat.le_refl _)
  rw [show ((ps.length - 1 : Nat) : Int) = (ps.length : Int) - 1 by omega] at hr
  rw [made_ints] at hown
  have hb3 : Below (w2.alloc (.cells #[.int .u8 1, .slice a3 ps.length c3, .slice ai (insP 1 ps).length ci, .slice a2 (outsP 1 ps).length c2, .slice none 0 0, .int .i64 0] 48)).heap.size (w2.alloc (.cells #[.int .u8 1, .slice a3 ps.length c3, .slice ai (insP 1 ps).length ci, .slice a2 (outsP 1 ps).length c2, .slice none 0 0, .int .i64 0] 48)) w3 := ((Mods.refl (fun _ => False) _).grown hg (fun k hk _ => by cases hk)).below (Nat.le_refl _) (fun _ _ h => h)
  have hBa := block_mods (heap_alloc_new w2 (.cells #[.int .u8 1, .slice a3 ps.length c3, .slice ai (insP 1 ps).length ci, .slice a2 (outsP 1 ps).length c2, .slice none 0 0, .int .i64 0] 48)) (Mods.of_below hb3 (fun _ => False)) (fun h => h)
  have hBw := block_mods (block_alloc HB2.out (.cells #[.int .u8 1, .slice a3 ps.length c3, .slice ai (insP 1 ps).length ci, .slice a2 (outsP 1 ps).length c2, .slice none 0 0, .int .i64 0] 48)) (Mods.of_below hb3 (fun _ => False)) (fun h => h)
  have sw3 : w2.heap.size < w3.heap.size := by have := hb3.size; simp at this; omega
  have s1 := hb1.size
  have s2 := hb2.size
  have sw : w.heap.size + 1 ≤ w1.heap.size := by simpa using s1
  have qa4 := cells_row _ _ hBa 4 _ rfl
  have ra4 := frozen_of_block hBa 4
  have hBs := block_setCell hBa 4 (.slice (some ⟨w2.heap.size + 1, 0, none⟩) (ps.length - 1) (ps.length - 1))
  have qs0 := cells_row _ _ hBs 0 _ rfl
  have qs1 := cells_row _ _ hBs 1 _ rfl
  have qs2 := cells_row _ _ hBs 2 _ rfl
  have qs3 := cells_row _ _ hBs 3 _ rfl
  have qs4 := cells_row _ _ hBs 4 _ rfl
  have qs5 := cells_row _ _ hBs 5 _ rfl
  have hB3 := block_setCell_ne (a := ⟨w2.heap.size, 4, none⟩) hBw (show w.heap.size ≠ w2.heap.size by omega) (.slice (some ⟨w2.heap.size + 1, 0, none⟩) (ps.length - 1) (ps.length - 1))
  have q0 := cells_row _ _ hB3 0 _ rfl
  have q1 := cells_row _ _ hB3 1 _ rfl
  have q2 := cells_row _ _ hB3 2 _ rfl
  have q3 := cells_row _ _ hB3 3 _ rfl
  have q4 := cells_row _ _ hB3 4 _ rfl
  have q5 := cells_row _ _ hB3 5 _ rfl
  have r0 := frozen_of_block hB3 0
  have r1 := frozen_of_block hB3 1
  have r2 := frozen_of_block hB3 2
  have r3 := frozen_of_block hB3 3
  have r4 := frozen_of_block hB3 4
  have r5 := frozen_of_block hB3 5
  have HB3 := Lib.hid hB3
  have HOWN := Lib.hid hown
  have HB3b := Lib.hid hb3
  clear hB3 hown hb3 hg hBs hBw hBa
  go_wp2_with fail
  have hK := block_setCell (block_setCell (block_setCell (block_setCell (block_setCell (block_setCell HB3.out 0 (.int .u8 1)) 1 (.slice a3 ps.length c3)) 2 (.slice ai (insP 1 ps).length ci)) 3 (.slice a2 (outsP 1 ps).length c2)) 4 (.slice (some ⟨w2.heap.size + 1, 0, none⟩) (ps.length - 1) (ps.length - 1))) 5 (.int .i64 0)
  refine bodyPost_ret_by (results_row_tmp rfl _ _ _ _ _ _ _ rfl hK Try.underlying48 rfl (by kernel_rfl)) rfl ?_
  have hW : Below w2.heap.size w2 (w3.setCell ⟨w2.heap.size, 4, none⟩ (.slice (some ⟨w2.heap.size + 1, 0, none⟩) (ps.length - 1) (ps.length - 1))) := ((below_alloc w2 _).trans (HB3b.out.mono (by simp))).setCell (Nat.le_refl _) _
  have hrow : (w3.setCell ⟨w2.heap.size, 4, none⟩ (.slice (some ⟨w2.heap.size + 1, 0, none⟩) (ps.length - 1) (ps.length - 1))).ownsRow w2.heap.size 3 1 (.slice (some ⟨w2.heap.size + 1, 0, none⟩) (ps.length - 1) (ps.length - 1)) (ps.length - 1) (ivs (List.replicate (ps.length - 1) 0)) := by
    have h1 := HOWN.out
    rw [World.size_alloc] at h1
    refine owns_base (owns_kept h1 ((Mods.refl (fun k => k = w2.heap.size) w3).setCell (p := ⟨w2.heap.size, 4, none⟩) (fun _ => rfl) _) (fun k hk e => by have := (h1.lt k hk).1; omega)) (fun k hk => by have := (h1.lt k hk).1; omega)
  have hk0 : keep0 1 ps = List.replicate (ps.length - 1) 0 := rfl
  exact refnew_fin sw hb hb2 hW O1.out O2.out O3.out (by rw [hk0, List.length_replicate]; exact hrow)

theorem rnew_ok {o : Col} {c : Nat} (w : World) (t : Int) (ao : Option Addr) (n cap : Nat) (ps : List Int) (hg : goodP t ps) (h : Ints w o c (.slice ao n cap) ps) : Calls Try.prog 23 #[.int .u8 t, .slice ao n cap] w (RefNew w t ps) := by
  by_cases t1 : t = 1
  · subst t1; exact rnew_1 w ao n cap ps hg h
  by_cases t8 : t = 8
  · subst t8; exact rnew_8 w ao n cap ps hg h
  by_cases t10 : t = 10
  · subst t10; exact rnew_10 w ao n cap ps hg h
  exact rnew_else w t ao n cap ps hg h t1 t8 t10
end Go.Proofs.Ytknmiiajeafjpaa
