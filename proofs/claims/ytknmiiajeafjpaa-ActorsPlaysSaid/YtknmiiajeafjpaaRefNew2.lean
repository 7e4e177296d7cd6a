/- The reference's New, where the parameters may be. -/
import Derived.Test.YtknmiiajeafjpaaRefNew
namespace Go.Proofs.Ytknmiiajeafjpaa
open Go.RowKit

/-- what the reference's 'New' answers -/
def RefNew (w : World) (t : Int) (ps : List Int) (e : Ending) (w' : World) : Prop :=
  ∃ vp vi vo vk, e = .returned (.tuple #[.agg #[.int .u8 t, vp, vi, vo, vk, .int .i64 0], .int .i64 0]) ∧ w'.ownsRow w.heap.size 3 1 vp ps.length (ivs ps) ∧ w'.ownsRow w.heap.size 3 1 vi (insP t ps).length (ivs (insP t ps)) ∧
    w'.ownsRow w.heap.size 3 1 vo (outsP t ps).length (ivs (outsP t ps)) ∧ w'.ownsRow w.heap.size 3 1 vk (keep0 t ps).length (ivs (keep0 t ps)) ∧ Below w.heap.size w w'


/-- six cells of a block that nobody else holds -/
def six (w : World) (g : Nat) (a b c d e f : Value) : World := (((((w.setCell ⟨g, 0, none⟩ a).setCell ⟨g, 1, none⟩ b).setCell ⟨g, 2, none⟩ c).setCell ⟨g, 3, none⟩ d).setCell ⟨g, 4, none⟩ e).setCell ⟨g, 5, none⟩ f
theorem six_mods {w0 w : World} {g : Nat} {a b c d e f : Value} {F : Nat → Prop} (h : Mods F w0 w) (hg : F g) : Mods F w0 (six w g a b c d e f) :=
  (((((h.setCell (p := ⟨g, 0, none⟩) (fun _ => hg) a).setCell (p := ⟨g, 1, none⟩) (fun _ => hg) b).setCell (p := ⟨g, 2, none⟩) (fun _ => hg) c).setCell (p := ⟨g, 3, none⟩) (fun _ => hg) d).setCell (p := ⟨g, 4, none⟩) (fun _ => hg) e).setCell (p := ⟨g, 5, none⟩) (fun _ => hg) f

theorem refnew_fin {w w1 w2 W : World} {t : Int} {ps : List Int} {vi vo vp vk : Value} {a b c d e f : Value} (sw : w.heap.size + 1 ≤ w1.heap.size) (hb : Below w.heap.size w w1) (hb2 : Below w1.heap.size w1 w2) (hW : Below w2.heap.size w2 W)
    (o1 : w1.ownsRow (w.heap.size + 1) 3 1 vi (insP t ps).length (ivs (insP t ps))) (o2 : w1.ownsRow (w.heap.size + 1) 3 1 vo (outsP t ps).length (ivs (outsP t ps)))
    (o3 : w2.ownsRow w1.heap.size 3 1 vp ps.length (ivs ps)) (o4 : W.ownsRow w2.heap.size 3 1 vk (keep0 t ps).length (ivs (keep0 t ps))) :
    RefNew w t ps (.returned (.tuple #[.agg #[.int .u8 t, vp, vi, vo, vk, .int .i64 0], .int .i64 0])) (six W w.heap.size a b c d e f) := by
  have s2 := hb2.size
  have M1 : Mods (fun k => k = w.heap.size) w1 (six W w.heap.size a b c d e f) := six_mods (Mods.of_below (hb2.trans (hW.mono s2)) _) rfl
  have M2 : Mods (fun k => k = w.heap.size) w2 (six W w.heap.size a b c d e f) := six_mods (Mods.of_below hW _) rfl
  have M3 : Mods (fun k => k = w.heap.size) W (six W w.heap.size a b c d e f) := six_mods (Mods.refl _ _) rfl
  have M0 : Mods (fun k => k = w.heap.size) w (six W w.heap.size a b c d e f) := six_mods (Mods.of_below (hb.trans ((hb2.trans (hW.mono s2)).mono hb.size)) _) rfl
  exact ⟨vp, vi, vo, vk, rfl, owns_base (owns_kept o3 M2 (fun k hk e => by have := (o3.lt k hk).1; omega)) (fun k hk => by have := (o3.lt k hk).1; omega),
    owns_base (owns_kept o1 M1 (fun k hk e => by have := (o1.lt k hk).1; omega)) (fun k hk => by have := (o1.lt k hk).1; omega),
    owns_base (owns_kept o2 M1 (fun k hk e => by have := (o2.lt k hk).1; omega)) (fun k hk => by have := (o2.lt k hk).1; omega),
    owns_base (owns_kept o4 M3 (fun k hk e => by have := (o4.lt k hk).1; omega)) (fun k hk => by have := (o4.lt k hk).1; omega),
    M0.below (Nat.le_refl _) (fun k hk e => by omega)⟩

set_option maxRecDepth 100000 in
set_option maxHeartbeats 1000000 in
theorem rnew_else {o : Col} {c : Nat} (w : World) (t : Int) (ao : Option Addr) (n cap : Nat) (ps : List Int) (hg : goodP t ps) (h : Ints w o c (.slice ao n cap) ps) (t1 : ¬ t = 1) (t8 : ¬ t = 8) (t10 : ¬ t = 10) : Calls Try.prog 23 #[.int .u8 t, .slice ao n cap] w (RefNew w t ps) := by
  have HH := Lib.hid h
  have HG := Lib.hid hg
  have hl : ps.length ≤ 64 := by
    unfold goodP oneP pairP at hg
    omega
  clear h hg
  go_enter Try.func23, Try.ntmps23
  go_wp2_with fail
  refine (rof_ok _ t ao n cap ps HG.out (HH.out.has.below (below_alloc w _))).mono ?_
  rintro e w1 ⟨vi, vo, rfl, o1, o2, hb1⟩
  have hB := heap_alloc_new w (.cells #[.int .u8 0, .slice none 0 0, .slice none 0 0, .slice none 0 0, .slice none 0 0, .int .i64 0] 48)
  have hB1 := block_mods hB (Mods.of_below hb1 (fun _ => False)) (fun h => h)
  have hb : Below w.heap.size w w1 := (below_alloc w _).trans (hb1.mono (by simp))
  have HH1 := Lib.hid (HH.out.has.below hb)
  obtain ⟨ai, ci, rfl⟩ := owns_slice o1
  obtain ⟨a2, c2, rfl⟩ := owns_slice o2
  rw [World.size_alloc] at o1 o2
  have O1 := Lib.hid o1
  have O2 := Lib.hid o2
  have HB1 := Lib.hid hB1
  clear o1 o2 hB hB1
  go_wp2_with fail
  refine (rints_any _ ao n cap ps HH1.out (by omega)).mono ?_
  rintro e w2 ⟨vp, rfl, o3, hb2⟩
  obtain ⟨a3, c3, rfl⟩ := owns_slice o3
  have O3 := Lib.hid o3
  clear o3
  have HB2 := Lib.hid (block_mods HB1.out (Mods.of_below hb2 (fun _ => False)) (fun h => h))
  have hB3 := block_alloc HB2.out (.cells #[.int .u8 t, .slice a3 ps.length c3, .slice ai (insP t ps).length ci, .slice a2 (outsP t ps).length c2, .slice none 0 0, .int .i64 0] 48)
  have q0 := cells_row _ _ hB3 0 _ rfl
  have q1 := cells_row _ _ hB3 1 _ rfl
  have q2 := cells_row _ _ hB3 2 _ rfl
  have q3 := cells_row _ _ hB3 3 _ rfl
  have q4 := cells_row _ _ hB3 4 _ rfl
  have q5 := cells_row _ _ hB3 5 _ rfl
  have r0 := frozen_of_block hB3 0
  have r1 := frozen_of_block hB3 1
  have r2 := frozen_of_block hB3 2
  have r3 := frozen_of_block hB3 3
  have r4 := frozen_of_block hB3 4
  have r5 := frozen_of_block hB3 5
  have HB3 := Lib.hid hB3
  clear hB3
  go_wp2
  have hK := block_setCell (block_setCell (block_setCell (block_setCell (block_setCell (block_setCell HB3.out 0 (.int .u8 t)) 1 (.slice a3 ps.length c3)) 2 (.slice ai (insP t ps).length ci)) 3 (.slice a2 (outsP t ps).length c2)) 4 (.slice none 0 0)) 5 (.int .i64 0)
  refine bodyPost_ret_by (results_row_tmp rfl _ _ _ _ _ _ _ rfl hK Try.underlying48 rfl (by kernel_rfl)) rfl ?_
  have s1 := hb1.size
  have s2 := hb2.size
  have sw : w.heap.size + 1 ≤ w1.heap.size := by simpa using s1
  have hbw2 : Below w.heap.size w w2 := hb.trans (hb2.mono hb.size)
  exact refnew_fin sw hb hb2 (below_alloc w2 _) O1.out O2.out O3.out (by rw [show keep0 t ps = [] by unfold keep0; rw [if_neg t1, if_neg t8, if_neg t10]]; exact World.ownsRow_nil _ _ _ _)

set_option maxRecDepth 100000 in
set_option maxHeartbeats 1000000 in
theorem rnew_8 {o : Col} {c : Nat} (w : World) (ao : Option Addr) (n cap : Nat) (ps : List Int) (hg : goodP 8 ps) (h : Ints w o c (.slice ao n cap) ps) : Calls Try.prog 23 #[.int .u8 8, .slice ao n cap] w (RefNew w 8 ps) := by
  have HH := Lib.hid h
  have HG := Lib.hid hg
  have hl : ps.length ≤ 64 := by
    simp [goodP] at hg; simp [hg]
  clear h hg
  go_enter Try.func23, Try.ntmps23
  go_wp2_with fail
  refine (rof_ok _ 8 ao n cap ps HG.out (HH.out.has.below (below_alloc w _))).mono ?_
  rintro e w1 ⟨vi, vo, rfl, o1, o2, hb1⟩
  have hB := heap_alloc_new w (.cells #[.int .u8 0, .slice none 0 0, .slice none 0 0, .slice none 0 0, .slice none 0 0, .int .i64 0] 48)
  have hB1 := block_mods hB (Mods.of_below hb1 (fun _ => False)) (fun h => h)
  have hb : Below w.heap.size w w1 := (below_alloc w _).trans (hb1.mono (by simp))
  have HH1 := Lib.hid (HH.out.has.below hb)
  obtain ⟨ai, ci, rfl⟩ := owns_slice o1
  obtain ⟨a2, c2, rfl⟩ := owns_slice o2
  rw [World.size_alloc] at o1 o2
  have O1 := Lib.hid o1
  have O2 := Lib.hid o2
  have HB1 := Lib.hid hB1
  clear o1 o2 hB hB1
  go_wp2_with fail
  refine (rints_any _ ao n cap ps HH1.out (by omega)).mono ?_
  rintro e w2 ⟨vp, rfl, o3, hb2⟩
  obtain ⟨a3, c3, rfl⟩ := owns_slice o3
  have O3 := Lib.hid o3
  clear o3
  have HB2 := Lib.hid (block_mods HB1.out (Mods.of_below hb2 (fun _ => False)) (fun h => h))
  have hB3 := block_alloc (block_alloc HB2.out (.cells #[.int .u8 8, .slice a3 ps.length c3, .slice ai (insP 8 ps).length ci, .slice a2 (outsP 8 ps).length c2, .slice (some ⟨w2.heap.size + 1, 0, none⟩) 1 1, .int .i64 0] 48)) (.cells #[.int .i64 0] 3)
  have q0 := cells_row _ _ hB3 0 _ rfl
  have q1 := cells_row _ _ hB3 1 _ rfl
  have q2 := cells_row _ _ hB3 2 _ rfl
  have q3 := cells_row _ _ hB3 3 _ rfl
  have q4 := cells_row _ _ hB3 4 _ rfl
  have q5 := cells_row _ _ hB3 5 _ rfl
  have r0 := frozen_of_block hB3 0
  have r1 := frozen_of_block hB3 1
  have r2 := frozen_of_block hB3 2
  have r3 := frozen_of_block hB3 3
  have r4 := frozen_of_block hB3 4
  have r5 := frozen_of_block hB3 5
  have HB3 := Lib.hid hB3
  clear hB3
  go_wp2
  have hK := block_setCell (block_setCell (block_setCell (block_setCell (block_setCell (block_setCell HB3.out 0 (.int .u8 8)) 1 (.slice a3 ps.length c3)) 2 (.slice ai (insP 8 ps).length ci)) 3 (.slice a2 (outsP 8 ps).length c2)) 4 (.slice (some ⟨w2.heap.size + 1, 0, none⟩) 1 1)) 5 (.int .i64 0)
  refine bodyPost_ret_by (results_row_tmp rfl _ _ _ _ _ _ _ rfl hK Try.underlying48 rfl (by kernel_rfl)) rfl ?_
  have s1 := hb1.size
  have s2 := hb2.size
  have sw : w.heap.size + 1 ≤ w1.heap.size := by simpa using s1
  have hlit := owns_base (owns_lit (w2.alloc (.cells #[.int .u8 8, .slice a3 ps.length c3, .slice ai (insP 8 ps).length ci, .slice a2 (outsP 8 ps).length c2, .slice (some ⟨w2.heap.size + 1, 0, none⟩) 1 1, .int .i64 0] 48)) [0] (by simp)) (base' := w2.heap.size) (fun k hk => by have e := Option.some.inj hk; simp at e; omega)
  rw [World.size_alloc] at hlit
  exact refnew_fin sw hb hb2 ((below_alloc w2 _).alloc (by simp) _) O1.out O2.out O3.out hlit

set_option maxRecDepth 100000 in
set_option maxHeartbeats 1000000 in
theorem rnew_10 {o : Col} {c : Nat} (w : World) (ao : Option Addr) (n cap : Nat) (ps : List Int) (hg : goodP 10 ps) (h : Ints w o c (.slice ao n cap) ps) : Calls Try.prog 23 #[.int .u8 10, .slice ao n cap] w (RefNew w 10 ps) := by
  have hl2 : ps.length = 2 := by simpa [goodP] using hg
  have hl : ps.length ≤ 64 := by omega
  have hpi : (0 : Int) < ps.length := by omega
  obtain rfl := h.len
  obtain ⟨b, off, rfl, -, hcap, -, -, hc⟩ := h.at (by omega)
  have c0 := hc 0 (by omega)
  have hcapi : (ps.length : Int) ≤ cap := by omega
  rw [Nat.add_zero] at c0
  have hk0 : keep0 10 ps = [ps[0]?.getD 0] := rfl
  generalize ps[0]?.getD 0 = x at *
  have HK0 := Lib.hid hk0
  have HG := Lib.hid hg
  have HH := Lib.hid h
  clear hc h hg hk0 hl2
  go_enter Try.func23, Try.ntmps23
  go_wp2_with fail
  refine (rof_ok _ 10 _ _ _ ps HG.out (HH.out.has.below (below_alloc w _))).mono ?_
  rintro e w1 ⟨vi, vo, rfl, o1, o2, hb1⟩
  have hB := heap_alloc_new w (.cells #[.int .u8 0, .slice none 0 0, .slice none 0 0, .slice none 0 0, .slice none 0 0, .int .i64 0] 48)
  have hB1 := block_mods hB (Mods.of_below hb1 (fun _ => False)) (fun h => h)
  have hb : Below w.heap.size w w1 := (below_alloc w _).trans (hb1.mono (by simp))
  have HH1 := Lib.hid (HH.out.has.below hb)
  obtain ⟨ai, ci, rfl⟩ := owns_slice o1
  obtain ⟨a2, c2, rfl⟩ := owns_slice o2
  rw [World.size_alloc] at o1 o2
  have O1 := Lib.hid o1
  have O2 := Lib.hid o2
  have HB1 := Lib.hid hB1
  clear o1 o2 hB hB1
  go_wp2_with fail
  refine (rints_any _ _ _ _ ps HH1.out (by omega)).mono ?_
  rintro e w2 ⟨vp, rfl, o3, hb2⟩
  obtain ⟨a3, c3, rfl⟩ := owns_slice o3
  have O3 := Lib.hid o3
  clear o3
  have HB2 := Lib.hid (block_mods HB1.out (Mods.of_below hb2 (fun _ => False)) (fun h => h))
  have c2x := cell_later hb2 (cell_later hb c0)
  have c3x := ca (o := .cells #[.int .u8 10, .slice a3 ps.length c3, .slice ai (insP 10 ps).length ci, .slice a2 (outsP 10 ps).length c2, .slice none 0 0, .int .i64 0] 48) c2x
  have hB3 := block_alloc (block_alloc HB2.out (.cells #[.int .u8 10, .slice a3 ps.length c3, .slice ai (insP 10 ps).length ci, .slice a2 (outsP 10 ps).length c2, .slice (some ⟨w2.heap.size + 1, 0, none⟩) 1 1, .int .i64 0] 48)) (.cells #[.int .i64 x] 3)
  have q0 := cells_row _ _ hB3 0 _ rfl
  have q1 := cells_row _ _ hB3 1 _ rfl
  have q2 := cells_row _ _ hB3 2 _ rfl
  have q3 := cells_row _ _ hB3 3 _ rfl
  have q4 := cells_row _ _ hB3 4 _ rfl
  have q5 := cells_row _ _ hB3 5 _ rfl
  have r0 := frozen_of_block hB3 0
  have r1 := frozen_of_block hB3 1
  have r2 := frozen_of_block hB3 2
  have r3 := frozen_of_block hB3 3
  have r4 := frozen_of_block hB3 4
  have r5 := frozen_of_block hB3 5
  have HB3 := Lib.hid hB3
  clear hB3
  go_wp2
  have hK := block_setCell (block_setCell (block_setCell (block_setCell (block_setCell (block_setCell HB3.out 0 (.int .u8 10)) 1 (.slice a3 ps.length c3)) 2 (.slice ai (insP 10 ps).length ci)) 3 (.slice a2 (outsP 10 ps).length c2)) 4 (.slice (some ⟨w2.heap.size + 1, 0, none⟩) 1 1)) 5 (.int .i64 0)
  refine bodyPost_ret_by (results_row_tmp rfl _ _ _ _ _ _ _ rfl hK Try.underlying48 rfl (by kernel_rfl)) rfl ?_
  have s1 := hb1.size
  have s2 := hb2.size
  have sw : w.heap.size + 1 ≤ w1.heap.size := by simpa using s1
  have hlit := owns_base (owns_lit (w2.alloc (.cells #[.int .u8 10, .slice a3 ps.length c3, .slice ai (insP 10 ps).length ci, .slice a2 (outsP 10 ps).length c2, .slice (some ⟨w2.heap.size + 1, 0, none⟩) 1 1, .int .i64 0] 48)) [x] (by simp)) (base' := w2.heap.size) (fun k hk => by have e := Option.some.inj hk; simp at e; omega)
  rw [World.size_alloc] at hlit
  exact refnew_fin sw hb hb2 ((below_alloc w2 _).alloc (by simp) _) O1.out O2.out O3.out (by rw [HK0.out]; exact hlit)

end Go.Proofs.Ytknmiiajeafjpaa
