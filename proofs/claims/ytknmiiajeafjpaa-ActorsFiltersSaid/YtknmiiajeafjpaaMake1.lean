/- An actor is made: its kind's block in memory. -/
import Derived.Test.YtknmiiajeafjpaaShapeOf
import Derived.Test.YtknmiiajeafjpaaOuts
import Derived.Test.YtknmiiajeafjpaaReg2
import Derived.Test.YtknmiiajeafjpaaNum
namespace Go.Proofs.Ytknmiiajeafjpaa
open Go.RowKit

/-- the types of the kinds' blocks, of the pointers to them -/
def kS (t : Int) : TypeId := if t = 1 then 86 else if t = 2 then 89 else if t = 3 then 91 else if t = 4 then 93 else if t = 5 then 95 else if t = 6 then 97 else if t = 7 then 99 else if t = 8 then 104 else if t = 9 then 106 else if t = 10 then 109 else 111
def kP (t : Int) : TypeId := if t = 1 then 84 else if t = 2 then 87 else if t = 3 then 90 else if t = 4 then 92 else if t = 5 then 94 else if t = 6 then 96 else if t = 7 then 98 else if t = 8 then 100 else if t = 9 then 105 else if t = 10 then 107 else 110
/-- what a kind's block holds -/
def kcells (t : Int) (vi vo : Value) (n x b : Int) (vt vs : Value) : Array Value :=
  if t = 1 then #[vi, vo, .int .i64 n, vt, vs] else if t = 8 then #[vi, vo, .int .i64 n, .int .i64 x] else if t = 10 then #[vi, vo, .int .i64 n, .int .i64 x, .int .i64 b] else #[vi, vo, .int .i64 n]
/-- what an actor keeps that has not fired -/
def keep0 (t : Int) (ps : List Int) : List Int := if t = 1 then List.replicate (ps.length - 1) 0 else if t = 8 then [0] else if t = 10 then [hd ps] else []

/-- what 'make1' answers -/
def Made (w : World) (t : Int) (vi vo : Value) (ps : List Int) (e : Ending) (w' : World) : Prop :=
  ∃ K vt vs, e = .returned (.iface (kP t) (.pointer (some ⟨K, 0, none⟩))) ∧ w'.heap[K]? = some (.cells (kcells t vi vo 0 (hd (keep0 t ps)) (hd1 ps) vt vs) (kS t) (0, 0)) ∧ w.heap.size ≤ K ∧ Below w.heap.size w w' ∧
    (t = 1 → w'.ownsRow w.heap.size 3 1 vt ps.length (ivs ps) ∧ w'.ownsRow w.heap.size 3 1 vs (keep0 1 ps).length (ivs (keep0 1 ps)) ∧ vt.ownBlock ≠ some K ∧ vs.ownBlock ≠ some K)

theorem made_fin {w w1 : World} {t : Int} {vi vo : Value} {ps : List Int} {cs : Array Value} {e : Ending} {n : Nat} (ht : t ≠ 1) (hcs : kcells t vi vo 0 (hd (keep0 t ps)) (hd1 ps) undef undef = cs) (hn : n = w1.heap.size) (he : e = .returned (.iface (kP t) (.pointer (some ⟨n, 0, none⟩)))) (hb : Below w.heap.size w w1) : Made w t vi vo ps e (w1.alloc (.cells cs (kS t))) := by
  subst hn hcs
  exact ⟨w1.heap.size, undef, undef, he, heap_alloc_new _ _, hb.size, hb.alloc hb.size _, fun h => absurd h ht⟩

theorem made_fin1 {w w1 : World} {vi vo vt vs : Value} {ps : List Int} {e : Ending} {n : Nat} (hn : n = w1.heap.size) (he : e = .returned (.iface (kP 1) (.pointer (some ⟨n, 0, none⟩)))) (hb : Below w.heap.size w w1)
    (h1 : w1.ownsRow w.heap.size 3 1 vt ps.length (ivs ps)) (h2 : w1.ownsRow w.heap.size 3 1 vs (keep0 1 ps).length (ivs (keep0 1 ps))) : Made w 1 vi vo ps e (w1.alloc (.cells #[vi, vo, .int .i64 0, vt, vs] 86)) := by
  subst hn
  exact ⟨w1.heap.size, vt, vs, he, heap_alloc_new _ _, hb.size, hb.alloc hb.size _, fun _ => ⟨h1.alloc _, h2.alloc _, fun e => Nat.lt_irrefl _ (h1.lt _ e).2, fun e => Nat.lt_irrefl _ (h2.lt _ e).2⟩⟩

theorem make_2 (w : World) (vi vo v : Value) (ps : List Int) : Calls Try.prog 32 #[.int .u8 2, .agg #[vi, vo, .int .i64 0], v] w (Made w 2 vi vo ps) := by
  go_enter Try.func32, Try.ntmps32
  go_wp2
  go_ret
  exact made_fin (by decide) rfl (by simp) rfl ((Below.refl _ _).alloc (Nat.le_refl _) _)

theorem make_3 (w : World) (vi vo v : Value) (ps : List Int) : Calls Try.prog 32 #[.int .u8 3, .agg #[vi, vo, .int .i64 0], v] w (Made w 3 vi vo ps) := by
  go_enter Try.func32, Try.ntmps32
  go_wp2
  go_ret
  exact made_fin (by decide) rfl (by simp) rfl ((Below.refl _ _).alloc (Nat.le_refl _) _)

theorem make_4 (w : World) (vi vo v : Value) (ps : List Int) : Calls Try.prog 32 #[.int .u8 4, .agg #[vi, vo, .int .i64 0], v] w (Made w 4 vi vo ps) := by
  go_enter Try.func32, Try.ntmps32
  go_wp2
  go_ret
  exact made_fin (by decide) rfl (by simp) rfl ((Below.refl _ _).alloc (Nat.le_refl _) _)

theorem make_5 (w : World) (vi vo v : Value) (ps : List Int) : Calls Try.prog 32 #[.int .u8 5, .agg #[vi, vo, .int .i64 0], v] w (Made w 5 vi vo ps) := by
  go_enter Try.func32, Try.ntmps32
  go_wp2
  go_ret
  exact made_fin (by decide) rfl (by simp) rfl ((Below.refl _ _).alloc (Nat.le_refl _) _)

theorem make_6 (w : World) (vi vo v : Value) (ps : List Int) : Calls Try.prog 32 #[.int .u8 6, .agg #[vi, vo, .int .i64 0], v] w (Made w 6 vi vo ps) := by
  go_enter Try.func32, Try.ntmps32
  go_wp2
  go_ret
  exact made_fin (by decide) rfl (by simp) rfl ((Below.refl _ _).alloc (Nat.le_refl _) _)

theorem make_7 (w : World) (vi vo v : Value) (ps : List Int) : Calls Try.prog 32 #[.int .u8 7, .agg #[vi, vo, .int .i64 0], v] w (Made w 7 vi vo ps) := by
  go_enter Try.func32, Try.ntmps32
  go_wp2
  go_ret
  exact made_fin (by decide) rfl (by simp) rfl ((Below.refl _ _).alloc (Nat.le_refl _) _)

theorem make_8 (w : World) (vi vo v : Value) (ps : List Int) : Calls Try.prog 32 #[.int .u8 8, .agg #[vi, vo, .int .i64 0], v] w (Made w 8 vi vo ps) := by
  go_enter Try.func32, Try.ntmps32
  go_wp2
  go_ret
  exact made_fin (by decide) rfl (by simp) rfl ((Below.refl _ _).alloc (Nat.le_refl _) _)

theorem make_9 (w : World) (vi vo v : Value) (ps : List Int) : Calls Try.prog 32 #[.int .u8 9, .agg #[vi, vo, .int .i64 0], v] w (Made w 9 vi vo ps) := by
  go_enter Try.func32, Try.ntmps32
  go_wp2
  go_ret
  exact made_fin (by decide) rfl (by simp) rfl ((Below.refl _ _).alloc (Nat.le_refl _) _)

theorem make_11 (w : World) (vi vo v : Value) (ps : List Int) : Calls Try.prog 32 #[.int .u8 11, .agg #[vi, vo, .int .i64 0], v] w (Made w 11 vi vo ps) := by
  go_enter Try.func32, Try.ntmps32
  go_wp2
  go_ret
  exact made_fin (by decide) rfl (by simp) rfl ((Below.refl _ _).alloc (Nat.le_refl _) _)

set_option maxRecDepth 100000 in
set_option maxHeartbeats 1000000 in
theorem make_10 {o : Col} {c : Nat} (w : World) (vi vo : Value) (ao : Option Addr) (cap : Nat) (x y : Int) (h : Ints w o c (.slice ao 2 cap) [x, y]) : Calls Try.prog 32 #[.int .u8 10, .agg #[vi, vo, .int .i64 0], .slice ao 2 cap] w (Made w 10 vi vo [x, y]) := by
  obtain ⟨b, off, rfl, -, hcap, -, -, hc⟩ := h.at (by simp)
  have c0 := hc 0 (by simp)
  have c1 := hc 1 (by simp)
  simp at c0 c1
  clear hc h
  have a0 := ca (o := .cells #[vi, vo, .int .i64 0] 71) c0
  have a1 := ca (o := .cells #[vi, vo, .int .i64 0] 71) c1
  have hB := heap_alloc_new w (.cells #[vi, vo, .int .i64 0] 71)
  have q0 := cells_row _ _ hB 0 vi rfl
  have q1 := cells_row _ _ hB 1 vo rfl
  have q2 := cells_row _ _ hB 2 (.int .i64 0) rfl
  go_enter Try.func32, Try.ntmps32
  go_wp2
  refine wp_region_lex (fun w' => (w'.cell? ⟨w.heap.size, 0, none⟩ = some vi ∧ w'.cell? ⟨w.heap.size, 1, none⟩ = some vo ∧ w'.cell? ⟨w.heap.size, 2, none⟩ = some (.int .i64 0)) ∧ w'.cell? ⟨b, off, none⟩ = some (.int .i64 x) ∧ w'.cell? ⟨b, off + 1, none⟩ = some (.int .i64 y)) [0, 1, 2, 3, 4, 5, 6, 7, 8] [9, 10, 11] (by kernel_rfl) (by kernel_rfl) rfl (fun _ _ hx h => ⟨⟨hx.cell h.1.1, hx.cell h.1.2.1, hx.cell h.1.2.2⟩, hx.cell h.2.1, hx.cell h.2.2⟩) ⟨⟨q0, q1, q2⟩, a0, a1⟩ ?_
  intro Q' hQ'
  simp only [pickOps, List.flatMap_cons, List.flatMap_nil, List.drop_succ_cons, List.drop_zero, List.take_succ_cons, List.take_zero, List.cons_append, List.nil_append, List.append_nil]
  repeat (first
    | (refine wpReads_skip (by rfl) ?_; (try simp only [Act.put, List.setIfInBounds_toArray, List.set_cons_zero, List.set_cons_succ]))
    | (refine wpReads_cons ?_ (by rfl) (by rfl) ?_ ?_; rotate_left; (intro wz hz; (try dsimp only at hz); go_simp; try with_reducible rfl); (try simp only [Act.put, List.setIfInBounds_toArray, List.set_cons_zero, List.set_cons_succ]))
    | (refine wpReads_any ?_ (by rfl) ?_ ?_; rotate_left; (intro wz; go_simp; try with_reducible rfl); (try simp only [Act.put, List.setIfInBounds_toArray, List.set_cons_zero, List.set_cons_succ])))
  refine wpReads_nil ?_
  go_wp2
  go_ret
  exact made_fin (w1 := (w.alloc (.cells #[vi, vo, .int .i64 0] 71)).drew) (by decide) rfl (by simp) rfl (((Below.refl _ _).alloc (Nat.le_refl _) _).drew)

set_option maxRecDepth 100000 in
set_option maxHeartbeats 2000000 in
theorem make_1 {o : Col} {c : Nat} (w : World) (vi vo : Value) (ao : Option Addr) (n cap : Nat) (l : List Int) (h : Ints w o c (.slice ao n cap) l) (hl : 1 ≤ l.length) (hl2 : l.length ≤ 16) : Calls Try.prog 32 #[.int .u8 1, .agg #[vi, vo, .int .i64 0], .slice ao n cap] w (Made w 1 vi vo l) := by
  obtain rfl := h.len
  have HH := Lib.hid h
  obtain ⟨i0, hi, hz0, hz1, hz2⟩ := info_parts info_int
  have hB := heap_alloc_new w (.cells #[vi, vo, .int .i64 0] 71)
  have q0 := cells_row _ _ hB 0 vi rfl
  have q1 := cells_row _ _ hB 1 vo rfl
  have q2 := cells_row _ _ hB 2 (.int .i64 0) rfl
  have hli : (1 : Int) ≤ l.length := by omega
  have hli2 : (l.length : Int) ≤ 16 := by omega
  clear h
  go_enter Try.func32, Try.ntmps32
  go_wp2
  have hb0 : Below w.heap.size w (w.alloc (.cells #[vi, vo, .int .i64 0] 71)) := (Below.refl _ _).alloc (Nat.le_refl _) _
  have hs0 : (w.alloc (.cells #[vi, vo, .int .i64 0] 71)).heap.size = w.heap.size + 1 := by simp
  have HH0 := Lib.hid (HH.out.has.below hb0)
  generalize w.alloc (.cells #[vi, vo, .int .i64 0] 71) = w0 at *
  have hwrap : IntKind.i64.wrap ((l.length : Int) - 1) = (l.length : Int) - 1 := IntWalk.i64_in _ (by omega)
  refine wp_region_rest (fun w' => w'.cell? ⟨w.heap.size, 0, none⟩ = some vi ∧ w'.cell? ⟨w.heap.size, 1, none⟩ = some vo ∧ w'.cell? ⟨w.heap.size, 2, none⟩ = some (.int .i64 0)) [0, 1, 3, 4, 5] [2, 6] 6 (by kernel_rfl) (by kernel_rfl) rfl ⟨q0, q1, q2⟩ ?_
  intro Q' hQ'
  simp only [pickOps, List.flatMap_cons, List.flatMap_nil, List.drop_succ_cons, List.drop_zero, List.take_succ_cons, List.take_zero, List.cons_append, List.nil_append, List.append_nil]
  repeat (first
    | (refine wpReads_skip (by rfl) ?_; (try simp only [Act.put, List.setIfInBounds_toArray, List.set_cons_zero, List.set_cons_succ]))
    | (refine wpReads_cons ?_ (by rfl) (by rfl) ?_ ?_; rotate_left; (intro wz hz; (try dsimp only at hz); go_simp; try with_reducible rfl); (try simp only [Act.put, List.setIfInBounds_toArray, List.set_cons_zero, List.set_cons_succ]))
    | (refine wpReads_any ?_ (by rfl) ?_ ?_; rotate_left; (intro wz; go_simp; try with_reducible rfl); (try simp only [Act.put, List.setIfInBounds_toArray, List.set_cons_zero, List.set_cons_succ])))
  refine wpReads_nil ?_
  clear hwrap
  have hb0' : Below w.heap.size w w0.drew := hb0.drew
  have HHd : Hid (Has w0.drew (.slice ao l.length cap) (ivs l)) := Lib.hid (HH0.out.drewN 1)
  have hcast : ((l.length - 1 : Nat) : Int) = (l.length : Int) - 1 := by omega
  refine wpAnyT_two (i := 2) (k := 6) (by kernel_rfl) ?_ ?_
  · simp only [pickOps, List.flatMap_cons, List.flatMap_nil, List.drop_succ_cons, List.drop_zero, List.take_succ_cons, List.take_zero, List.cons_append, List.nil_append, List.append_nil]
    go_wp2_with fail
    refine (clone_any _ _ _ _ l HHd.out (by omega)).mono ?_
    rintro e w1 ⟨g, cp, rfl, ho1, hb1⟩
    have hb1 : Below w0.heap.size w0 w1 := below_ld (n := 1) hb1
    have ho1 : w1.ownsRow w0.heap.size 3 1 (.slice (some ⟨g, 0, none⟩) l.length cp) l.length (ivs l) := ho1
    go_wp2
    refine ⟨fun _ hS => ⟨cell_later hb1 q0, cell_later hb1 q1, cell_later hb1 q2⟩, ?_⟩
    refine wpAnyT_one (i := 6) (by kernel_rfl) ?_
    simp only [pickOps, List.flatMap_cons, List.flatMap_nil, List.drop_succ_cons, List.drop_zero, List.take_succ_cons, List.take_zero, List.cons_append, List.nil_append, List.append_nil]
    obtain ⟨w2, hr, hown, hg⟩ := run_make_full (P := Try.prog) w1 w1.heap.size 22 3 i0 _ 1 Try.underlying22 hi hz0 hz1 .i64 .i64 (l.length - 1) (by rw [hz2]; omega) (by unfold maxLen; omega) (Nat.le_refl _)
    rw [hcast] at hr
    clear hcast
    rw [made_ints] at hown
    have hb2 : Below w1.heap.size w1 w2 := ((Mods.refl (fun _ => False) w1).grown hg (fun k hk _ => by cases hk)).below (Nat.le_refl _) (fun _ _ h => h)
    have s1 := hb1.size
    have hb20 : Below w0.heap.size w0 w2 := hb1.trans (hb2.mono s1)
    go_wp2
    refine ⟨fun _ hS => ⟨cell_later hb20 q0, cell_later hb20 q1, cell_later hb20 q2⟩, ?_⟩
    refine wpAnyT_list (ks := [7, 8, 9, 10]) (fun _ _ hx h => ⟨hx.cell h.1, hx.cell h.2.1, hx.cell h.2.2⟩) (by kernel_rfl) ?_
    simp only [pickOps, List.flatMap_cons, List.flatMap_nil, List.drop_succ_cons, List.drop_zero, List.take_succ_cons, List.take_zero, List.cons_append, List.nil_append, List.append_nil]
    have hbw : Below w.heap.size w w2 := hb0.trans (hb20.mono (by omega))
    have r1 := owns_base (owns_kept ho1 (Mods.of_below hb2 (fun _ => False)) (fun _ _ h => h)) (base' := w.heap.size) (fun k hk => by have := (ho1.lt k hk).1; omega)
    have r2 := owns_base hown (base' := w.heap.size) (fun k hk => by have := (hown.lt k hk).1; omega)
    clear ho1 hown hg hb1 hb2 hb20 q0 q1 q2 hB hr
    go_wp2
    go_ret
    exact made_fin1 rfl rfl hbw r1 (by simpa [keep0] using r2)
  · simp only [pickOps, List.flatMap_cons, List.flatMap_nil, List.drop_succ_cons, List.drop_zero, List.take_succ_cons, List.take_zero, List.cons_append, List.nil_append, List.append_nil]
    obtain ⟨w1, hr, hown, hg⟩ := run_make_full (P := Try.prog) w0.drew w0.heap.size 22 3 i0 _ 1 Try.underlying22 hi hz0 hz1 .i64 .i64 (l.length - 1) (by rw [hz2]; omega) (by unfold maxLen; omega) (Nat.le_refl _)
    rw [hcast] at hr
    clear hcast
    rw [made_ints] at hown
    have hb1 : Below w0.heap.size w0 w1 := ((Mods.refl (fun _ => False) w0).drew.grown (b := w0.drew) hg (fun k hk _ => by cases hk)).below (Nat.le_refl _) (fun _ _ h => h)
    go_wp2
    refine ⟨fun _ hS => ⟨cell_later hb1 q0, cell_later hb1 q1, cell_later hb1 q2⟩, ?_⟩
    refine wpAnyT_one (i := 2) (by kernel_rfl) ?_
    simp only [pickOps, List.flatMap_cons, List.flatMap_nil, List.drop_succ_cons, List.drop_zero, List.take_succ_cons, List.take_zero, List.cons_append, List.nil_append, List.append_nil]
    clear hr
    go_wp2_with fail
    refine (clone_any _ _ _ _ l (HH0.out.below hb1) (by omega)).mono ?_
    rintro e w2 ⟨g, cp, rfl, ho2, hb2⟩
    have s1 := hb1.size
    have hb20 : Below w0.heap.size w0 w2 := hb1.trans (hb2.mono s1)
    go_wp2
    refine ⟨fun _ hS => ⟨cell_later hb20 q0, cell_later hb20 q1, cell_later hb20 q2⟩, ?_⟩
    refine wpAnyT_list (ks := [7, 8, 9, 10]) (fun _ _ hx h => ⟨hx.cell h.1, hx.cell h.2.1, hx.cell h.2.2⟩) (by kernel_rfl) ?_
    simp only [pickOps, List.flatMap_cons, List.flatMap_nil, List.drop_succ_cons, List.drop_zero, List.take_succ_cons, List.take_zero, List.cons_append, List.nil_append, List.append_nil]
    have hbw : Below w.heap.size w w2 := hb0.trans (hb20.mono (by omega))
    have r1 := owns_base ho2 (base' := w.heap.size) (fun k hk => by have := (ho2.lt k hk).1; omega)
    have r2 := owns_base (owns_kept hown (Mods.of_below hb2 (fun _ => False)) (fun _ _ h => h)) (base' := w.heap.size) (fun k hk => by have := (hown.lt k hk).1; omega)
    clear ho2 hown hg hb1 hb2 hb20 q0 q1 q2 hB
    go_wp2
    go_ret
    exact made_fin1 rfl rfl hbw r1 (by rw [show w0.drew.heap.size = w.heap.size + 1 from hs0] at r2; simpa [keep0] using r2)
end Go.Proofs.Ytknmiiajeafjpaa
