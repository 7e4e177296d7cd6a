/- Whole numbers: the walk of Plus. -/
import Derived.Test.YtknmiiajeafjpaaWhole5
namespace Go.Proofs.Ytknmiiajeafjpaa
open Go.RowKit

theorem plus_less {a b : Bool} {xs ys ds : List Int} {x y : Int} (hx : WhP a xs x) (hy : WhP b ys y) (hab : a ≠ b) (hlt : valD xs < valD ys) (h : Trim ds) (hv : valD ds = valD ys - valD xs) : WhP b ds (x + y) := by
  rw [Int.add_comm]; exact plus_more hy hx (Ne.symm hab) hlt h hv

set_option maxRecDepth 100000 in
set_option maxHeartbeats 2000000 in
theorem wplus_same (w : World) (b : Bool) (aa ab : Option Addr) (ca cb : Nat) (xs ys : List Int) (x y : Int) (N : Nat) (ha : Has w (.slice aa xs.length ca) (ivs xs)) (hb : Has w (.slice ab ys.length cb) (ivs ys)) (px : WhP b xs x) (py : WhP b ys y) (hxN : xs.length ≤ N) (hyN : ys.length ≤ N) (hN : N ≤ 900) :
    Calls Try.prog 19 #[.agg #[.bool b, .slice aa xs.length ca], .agg #[.bool b, .slice ab ys.length cb]] w (WhMade w (x + y) (N + 1)) := by
  have hm := TwoIn.start w b b (.slice aa xs.length ca) (.slice ab ys.length cb)
  obtain ⟨W, hW⟩ : ∃ W, (((w.alloc (.cells #[.bool b, .slice aa xs.length ca] 40)).alloc (.cells #[.bool b, .slice ab ys.length cb] 40)).alloc (.cells #[.bool false, .slice none 0 0] 40)) = W := ⟨_, rfl⟩
  rw [hW] at hm
  have HM := Lib.hid hm
  obtain ⟨q0, q1, q2, q3⟩ := hm.cells
  have HA := Lib.hid (ha.below hm.low)
  have HB := Lib.hid (hb.below hm.low)
  have PX := Lib.hid px
  have PY := Lib.hid py
  clear ha hb px py hm
  go_enter Try.func19, Try.ntmps19
  go_wp2_with fail
  clear hW
  go_wp2_with fail
  refine wp_region_rest (fun w' => w'.cell? ⟨w.heap.size, 0, none⟩ = some (.bool b) ∧ w'.cell? ⟨w.heap.size, 1, none⟩ = some (.slice aa xs.length ca) ∧ w'.cell? ⟨w.heap.size + 1, 1, none⟩ = some (.slice ab ys.length cb)) [0, 1, 2, 3, 4, 5] [6] 3 (by kernel_rfl) (by kernel_rfl) rfl ⟨q0, q1, q3⟩ ?_
  intro Q' hQ'
  simp only [pickOps, List.flatMap_cons, List.flatMap_nil, List.drop_succ_cons, List.drop_zero, List.take_succ_cons, List.take_zero, List.cons_append, List.nil_append, List.append_nil]
  repeat (first
    | (refine wpReads_skip (by rfl) ?_; (try simp only [Act.put, List.setIfInBounds_toArray, List.set_cons_zero, List.set_cons_succ]))
    | (refine wpReads_cons ?_ (by rfl) (by rfl) ?_ ?_; rotate_left; (intro wz hz; (try dsimp only at hz); go_simp; try with_reducible rfl); (try simp only [Act.put, List.setIfInBounds_toArray, List.set_cons_zero, List.set_cons_succ]))
    | (refine wpReads_any ?_ (by rfl) ?_ ?_; rotate_left; (intro wz; go_simp; try with_reducible rfl); (try simp only [Act.put, List.setIfInBounds_toArray, List.set_cons_zero, List.set_cons_succ])))
  refine wpReads_nil ?_
  refine wpAnyT_one (i := 6) (by kernel_rfl) ?_
  simp only [pickOps, List.flatMap_cons, List.flatMap_nil, List.drop_succ_cons, List.drop_zero, List.take_succ_cons, List.take_zero, List.cons_append, List.nil_append, List.append_nil]
  go_wp2_with fail
  refine (wadd_any _ aa ab _ _ ca cb xs ys N (HA.out.drewN 1) (HB.out.drewN 1) PX.out.1.1 PY.out.1.1 hxN hyN hN).mono ?_
  rintro e w4 ⟨ao', cap', ds, rfl, hh, ht, hv, hl, hb4⟩
  have hb4' : Below W.heap.size W w4 := below_ld (n := 1) hb4
  have HM4 := Lib.hid (HM.out.later hb4')
  obtain ⟨y0, y1, y2, y3⟩ := HM4.out.cells
  obtain ⟨z0, z1, f0, f1⟩ := HM4.out.rcells
  obtain ⟨g1, g2⟩ := HM4.out.done hh (plus_same PX.out PY.out ht hv) (hl)
  have G1 := Lib.hid g1
  have G2 := Lib.hid g2
  clear hh ht hv hl hb4 hb4' g1 g2
  go_wp2
  refine ⟨fun _ _ => ⟨y0, y1, y3⟩, ?_⟩
  refine wpAnyT_list (ks := [7, 8]) (fun _ _ hx h => ⟨hx.cell h.1, hx.cell h.2.1, hx.cell h.2.2⟩) (by kernel_rfl) ?_
  simp only [pickOps, List.flatMap_cons, List.flatMap_nil, List.drop_succ_cons, List.drop_zero, List.take_succ_cons, List.take_zero, List.cons_append, List.nil_append, List.append_nil]
  go_wp2
  refine bodyPost_ret_by (results_cell_row rfl _ _ _ _ _ _ _ rfl G1.out Try.underlying40 rfl (by kernel_rfl)) rfl ?_
  exact G2.out

set_option maxRecDepth 100000 in
set_option maxHeartbeats 2000000 in
theorem wplus_diff (w : World) (a b : Bool) (aa ab : Option Addr) (ca cb : Nat) (xs ys : List Int) (x y : Int) (N : Nat) (hab : a ≠ b) (ha : Has w (.slice aa xs.length ca) (ivs xs)) (hb : Has w (.slice ab ys.length cb) (ivs ys)) (px : WhP a xs x) (py : WhP b ys y) (hxN : xs.length ≤ N) (hyN : ys.length ≤ N) (hN : N ≤ 900) :
    Calls Try.prog 19 #[.agg #[.bool a, .slice aa xs.length ca], .agg #[.bool b, .slice ab ys.length cb]] w (WhMade w (x + y) (N + 1)) := by
  have hm := TwoIn.start w a b (.slice aa xs.length ca) (.slice ab ys.length cb)
  obtain ⟨W, hW⟩ : ∃ W, (((w.alloc (.cells #[.bool a, .slice aa xs.length ca] 40)).alloc (.cells #[.bool b, .slice ab ys.length cb] 40)).alloc (.cells #[.bool false, .slice none 0 0] 40)) = W := ⟨_, rfl⟩
  rw [hW] at hm
  have HM0 := Lib.hid hm
  obtain ⟨q0, q1, q2, q3⟩ := hm.cells
  have HA := Lib.hid (ha.below hm.low)
  have HB := Lib.hid (hb.below hm.low)
  have PX := Lib.hid px
  have PY := Lib.hid py
  have HAB := Lib.hid hab
  have hnb : (a == b) = false := by simpa using hab
  clear ha hb px py hm hab
  go_enter Try.func19, Try.ntmps19
  go_wp2_with fail
  clear hW
  refine (wsize_any W aa ab _ _ ca cb xs ys HA.out HB.out PX.out.1 PY.out.1 (by omega) (by omega)).mono ?_
  rintro e w3 ⟨rfl, m, rfl⟩
  have HA3 := Lib.hid (HA.out.drewN m)
  have HB3 := Lib.hid (HB.out.drewN m)
  have HM := Lib.hid (HM0.out.drewN m)
  obtain ⟨q0, q1, q2, q3⟩ := HM.out.cells
  obtain ⟨z0, z1, f0, f1⟩ := HM.out.rcells
  clear HA HB HM0
  generalize W.drewN m = V at *
  rcases Int.lt_trichotomy (valD xs) (valD ys) with hc | hc | hc
  · rw [sgnP_lt hc]
    have HC := Lib.hid hc
    clear hc
    go_wp2_with fail
    go_wp2_with fail
    refine wp_region_rest (fun w' => w'.cell? ⟨w.heap.size + 1, 0, none⟩ = some (.bool b) ∧ w'.cell? ⟨w.heap.size + 1, 1, none⟩ = some (.slice ab ys.length cb) ∧ w'.cell? ⟨w.heap.size, 1, none⟩ = some (.slice aa xs.length ca)) [0, 1, 2, 3, 4, 5] [6] 3 (by kernel_rfl) (by kernel_rfl) rfl ⟨q2, q3, q1⟩ ?_
    intro Q' hQ'
    simp only [pickOps, List.flatMap_cons, List.flatMap_nil, List.drop_succ_cons, List.drop_zero, List.take_succ_cons, List.take_zero, List.cons_append, List.nil_append, List.append_nil]
    repeat (first
      | (refine wpReads_skip (by rfl) ?_; (try simp only [Act.put, List.setIfInBounds_toArray, List.set_cons_zero, List.set_cons_succ]))
      | (refine wpReads_cons ?_ (by rfl) (by rfl) ?_ ?_; rotate_left; (intro wz hz; (try dsimp only at hz); go_simp; try with_reducible rfl); (try simp only [Act.put, List.setIfInBounds_toArray, List.set_cons_zero, List.set_cons_succ]))
      | (refine wpReads_any ?_ (by rfl) ?_ ?_; rotate_left; (intro wz; go_simp; try with_reducible rfl); (try simp only [Act.put, List.setIfInBounds_toArray, List.set_cons_zero, List.set_cons_succ])))
    refine wpReads_nil ?_
    refine wpAnyT_one (i := 6) (by kernel_rfl) ?_
    simp only [pickOps, List.flatMap_cons, List.flatMap_nil, List.drop_succ_cons, List.drop_zero, List.take_succ_cons, List.take_zero, List.cons_append, List.nil_append, List.append_nil]
    go_wp2_with fail
    refine (wless_any _ ab aa _ _ cb ca ys xs N (HB3.out.drewN 1) (HA3.out.drewN 1) PY.out.1 PX.out.1 hyN (by omega) (Int.le_of_lt HC.out)).mono ?_
    rintro e w4 ⟨ao', cap', ds, rfl, hh, ht, hv, hl, hb4⟩
    have hb4' : Below V.heap.size V w4 := below_ld (n := 1) hb4
    have HM4 := Lib.hid (HM.out.later hb4')
    obtain ⟨y0, y1, y2, y3⟩ := HM4.out.cells
    obtain ⟨z0, z1, f0, f1⟩ := HM4.out.rcells
    obtain ⟨g1, g2⟩ := HM4.out.done hh ((plus_less PX.out PY.out HAB.out HC.out ht hv)) ((Nat.le_trans hl (Nat.le_succ N)))
    have G1 := Lib.hid g1
    have G2 := Lib.hid g2
    clear hh ht hv hl hb4 hb4' g1 g2
    go_wp2
    refine ⟨fun _ _ => ⟨y2, y3, y1⟩, ?_⟩
    refine wpAnyT_list (ks := [7, 8]) (fun _ _ hx h => ⟨hx.cell h.1, hx.cell h.2.1, hx.cell h.2.2⟩) (by kernel_rfl) ?_
    simp only [pickOps, List.flatMap_cons, List.flatMap_nil, List.drop_succ_cons, List.drop_zero, List.take_succ_cons, List.take_zero, List.cons_append, List.nil_append, List.append_nil]
    go_wp2
    refine bodyPost_ret_by (results_cell_row rfl _ _ _ _ _ _ _ rfl G1.out Try.underlying40 rfl (by kernel_rfl)) rfl ?_
    exact G2.out
  · rw [sgnP_eq hc]
    obtain ⟨g1, g2⟩ := HM.out.done (z := x + y) (N := N + 1) (ds := []) (ao := none) (cap := 0) (Vals.nil _ _ _ none 0) (plus_zero PX.out PY.out HAB.out hc) (Nat.zero_le _)
    have G1 := Lib.hid g1
    have G2 := Lib.hid g2
    clear hc g1 g2
    go_wp2
    refine bodyPost_ret_by (results_cell_row rfl _ _ _ _ _ _ _ rfl G1.out Try.underlying40 rfl (by kernel_rfl)) rfl ?_
    exact G2.out
  · rw [sgnP_gt hc]
    have HC := Lib.hid hc
    clear hc
    go_wp2_with fail
    go_wp2_with fail
    refine wp_region_rest (fun w' => w'.cell? ⟨w.heap.size, 0, none⟩ = some (.bool a) ∧ w'.cell? ⟨w.heap.size, 1, none⟩ = some (.slice aa xs.length ca) ∧ w'.cell? ⟨w.heap.size + 1, 1, none⟩ = some (.slice ab ys.length cb)) [0, 1, 2, 3, 4, 5] [6] 3 (by kernel_rfl) (by kernel_rfl) rfl ⟨q0, q1, q3⟩ ?_
    intro Q' hQ'
    simp only [pickOps, List.flatMap_cons, List.flatMap_nil, List.drop_succ_cons, List.drop_zero, List.take_succ_cons, List.take_zero, List.cons_append, List.nil_append, List.append_nil]
    repeat (first
      | (refine wpReads_skip (by rfl) ?_; (try simp only [Act.put, List.setIfInBounds_toArray, List.set_cons_zero, List.set_cons_succ]))
      | (refine wpReads_cons ?_ (by rfl) (by rfl) ?_ ?_; rotate_left; (intro wz hz; (try dsimp only at hz); go_simp; try with_reducible rfl); (try simp only [Act.put, List.setIfInBounds_toArray, List.set_cons_zero, List.set_cons_succ]))
      | (refine wpReads_any ?_ (by rfl) ?_ ?_; rotate_left; (intro wz; go_simp; try with_reducible rfl); (try simp only [Act.put, List.setIfInBounds_toArray, List.set_cons_zero, List.set_cons_succ])))
    refine wpReads_nil ?_
    refine wpAnyT_one (i := 6) (by kernel_rfl) ?_
    simp only [pickOps, List.flatMap_cons, List.flatMap_nil, List.drop_succ_cons, List.drop_zero, List.take_succ_cons, List.take_zero, List.cons_append, List.nil_append, List.append_nil]
    go_wp2_with fail
    refine (wless_any _ aa ab _ _ ca cb xs ys N (HA3.out.drewN 1) (HB3.out.drewN 1) PX.out.1 PY.out.1 hxN (by omega) (Int.le_of_lt HC.out)).mono ?_
    rintro e w4 ⟨ao', cap', ds, rfl, hh, ht, hv, hl, hb4⟩
    have hb4' : Below V.heap.size V w4 := below_ld (n := 1) hb4
    have HM4 := Lib.hid (HM.out.later hb4')
    obtain ⟨y0, y1, y2, y3⟩ := HM4.out.cells
    obtain ⟨z0, z1, f0, f1⟩ := HM4.out.rcells
    obtain ⟨g1, g2⟩ := HM4.out.done hh ((plus_more PX.out PY.out HAB.out HC.out ht hv)) ((Nat.le_trans hl (Nat.le_succ N)))
    have G1 := Lib.hid g1
    have G2 := Lib.hid g2
    clear hh ht hv hl hb4 hb4' g1 g2
    go_wp2
    refine ⟨fun _ _ => ⟨y0, y1, y3⟩, ?_⟩
    refine wpAnyT_list (ks := [7, 8]) (fun _ _ hx h => ⟨hx.cell h.1, hx.cell h.2.1, hx.cell h.2.2⟩) (by kernel_rfl) ?_
    simp only [pickOps, List.flatMap_cons, List.flatMap_nil, List.drop_succ_cons, List.drop_zero, List.take_succ_cons, List.take_zero, List.cons_append, List.nil_append, List.append_nil]
    go_wp2
    refine bodyPost_ret_by (results_cell_row rfl _ _ _ _ _ _ _ rfl G1.out Try.underlying40 rfl (by kernel_rfl)) rfl ?_
    exact G2.out

theorem wplus_any (w : World) (a b : Bool) (aa ab : Option Addr) (ca cb : Nat) (xs ys : List Int) (x y : Int) (N : Nat) (ha : Has w (.slice aa xs.length ca) (ivs xs)) (hb : Has w (.slice ab ys.length cb) (ivs ys)) (px : WhP a xs x) (py : WhP b ys y) (hxN : xs.length ≤ N) (hyN : ys.length ≤ N) (hN : N ≤ 900) :
    Calls Try.prog 19 #[.agg #[.bool a, .slice aa xs.length ca], .agg #[.bool b, .slice ab ys.length cb]] w (WhMade w (x + y) (N + 1)) := by
  by_cases hab : a = b
  · subst hab
    exact wplus_same w a aa ab ca cb xs ys x y N ha hb px py hxN hyN hN
  · exact wplus_diff w a b aa ab ca cb xs ys x y N hab ha hb px py hxN hyN hN
end Go.Proofs.Ytknmiiajeafjpaa
