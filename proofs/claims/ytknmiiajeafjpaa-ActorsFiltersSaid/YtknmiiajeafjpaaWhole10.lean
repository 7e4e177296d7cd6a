/- Whole numbers: the walk of Int, of a number that fits. -/
import Derived.Test.YtknmiiajeafjpaaWhole9
namespace Go.Proofs.Ytknmiiajeafjpaa
open Go.RowKit

theorem box_one (w : World) (a : Bool) (va : Value) (W : World) (hW : w.alloc (.cells #[.bool a, va] 40) = W) :
    (W.cell? ⟨w.heap.size, 0, none⟩ = some (.bool a) ∧ W.cell? ⟨w.heap.size, 1, none⟩ = some va) ∧ Below w.heap.size w W ∧ w.heap.size < W.heap.size := by
  subst hW
  have h0 := heap_alloc_new w (.cells #[.bool a, va] 40)
  exact ⟨⟨cells_row _ _ h0 0 _ rfl, cells_row _ _ h0 1 _ rfl⟩, below_alloc w _, by simp⟩

theorem min_fits : Fits (-9223372036854775808) := by unfold Fits; decide
theorem max_fits : Fits 9223372036854775807 := by unfold Fits; decide
theorem sgn_min {z : Int} (h : Fits z) : ¬ sgnP z (-9223372036854775808) < 0 := by
  unfold Fits at h
  unfold sgnP
  rw [if_neg (by omega)]
  split <;> omega
theorem sgn_max {z : Int} (h : Fits z) : ¬ 0 < sgnP z 9223372036854775807 := by
  unfold Fits at h
  unfold sgnP
  split
  · omega
  · rw [if_neg (by omega)]; omega

/-- what the digits from q on give -/
theorem int_step {a : Bool} {xs : List Int} {z : Int} {q : Nat} (h : WhP a xs z) (hf : Fits z) (_ : q < xs.length) :
    0 ≤ valD (xs.drop (q + 1)) ∧ 0 ≤ xs[q]?.getD 0 ∧ xs[q]?.getD 0 < 1073741824 ∧ valD (xs.drop (q + 1)) * 1073741824 + xs[q]?.getD 0 = valD (xs.drop q) ∧
    (a = false → valD (xs.drop q) ≤ 9223372036854775807) ∧ (a = true → valD (xs.drop q) ≤ 9223372036854775808) := by
  have h1 := valD_nonneg (digs_drop h.1.1 (q + 1))
  have h2 := digs_at h.1.1 q
  have h3 := valD_drop xs q
  have h4 := valD_drop_le h.1.1 q
  have h5 := h.2.1
  unfold Fits at hf
  refine ⟨h1, h2.1, h2.2, by omega, fun e => ?_, fun e => ?_⟩
  · subst e
    have h5 : z = valD xs := h5
    omega
  · subst e
    have h5 : z = -valD xs := h5
    omega


set_option maxRecDepth 100000 in
set_option maxHeartbeats 2000000 in
theorem wint_fits (w : World) (a : Bool) (aa : Option Addr) (ca : Nat) (xs : List Int) (z : Int) (ha : Has w (.slice aa xs.length ca) (ivs xs)) (px : WhP a xs z) (hf : Fits z) (hxN : xs.length ≤ 900) :
    Calls Try.prog 21 #[.agg #[.bool a, .slice aa xs.length ca]] w (Tells (.tuple #[.int .i64 z, .bool true]) w) := by
  obtain ⟨W, hW⟩ : ∃ W, w.alloc (.cells #[.bool a, .slice aa xs.length ca] 40) = W := ⟨_, rfl⟩
  obtain ⟨⟨q0, q1⟩, hb0, hsW⟩ := box_one w a _ W hW
  have HA := Lib.hid (ha.below hb0)
  have HBW := Lib.hid hb0
  have PX := Lib.hid px
  have HF := Lib.hid hf
  have Hmin := Lib.hid (sgn_min hf)
  have Hmax := Lib.hid (sgn_max hf)
  have HXN := Lib.hid hxN
  clear ha px hb0 hf hxN
  go_enter Try.func21, Try.ntmps21
  go_wp2_with fail
  clear hW
  refine wp_region_rest (fun w' => w'.cell? ⟨w.heap.size, 0, none⟩ = some (.bool a) ∧ w'.cell? ⟨w.heap.size, 1, none⟩ = some (.slice aa xs.length ca)) [0] [1] 9 (by kernel_rfl) (by kernel_rfl) rfl ⟨q0, q1⟩ ?_
  intro Q' hQ'
  simp only [pickOps, List.flatMap_cons, List.flatMap_nil, List.drop_succ_cons, List.drop_zero, List.take_succ_cons, List.take_zero, List.cons_append, List.nil_append, List.append_nil]
  repeat (first
    | (refine wpReads_skip (by rfl) ?_; (try simp only [Act.put, List.setIfInBounds_toArray, List.set_cons_zero, List.set_cons_succ]))
    | (refine wpReads_cons ?_ (by rfl) (by rfl) ?_ ?_; rotate_left; (intro wz hz; (try dsimp only at hz); go_simp; try with_reducible rfl); (try simp only [Act.put, List.setIfInBounds_toArray, List.set_cons_zero, List.set_cons_succ]))
    | (refine wpReads_any ?_ (by rfl) ?_ ?_; rotate_left; (intro wz; go_simp; try with_reducible rfl); (try simp only [Act.put, List.setIfInBounds_toArray, List.set_cons_zero, List.set_cons_succ])))
  refine wpReads_nil ?_
  refine wpAnyT_one (i := 1) (by kernel_rfl) ?_
  simp only [pickOps, List.flatMap_cons, List.flatMap_nil, List.drop_succ_cons, List.drop_zero, List.take_succ_cons, List.take_zero, List.cons_append, List.nil_append, List.append_nil]
  go_wp2_with fail
  refine (wof_any _ _ min_fits).mono ?_
  rintro e w1 ⟨b1, a1, c1, ds1, rfl, h1, p1, l1, hb1⟩
  have HB1 := Lib.hid (below_ld (n := 1) hb1)
  have HH1 := Lib.hid h1
  have HP1 := Lib.hid p1
  have HL1 := Lib.hid l1
  have HA1 := Lib.hid (HA.out.below HB1.out)
  have q01 := cell_later HB1.out q0
  have q11 := cell_later HB1.out q1
  clear h1 p1 l1 hb1
  go_wp2
  refine ⟨fun _ _ => ⟨q01, q11⟩, ?_⟩
  refine wpAnyT_one (i := 2) (by kernel_rfl) ?_
  simp only [pickOps, List.flatMap_cons, List.flatMap_nil, List.drop_succ_cons, List.drop_zero, List.take_succ_cons, List.take_zero, List.cons_append, List.nil_append, List.append_nil]
  go_wp2_with fail
  refine (wcmp_any _ a b1 aa a1 ca c1 xs ds1 z _ HA1.out HH1.out PX.out HP1.out (by have := HXN.out; omega) (by have := HL1.out; omega)).mono ?_
  rintro e w2 ⟨rfl, hb2⟩
  have HB2 := Lib.hid (HB1.out.trans (hb2.mono HB1.out.size))
  have HA2 := Lib.hid (HA.out.below HB2.out)
  have q02 := cell_later HB2.out q0
  have q12 := cell_later HB2.out q1
  obtain ⟨S1, hS1⟩ : ∃ S, sgnP z (-9223372036854775808) = S := ⟨_, rfl⟩
  rw [hS1] at Hmin ⊢
  have hmin := Hmin.out
  clear hb2 hS1 HB1 HH1 HP1 HL1 HA1
  go_wp2
  refine ⟨fun _ _ => ⟨q02, q12⟩, ?_⟩
  refine wpAnyT_one (i := 3) (by kernel_rfl) ?_
  simp only [pickOps, List.flatMap_cons, List.flatMap_nil, List.drop_succ_cons, List.drop_zero, List.take_succ_cons, List.take_zero, List.cons_append, List.nil_append, List.append_nil]
  go_wp2
  refine ⟨fun _ h => h, ?_⟩
  refine wpAnyT_one (i := 4) (by kernel_rfl) ?_
  simp only [pickOps, List.flatMap_cons, List.flatMap_nil, List.drop_succ_cons, List.drop_zero, List.take_succ_cons, List.take_zero, List.cons_append, List.nil_append, List.append_nil]
  go_wp2
  refine ⟨fun _ h => h, ?_⟩
  refine wpAnyT_two (i := 5) (k := 6) (by kernel_rfl) ?_ ?_
  · simp only [pickOps, List.flatMap_cons, List.flatMap_nil, List.drop_succ_cons, List.drop_zero, List.take_succ_cons, List.take_zero, List.cons_append, List.nil_append, List.append_nil]
    go_wp2
    refine ⟨fun _ h => h, ?_⟩
    refine wpAnyT_one (i := 6) (by kernel_rfl) ?_
    simp only [pickOps, List.flatMap_cons, List.flatMap_nil, List.drop_succ_cons, List.drop_zero, List.take_succ_cons, List.take_zero, List.cons_append, List.nil_append, List.append_nil]
    go_wp2_with fail
    refine (wof_any _ _ max_fits).mono ?_
    rintro e w3 ⟨b3, a3, c3, ds3, rfl, h3, p3, l3, hb3⟩
    have HB3 := Lib.hid (HB2.out.trans (hb3.mono HB2.out.size))
    have HH3 := Lib.hid h3
    have HP3 := Lib.hid p3
    have HL3 := Lib.hid l3
    have HA3 := Lib.hid (HA.out.below HB3.out)
    have q03 := cell_later HB3.out q0
    have q13 := cell_later HB3.out q1
    clear h3 p3 l3 hb3 HA2 q02 q12
    go_wp2
    refine ⟨fun _ _ => ⟨q03, q13⟩, ?_⟩
    refine wpAnyT_list (ks := [7, 8, 9]) (fun _ _ hx h => ⟨hx.cell h.1, hx.cell h.2⟩) (by kernel_rfl) ?_
    simp only [pickOps, List.flatMap_cons, List.flatMap_nil, List.drop_succ_cons, List.drop_zero, List.take_succ_cons, List.take_zero, List.cons_append, List.nil_append, List.append_nil]
    go_wp2_with fail
    refine (wcmp_any _ a b3 aa a3 ca c3 xs ds3 z _ HA3.out HH3.out PX.out HP3.out (by have := HXN.out; omega) (by have := HL3.out; omega)).mono ?_
    rintro e w4 ⟨rfl, hb4⟩
    have HB4 := Lib.hid (HB3.out.trans (hb4.mono HB3.out.size))
    have HA4 := Lib.hid (HA.out.below HB4.out)
    have q04 := cell_later HB4.out q0
    have q14 := cell_later HB4.out q1
    obtain ⟨S2, hS2⟩ : ∃ S, sgnP z 9223372036854775807 = S := ⟨_, rfl⟩
    rw [hS2] at Hmax ⊢
    have hmax := Hmax.out
    clear hb4 hS2 HB2 HB3 HH3 HP3 HL3 HA3 q03 q13 q01 q11 q0 q1
    go_wp2_with fail
    go_loopw [4, 5] (fun m i wr => ∃ q : Nat, q ≤ xs.length ∧ i = .int .i64 ((q : Int) - 1) ∧ m = .int .i64 (numD a (xs.drop q)) ∧ wr = w4) (fun _ i _ => (intOf i + 1).toNat)
    case atStart => exact ⟨xs.length, Nat.le_refl _, by first | rfl | (rw [neg_one_wrap _ (by have := HXN.out; omega)]), by rw [List.drop_length]; cases a <;> rfl, by first | rfl | trivial⟩
    case round =>
      obtain ⟨q, hq, rfl, rfl, hw4⟩ := hrel
      subst hw4
      by_cases hp : 0 < q
      · obtain ⟨q, rfl⟩ : ∃ q', q = q' + 1 := ⟨q - 1, by omega⟩
        obtain ⟨bb, ff, rfl, -, hc, -, -, hcl⟩ := Ints.at HA4.out (by omega)
        have hx := hcl q (by omega)
        obtain ⟨g1, g2, g3, g4, g5, g6⟩ := int_step PX.out HF.out (show q < xs.length by omega)
        have hqi : (q : Int) < xs.length := by omega
        have hci : (xs.length : Int) ≤ ca := by omega
        have hqe : ((q + 1 : Nat) : Int) - 1 = (q : Int) := by omega
        have hxl := HXN.out
        rw [hqe]
        clear hcl hqe hmin hmax
        obtain ⟨V, hV⟩ : ∃ V, valD (xs.drop q) = V := ⟨_, rfl⟩
        rw [hV] at g4 g5 g6
        have HV := Lib.hid hV
        clear hV
        generalize xs[q]?.getD 0 = x at *
        cases a with
        | false =>
          have g5' := g5 rfl
          have HN : numD false (xs.drop (q + 1)) = valD (xs.drop (q + 1)) := rfl
          rw [HN]
          generalize valD (xs.drop (q + 1)) = M at *
          clear g5 g6 HN
          have HG4 := Lib.hid g4
          go_wp2
          go_roundw
          case rel => exact ⟨q, by omega, by first | rfl | rw [neg_one_wrap _ (by omega)], by show _ = Value.int .i64 (valD (xs.drop q)); rw [HV.out, ← HG4.out], by first | rfl | trivial⟩
          case measure => first | (simp [intOf]; omega) | simp [intOf]
        | true =>
          have g6' := g6 rfl
          have HN : numD true (xs.drop (q + 1)) = -valD (xs.drop (q + 1)) := rfl
          rw [HN]
          generalize valD (xs.drop (q + 1)) = M at *
          clear g5 g6 HN
          have HG4 := Lib.hid g4
          go_wp2
          go_roundw
          case rel => exact ⟨q, by omega, by first | rfl | rw [neg_one_wrap _ (by omega)], by show _ = Value.int .i64 (-valD (xs.drop q)); rw [HV.out, ← HG4.out]; first | rfl | (congr 1 <;> omega), by first | rfl | trivial⟩
          case measure => first | (simp [intOf]; omega) | simp [intOf]
      · obtain rfl : q = 0 := by omega
        have h0 : ((0 : Nat) : Int) - 1 = -1 := rfl
        have hz := PX.out.2.1
        rw [List.drop_zero, ← hz, h0]
        clear h0 hz hmin hmax
        go_wp2
        go_ret2
        exact ⟨rfl, HBW.out.trans (HB4.out.mono HBW.out.size)⟩
  · simp only [pickOps, List.flatMap_cons, List.flatMap_nil, List.drop_succ_cons, List.drop_zero, List.take_succ_cons, List.take_zero, List.cons_append, List.nil_append, List.append_nil]
    go_wp2_with fail
    refine (wof_any _ _ max_fits).mono ?_
    rintro e w3 ⟨b3, a3, c3, ds3, rfl, h3, p3, l3, hb3⟩
    have HB3 := Lib.hid (HB2.out.trans (hb3.mono HB2.out.size))
    have HH3 := Lib.hid h3
    have HP3 := Lib.hid p3
    have HL3 := Lib.hid l3
    have HA3 := Lib.hid (HA.out.below HB3.out)
    have q03 := cell_later HB3.out q0
    have q13 := cell_later HB3.out q1
    clear h3 p3 l3 hb3 HA2 q02 q12
    go_wp2
    refine ⟨fun _ _ => ⟨q03, q13⟩, ?_⟩
    refine wpAnyT_one (i := 5) (by kernel_rfl) ?_
    simp only [pickOps, List.flatMap_cons, List.flatMap_nil, List.drop_succ_cons, List.drop_zero, List.take_succ_cons, List.take_zero, List.cons_append, List.nil_append, List.append_nil]
    go_wp2
    refine ⟨fun _ h => h, ?_⟩
    refine wpAnyT_list (ks := [7, 8, 9]) (fun _ _ hx h => ⟨hx.cell h.1, hx.cell h.2⟩) (by kernel_rfl) ?_
    simp only [pickOps, List.flatMap_cons, List.flatMap_nil, List.drop_succ_cons, List.drop_zero, List.take_succ_cons, List.take_zero, List.cons_append, List.nil_append, List.append_nil]
    go_wp2_with fail
    refine (wcmp_any _ a b3 aa a3 ca c3 xs ds3 z _ HA3.out HH3.out PX.out HP3.out (by have := HXN.out; omega) (by have := HL3.out; omega)).mono ?_
    rintro e w4 ⟨rfl, hb4⟩
    have HB4 := Lib.hid (HB3.out.trans (hb4.mono HB3.out.size))
    have HA4 := Lib.hid (HA.out.below HB4.out)
    have q04 := cell_later HB4.out q0
    have q14 := cell_later HB4.out q1
    obtain ⟨S2, hS2⟩ : ∃ S, sgnP z 9223372036854775807 = S := ⟨_, rfl⟩
    rw [hS2] at Hmax ⊢
    have hmax := Hmax.out
    clear hb4 hS2 HB2 HB3 HH3 HP3 HL3 HA3 q03 q13 q01 q11 q0 q1
    go_wp2_with fail
    go_loopw [4, 5] (fun m i wr => ∃ q : Nat, q ≤ xs.length ∧ i = .int .i64 ((q : Int) - 1) ∧ m = .int .i64 (numD a (xs.drop q)) ∧ wr = w4) (fun _ i _ => (intOf i + 1).toNat)
    case atStart => exact ⟨xs.length, Nat.le_refl _, by first | rfl | (rw [neg_one_wrap _ (by have := HXN.out; omega)]), by rw [List.drop_length]; cases a <;> rfl, by first | rfl | trivial⟩
    case round =>
      obtain ⟨q, hq, rfl, rfl, hw4⟩ := hrel
      subst hw4
      by_cases hp : 0 < q
      · obtain ⟨q, rfl⟩ : ∃ q', q = q' + 1 := ⟨q - 1, by omega⟩
        obtain ⟨bb, ff, rfl, -, hc, -, -, hcl⟩ := Ints.at HA4.out (by omega)
        have hx := hcl q (by omega)
        obtain ⟨g1, g2, g3, g4, g5, g6⟩ := int_step PX.out HF.out (show q < xs.length by omega)
        have hqi : (q : Int) < xs.length := by omega
        have hci : (xs.length : Int) ≤ ca := by omega
        have hqe : ((q + 1 : Nat) : Int) - 1 = (q : Int) := by omega
        have hxl := HXN.out
        rw [hqe]
        clear hcl hqe hmin hmax
        obtain ⟨V, hV⟩ : ∃ V, valD (xs.drop q) = V := ⟨_, rfl⟩
        rw [hV] at g4 g5 g6
        have HV := Lib.hid hV
        clear hV
        generalize xs[q]?.getD 0 = x at *
        cases a with
        | false =>
          have g5' := g5 rfl
          have HN : numD false (xs.drop (q + 1)) = valD (xs.drop (q + 1)) := rfl
          rw [HN]
          generalize valD (xs.drop (q + 1)) = M at *
          clear g5 g6 HN
          have HG4 := Lib.hid g4
          go_wp2
          go_roundw
          case rel => exact ⟨q, by omega, by first | rfl | rw [neg_one_wrap _ (by omega)], by show _ = Value.int .i64 (valD (xs.drop q)); rw [HV.out, ← HG4.out], by first | rfl | trivial⟩
          case measure => first | (simp [intOf]; omega) | simp [intOf]
        | true =>
          have g6' := g6 rfl
          have HN : numD true (xs.drop (q + 1)) = -valD (xs.drop (q + 1)) := rfl
          rw [HN]
          generalize valD (xs.drop (q + 1)) = M at *
          clear g5 g6 HN
          have HG4 := Lib.hid g4
          go_wp2
          go_roundw
          case rel => exact ⟨q, by omega, by first | rfl | rw [neg_one_wrap _ (by omega)], by show _ = Value.int .i64 (-valD (xs.drop q)); rw [HV.out, ← HG4.out]; first | rfl | (congr 1 <;> omega), by first | rfl | trivial⟩
          case measure => first | (simp [intOf]; omega) | simp [intOf]
      · obtain rfl : q = 0 := by omega
        have h0 : ((0 : Nat) : Int) - 1 = -1 := rfl
        have hz := PX.out.2.1
        rw [List.drop_zero, ← hz, h0]
        clear h0 hz hmin hmax
        go_wp2
        go_ret2
        exact ⟨rfl, HBW.out.trans (HB4.out.mono HBW.out.size)⟩
end Go.Proofs.Ytknmiiajeafjpaa
