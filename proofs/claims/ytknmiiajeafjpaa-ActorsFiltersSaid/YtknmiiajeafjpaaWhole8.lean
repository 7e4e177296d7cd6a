/- Whole numbers: the walk of Times. -/
import Derived.Test.YtknmiiajeafjpaaWhole7
namespace Go.Proofs.Ytknmiiajeafjpaa
open Go.RowKit


set_option maxRecDepth 100000 in
set_option maxHeartbeats 1000000 in
theorem wtimes_zero (w : World) (a b : Bool) (aa ab : Option Addr) (n m ca cb : Nat) (z : Int) (N : Nat) (hz : WhP false [] z) (h0 : n = 0 ∨ m = 0) :
    Calls Try.prog 20 #[.agg #[.bool a, .slice aa n ca], .agg #[.bool b, .slice ab m cb]] w (WhMade w z N) := by
  by_cases hn : n = 0
  · subst hn
    clear h0
    have hm := TwoIn.start w a b (.slice aa 0 ca) (.slice ab m cb)
    obtain ⟨W, hW⟩ : ∃ W, (((w.alloc (.cells #[.bool a, .slice aa 0 ca] 40)).alloc (.cells #[.bool b, .slice ab m cb] 40)).alloc (.cells #[.bool false, .slice none 0 0] 40)) = W := ⟨_, rfl⟩
    rw [hW] at hm
    obtain ⟨q0, q1, q2, q3⟩ := hm.cells
    obtain ⟨z0, z1, f0, f1⟩ : W.cell? ⟨w.heap.size + 1 + 1, 0, none⟩ = some (.bool false) ∧ W.cell? ⟨w.heap.size + 1 + 1, 1, none⟩ = some (.slice none 0 0) ∧ W.frozen? ⟨w.heap.size + 1 + 1, 0, none⟩ = false ∧ W.frozen? ⟨w.heap.size + 1 + 1, 1, none⟩ = false := hm.rcells
    obtain ⟨g1, g2⟩ := hm.done (z := z) (N := N) (ds := []) (ao := none) (cap := 0) (Vals.nil _ _ _ none 0) hz (Nat.zero_le _)
    have G1 := Lib.hid g1
    have G2 := Lib.hid g2
    clear hm g1 g2 hz
    go_enter Try.func20, Try.ntmps20
    go_wp2
    refine bodyPost_ret_by (results_cell_row rfl _ _ _ _ _ _ _ rfl G1.out Try.underlying40 rfl (by kernel_rfl)) rfl ?_
    exact G2.out
  · obtain rfl : m = 0 := by omega
    have hni : ¬ (n : Int) = 0 := by omega
    clear h0
    have hm := TwoIn.start w a b (.slice aa n ca) (.slice ab 0 cb)
    obtain ⟨W, hW⟩ : ∃ W, (((w.alloc (.cells #[.bool a, .slice aa n ca] 40)).alloc (.cells #[.bool b, .slice ab 0 cb] 40)).alloc (.cells #[.bool false, .slice none 0 0] 40)) = W := ⟨_, rfl⟩
    rw [hW] at hm
    obtain ⟨q0, q1, q2, q3⟩ := hm.cells
    obtain ⟨z0, z1, f0, f1⟩ : W.cell? ⟨w.heap.size + 1 + 1, 0, none⟩ = some (.bool false) ∧ W.cell? ⟨w.heap.size + 1 + 1, 1, none⟩ = some (.slice none 0 0) ∧ W.frozen? ⟨w.heap.size + 1 + 1, 0, none⟩ = false ∧ W.frozen? ⟨w.heap.size + 1 + 1, 1, none⟩ = false := hm.rcells
    obtain ⟨g1, g2⟩ := hm.done (z := z) (N := N) (ds := []) (ao := none) (cap := 0) (Vals.nil _ _ _ none 0) hz (Nat.zero_le _)
    have G1 := Lib.hid g1
    have G2 := Lib.hid g2
    clear hm g1 g2 hz
    go_enter Try.func20, Try.ntmps20
    go_wp2
    refine bodyPost_ret_by (results_cell_row rfl _ _ _ _ _ _ _ rfl G1.out Try.underlying40 rfl (by kernel_rfl)) rfl ?_
    exact G2.out

theorem le_of_sum {la lb n : Nat} (h : la + lb = n) (h9 : n ≤ 900) : la ≤ 900 ∧ lb ≤ 900 := by omega
theorem len_n {l la lb N : Nat} (h : l = la + lb) (h2 : la + lb ≤ N) (h3 : N ≤ 900) : l ≤ 900 ∧ l ≤ N := by omega
theorem ne_of_len {l : List Int} (h : 0 < l.length) : l ≠ [] := fun e => by rw [e] at h; simp at h
theorem idx_lt2 {k la lb n r : Nat} (h1 : k < la) (h3 : la + lb = n) (h4 : k + lb = r) : (r : Int) < n := by omega
theorem idx_le2 {k la lb n : Nat} (h1 : k < la) (h3 : la + lb = n) (h4 : n ≤ 900) : k + lb ≤ 4611686018427387904 := by omega
theorem idx_out2 {k la lb l : Nat} (h1 : k < la) (_ : 0 < lb) (h3 : l = la + lb) : k + lb < l := by omega
theorem idx_lt {k j la lb n r : Nat} (h1 : k < la) (h2 : j < lb) (h3 : la + lb = n) (h4 : k + j = r) : (r : Int) < n := by omega
theorem idx_le {k j la lb n : Nat} (h1 : k < la) (h2 : j < lb) (h3 : la + lb = n) (h4 : n ≤ 900) : k + j ≤ 4611686018427387904 := by omega
theorem idx_out {k j la lb l : Nat} (h1 : k < la) (h2 : j < lb) (h3 : l = la + lb) : k + j < l := by omega
theorem prod_wrap {x y xy : Int} (h : x * y = xy) (p1 : 0 ≤ xy) (p2 : xy ≤ 1152921502459363329) : wrap64 (x * y) = xy := by
  rw [h]; exact IntWalk.wrap64_in _ (by omega)
theorem succ_i {j n : Nat} (h : j < n) (h9 : n ≤ 900) : Value.int .i64 (wrap64 ((j : Int) + 1)) = .int .i64 ((j + 1 : Nat) : Int) := step_i (by omega)
theorem succ_m {j n : Nat} (h : j < n) (h9 : n ≤ 900) : n - (intOf (Value.int .i64 (wrap64 ((j : Int) + 1)))).toNat < n - (intOf (Value.int .i64 (j : Int))).toNat := by
  rw [succ_i h h9]; simp [intOf]; omega
set_option maxRecDepth 100000 in
set_option maxHeartbeats 2000000 in
theorem wtimes_some (w : World) (a b : Bool) (aa ab : Option Addr) (ca cb : Nat) (xs ys : List Int) (x y : Int) (N : Nat) (ha : Has w (.slice aa xs.length ca) (ivs xs)) (hb : Has w (.slice ab ys.length cb) (ivs ys)) (px : WhP a xs x) (py : WhP b ys y) (hx : 0 < xs.length) (hy : 0 < ys.length) (hxN : xs.length + ys.length ≤ N) (hN : N ≤ 900) :
    Calls Try.prog 20 #[.agg #[.bool a, .slice aa xs.length ca], .agg #[.bool b, .slice ab ys.length cb]] w (WhMade w (x * y) N) := by
  obtain ⟨i0, hi, hz0, hz1, hz2⟩ := info_parts info_int
  have hm := TwoIn.start w a b (.slice aa xs.length ca) (.slice ab ys.length cb)
  obtain ⟨W, hW⟩ : ∃ W, (((w.alloc (.cells #[.bool a, .slice aa xs.length ca] 40)).alloc (.cells #[.bool b, .slice ab ys.length cb] 40)).alloc (.cells #[.bool false, .slice none 0 0] 40)) = W := ⟨_, rfl⟩
  rw [hW] at hm
  obtain ⟨q0, q1, q2, q3⟩ := hm.cells
  obtain ⟨b1, f1, rfl, -, hca, -, -, hcla⟩ := Ints.at ha hx
  obtain ⟨b2, f2, rfl, -, hcb, -, -, hclb⟩ := Ints.at hb hy
  have HM0 := Lib.hid hm
  have HA := Lib.hid (fun k hk => cell_later hm.low (hcla k hk))
  have HB := Lib.hid (fun k hk => cell_later hm.low (hclb k hk))
  have PX := Lib.hid px
  have PY := Lib.hid py
  have DX := Lib.hid px.1.1
  have DY := Lib.hid py.1.1
  obtain ⟨n, hn⟩ : ∃ n, xs.length + ys.length = n := ⟨_, rfl⟩
  have hn9 : n ≤ 900 := by omega
  have hw0 := wrap_add3 hn (by omega)
  obtain ⟨w1, hr, hown, hg⟩ := run_make_full (P := Try.prog) W (w.heap.size + 3) 22 3 i0 _ 1 Try.underlying22 hi hz0 hz1 .i64 .i64 n (by rw [hz2]; omega) (by unfold maxLen; omega) hm.size
  have hb1 : Below W.heap.size W w1 := ((Mods.refl (fun _ => False) W).grown hg (fun k hk _ => by cases hk)).below (Nat.le_refl _) (fun _ _ h => h)
  rw [made_ints, ← hn] at hown
  rw [hn] at hown
  have HO := Lib.hid hown
  have HB1 := Lib.hid hb1
  have HRS := Lib.hid (hn ▸ (RowAt.start (xs := xs) (ys := ys)) : RowAt xs ys (valD xs * valD ys) 0 (List.replicate n 0))
  have HNN := Lib.hid hn
  have hxi : ((xs.length : Int) == 0) = false := by rw [beq_eq_false_iff_ne]; omega
  have hyi : ((ys.length : Int) == 0) = false := by rw [beq_eq_false_iff_ne]; omega
  have hca0 : (xs.length : Int) ≤ ca := by omega
  have hcb0 : (ys.length : Int) ≤ cb := by omega
  have hOb := hm.size
  obtain ⟨V, hV⟩ : ∃ V, valD xs * valD ys = V := ⟨_, rfl⟩
  rw [hV] at HRS
  have HV := Lib.hid hV
  have HXN := Lib.hid hxN
  have HN := Lib.hid hN
  have HN9 := Lib.hid hn9
  clear ha hb px py hcla hclb hb1 hg hn hown hV hm hxN hN hn9
  go_enter Try.func20, Try.ntmps20
  go_wp2_with fail
  clear hr hW hw0 hxi hyi
  obtain ⟨O, hO⟩ : ∃ O, W.heap.size = O := ⟨_, rfl⟩
  rw [hO] at HO HB1 hOb ⊢
  have HOE := Lib.hid hO
  clear hO
  go_loopw [6] (fun i wr => ∃ (k : Nat) (out : List Int), k ≤ xs.length ∧ i = .int .i64 k ∧ RowAt xs ys V k out ∧ wr.ownsRow (w.heap.size + 3) 3 1 (.slice (some ⟨O, 0, none⟩) n n) n (ivs out) ∧ Below O W wr) (fun i _ => xs.length - (intOf i).toNat)
  case atStart => exact ⟨0, _, Nat.zero_le _, rfl, HRS.out, HO.out, HB1.out⟩
  case round =>
    clear HRS HO HB1
    obtain ⟨k, out, hk, rfl, hrow, ho, hb⟩ := hrel
    have HR := Lib.hid hrow
    have HO := Lib.hid ho
    have HBW := Lib.hid (HOE.out.symm ▸ hb : Below W.heap.size W wr)
    have HM := Lib.hid (HM0.out.later HBW.out)
    clear hrow ho hb
    obtain ⟨q0, q1, q2, q3⟩ := HM.out.cells
    by_cases hkx : k < xs.length
    · have hki : (k : Int) < xs.length := by omega
      have hxk := cell_later HBW.out (HA.out k hkx)
      have hxd := digs_at DX.out k
      have HC := Lib.hid HR.out.col
      obtain ⟨x0, hx0⟩ : ∃ x, xs[k]?.getD 0 = x := ⟨_, rfl⟩
      obtain ⟨V2, hV2⟩ : ∃ V2, V - 1073741824 ^ (k + 1) * (valD (xs.drop (k + 1)) * valD ys) = V2 := ⟨_, rfl⟩
      rw [hx0] at hxk hxd HC
      rw [hV2] at HC
      have HX0 := Lib.hid hx0
      have HV2 := Lib.hid hV2
      clear hx0 hV2
      go_wp2_with fail
      go_loopw [7, 8] (fun c j wq => ∃ (jj : Nat) (cc : Int) (out : List Int), jj ≤ ys.length ∧ c = .int .i64 cc ∧ j = .int .i64 jj ∧ ColAt xs ys V2 k x0 jj cc out ∧ wq.ownsRow (w.heap.size + 3) 3 1 (.slice (some ⟨O, 0, none⟩) n n) n (ivs out) ∧ Below O W wq) (fun _ j _ => ys.length - (intOf j).toNat)
      case atStart => exact ⟨0, 0, out, Nat.zero_le _, rfl, rfl, HC.out, HO.out, HOE.out ▸ HBW.out⟩
      case round =>
        clear HC HO HBW HM q0 q1 q2 q3 hxk out HR
        rename_i wr0 _ _ wr
        obtain ⟨j, c, out, hj, rfl, rfl, hcol, ho, hb⟩ := hrel
        have HCol := Lib.hid hcol
        have HBW := Lib.hid (HOE.out.symm ▸ hb : Below W.heap.size W wr)
        have HBO := Lib.hid hb
        have HM := Lib.hid (HM0.out.later HBW.out)
        obtain ⟨q0, q1, q2, q3⟩ := HM.out.cells
        have hxk := cell_later HBW.out (HA.out k hkx)
        rw [HX0.out] at hxk
        have hc0 := hcol.c0
        have hc1 := hcol.c1
        clear hcol hb
        by_cases hjy : j < ys.length
        · have hji : (j : Int) < ys.length := by omega
          have hyj := cell_later HBW.out (HB.out j hjy)
          have hyd := digs_at DY.out j
          have hod := digs_at HCol.out.digs (k + j)
          have hlen := HCol.out.len
          have hol : k + j < out.length := idx_out hkx hjy hlen
          obtain ⟨_, _, g', _, e, hcz, hf, _⟩ := owns_cell ho (by rw [ivs_len]; omega)
          cases e
          have hz := hcz (k + j) (iv (out[k + j]?.getD 0)) (by rw [List.getElem?_map, List.getElem?_eq_getElem hol]; rfl)
          have hfr := hf (k + j)
          obtain ⟨y0, hy0⟩ : ∃ y, ys[j]?.getD 0 = y := ⟨_, rfl⟩
          obtain ⟨z0, hz0'⟩ : ∃ z, out[k + j]?.getD 0 = z := ⟨_, rfl⟩
          have HNX := Lib.hid (HCol.out.next hxd DY.out hjy hkx (s := z0 + x0 * y0 + c) (by rw [hz0', hy0]))
          rw [hy0] at hyj hyd
          rw [hz0'] at hz hod
          obtain ⟨p1, p2, p3, p4⟩ := prod_fits hod hxd hyd ⟨hc0, hc1⟩
          obtain ⟨r, hr⟩ : ∃ r, k + j = r := ⟨_, rfl⟩
          have hw := wrap_add3 hr (hr ▸ idx_le hkx hjy HNN.out HN9.out)
          have hri : (r : Int) < n := idx_lt hkx hjy HNN.out hr
          rw [hr] at hz hfr HNX
          have HST := Lib.hid (ho.stored r (iv ((z0 + x0 * y0 + c) % 1073741824)))
          clear hy0 hz0' hlen hol hcz hf ho hr
          obtain ⟨xy, hxy⟩ : ∃ xy, x0 * y0 = xy := ⟨_, rfl⟩
          rw [hxy] at p1 p2 p3 p4 HNX HST
          have hwm : wrap64 (x0 * y0) = xy := prod_wrap hxy p1 p2
          clear hxy
          go_wp2
          go_quiet (fail)
          go_wp2
          have HOS := Lib.hid (le_of_sum HNN.out HN9.out)
          rw [ivs_set] at HST
          go_roundw
          case rel => exact ⟨j + 1, _, _, hjy, rfl, succ_i hjy HOS.out.2, HNX.out, HST.out.1, (below_dr HBO.out).setCell (Nat.le_refl _) _⟩
          case measure => exact succ_m hjy HOS.out.2
        · obtain rfl : j = ys.length := by omega
          have hlen := HCol.out.len
          have hz := HCol.out.zero (k + ys.length) (Nat.le_refl _)
          have hol : k + ys.length < out.length := idx_out2 hkx hy hlen
          obtain ⟨_, _, g', _, e, hcz, hf, _⟩ := owns_cell ho (by rw [ivs_len]; omega)
          cases e
          have hz1 := hcz (k + ys.length) (iv (out[k + ys.length]?.getD 0)) (by rw [List.getElem?_map, List.getElem?_eq_getElem hol]; rfl)
          have hfr := hf (k + ys.length)
          rw [hz] at hz1
          have HCol2 := HCol.out
          rw [← HV2.out, ← HX0.out] at HCol2
          have HNX := Lib.hid (HCol2.row hkx)
          obtain ⟨r, hr⟩ : ∃ r, k + ys.length = r := ⟨_, rfl⟩
          have hw := wrap_add3 hr (hr ▸ idx_le2 hkx HNN.out HN9.out)
          have hw2 : IntKind.i64.wrap ((k : Int) + ys.length) = (r : Int) := by rw [IntWalk.i64_left]; exact hw
          have hri : (r : Int) < n := idx_lt2 hkx HNN.out hr
          rw [hr] at hz1 hfr HNX
          have HST := Lib.hid (ho.stored r (iv c))
          have HOS := Lib.hid (le_of_sum HNN.out HN9.out)
          rw [ivs_set] at HST
          clear hlen hol hcz hf ho hr hz HCol2 hxk
          go_wp2_with fail
          refine wp_region_lex (fun w' => w'.cell? ⟨w.heap.size + 1, 1, none⟩ = some (.slice (some ⟨b2, f2, none⟩) ys.length cb) ∧ w'.cell? ⟨O, r, none⟩ = some (iv 0)) [0, 1, 2, 3, 4, 5, 6, 7, 8, 9, 10, 11, 12, 13, 14, 15, 16] [17] (by kernel_rfl) (by kernel_rfl) rfl (fun _ _ hx h => ⟨hx.cell h.1, hx.cell h.2⟩) ⟨q3, hz1⟩ ?_
          intro Q' hQ'
          simp only [pickOps, List.flatMap_cons, List.flatMap_nil, List.drop_succ_cons, List.drop_zero, List.take_succ_cons, List.take_zero, List.cons_append, List.nil_append, List.append_nil]
          repeat (first
            | (refine wpReads_skip (by rfl) ?_; (try simp only [Act.put, List.setIfInBounds_toArray, List.set_cons_zero, List.set_cons_succ]))
            | (refine wpReads_cons ?_ (by rfl) (by rfl) ?_ ?_; rotate_left; (intro wz hz; (try dsimp only at hz); go_simp; try with_reducible rfl); (try simp only [Act.put, List.setIfInBounds_toArray, List.set_cons_zero, List.set_cons_succ]))
            | (refine wpReads_any ?_ (by rfl) ?_ ?_; rotate_left; (intro wz; go_simp; try with_reducible rfl); (try simp only [Act.put, List.setIfInBounds_toArray, List.set_cons_zero, List.set_cons_succ])))
          refine wpReads_nil ?_
          go_wp2
          go_roundw
          case rel => exact ⟨k + 1, _, hkx, succ_i hkx HOS.out.1, HNX.out, HST.out.1, (below_dr (n := 1) HBO.out).setCell (Nat.le_refl _) _⟩
          case measure => exact succ_m hkx HOS.out.1
    · obtain rfl : k = xs.length := by omega
      have HF := Lib.hid HR.out.done
      have HOH := Lib.hid (has_own HO.out)
      have hlen := HR.out.len
      have HLN := Lib.hid (len_n hlen HXN.out HN.out)
      have HDG := Lib.hid HR.out.digs
      clear HR HO hlen
      go_wp2_with fail
      refine wp_region_rest (fun w' => w'.cell? ⟨w.heap.size, 0, none⟩ = some (.bool a) ∧ w'.cell? ⟨w.heap.size + 1, 0, none⟩ = some (.bool b)) [0, 1, 2, 3, 4, 5] [6] 3 (by kernel_rfl) (by kernel_rfl) rfl ⟨q0, q2⟩ ?_
      intro Q' hQ'
      simp only [pickOps, List.flatMap_cons, List.flatMap_nil, List.drop_succ_cons, List.drop_zero, List.take_succ_cons, List.take_zero, List.cons_append, List.nil_append, List.append_nil]
      repeat (first
        | (refine wpReads_skip (by rfl) ?_; (try simp only [Act.put, List.setIfInBounds_toArray, List.set_cons_zero, List.set_cons_succ]))
        | (refine wpReads_cons ?_ (by rfl) (by rfl) ?_ ?_; rotate_left; (intro wz hz; (try dsimp only at hz); go_simp; try with_reducible rfl); (try simp only [Act.put, List.setIfInBounds_toArray, List.set_cons_zero, List.set_cons_succ]))
        | (refine wpReads_any ?_ (by rfl) ?_ ?_; rotate_left; (intro wz; go_simp; try with_reducible rfl); (try simp only [Act.put, List.setIfInBounds_toArray, List.set_cons_zero, List.set_cons_succ])))
      refine wpReads_nil ?_
      refine wpAnyT_one (i := 6) (by kernel_rfl) ?_
      simp only [pickOps, List.flatMap_cons, List.flatMap_nil, List.drop_succ_cons, List.drop_zero, List.take_succ_cons, List.take_zero, List.cons_append, List.nil_append, List.append_nil]
      go_wp2_with fail
      have HOH1 := Lib.hid (HOH.out.drewN 1)
      refine (wtrim_any _ (some ⟨O, 0, none⟩) n n out HOH1.out HDG.out (by have := HLN.out.1; omega)).mono ?_
      intro e w4 hT
      obtain ⟨ao', cap', ds, rfl, hh, ht, hv, hl, hb4⟩ := made_trim (Below.refl _ _) HF.out HLN.out.2 hT
      have hb4' : Below wr.heap.size wr w4 := below_ld (n := 1) hb4
      have HM4 := Lib.hid (HM.out.later hb4')
      obtain ⟨y0, y1, y2, y3⟩ := HM4.out.cells
      obtain ⟨z0, z1, f0, f1⟩ := HM4.out.rcells
      obtain ⟨g1, g2⟩ := HM4.out.done hh (times_wh PX.out PY.out (ne_of_len hx) (ne_of_len hy) ht (hv.trans HV.out.symm)) hl
      have G1 := Lib.hid g1
      have G2 := Lib.hid g2
      clear hh ht hv hl hb4 hb4' g1 g2 hT
      go_wp2
      refine ⟨fun _ _ => ⟨y0, y2⟩, ?_⟩
      refine wpAnyT_list (ks := [7, 8]) (fun _ _ hx h => ⟨hx.cell h.1, hx.cell h.2⟩) (by kernel_rfl) ?_
      simp only [pickOps, List.flatMap_cons, List.flatMap_nil, List.drop_succ_cons, List.drop_zero, List.take_succ_cons, List.take_zero, List.cons_append, List.nil_append, List.append_nil]
      go_wp2
      refine bodyPost_ret_by (results_cell_row rfl _ _ _ _ _ _ _ rfl G1.out Try.underlying40 rfl (by kernel_rfl)) rfl ?_
      exact G2.out

theorem wtimes_any (w : World) (a b : Bool) (aa ab : Option Addr) (ca cb : Nat) (xs ys : List Int) (x y : Int) (N : Nat) (ha : Has w (.slice aa xs.length ca) (ivs xs)) (hb : Has w (.slice ab ys.length cb) (ivs ys)) (px : WhP a xs x) (py : WhP b ys y) (hxN : xs.length + ys.length ≤ N) (hN : N ≤ 900) :
    Calls Try.prog 20 #[.agg #[.bool a, .slice aa xs.length ca], .agg #[.bool b, .slice ab ys.length cb]] w (WhMade w (x * y) N) := by
  by_cases hx : 0 < xs.length
  · by_cases hy : 0 < ys.length
    · exact wtimes_some w a b aa ab ca cb xs ys x y N ha hb px py hx hy hxN hN
    · exact wtimes_zero w a b aa ab _ _ ca cb (x * y) N (times_zero px py (.inr (List.eq_nil_of_length_eq_zero (by omega)))) (.inr (by omega))
  · exact wtimes_zero w a b aa ab _ _ ca cb (x * y) N (times_zero px py (.inl (List.eq_nil_of_length_eq_zero (by omega)))) (.inl (by omega))
end Go.Proofs.Ytknmiiajeafjpaa
