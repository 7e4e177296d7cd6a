/- The machine's readIn. -/
import Derived.Test.YtnnnpippekpibaaSvmStepsZ5
namespace Go.Proofs.Ytnnnpippekpibaa
open Go.RowKit

/-- a row of rows, cell by cell -/
theorem Rows2.at {w : World} {o : Col} {c d g : Nat} {l : List (List Int)} {vs : List Value} (h : Rows2 w o c d g l vs) {k : Nat} (hk : k < l.length) : ∃ ao cap, vs[k]?.getD undef = .slice ao (rowAt l k).length cap ∧ w.cell? ⟨g, k, none⟩ = some (.slice ao (rowAt l k).length cap) ∧ OffRow w o (d + k) 3 (.slice ao (rowAt l k).length cap) (ivs (rowAt l k)) ∧ w.frozen? ⟨g, k, none⟩ = false := by
  have hr := h.row k hk
  obtain ⟨ao, cap, e⟩ := hr.slice
  have hl : rowAt l k = l[k] := by unfold rowAt; rw [List.getElem?_eq_getElem hk]; rfl
  rw [ivs_len] at e
  have hv : k < vs.length := by rw [h.len]; exact hk
  rw [hl]
  refine ⟨ao, cap, by rw [List.getElem?_eq_getElem hv]; exact e, ?_, by rw [← e]; exact hr, h.blk.frozen k⟩
  rw [← e]
  exact h.blk.cell k _ (by simp [hv])



set_option maxRecDepth 100000 in
set_option maxHeartbeats 2000000 in
theorem readIn_any {w : World} {o : Col} {M b eb : Nat} {P : GProg} {m : MachP} {v : MVals} {F s : Nat} {op kd ln : Int} (x : GOp) (h : MachAt w o M b P m v) (hE : EvAt w o M eb op kd ln 0 []) (hm : MOk P F s m) {k n : Nat} (ha : x.a = k) (ht : x.b = n) (hk : k < m.fed.length) (hn : 0 < n ∧ n ≤ 64) :
    Calls Try.prog 48 #[.pointer (some ⟨b, 0, none⟩), opA x, .pointer (some ⟨eb, 0, none⟩)] w
      (if 64 < m.hand.length + n then DoStop w o M b P m eb op kd ln 4 else if (rowAt m.fed k).length < n then DoStop w o M b P m eb op kd ln 2 else DoGo w o M b P eb op kd ln 0 [] { m with
        hand := m.hand ++ (rowAt m.fed k).take n
        fed := m.fed.set k ((rowAt m.fed k).drop n)
        next := m.next + 1 }) := by
  obtain ⟨kd', xa, xb⟩ := x
  dsimp only at ha ht ⊢
  subst ha ht
  unfold opA
  dsimp only
  have hbx := below_alloc w (.cells #[.int .u8 kd', .int .i64 (k : Int), .int .i64 (n : Int)] 43)
  have Tx := Turn.of_below o (M + 206) hbx
  have h1 := h.turn Tx (fun _ h => h.elim)
  have hE1 := hE.turn Tx (fun h => h) (fun h => h)
  have hX : Blk (w.alloc (.cells #[.int .u8 kd', .int .i64 (k : Int), .int .i64 (n : Int)] 43)) (ext o w.heap.size (M + 206)) (M + 206) w.heap.size 43 #[.int .u8 kd', .int .i64 (k : Int), .int .i64 (n : Int)] := ⟨heap_alloc_new w _, ext_new (Nat.le_refl _)⟩
  have x1 := hX.cell 1 _ rfl
  have x2 := hX.cell 2 _ rfl
  generalize ext o w.heap.size (M + 206) = q at *
  clear h hE hbx
  have hhl := hm.hand.1
  have c2 := h1.cell 2 (u := .slice (some ⟨v.fed, 0, none⟩) m.fed.length m.fed.length) (by unfold machV; rfl)
  obtain ⟨ra, rc, r0, r1, r2, -⟩ := h1.fed.at hk
  have hki : (k : Int) < m.fed.length := by omega
  have HX := Lib.hid hX
  have HM := Lib.hid h1
  have HE := Lib.hid hE1
  have HR := Lib.hid r2
  have HT := Lib.hid (Tx.mono (D := MineX M) (fun _ h => h.elim))
  have fe := hE1.frozen 4
  obtain ⟨_, _, _, x4, _⟩ := hE1.reads
  obtain ⟨rl, hrl⟩ : ∃ x, (rowAt m.fed k).length = x := ⟨_, rfl⟩
  rw [hrl] at r0 r1 HR ⊢
  have HR0 := Lib.hid r0
  have HRL := Lib.hid hrl
  clear hm hX h1 hE1 Tx r2 hrl r0
  by_cases hA : 64 < m.hand.length + n
  · rw [if_pos hA]
    have HB := Lib.hid (decide_eq_true hA)
    clear hA
    go_enter Try.func48, Try.ntmps48
    go_wp2_with fail
    refine (full_any HM.out n (by omega)).mono ?_
    rintro e w5 ⟨rfl, rfl⟩
    rw [HB.out]
    go_wp2
    go_end0
    exact EvAt.stop HE.out HM.out HT.out 4
  · rw [if_neg hA]
    have HB := Lib.hid (decide_eq_false hA)
    have HA := Lib.hid hA
    clear hA
    by_cases hC : rl < n
    · rw [if_pos hC]
      have hb : (rl : Int) < (n : Int) := by omega
      go_enter Try.func48, Try.ntmps48
      go_wp2_with fail
      refine (full_any HM.out n (by omega)).mono ?_
      rintro e w5 ⟨rfl, rfl⟩
      rw [HB.out]
      go_wp2_with fail
      refine wp_region_lex (fun w' => w'.cell? ⟨b, 2, none⟩ = some (.slice (some ⟨v.fed, 0, none⟩) m.fed.length m.fed.length) ∧ w'.cell? ⟨w.heap.size, 1, none⟩ = some (.int .i64 k) ∧ w'.cell? ⟨v.fed, k, none⟩ = some (.slice ra rl rc) ∧ w'.cell? ⟨w.heap.size, 2, none⟩ = some (.int .i64 n)) [0, 1, 2, 3, 4, 5, 6, 7, 8, 9, 10, 11, 12, 13] [] (by kernel_rfl) (by kernel_rfl) rfl (fun _ _ hx h => ⟨hx.cell h.1, hx.cell h.2.1, hx.cell h.2.2.1, hx.cell h.2.2.2⟩) ⟨c2, x1, r1, x2⟩ ?_
      intro Q' hQ'
      simp only [pickOps, List.flatMap_cons, List.flatMap_nil, List.drop_succ_cons, List.drop_zero, List.take_succ_cons, List.take_zero, List.cons_append, List.nil_append, List.append_nil]
      repeat (first
        | (refine wpReads_skip (by rfl) ?_; (try simp only [Act.put, List.setIfInBounds_toArray, List.set_cons_zero, List.set_cons_succ]))
        | (refine wpReads_cons ?_ (by rfl) (by rfl) ?_ ?_; rotate_left; (intro wz hz; (try dsimp only at hz); go_simp; try with_reducible rfl); (try simp only [Act.put, List.setIfInBounds_toArray, List.set_cons_zero, List.set_cons_succ]))
        | (refine wpReads_any ?_ (by rfl) ?_ ?_; rotate_left; (intro wz; go_simp; try with_reducible rfl); (try simp only [Act.put, List.setIfInBounds_toArray, List.set_cons_zero, List.set_cons_succ])))
      refine wpReads_nil ?_
      go_wp2
      go_end0
      exact (EvAt.stop HE.out HM.out HT.out 2).drewN 1
    · rw [if_neg hC]
      have hb : decide (rl < n) = false := decide_eq_false (by omega)
      have hb1 : ¬ (rl : Int) < (n : Int) := by omega
      obtain ⟨gf, of', rc', hv2, hcl, hcm⟩ := (HR.out).some (by rw [ivs_len, HRL.out]; omega)
      rw [ivs_len, HRL.out] at hv2 hcl
      simp only [Value.slice.injEq] at hv2
      obtain ⟨rfl, -, rfl⟩ := hv2
      have hnc : (n : Int) ≤ rc := by omega
      have hc0 : ¬ rc = 0 := by omega
      obtain ⟨ha, hc, hv⟩ := HM.out.hand.slice
      rw [ivs_len] at hv
      have c8 := HM.out.cell 8 (u := v.hand) (by unfold machV; rfl)
      have HHV := Lib.hid hv
      obtain ⟨i0, hi, hz0, hz1, hz2⟩ := info_parts info_int
      have HI := Lib.hid hi
      have hlen : ((rowAt m.fed k).take n).length = n := by rw [List.length_take, HRL.out]; omega
      have hTS := HR.out.front (k := n) (by rw [ivs_len, HRL.out]; omega)
      rw [ivs, ← List.map_take] at hTS
      obtain ⟨hnone, hnews⟩ := Vals.news hTS
      have HNO := Lib.hid hnone
      have HNE := Lib.hid hnews
      have HLEN := Lib.hid hlen
      clear hTS hlen hv hnone hnews
      go_enter Try.func48, Try.ntmps48
      go_wp2_with fail
      refine (full_any HM.out n (by omega)).mono ?_
      rintro e w5 ⟨rfl, rfl⟩
      rw [HB.out]
      go_wp2_with fail
      refine wp_region_lex (fun w' => w'.cell? ⟨b, 2, none⟩ = some (.slice (some ⟨v.fed, 0, none⟩) m.fed.length m.fed.length) ∧ w'.cell? ⟨w.heap.size, 1, none⟩ = some (.int .i64 k) ∧ w'.cell? ⟨v.fed, k, none⟩ = some (.slice (some ⟨gf, of', none⟩) rl rc) ∧ w'.cell? ⟨w.heap.size, 2, none⟩ = some (.int .i64 n)) [0, 1, 2, 3, 4, 5, 6, 7, 8, 9, 10, 11, 12, 13] [] (by kernel_rfl) (by kernel_rfl) rfl (fun _ _ hx h => ⟨hx.cell h.1, hx.cell h.2.1, hx.cell h.2.2.1, hx.cell h.2.2.2⟩) ⟨c2, x1, r1, x2⟩ ?_
      intro Q' hQ'
      simp only [pickOps, List.flatMap_cons, List.flatMap_nil, List.drop_succ_cons, List.drop_zero, List.take_succ_cons, List.take_zero, List.cons_append, List.nil_append, List.append_nil]
      repeat (first
        | (refine wpReads_skip (by rfl) ?_; (try simp only [Act.put, List.setIfInBounds_toArray, List.set_cons_zero, List.set_cons_succ]))
        | (refine wpReads_cons ?_ (by rfl) (by rfl) ?_ ?_; rotate_left; (intro wz hz; (try dsimp only at hz); go_simp; try with_reducible rfl); (try simp only [Act.put, List.setIfInBounds_toArray, List.set_cons_zero, List.set_cons_succ]))
        | (refine wpReads_any ?_ (by rfl) ?_ ?_; rotate_left; (intro wz; go_simp; try with_reducible rfl); (try simp only [Act.put, List.setIfInBounds_toArray, List.set_cons_zero, List.set_cons_succ])))
      refine wpReads_nil ?_
      go_wp2_with fail
      refine wp_region_lex (fun w' => w'.cell? ⟨b, 8, none⟩ = some v.hand ∧ w'.cell? ⟨b, 2, none⟩ = some (.slice (some ⟨v.fed, 0, none⟩) m.fed.length m.fed.length) ∧ w'.cell? ⟨w.heap.size, 1, none⟩ = some (.int .i64 k) ∧ w'.cell? ⟨v.fed, k, none⟩ = some (.slice (some ⟨gf, of', none⟩) rl rc) ∧ w'.cell? ⟨w.heap.size, 2, none⟩ = some (.int .i64 n)) [0, 1, 2, 3, 4, 5, 6, 7, 8, 9, 10, 11, 12, 13, 14, 15, 16] [17, 18, 19, 20] (by kernel_rfl) (by kernel_rfl) rfl (fun _ _ hx h => ⟨hx.cell h.1, hx.cell h.2.1, hx.cell h.2.2.1, hx.cell h.2.2.2.1, hx.cell h.2.2.2.2⟩) ⟨c8, c2, x1, r1, x2⟩ ?_
      intro Q' hQ'
      simp only [pickOps, List.flatMap_cons, List.flatMap_nil, List.drop_succ_cons, List.drop_zero, List.take_succ_cons, List.take_zero, List.cons_append, List.nil_append, List.append_nil]
      repeat (first
        | (refine wpReads_skip (by rfl) ?_; (try simp only [Act.put, List.setIfInBounds_toArray, List.set_cons_zero, List.set_cons_succ]))
        | (refine wpReads_cons ?_ (by rfl) (by rfl) ?_ ?_; rotate_left; (intro wz hz; (try dsimp only at hz); go_simp; try with_reducible rfl); (try simp only [Act.put, List.setIfInBounds_toArray, List.set_cons_zero, List.set_cons_succ]))
        | (refine wpReads_any ?_ (by rfl) ?_ ?_; rotate_left; (intro wz; go_simp; try with_reducible rfl); (try simp only [Act.put, List.setIfInBounds_toArray, List.set_cons_zero, List.set_cons_succ])))
      refine wpReads_nil ?_
      go_wp2_with (at_builtin; refine stop_here ?_)
      refine go_on ?_
      refine wpList_app_off rfl _ _ 37 rfl q (M + 9) 3 i0 _ 8 Try.underlying37 HI.out hz0 hz1 hz2 rfl v.hand (ivs m.hand) rfl (HM.out.drewN 2).hand (some ⟨gf, of', none⟩) n rc (ivs ((rowAt m.fed k).take n)) rfl (by rw [ivs_len]; exact HLEN.out) HNO.out HNE.out (ivs_one _) (by rw [ivs_len]; unfold maxLen; omega) (grow_ok (by rw [ivs_len]; omega)) ?_
      intro v7 w7 T7 O7
      obtain ⟨sp7, cp7, hv7⟩ := O7.slice
      simp only [List.length_append, List.length_map] at hv7
      rw [HLEN.out] at hv7
      subst hv7
      have M7 := (HM.out.drewN 2).setHand (l := m.hand ++ (rowAt m.fed k).take n) T7 (by rw [ivs, List.map_append]; exact O7)
      have E7 := (HE.out.drewN 2).turn M7.2 (notMine (by omega)) (notMine (by omega))
      have X7 := (HM.out.drewN 2).blk.turn T7 (by omega)
      have c8 := X7.cell 8 v.hand (by simp [machV])
      have f8 := X7.frozen 8
      have y2 := M7.1.cell 2 (u := .slice (some ⟨v.fed, 0, none⟩) m.fed.length m.fed.length) (by unfold machV; rfl)
      obtain ⟨ra9, rc9, e9, s1, s2, s3⟩ := M7.1.fed.at hk
      change _ = Value.slice ra9 (rowAt m.fed k).length rc9 at e9
      have e9 := HR0.out.symm.trans e9
      rw [HRL.out] at e9
      simp only [Value.slice.injEq] at e9
      obtain ⟨rfl, -, rfl⟩ := e9
      change World.cell? _ _ = some (Value.slice _ (rowAt m.fed k).length _) at s1
      change OffRow _ _ _ _ (Value.slice _ (rowAt m.fed k).length _) (ivs (rowAt m.fed k)) at s2
      rw [HRL.out] at s1 s2
      have hcut := s2.cut (k := n) (by rw [ivs_len, HRL.out]; omega)
      rw [ivs, ← List.map_drop] at hcut
      have X9 := (HX.out.turn ((Turn.refl q (fun _ => False) _).drewN 2) (fun h => h)).turn M7.2 (notMine (by omega))
      have y1 := X9.cell 1 _ rfl
      have yn := X9.cell 2 _ rfl
      have M9 := M7.1.setFed (k := k) hk (Turn.refl _ _ _) hcut
      have E9 := E7.turn M9.2 (notMine (by omega)) (notMine (by omega))
      have HFIN := Lib.hid (DoGo.next (b := b) (op := op) (kd := kd) (ln := ln) (h := 0) (e := .returned (.tuple #[])) (cells := []) rfl (((HT.out.drewN 2).trans M7.2 Mine.x).trans M9.2 Mine.x) M9.1 E9)
      have hnl : (n : Int) ≤ rl := by omega
      clear hcut X9 M9 E9 M7 E7 X7 T7 O7 s2 c2 x1 r1 x2 x4 fe HNE
      by_cases hcn : rc = n
      · rw [if_pos hcn, show rc - n = 0 by omega] at HFIN
        go_wp2_with fail
        refine wp_region_lex (fun w' => w'.cell? ⟨b, 2, none⟩ = some (.slice (some ⟨v.fed, 0, none⟩) m.fed.length m.fed.length) ∧ w'.cell? ⟨w.heap.size, 1, none⟩ = some (.int .i64 k) ∧ w'.cell? ⟨v.fed, k, none⟩ = some (.slice (some ⟨gf, of', none⟩) rl rc) ∧ w'.cell? ⟨w.heap.size, 2, none⟩ = some (.int .i64 n)) [0, 1, 2, 3, 4, 5, 6, 7, 8, 9, 10, 11, 12, 13, 14, 15, 16, 17, 18] [19, 20] (by kernel_rfl) (by kernel_rfl) rfl (fun _ _ hx h => ⟨hx.cell h.1, hx.cell h.2.1, hx.cell h.2.2.1, hx.cell h.2.2.2⟩) ⟨y2, y1, s1, yn⟩ ?_
        intro Q' hQ'
        simp only [pickOps, List.flatMap_cons, List.flatMap_nil, List.drop_succ_cons, List.drop_zero, List.take_succ_cons, List.take_zero, List.cons_append, List.nil_append, List.append_nil]
        repeat (first
          | (refine wpReads_skip (by rfl) ?_; (try simp only [Act.put, List.setIfInBounds_toArray, List.set_cons_zero, List.set_cons_succ]))
          | (refine wpReads_cons ?_ (by rfl) (by rfl) ?_ ?_; rotate_left; (intro wz hz; (try dsimp only at hz); go_simp; try with_reducible rfl); (try simp only [Act.put, List.setIfInBounds_toArray, List.set_cons_zero, List.set_cons_succ]))
          | (refine wpReads_any ?_ (by rfl) ?_ ?_; rotate_left; (intro wz; go_simp; try with_reducible rfl); (try simp only [Act.put, List.setIfInBounds_toArray, List.set_cons_zero, List.set_cons_succ])))
        refine wpReads_nil ?_
        go_wp2
        go_end0
        exact HFIN.out.drewN 1
      · rw [if_neg hcn] at HFIN
        go_wp2_with fail
        refine wp_region_lex (fun w' => w'.cell? ⟨b, 2, none⟩ = some (.slice (some ⟨v.fed, 0, none⟩) m.fed.length m.fed.length) ∧ w'.cell? ⟨w.heap.size, 1, none⟩ = some (.int .i64 k) ∧ w'.cell? ⟨v.fed, k, none⟩ = some (.slice (some ⟨gf, of', none⟩) rl rc) ∧ w'.cell? ⟨w.heap.size, 2, none⟩ = some (.int .i64 n)) [0, 1, 2, 3, 4, 5, 6, 7, 8, 9, 10, 11, 12, 13, 14, 15, 16, 17, 18] [19, 20] (by kernel_rfl) (by kernel_rfl) rfl (fun _ _ hx h => ⟨hx.cell h.1, hx.cell h.2.1, hx.cell h.2.2.1, hx.cell h.2.2.2⟩) ⟨y2, y1, s1, yn⟩ ?_
        intro Q' hQ'
        simp only [pickOps, List.flatMap_cons, List.flatMap_nil, List.drop_succ_cons, List.drop_zero, List.take_succ_cons, List.take_zero, List.cons_append, List.nil_append, List.append_nil]
        repeat (first
          | (refine wpReads_skip (by rfl) ?_; (try simp only [Act.put, List.setIfInBounds_toArray, List.set_cons_zero, List.set_cons_succ]))
          | (refine wpReads_cons ?_ (by rfl) (by rfl) ?_ ?_; rotate_left; (intro wz hz; (try dsimp only at hz); go_simp; try with_reducible rfl); (try simp only [Act.put, List.setIfInBounds_toArray, List.set_cons_zero, List.set_cons_succ]))
          | (refine wpReads_any ?_ (by rfl) ?_ ?_; rotate_left; (intro wz; go_simp; try with_reducible rfl); (try simp only [Act.put, List.setIfInBounds_toArray, List.set_cons_zero, List.set_cons_succ])))
        refine wpReads_nil ?_
        go_wp2
        go_end0
        exact HFIN.out.drewN 1
end Go.Proofs.Ytnnnpippekpibaa

/- The machine's write. -/
namespace Go.Proofs.Ytnnnpippekpibaa
open Go.RowKit


set_option maxRecDepth 100000 in
set_option maxHeartbeats 2000000 in
theorem write_any {w : World} {o : Col} {M b eb : Nat} {P : GProg} {m : MachP} {v : MVals} {F s : Nat} {op kd ln : Int} (x : GOp) (h : MachAt w o M b P m v) (hE : EvAt w o M eb op kd ln 0 []) (hm : MOk P F s m) (hs : s ≤ 1000000000) {k n : Nat} (ha : x.a = k) (ht : x.b = n) (hk : k < m.out.length) (hn : 0 < n ∧ n ≤ 64) :
    Calls Try.prog 51 #[.pointer (some ⟨b, 0, none⟩), opA x, .pointer (some ⟨eb, 0, none⟩)] w
      (if m.hand.length < n then DoStop w o M b P m eb op kd ln 4 else DoGo w o M b P eb op kd ln 0 [] { m with
        out := m.out.set k (rowAt m.out k ++ m.hand.take n)
        hand := m.hand.drop n
        next := m.next + 1 }) := by
  obtain ⟨kd', xa, xb⟩ := x
  dsimp only at ha ht ⊢
  subst ha ht
  unfold opA
  dsimp only
  have hbx := below_alloc w (.cells #[.int .u8 kd', .int .i64 (k : Int), .int .i64 (n : Int)] 43)
  have Tx := Turn.of_below o (M + 206) hbx
  have h1 := h.turn Tx (fun _ h => h.elim)
  have hE1 := hE.turn Tx (fun h => h) (fun h => h)
  have hX : Blk (w.alloc (.cells #[.int .u8 kd', .int .i64 (k : Int), .int .i64 (n : Int)] 43)) (ext o w.heap.size (M + 206)) (M + 206) w.heap.size 43 #[.int .u8 kd', .int .i64 (k : Int), .int .i64 (n : Int)] := ⟨heap_alloc_new w _, ext_new (Nat.le_refl _)⟩
  have x1 := hX.cell 1 _ rfl
  have x2 := hX.cell 2 _ rfl
  generalize ext o w.heap.size (M + 206) = q at *
  clear h hE hbx
  have hhl := hm.hand.1
  have hol := (rowAt_ok (Q := fun r : List Int => r.length ≤ 64 * s ∧ ∀ x ∈ r, Fits x) hm.outf ⟨Nat.zero_le _, fun _ h => by cases h⟩ k).1
  have c8 := h1.cell 8 (u := v.hand) (by unfold machV; rfl)
  obtain ⟨ha, hc, hv⟩ := h1.hand.slice
  rw [ivs_len] at hv
  rw [hv] at c8
  have HHV := Lib.hid hv
  have HX := Lib.hid hX
  have HM := Lib.hid h1
  have HE := Lib.hid hE1
  have HT := Lib.hid (Tx.mono (D := MineX M) (fun _ h => h.elim))
  have fe := hE1.frozen 4
  obtain ⟨_, _, _, x4, _⟩ := hE1.reads
  clear hm hX h1 hE1 Tx hv
  by_cases hA : m.hand.length < n
  · rw [if_pos hA]
    have hb : (m.hand.length : Int) < (n : Int) := by omega
    go_enter Try.func51, Try.ntmps51
    go_wp2_with fail
    refine wp_region_lex (fun w' => w'.cell? ⟨b, 8, none⟩ = some (.slice ha m.hand.length hc) ∧ w'.cell? ⟨w.heap.size, 2, none⟩ = some (.int .i64 n)) [0, 1, 2, 3, 4, 5, 6, 7] [] (by kernel_rfl) (by kernel_rfl) rfl (fun _ _ hx h => ⟨hx.cell h.1, hx.cell h.2⟩) ⟨c8, x2⟩ ?_
    intro Q' hQ'
    simp only [pickOps, List.flatMap_cons, List.flatMap_nil, List.drop_succ_cons, List.drop_zero, List.take_succ_cons, List.take_zero, List.cons_append, List.nil_append, List.append_nil]
    repeat (first
      | (refine wpReads_skip (by rfl) ?_; (try simp only [Act.put, List.setIfInBounds_toArray, List.set_cons_zero, List.set_cons_succ]))
      | (refine wpReads_cons ?_ (by rfl) (by rfl) ?_ ?_; rotate_left; (intro wz hz; (try dsimp only at hz); go_simp; try with_reducible rfl); (try simp only [Act.put, List.setIfInBounds_toArray, List.set_cons_zero, List.set_cons_succ]))
      | (refine wpReads_any ?_ (by rfl) ?_ ?_; rotate_left; (intro wz; go_simp; try with_reducible rfl); (try simp only [Act.put, List.setIfInBounds_toArray, List.set_cons_zero, List.set_cons_succ])))
    refine wpReads_nil ?_
    go_wp2
    go_end0
    exact (EvAt.stop HE.out HM.out HT.out 4).drewN 1
  · rw [if_neg hA]
    have hb : decide (m.hand.length < n) = false := decide_eq_false (by omega)
    have hb1 : ¬ (m.hand.length : Int) < (n : Int) := by omega
    have HA := Lib.hid hA
    obtain ⟨gh, oh, hc', hv2, hcl, hcm⟩ := (HM.out.hand).some (by rw [ivs_len]; omega)
    rw [ivs_len] at hv2 hcl
    rw [HHV.out] at hv2
    simp only [Value.slice.injEq] at hv2
    obtain ⟨rfl, -, rfl⟩ := hv2
    have hnc : (n : Int) ≤ hc := by omega
    have hc0 : ¬ hc = 0 := by omega
    have c3 := HM.out.cell 3 (u := .slice (some ⟨v.out, 0, none⟩) m.out.length m.out.length) (by unfold machV; rfl)
    obtain ⟨ra, rc, -, r1, r2, rf⟩ := HM.out.out.at hk
    have hki : (k : Int) < m.out.length := by omega
    obtain ⟨rl, hrl⟩ : ∃ x, (rowAt m.out k).length = x := ⟨_, rfl⟩
    rw [hrl] at r1 r2 hol
    have HR := Lib.hid r2
    have HRL := Lib.hid hrl
    obtain ⟨i0, hi, hz0, hz1, hz2⟩ := info_parts info_int
    have HI := Lib.hid hi
    have hlen : (m.hand.take n).length = n := by rw [List.length_take]; omega
    have hTS := HM.out.hand
    rw [HHV.out] at hTS
    have hTS := hTS.front (k := n) (by rw [ivs_len]; omega)
    rw [ivs, ← List.map_take] at hTS
    obtain ⟨hnone, hnews⟩ := Vals.news hTS
    have HNO := Lib.hid hnone
    have HNE := Lib.hid hnews
    have HLEN := Lib.hid hlen
    clear hTS hlen hnone hnews r2 hrl hA
    go_enter Try.func51, Try.ntmps51
    go_wp2_with fail
    refine wp_region_lex (fun w' => w'.cell? ⟨b, 8, none⟩ = some (.slice (some ⟨gh, oh, none⟩) m.hand.length hc) ∧ w'.cell? ⟨w.heap.size, 2, none⟩ = some (.int .i64 n)) [0, 1, 2, 3, 4, 5, 6, 7] [] (by kernel_rfl) (by kernel_rfl) rfl (fun _ _ hx h => ⟨hx.cell h.1, hx.cell h.2⟩) ⟨c8, x2⟩ ?_
    intro Q' hQ'
    simp only [pickOps, List.flatMap_cons, List.flatMap_nil, List.drop_succ_cons, List.drop_zero, List.take_succ_cons, List.take_zero, List.cons_append, List.nil_append, List.append_nil]
    repeat (first
      | (refine wpReads_skip (by rfl) ?_; (try simp only [Act.put, List.setIfInBounds_toArray, List.set_cons_zero, List.set_cons_succ]))
      | (refine wpReads_cons ?_ (by rfl) (by rfl) ?_ ?_; rotate_left; (intro wz hz; (try dsimp only at hz); go_simp; try with_reducible rfl); (try simp only [Act.put, List.setIfInBounds_toArray, List.set_cons_zero, List.set_cons_succ]))
      | (refine wpReads_any ?_ (by rfl) ?_ ?_; rotate_left; (intro wz; go_simp; try with_reducible rfl); (try simp only [Act.put, List.setIfInBounds_toArray, List.set_cons_zero, List.set_cons_succ])))
    refine wpReads_nil ?_
    go_wp2_with fail
    refine wp_region_lex1 (fun w' => w'.cell? ⟨b, 8, none⟩ = some (.slice (some ⟨gh, oh, none⟩) m.hand.length hc) ∧ w'.cell? ⟨b, 3, none⟩ = some (.slice (some ⟨v.out, 0, none⟩) m.out.length m.out.length) ∧ w'.cell? ⟨w.heap.size, 1, none⟩ = some (.int .i64 k) ∧ w'.cell? ⟨v.out, k, none⟩ = some (.slice ra rl rc) ∧ w'.cell? ⟨w.heap.size, 2, none⟩ = some (.int .i64 n)) [0, 1, 2, 3, 4, 5, 6, 7, 8, 9, 10, 11, 12, 13, 14, 15, 16, 17, 18, 19, 20, 21, 22] [] 23 [24, 25] (by kernel_rfl) (by kernel_rfl) (by kernel_rfl) rfl (fun _ _ hx h => ⟨hx.cell h.1, hx.cell h.2.1, hx.cell h.2.2.1, hx.cell h.2.2.2.1, hx.cell h.2.2.2.2⟩) ⟨c8, c3, x1, r1, x2⟩ ?_
    intro Q' hQ'
    simp only [pickOps, List.flatMap_cons, List.flatMap_nil, List.drop_succ_cons, List.drop_zero, List.take_succ_cons, List.take_zero, List.cons_append, List.nil_append, List.append_nil]
    repeat (first
      | (refine wpReads_skip (by rfl) ?_; (try simp only [Act.put, List.setIfInBounds_toArray, List.set_cons_zero, List.set_cons_succ]))
      | (refine wpReads_cons ?_ (by rfl) (by rfl) ?_ ?_; rotate_left; (intro wz hz; (try dsimp only at hz); go_simp; try with_reducible rfl); (try simp only [Act.put, List.setIfInBounds_toArray, List.set_cons_zero, List.set_cons_succ]))
      | (refine wpReads_any ?_ (by rfl) ?_ ?_; rotate_left; (intro wz; go_simp; try with_reducible rfl); (try simp only [Act.put, List.setIfInBounds_toArray, List.set_cons_zero, List.set_cons_succ])))
    refine wpReads_nil ?_
    go_wp2_with (at_builtin; refine stop_here ?_)
    refine go_on ?_
    refine wpList_app_off rfl _ _ 37 rfl q (M + 32 + k) 3 i0 _ 8 Try.underlying37 HI.out hz0 hz1 hz2 rfl (.slice ra rl rc) (ivs (rowAt m.out k)) rfl (HR.out.turn ((Turn.refl q (fun _ => False) _).drewN 2) (fun h => h)) (some ⟨gh, oh, none⟩) n hc (ivs (m.hand.take n)) rfl (by rw [ivs_len]; exact HLEN.out) HNO.out HNE.out (ivs_one _) (by rw [ivs_len, HRL.out]; unfold maxLen; omega) (grow_ok (by rw [ivs_len, HRL.out]; omega)) ?_
    intro v7 w7 T7 O7
    obtain ⟨sp7, cp7, hv7⟩ := O7.slice
    simp only [List.length_append, List.length_map] at hv7
    rw [HLEN.out, HRL.out] at hv7
    subst hv7
    have M7 := (HM.out.drewN 2).setOut (l := rowAt m.out k ++ m.hand.take n) hk T7 (by rw [ivs, List.map_append]; exact O7)
    have E7 := (HE.out.drewN 2).turn M7.2 (notMine (by omega)) (notMine (by omega))
    have X7 := (HM.out.drewN 2).out.blk.turn T7 (by omega)
    have t8 := T7.cell c8 (by show ¬ q b = M + 32 + k; rw [HM.out.blk.2]; omega)
    have t3 := T7.cell c3 (by show ¬ q b = M + 32 + k; rw [HM.out.blk.2]; omega)
    have tx1 := T7.cell x1 (by show ¬ q w.heap.size = M + 32 + k; rw [HX.out.2]; have := HM.out.small; omega)
    have tx2 := T7.cell x2 (by show ¬ q w.heap.size = M + 32 + k; rw [HX.out.2]; have := HM.out.small; omega)
    have tr1 := T7.cell r1 (by show ¬ q v.out = M + 32 + k; rw [HM.out.out.blk.2]; omega)
    have s1 : ∃ u, w7.cell? ⟨v.out, k, none⟩ = some u := ⟨_, X7.cell k _ (by simp only [List.getElem?_toArray]; rw [List.getElem?_eq_getElem (by rw [HM.out.out.len]; exact hk)])⟩
    obtain ⟨u1, s1⟩ := s1
    have s2 := X7.frozen k
    have y8 := M7.1.cell 8 (u := v.hand) (by unfold machV; rfl)
    rw [HHV.out] at y8
    have g8 := M7.1.frozen 8
    have hcut := M7.1.hand
    change OffRow _ _ _ _ v.hand (ivs m.hand) at hcut
    rw [HHV.out] at hcut
    have hcut := hcut.cut (k := n) (by rw [ivs_len]; have := HA.out; omega)
    rw [ivs, ← List.map_drop] at hcut
    have M8 := M7.1.setHand (Turn.refl _ _ _) hcut
    have E8 := E7.turn M8.2 (notMine (by omega)) (notMine (by omega))
    have X9 := (HX.out.turn ((Turn.refl q (fun _ => False) _).drewN 2) (fun h => h)).turn M7.2 (notMine (by omega))
    have y2 := X9.cell 2 _ rfl
    have HFIN := Lib.hid (DoGo.next (b := b) (op := op) (kd := kd) (ln := ln) (h := 0) (e := .returned (.tuple #[])) (cells := []) rfl (((HT.out.drewN 2).trans M7.2 Mine.x).trans M8.2 Mine.x) M8.1 E8)
    have hnl : (n : Int) ≤ m.hand.length := by have := HA.out; omega
    clear E7 M7 X7 hcut M8 E8 X9 T7 O7 c8 c3 x1 x2 r1 x4 fe HNE
    go_wp2
    refine ⟨⟨t8, t3, tx1, tr1, tx2⟩, ?_⟩
    clear t8 t3 tx1 tr1 tx2
    by_cases hcn : hc = n
    · rw [if_pos hcn, show hc - n = 0 by omega] at HFIN
      go_wp2_with fail
      refine wp_region_lex (fun w' => w'.cell? ⟨b, 8, none⟩ = some (.slice (some ⟨gh, oh, none⟩) m.hand.length hc) ∧ w'.cell? ⟨w.heap.size, 2, none⟩ = some (.int .i64 n)) [0, 1, 2, 3, 4, 5, 6, 7] [8, 9, 10] (by kernel_rfl) (by kernel_rfl) rfl (fun _ _ hx h => ⟨hx.cell h.1, hx.cell h.2⟩) ⟨y8, y2⟩ ?_
      intro Q' hQ'
      simp only [pickOps, List.flatMap_cons, List.flatMap_nil, List.drop_succ_cons, List.drop_zero, List.take_succ_cons, List.take_zero, List.cons_append, List.nil_append, List.append_nil]
      repeat (first
        | (refine wpReads_skip (by rfl) ?_; (try simp only [Act.put, List.setIfInBounds_toArray, List.set_cons_zero, List.set_cons_succ]))
        | (refine wpReads_cons ?_ (by rfl) (by rfl) ?_ ?_; rotate_left; (intro wz hz; (try dsimp only at hz); go_simp; try with_reducible rfl); (try simp only [Act.put, List.setIfInBounds_toArray, List.set_cons_zero, List.set_cons_succ]))
        | (refine wpReads_any ?_ (by rfl) ?_ ?_; rotate_left; (intro wz; go_simp; try with_reducible rfl); (try simp only [Act.put, List.setIfInBounds_toArray, List.set_cons_zero, List.set_cons_succ])))
      refine wpReads_nil ?_
      go_wp2
      go_end0
      exact HFIN.out.drewN 1
    · rw [if_neg hcn] at HFIN
      go_wp2_with fail
      refine wp_region_lex (fun w' => w'.cell? ⟨b, 8, none⟩ = some (.slice (some ⟨gh, oh, none⟩) m.hand.length hc) ∧ w'.cell? ⟨w.heap.size, 2, none⟩ = some (.int .i64 n)) [0, 1, 2, 3, 4, 5, 6, 7] [8, 9, 10] (by kernel_rfl) (by kernel_rfl) rfl (fun _ _ hx h => ⟨hx.cell h.1, hx.cell h.2⟩) ⟨y8, y2⟩ ?_
      intro Q' hQ'
      simp only [pickOps, List.flatMap_cons, List.flatMap_nil, List.drop_succ_cons, List.drop_zero, List.take_succ_cons, List.take_zero, List.cons_append, List.nil_append, List.append_nil]
      repeat (first
        | (refine wpReads_skip (by rfl) ?_; (try simp only [Act.put, List.setIfInBounds_toArray, List.set_cons_zero, List.set_cons_succ]))
        | (refine wpReads_cons ?_ (by rfl) (by rfl) ?_ ?_; rotate_left; (intro wz hz; (try dsimp only at hz); go_simp; try with_reducible rfl); (try simp only [Act.put, List.setIfInBounds_toArray, List.set_cons_zero, List.set_cons_succ]))
        | (refine wpReads_any ?_ (by rfl) ?_ ?_; rotate_left; (intro wz; go_simp; try with_reducible rfl); (try simp only [Act.put, List.setIfInBounds_toArray, List.set_cons_zero, List.set_cons_succ])))
      refine wpReads_nil ?_
      go_wp2
      go_end0
      exact HFIN.out.drewN 1
end Go.Proofs.Ytnnnpippekpibaa

/- The machine's call: the hand is dealt. -/
namespace Go.Proofs.Ytnnnpippekpibaa
open Go.RowKit

theorem insP_nums {t : Int} {ps : List Int} (h : goodP t ps) : (∀ r ∈ insP t ps, 1 ≤ r ∧ r ≤ 64) ∧ (insP t ps).length ≤ 64 := by
  unfold goodP pairP oneP at h
  unfold insP
  split
  · refine ⟨fun r hr => ?_, by simp⟩
    simp at hr
    omega
  split
  · refine ⟨fun r hr => ?_, by simp; omega⟩
    have := List.eq_of_mem_replicate hr
    omega
  split
  · refine ⟨fun r hr => ?_, by simp⟩
    simp at hr
    have h5 : t = 5 := by omega
    have h1 : (1 ≤ hd ps ∧ hd ps ≤ 16) ∧ (1 ≤ hd1 ps ∧ hd1 ps ≤ 64) ∧ hd ps * hd1 ps ≤ 64 := by omega
    have h2 : 1 * 1 ≤ hd ps * hd1 ps := Int.mul_le_mul h1.1.1 h1.2.1.1 (by omega) (by omega)
    omega
  split
  · refine ⟨fun r hr => ?_, by simp; omega⟩
    have := List.eq_of_mem_replicate hr
    omega
  split
  · exact ⟨fun r hr => by simp at hr; omega, by simp⟩
  split
  · exact ⟨fun r hr => (by cases hr), by simp⟩
  · exact ⟨fun r hr => by simp at hr; omega, by simp⟩
theorem sum_nn : ∀ {l : List Int}, (∀ r ∈ l, 1 ≤ r ∧ r ≤ 64) → 0 ≤ l.sum
  | [], _ => Int.le_refl _
  | r :: l, h => by
    have h1 := h r List.mem_cons_self
    have h2 := sum_nn (l := l) (fun x hx => h x (List.mem_cons_of_mem _ hx))
    rw [List.sum_cons]
    omega
/-- the rates that are left, the tokens that are left -/
structure Dealing (is : List Int) (hand : List Int) (j : Nat) (done : List (List Int)) (l : List Int) : Prop where
  all : done ++ dealtP (is.drop j) l = dealtP is hand
  sum : (l.length : Int) = (is.drop j).sum
  len : done.length = j
theorem Dealing.step {is hand l : List Int} {j : Nat} {done : List (List Int)} (h : Dealing is hand j done l) (hr : ∀ r ∈ is, 1 ≤ r ∧ r ≤ 64) (hj : j < is.length) : ∃ r : Nat, is[j] = r ∧ 1 ≤ r ∧ r ≤ 64 ∧ r ≤ l.length ∧ Dealing is hand (j + 1) (done ++ [l.take r]) (l.drop r) := by
  have h1 := hr _ (List.getElem_mem hj)
  have h2 := sum_nn (l := is.drop (j + 1)) (fun x hx => hr x (List.mem_of_mem_drop hx))
  have h3 := h.sum
  have h4 := h.all
  rw [List.drop_eq_getElem_cons hj, List.sum_cons] at h3
  rw [List.drop_eq_getElem_cons hj, dealtP] at h4
  obtain ⟨r, e⟩ : ∃ r : Nat, is[j] = r := ⟨is[j].toNat, by omega⟩
  rw [e] at h1 h3 h4
  rw [Int.toNat_natCast] at h4
  refine ⟨r, e, by omega, by omega, by omega, ?_, ?_, by rw [List.length_append, h.len]; rfl⟩
  · rw [← h4, List.append_assoc]; rfl
  · rw [List.length_drop]; omega
theorem Dealing.done {is hand l : List Int} {done : List (List Int)} (h : Dealing is hand is.length done l) : done = dealtP is hand := by
  have := h.all
  rw [List.drop_length, dealtP, List.append_nil] at this
  exact this

/-- what was dealt so far: its slice, its rows -/
structure DealAt (w0 w : World) (N : Nat) (dv : Value) (done : List (List Int)) (vs : List Value) : Prop where
  own : w.ownsRow N 37 1 dv done.length vs
  len : vs.length = done.length
  row : ∀ k, k < done.length → Has w0 (vs[k]?.getD undef) (ivs (done[k]?.getD []))
theorem DealAt.ll {w0 w : World} {dv : Value} {done : List (List Int)} {vs : List Value} {N : Nat} (h : DealAt w0 w N dv done vs) (hb : Below w0.heap.size w0 w) : LL w dv done := by
  refine ⟨vs, h.len, ?_, fun k hk => (h.row k hk).below hb⟩
  have h1 := h.own
  exact (Own.vals (w := w) (o := fun _ => 0) (c := 0) (e := 37) (n := done.length) ⟨owns_base h1 (fun _ _ => Nat.zero_le _), fun _ _ => rfl⟩)
theorem DealAt.push {w0 w w' : World} {dv dv' : Value} {done : List (List Int)} {vs : List Value} {N : Nat} {x : Value} {r : List Int} (h : DealAt w0 w N dv done vs) (h1 : w'.ownsRow N 37 1 dv' (done.length + 1) (vs ++ [x])) (hx : Has w0 x (ivs r)) : DealAt w0 w' N dv' (done ++ [r]) (vs ++ [x]) := by
  refine ⟨by rw [List.length_append]; exact h1, by simp [h.len], fun k hk => ?_⟩
  rw [List.length_append] at hk
  by_cases e : k < done.length
  · rw [List.getElem?_append_left (by rw [h.len]; exact e), List.getElem?_append_left e]
    exact h.row k e
  · obtain rfl : k = done.length := by simp at hk; omega
    have e1 : (vs ++ [x])[done.length]? = some x := by rw [← h.len]; simp
    have e2 : (done ++ [r])[done.length]? = some r := by simp
    rw [e1, e2]
    exact hx
end Go.Proofs.Ytnnnpippekpibaa

/- The machine's call. -/
namespace Go.Proofs.Ytnnnpippekpibaa
open Go.RowKit

theorem takes_nat {p : GPart} (h : goodP p.tag p.params) : ((takesP p : Nat) : Int) = (insP p.tag p.params).sum := by
  have := sum_nn (insP_nums h).1
  unfold takesP
  omega
theorem part_get {P : GProg} {k : Nat} (h : k < P.parts.length) : partAt P k = P.parts[k] := by unfold partAt; rw [List.getElem?_eq_getElem h]; rfl
/-- a part's cells -/
theorem part_cells {w : World} {o : Col} {M b : Nat} {P : GProg} {m : MachP} {v : MVals} (h : MachAt w o M b P m v) {k : Nat} (hk : k < P.parts.length) : ∃ gb cb gt ct B, v.bods = .slice (some ⟨gb, 0, none⟩) P.parts.length cb ∧ P.parts.length ≤ cb ∧ v.takes = .slice (some ⟨gt, 0, none⟩) P.parts.length ct ∧ P.parts.length ≤ ct ∧
    w.cell? ⟨gb, k, none⟩ = some (.pointer (some ⟨B, 0, none⟩)) ∧ w.cell? ⟨gt, k, none⟩ = some (.int .i64 (takesP (partAt P k) : Int)) ∧ ∃ hp : k < v.ptrs.length, v.ptrs[k] = B := by
  obtain ⟨gb, cb, e1, h1, _⟩ := h.bods.addr (by omega)
  obtain ⟨gt, ct, e2, h2, _⟩ := h.takes.addr (by omega)
  have hb := h.bods
  have ht := h.takes
  rw [e1] at hb
  rw [e2] at ht
  have hp : k < v.ptrs.length := by rw [h.ptrs]; exact hk
  refine ⟨gb, cb, gt, ct, v.ptrs[k], e1, h1, e2, h2, hb.cellAt (by simp [hp]), ht.cellAt (by simp [hk, part_get hk]), hp, rfl⟩

theorem flat_take : ∀ (l : List (List Int)) (j : Nat) (h : j < l.length), (l.take (j + 1)).flatten = (l.take j).flatten ++ l[j] ∧ (l.take j).flatten.length + l[j].length ≤ l.flatten.length
  | [], _, h => by simp at h
  | x :: l, 0, _ => ⟨by simp, by simp⟩
  | x :: l, j + 1, h => by
    obtain ⟨h1, h2⟩ := flat_take l j (by simpa using h)
    constructor
    · rw [List.take_succ_cons, List.flatten_cons, h1, List.take_succ_cons, List.flatten_cons, List.append_assoc]; rfl
    · rw [List.take_succ_cons, List.flatten_cons, List.flatten_cons, List.length_append, List.length_append]
      have e : (x :: l)[j + 1] = l[j]'(by simpa using h) := rfl
      rw [e]
      omega
/-- a firing that fails keeps what was -/
theorem shot_err (t : Int) (ps keep : List Int) (n : Int) (xss : List (List Int)) (h : (shot t ps keep n xss).err ≠ 0) : (shot t ps keep n xss).keep = keep ∧ (shot t ps keep n xss).n = n := by
  revert h
  unfold shot
  split
  · split
    · intro h; exact absurd rfl h
    · intro _; exact ⟨rfl, rfl⟩
  · intro _; exact ⟨rfl, rfl⟩


set_option maxRecDepth 100000 in
set_option maxHeartbeats 4000000 in
theorem call_any {w : World} {o : Col} {M b eb : Nat} {P : GProg} {m : MachP} {v : MVals} {F s : Nat} {op kd ln : Int} (x : GOp) (h : MachAt w o M b P m v) (hE : EvAt w o M eb op kd ln 0 []) (hP : POk P) (hf : PFits P) (hm : MOk P F s m) (hs : s ≤ 1000000000) {k : Nat} (hxa : x.a = k) (hk : k < P.parts.length) :
    Calls Try.prog 49 #[.pointer (some ⟨b, 0, none⟩), opA x, .pointer (some ⟨eb, 0, none⟩)] w
      (if m.hand.length ≠ takesP (partAt P k) then DoStop w o M b P m eb op kd ln 4 else if (callS P x m).err ≠ 0 then DoStop w o M b P m eb op kd ln 3 else DoGo w o M b P eb op kd ln 0 [] { m with
        hand := (callS P x m).outs.flatten
        bods := m.bods.set k ((callS P x m).keep, (callS P x m).n)
        next := m.next + 1 }) := by
  have hcs : callS P x m = shot (partAt P k).tag (partAt P k).params (bodAt m k).1 (bodAt m k).2 (dealtP (insP (partAt P k).tag (partAt P k).params) m.hand) := by unfold callS; rw [hxa]; rfl
  rw [hcs]
  obtain ⟨kd', xa, xb⟩ := x
  dsimp only at hxa ⊢
  subst hxa
  clear hcs
  unfold opA
  dsimp only
  have hbx := below_alloc w (.cells #[.int .u8 kd', .int .i64 (k : Int), .int .i64 xb] 43)
  have Tx := Turn.of_below o (M + 206) hbx
  have h1 := h.turn Tx (fun _ h => h.elim)
  have hE1 := hE.turn Tx (fun h => h) (fun h => h)
  have hX : Blk (w.alloc (.cells #[.int .u8 kd', .int .i64 (k : Int), .int .i64 xb] 43)) (ext o w.heap.size (M + 206)) (M + 206) w.heap.size 43 #[.int .u8 kd', .int .i64 (k : Int), .int .i64 xb] := ⟨heap_alloc_new w _, ext_new (Nat.le_refl _)⟩
  have x1 := hX.cell 1 _ rfl
  have x2 := hX.cell 2 _ rfl
  generalize ext o w.heap.size (M + 206) = q at *
  clear h hE hbx
  have hhl := hm.hand.1
  have hnp := hP.nparts
  have hg := partAt_ok hP.parts hk
  have hpf := partAt_ok hf hk
  have hbk := bodAt_ok (Q := fun b => 0 ≤ b.2 ∧ b.2 ≤ s ∧ ∀ x ∈ b.1, Fits x) hm.bodf (k := k) (by rw [hm.bods]; exact hk)
  have hso := shot_ok (n := (bodAt m k).2) hg hpf hbk.2.2 (dealtP_fits (insP (partAt P k).tag (partAt P k).params) hm.hand.2)
  have HDF := Lib.hid (dealtP_fits (insP (partAt P k).tag (partAt P k).params) hm.hand.2)
  have HN1 : Hid (Fits ((bodAt m k).2 + 1)) := Lib.hid (by unfold Fits; omega)
  have HSO := Lib.hid hso
  have HSL := Lib.hid (shot_lens (ps := (partAt P k).params) (keep := (bodAt m k).1) (n := (bodAt m k).2) (xss := dealtP (insP (partAt P k).tag (partAt P k).params) m.hand) hg).1
  have HIN := Lib.hid (insP_nums hg)
  have htn := takes_nat hg
  have HBL := Lib.hid hm.bods
  obtain ⟨gb, cb, gt, ct, B, e1, hb1, e2, hb2, p1, p2, hpx⟩ := part_cells h1 hk
  have HPB := Lib.hid hpx
  obtain ⟨hpl, hpb⟩ := hpx
  have c6 := h1.cell 6 (u := v.bods) (by unfold machV; rfl)
  have c5 := h1.cell 5 (u := v.takes) (by unfold machV; rfl)
  have c8 := h1.cell 8 (u := v.hand) (by unfold machV; rfl)
  rw [e1] at c6
  rw [e2] at c5
  have hAct := h1.acts k hk
  rw [hpb] at hAct
  have HACT := Lib.hid hAct
  obtain ⟨ha, hc, hv⟩ := h1.hand.slice
  rw [ivs_len] at hv
  rw [hv] at c8
  have HHV := Lib.hid hv
  have hki : (k : Int) < P.parts.length := by omega
  have hcbi : (P.parts.length : Int) ≤ cb := by omega
  have hcti : (P.parts.length : Int) ≤ ct := by omega
  have HX := Lib.hid hX
  have HM := Lib.hid h1
  have HE := Lib.hid hE1
  have HT := Lib.hid (Tx.mono (D := MineX M) (fun _ h => h.elim))
  have fe := hE1.frozen 4
  obtain ⟨_, _, _, x4, _⟩ := hE1.reads
  obtain ⟨hl, hhl2⟩ : ∃ x, m.hand.length = x := ⟨_, rfl⟩
  obtain ⟨tkn, htk⟩ : ∃ x, takesP (partAt P k) = x := ⟨_, rfl⟩
  rw [hhl2] at c8 hhl ⊢
  rw [htk] at p2 htn ⊢
  obtain ⟨tk, htk2⟩ : ∃ x : Int, (tkn : Int) = x := ⟨_, rfl⟩
  rw [htk2] at p2
  have HHL := Lib.hid hhl2
  clear hm hX h1 hE1 Tx hv e1 e2 hso hbk hg hpf hf hP hAct hpl hpb hhl2 htk
  by_cases hA : hl ≠ tkn
  · rw [if_pos hA]
    have hb : ((hl : Int) != tk) = true := by rw [bne_iff_ne]; omega
    clear htk2 htn hA
    go_enter Try.func49, Try.ntmps49
    go_wp2_with fail
    refine wp_region_lex (fun w' => w'.cell? ⟨b, 6, none⟩ = some (.slice (some ⟨gb, 0, none⟩) P.parts.length cb) ∧ w'.cell? ⟨w.heap.size, 1, none⟩ = some (.int .i64 k) ∧ w'.cell? ⟨gb, k, none⟩ = some (.pointer (some ⟨B, 0, none⟩))) [0, 1, 2, 3, 4, 5, 6, 7, 8] [] (by kernel_rfl) (by kernel_rfl) rfl (fun _ _ hx h => ⟨hx.cell h.1, hx.cell h.2.1, hx.cell h.2.2⟩) ⟨c6, x1, p1⟩ ?_
    intro Q' hQ'
    simp only [pickOps, List.flatMap_cons, List.flatMap_nil, List.drop_succ_cons, List.drop_zero, List.take_succ_cons, List.take_zero, List.cons_append, List.nil_append, List.append_nil]
    repeat (first
      | (refine wpReads_skip (by rfl) ?_; (try simp only [Act.put, List.setIfInBounds_toArray, List.set_cons_zero, List.set_cons_succ]))
      | (refine wpReads_cons ?_ (by rfl) (by rfl) ?_ ?_; rotate_left; (intro wz hz; (try dsimp only at hz); go_simp; try with_reducible rfl); (try simp only [Act.put, List.setIfInBounds_toArray, List.set_cons_zero, List.set_cons_succ]))
      | (refine wpReads_any ?_ (by rfl) ?_ ?_; rotate_left; (intro wz; go_simp; try with_reducible rfl); (try simp only [Act.put, List.setIfInBounds_toArray, List.set_cons_zero, List.set_cons_succ])))
    refine wpReads_nil ?_
    go_wp2_with fail
    refine wp_region_lex (fun w' => w'.cell? ⟨b, 8, none⟩ = some (.slice ha hl hc) ∧ w'.cell? ⟨b, 5, none⟩ = some (.slice (some ⟨gt, 0, none⟩) P.parts.length ct) ∧ w'.cell? ⟨w.heap.size, 1, none⟩ = some (.int .i64 k) ∧ w'.cell? ⟨gt, k, none⟩ = some (.int .i64 tk)) [0, 1, 2, 3, 4, 5, 6, 7, 8, 9, 10, 11, 12, 13] [] (by kernel_rfl) (by kernel_rfl) rfl (fun _ _ hx h => ⟨hx.cell h.1, hx.cell h.2.1, hx.cell h.2.2.1, hx.cell h.2.2.2⟩) ⟨c8, c5, x1, p2⟩ ?_
    intro Q' hQ'
    simp only [pickOps, List.flatMap_cons, List.flatMap_nil, List.drop_succ_cons, List.drop_zero, List.take_succ_cons, List.take_zero, List.cons_append, List.nil_append, List.append_nil]
    repeat (first
      | (refine wpReads_skip (by rfl) ?_; (try simp only [Act.put, List.setIfInBounds_toArray, List.set_cons_zero, List.set_cons_succ]))
      | (refine wpReads_cons ?_ (by rfl) (by rfl) ?_ ?_; rotate_left; (intro wz hz; (try dsimp only at hz); go_simp; try with_reducible rfl); (try simp only [Act.put, List.setIfInBounds_toArray, List.set_cons_zero, List.set_cons_succ]))
      | (refine wpReads_any ?_ (by rfl) ?_ ?_; rotate_left; (intro wz; go_simp; try with_reducible rfl); (try simp only [Act.put, List.setIfInBounds_toArray, List.set_cons_zero, List.set_cons_succ])))
    refine wpReads_nil ?_
    go_wp2
    go_end0
    exact (EvAt.stop HE.out HM.out HT.out 4).drewN 2
  · rw [if_neg hA]
    have hb : ((hl : Int) != tk) = false := by rw [bne_eq_false_iff_eq]; omega
    obtain ⟨is, his⟩ : ∃ x, insP (partAt P k).tag (partAt P k).params = x := ⟨_, rfl⟩
    rw [his] at htn HIN HDF HSO HSL ⊢
    have HIS := Lib.hid his
    have HSUM : Hid ((hl : Int) = is.sum) := Lib.hid (by omega)
    clear htk2 htn hA his
    go_enter Try.func49, Try.ntmps49
    go_wp2_with fail
    refine wp_region_lex (fun w' => w'.cell? ⟨b, 6, none⟩ = some (.slice (some ⟨gb, 0, none⟩) P.parts.length cb) ∧ w'.cell? ⟨w.heap.size, 1, none⟩ = some (.int .i64 k) ∧ w'.cell? ⟨gb, k, none⟩ = some (.pointer (some ⟨B, 0, none⟩))) [0, 1, 2, 3, 4, 5, 6, 7, 8] [] (by kernel_rfl) (by kernel_rfl) rfl (fun _ _ hx h => ⟨hx.cell h.1, hx.cell h.2.1, hx.cell h.2.2⟩) ⟨c6, x1, p1⟩ ?_
    intro Q' hQ'
    simp only [pickOps, List.flatMap_cons, List.flatMap_nil, List.drop_succ_cons, List.drop_zero, List.take_succ_cons, List.take_zero, List.cons_append, List.nil_append, List.append_nil]
    repeat (first
      | (refine wpReads_skip (by rfl) ?_; (try simp only [Act.put, List.setIfInBounds_toArray, List.set_cons_zero, List.set_cons_succ]))
      | (refine wpReads_cons ?_ (by rfl) (by rfl) ?_ ?_; rotate_left; (intro wz hz; (try dsimp only at hz); go_simp; try with_reducible rfl); (try simp only [Act.put, List.setIfInBounds_toArray, List.set_cons_zero, List.set_cons_succ]))
      | (refine wpReads_any ?_ (by rfl) ?_ ?_; rotate_left; (intro wz; go_simp; try with_reducible rfl); (try simp only [Act.put, List.setIfInBounds_toArray, List.set_cons_zero, List.set_cons_succ])))
    refine wpReads_nil ?_
    go_wp2_with fail
    refine wp_region_lex (fun w' => w'.cell? ⟨b, 8, none⟩ = some (.slice ha hl hc) ∧ w'.cell? ⟨b, 5, none⟩ = some (.slice (some ⟨gt, 0, none⟩) P.parts.length ct) ∧ w'.cell? ⟨w.heap.size, 1, none⟩ = some (.int .i64 k) ∧ w'.cell? ⟨gt, k, none⟩ = some (.int .i64 tk)) [0, 1, 2, 3, 4, 5, 6, 7, 8, 9, 10, 11, 12, 13] [] (by kernel_rfl) (by kernel_rfl) rfl (fun _ _ hx h => ⟨hx.cell h.1, hx.cell h.2.1, hx.cell h.2.2.1, hx.cell h.2.2.2⟩) ⟨c8, c5, x1, p2⟩ ?_
    intro Q' hQ'
    simp only [pickOps, List.flatMap_cons, List.flatMap_nil, List.drop_succ_cons, List.drop_zero, List.take_succ_cons, List.take_zero, List.cons_append, List.nil_append, List.append_nil]
    repeat (first
      | (refine wpReads_skip (by rfl) ?_; (try simp only [Act.put, List.setIfInBounds_toArray, List.set_cons_zero, List.set_cons_succ]))
      | (refine wpReads_cons ?_ (by rfl) (by rfl) ?_ ?_; rotate_left; (intro wz hz; (try dsimp only at hz); go_simp; try with_reducible rfl); (try simp only [Act.put, List.setIfInBounds_toArray, List.set_cons_zero, List.set_cons_succ]))
      | (refine wpReads_any ?_ (by rfl) ?_ ?_; rotate_left; (intro wz; go_simp; try with_reducible rfl); (try simp only [Act.put, List.setIfInBounds_toArray, List.set_cons_zero, List.set_cons_succ])))
    refine wpReads_nil ?_
    obtain ⟨i0, hi, hz0, hz1, hz2⟩ := info_parts info_ints
    have HI := Lib.hid hi
    obtain ⟨n, hn⟩ : ∃ x, is.length = x := ⟨_, rfl⟩
    have HNL := Lib.hid hn
    have hn64 := HIN.out.2
    rw [hn] at hn64
    clear hn
    go_wp2_with fail
    refine (Shape_act (Act.drewN HACT.out 2)).mono ?_
    rintro e w1 ⟨g1, c1, g2, c2, he, K1, K2, hg12, hb1⟩
    rw [HIS.out, HNL.out] at he K1
    subst he
    have T1 := Turn.of_below q (M + 207) hb1
    have M1 := (HM.out.drewN 2).turn T1 (fun _ h => h.elim)
    have E1 := (HE.out.drewN 2).turn T1 (fun h => h) (fun h => h)
    have A1 := (Act.drewN HACT.out 2).turn T1 (fun h => h) (fun h => h)
    have TT1 := (HT.out.drewN 2).trans T1 (fun _ h => h.elim)
    have HK1 := Lib.hid K1
    have HM1 := Lib.hid M1
    have HE1 := Lib.hid E1
    have HA1 := Lib.hid A1
    have HT1 := Lib.hid TT1
    have hw1 := hb1.size
    generalize ext q _ (M + 207) = q1 at *
    have d8 := M1.cell 8 (u := v.hand) (by unfold machV; rfl)
    rw [HHV.out, HHL.out] at d8
    clear T1 M1 E1 A1 TT1 K1 K2 hb1 hg12 HE HACT c5 c6 c8 p1 p2 x1 x2 x4 fe
    go_wp2_with fail
    go_loopw [7, 8, 53] (fun dv rest i wl => ∃ (j : Nat) (done : List (List Int)) (l : List Int) (vs : List Value), j ≤ n ∧ i = .int .i64 j ∧ Below w1.heap.size w1 wl ∧ DealAt w1 wl w1.heap.size dv done vs ∧ OffRow w1 q1 (M + 9) 3 rest (ivs l) ∧ Dealing is m.hand j done l) (fun _ _ i _ => n - (intOf i).toNat)
    case atStart =>
      refine ⟨0, [], m.hand, [], Nat.zero_le _, rfl, Below.refl _ _, ⟨World.ownsRow_nil w1 w1.heap.size 37 1, rfl, fun k hk => by simp at hk⟩, ?_, ⟨by rw [List.drop_zero]; rfl, by rw [List.drop_zero, HHL.out]; exact HSUM.out, rfl⟩⟩
      have := HM1.out.hand
      rw [HHV.out, HHL.out] at this
      exact this
    case round =>
      obtain ⟨j, done, l, vs, hj, rfl, hbl, hDA, hO, hDl⟩ := hrel
      have HB := Lib.hid hbl
      have HDA := Lib.hid hDA
      have HDL := Lib.hid hDl
      obtain ⟨da, dc, rfl⟩ := owns_slice hDA.own
      by_cases hlt : j < n
      · have hjl : j < is.length := by have := HNL.out; omega
        obtain ⟨r, hr, hr1, hr2, hr3, hD2⟩ := hDl.step HIN.out.1 hjl
        obtain ⟨gr, or', lc, rfl, hlc, -⟩ := hO.some (by rw [ivs_len]; omega)
        rw [ivs_len] at *
        have f1 := HK1.out.cells (g := g1) rfl j (.int .i64 (r : Int)) (by simp [ivs, hjl, hr])
        rw [Addr.add_lit, Nat.zero_add] at f1
        have f1' := cell_later hbl f1
        have hfr := hO.front (k := r) (by rw [ivs_len]; exact hr3)
        rw [ivs, ← List.map_take] at hfr
        have hcut := hO.cut (k := r) (by rw [ivs_len]; exact hr3)
        rw [ivs, ← List.map_drop] at hcut
        have HFR := Lib.hid hfr
        have HCUT := Lib.hid hcut
        have HD2 := Lib.hid hD2
        have hlti : (j : Int) < n := by omega
        have hrlc : (r : Int) ≤ lc := by omega
        have hrll : (r : Int) ≤ l.length := by omega
        have hlc0 : ¬ lc = 0 := by omega
        have hdl : done.length ≤ 64 := by rw [hDl.len]; omega
        clear hfr hcut hD2 hDl hDA hO hbl hr f1
        by_cases hcn : lc = r
        · rw [if_pos hcn, show lc - r = 0 by omega, show l.length - r = 0 by omega] at HCUT
          subst hcn
          go_wp2_with (at_builtin; refine stop_here ?_)
          refine go_on ?_
          refine wpList_app rfl _ _ 45 rfl w1.heap.size 37 i0 _ 1 24 Try.underlying45 HI.out hz0 hz1 hz2 rfl (.slice da done.length dc) done.length vs rfl (HDA.out.own.alloc _) (some ⟨wr.heap.size, 0, none⟩) 1 1 [.slice (some ⟨gr, or', none⟩) lc lc] rfl rfl (fun h => by cases h) (news_alloc wr [.slice (some ⟨gr, or', none⟩) lc lc] 37) (by simp [Value.oneCell']) (by unfold maxLen; omega) (grow_ok (by omega)) (by have := HB.out.size; simp; omega) ?_
          intro v7 w7 k1 k20 _ _
          have hb7 := HB.out.trans (below_app HDA.out.own k20 HB.out.size)
          have D7 := HDA.out.push k1 (r := l.take lc) HFR.out.has
          have HB7 := Lib.hid hb7
          have HD7 := Lib.hid D7
          clear k1 k20 hb7 D7
          go_wp2
          go_roundw
          case rel => exact ⟨j + 1, _, _, _, hlt, by go_num, HB7.out, HD7.out, HCUT.out, HD2.out⟩
          case measure => simp [intOf]; omega
        · rw [if_neg hcn] at HCUT
          go_wp2_with (at_builtin; refine stop_here ?_)
          refine go_on ?_
          refine wpList_app rfl _ _ 45 rfl w1.heap.size 37 i0 _ 1 24 Try.underlying45 HI.out hz0 hz1 hz2 rfl (.slice da done.length dc) done.length vs rfl (HDA.out.own.alloc _) (some ⟨wr.heap.size, 0, none⟩) 1 1 [.slice (some ⟨gr, or', none⟩) r lc] rfl rfl (fun h => by cases h) (news_alloc wr [.slice (some ⟨gr, or', none⟩) r lc] 37) (by simp [Value.oneCell']) (by unfold maxLen; omega) (grow_ok (by omega)) (by have := HB.out.size; simp; omega) ?_
          intro v7 w7 k1 k20 _ _
          have hb7 := HB.out.trans (below_app HDA.out.own k20 HB.out.size)
          have D7 := HDA.out.push k1 (r := l.take r) HFR.out.has
          have HB7 := Lib.hid hb7
          have HD7 := Lib.hid D7
          clear k1 k20 hb7 D7
          go_wp2
          go_roundw
          case rel => exact ⟨j + 1, _, _, _, hlt, by go_num, HB7.out, HD7.out, HCUT.out, HD2.out⟩
          case measure => simp [intOf]; omega
      · obtain rfl : j = n := by omega
        have hdn : done = dealtP is m.hand := by
          have := HDL.out
          rw [← HNL.out] at this
          exact this.done
        subst hdn
        have TL := Turn.of_below q1 (M + 207) hbl
        have M2 := HM1.out.turn TL (fun _ h => h.elim)
        have E2 := HE1.out.turn TL (fun h => h) (fun h => h)
        have A2 := HA1.out.turn TL (fun h => h) (fun h => h)
        have TT2 := HT1.out.trans TL (fun _ h => h.elim)
        have HLL := Lib.hid (hDA.ll hbl)
        have HM2 := Lib.hid M2
        have HE2 := Lib.hid E2
        have HA2 := Lib.hid A2
        have HT2 := Lib.hid TT2
        generalize ext q1 _ (M + 207) = q2 at *
        clear TL M2 E2 A2 TT2 hDA hO hDl hbl HDA HDL HM1 HE1 HA1 HT1 HM HT HX HB d8
        go_wp2_with fail
        refine (fire_uni (M + 211) (by omega) HA2.out HLL.out HDF.out HN1.out).mono ?_
        rintro e w3 ⟨gv, o3, rfl, T3, A3, O3⟩
        obtain ⟨S, hS⟩ : ∃ x, shot (partAt P k).tag (partAt P k).params (bodAt m k).1 (bodAt m k).2 (dealtP is m.hand) = x := ⟨_, rfl⟩
        have hke := shot_err (partAt P k).tag (partAt P k).params (bodAt m k).1 (bodAt m k).2 (dealtP is m.hand)
        rw [hS] at A3 O3 HSO HSL hke ⊢
        have HSS := Lib.hid hS
        have M3 := HM2.out.setAct (x := (S.keep, S.n)) HBL.out hk T3 (by obtain ⟨_, e⟩ := HPB.out; rw [e]; exact A3)
        have E3 := HE2.out.turn M3.2 (notMine (by omega)) (notMine (by omega))
        have TT3 := HT2.out.trans M3.2 Mine.x
        have hnd := A3
        clear hS T3 A3 hnd HM2 HE2 HA2 HT2 HLL
        obtain ⟨ov, oc, rfl⟩ := O3.ll.slice
        by_cases hErr : S.err = 0
        · have hb2 : (S.err != 0) = false := by rw [bne_eq_false_iff_eq]; exact hErr
          have M4 := M3.1.setHand (l := []) (Turn.refl _ _ _) (OffRow.nil _ _ _ _)
          have fh := M3.1.frozen 8
          have ch := M3.1.cell 8 (u := v.hand) (by unfold machV; rfl)
          have E4 := E3.turn M4.2 (notMine (by omega)) (notMine (by omega))
          have O4 := O3.turn M4.2 (notMine (by omega))
          have TT4 := TT3.trans M4.2 Mine.x
          have HM4 := Lib.hid M4.1
          have HE4 := Lib.hid E4
          have HO4 := Lib.hid O4
          have HT4 := Lib.hid TT4
          have HER := Lib.hid hErr
          obtain ⟨w4, hw4⟩ : ∃ x, w3.setCell ⟨b, 8, none⟩ (.slice none 0 0) = x := ⟨_, rfl⟩
          rw [hw4] at HM4 HE4 HO4 HT4
          obtain ⟨N, hN⟩ : ∃ x, S.outs.length = x := ⟨_, rfl⟩
          have HNN := Lib.hid hN
          rw [hN]
          have hn65 : N ≤ 64 := by have := HSL.out; omega
          clear M3 E3 TT3 M4 E4 O4 TT4 hke O3 hErr hN
          go_wp2_with fail
          clear hw4 fh ch
          obtain ⟨i1, hi1, iz0, iz1, iz2⟩ := info_parts info_int
          have HI1 := Lib.hid hi1
          clear hi1
          go_loopw [83] (fun i wl => ∃ (j : Nat) (q : Col) (v' : MVals), j ≤ N ∧ i = .int .i64 j ∧ Turn o q (MineX M) w wl ∧ MachAt wl q M b P { m with bods := m.bods.set k (S.keep, S.n), hand := (S.outs.take j).flatten } v' ∧ EvAt wl q M eb op kd ln 0 [] ∧ Outs wl q (M + 211) (.slice ov N oc) S.outs) (fun i _ => N - (intOf i).toNat)
          case atStart => exact ⟨0, o3, _, Nat.zero_le _, rfl, HT4.out, by rw [List.take_zero]; exact HM4.out, HE4.out, by rw [← HNN.out]; exact HO4.out⟩
          case round =>
            clear HT4 HM4 HE4 HO4
            obtain ⟨j, q5, v5, hj, rfl, T5, M5, E5, O5⟩ := hrel
            have HT5 := Lib.hid T5
            have HM5 := Lib.hid M5
            have HE5 := Lib.hid E5
            have HO5 := Lib.hid O5
            by_cases hlt : j < N
            · have hjl : j < S.outs.length := by have := HNN.out; omega
              obtain ⟨bo, off, rfl, hoc, hrow⟩ := O5.ll.at (by omega)
              obtain ⟨a0, c0, hr1, hr2⟩ := hrow j hjl
              obtain ⟨R, hR⟩ : ∃ x, S.outs[j]?.getD [] = x := ⟨_, rfl⟩
              rw [hR] at hr1 hr2
              have hRe : S.outs[j] = R := by rw [← hR, List.getElem?_eq_getElem hjl]; rfl
              have hfl := flat_take S.outs j hjl
              rw [hRe] at hfl
              have hle := HSO.out.2.1
              obtain ⟨X, hX⟩ : ∃ x, (S.outs.take j).flatten = x := ⟨_, rfl⟩
              rw [hX] at hfl HM5 M5
              obtain ⟨hnone, hnews⟩ := Vals.news hr2
              have c8 := M5.cell 8 (u := v5.hand) (by unfold machV; rfl)
              have HFL := Lib.hid hfl
              have hlti : (j : Int) < N := by omega
              have hoci : (N : Int) ≤ oc := by omega
              have hxl : X.length + R.length ≤ 64 := by omega
              have HNO := Lib.hid hnone
              have HNE := Lib.hid hnews
              clear hfl hX hRe hR hrow hr2 T5 M5 E5 O5 hle hnone hnews
              go_wp2_with (at_builtin; refine stop_here ?_)
              refine go_on ?_
              refine wpList_app_off rfl _ _ 37 rfl q5 (M + 9) 3 i1 _ 8 Try.underlying37 HI1.out iz0 iz1 iz2 rfl v5.hand (ivs X) rfl HM5.out.hand a0 R.length c0 (ivs R) rfl (ivs_len _) HNO.out HNE.out (ivs_one _) (by rw [ivs_len]; unfold maxLen; omega) (grow_ok (by rw [ivs_len]; omega)) ?_
              intro v7 w7 T7 O7
              obtain ⟨sp7, cp7, hv7⟩ := O7.slice
              simp only [List.length_append, List.length_map] at hv7
              subst hv7
              have M7 := HM5.out.setHand (l := (S.outs.take (j + 1)).flatten) T7 (by rw [HFL.out.1, ivs, List.map_append]; exact O7)
              have E7 := HE5.out.turn M7.2 (notMine (by omega)) (notMine (by omega))
              have O7' := HO5.out.turn M7.2 (notMine (by omega))
              have X7 := HM5.out.blk.turn T7 (by omega)
              have d8 := X7.cell 8 v5.hand (by simp [machV])
              have f8 := X7.frozen 8
              have HT7 := Lib.hid (HT5.out.trans M7.2 Mine.x)
              have HM7 := Lib.hid M7.1
              have HE7 := Lib.hid E7
              have HO7 := Lib.hid O7'
              clear M7 E7 O7' X7 T7 O7 HNE c8 hr1
              go_wp2
              go_roundw
              case rel => exact ⟨j + 1, _, _, hlt, by go_num, HT7.out, HM7.out, HE7.out, HO7.out⟩
              case measure => simp [intOf]; omega
            · obtain rfl : j = N := by omega
              have hall : S.outs.take j = S.outs := List.take_of_length_le (by rw [HNN.out]; exact Nat.le_refl _)
              rw [hall] at HM5
              have hfin := DoGo.next (b := b) (op := op) (kd := kd) (ln := ln) (h := 0) (e := .returned (.tuple #[])) (cells := []) rfl HT5.out HM5.out HE5.out
              rw [← HSS.out] at hfin
              have HFIN := Lib.hid hfin
              clear hfin T5 M5 E5 O5
              go_wp2
              · go_end0
                exact HFIN.out
              · rw [HSS.out] at h
                exact absurd HER.out h
        · have hb2 : (S.err != 0) = true := by rw [bne_iff_ne]; exact hErr
          have fe := E3.frozen 4
          obtain ⟨_, _, _, x4, _⟩ := E3.reads
          have hme : ({ m with bods := m.bods.set k (S.keep, S.n) } : MachP) = m := by
            rw [(hke hErr).1, (hke hErr).2]
            have : m.bods.set k ((bodAt m k).1, (bodAt m k).2) = m.bods := by
              have hkb : k < m.bods.length := by rw [HBL.out]; exact hk
              show m.bods.set k (bodAt m k) = m.bods
              unfold bodAt
              rw [List.getElem?_eq_getElem hkb]
              exact List.set_getElem_self hkb
            rw [this]
          rw [hme] at M3
          have HM3 := Lib.hid M3.1
          have HE3 := Lib.hid E3
          have HT3 := Lib.hid TT3
          have HER := Lib.hid hErr
          clear M3 E3 TT3 hme hke hErr O3
          go_wp2
          · go_end0
            exact EvAt.stop HE3.out HM3.out HT3.out 3
          · rw [HSS.out] at h
            exact absurd HER.out h
end Go.Proofs.Ytnnnpippekpibaa

/- The machine's step. -/
namespace Go.Proofs.Ytnnnpippekpibaa
open Go.RowKit

def fnV (k : Nat) : Value := .func (.func k) #[] #[]
def tableV : List Value := [fnV 44, fnV 45, fnV 46, fnV 47, fnV 48, fnV 49, fnV 50, fnV 51]
/-- the table of what does each kind of operation -/
def TableAt (w : World) (o : Col) (M tb : Nat) : Prop := Blk w o (M + 209) tb 103 tableV.toArray

def eZ : Value := .agg #[.int .i64 0, .int .u8 0, .int .i64 0, .slice none 0 0, .int .u8 0]
/-- an event as a value -/
def evV (e : EvP) (cv : Value) : Value := .agg #[.int .i64 e.op, .int .u8 e.kind, .int .i64 e.line, cv, .int .u8 e.halt]
/-- all that a machine's calls may turn -/
def MineS (M x : Nat) : Prop := M ≤ x ∧ x < M + 208
theorem MineX.s {M : Nat} (x : Nat) (h : MineX M x) : MineS M x := by unfold MineX at h; unfold MineS; omega
theorem Mine.s {M : Nat} (x : Nat) (h : Mine M x) : MineS M x := by unfold Mine at h; unfold MineS; omega
theorem notMineS {M k : Nat} (h : 208 ≤ k) : ¬ MineS M (M + k) := by unfold MineS; omega
def StepRet (w : World) (o : Col) (M b : Nat) (P : GProg) (r : EvP × MachP) (e : Ending) (w' : World) : Prop :=
  ∃ o' v' cv, e = .returned (evV r.1 cv) ∧ Turn o o' (MineS M) w w' ∧ MachAt w' o' M b P r.2 v' ∧ Ints w' o' (M + 210) cv r.1.cells

/-- an event is stored in a block of its own -/
theorem res_store {w : World} {o : Col} {c R : Nat} {z0 z1 z2 z3 z4 : Value} (h : Blk w o c R 39 #[z0, z1, z2, z3, z4]) (a0 a1 a2 a3 a4 : Value) :
    Blk (((((w.setCell ⟨R, 0, none⟩ a0).setCell ⟨R, 1, none⟩ a1).setCell ⟨R, 2, none⟩ a2).setCell ⟨R, 3, none⟩ a3).setCell ⟨R, 4, none⟩ a4) o c R 39 #[a0, a1, a2, a3, a4] ∧
    Turn o o (fun x => x = c) w (((((w.setCell ⟨R, 0, none⟩ a0).setCell ⟨R, 1, none⟩ a1).setCell ⟨R, 2, none⟩ a2).setCell ⟨R, 3, none⟩ a3).setCell ⟨R, 4, none⟩ a4) := by
  obtain ⟨b0, T0⟩ := h.set 0 a0
  obtain ⟨b1, T1⟩ := b0.set 1 a1
  obtain ⟨b2, T2⟩ := b1.set 2 a2
  obtain ⟨b3, T3⟩ := b2.set 3 a3
  obtain ⟨b4, T4⟩ := b3.set 4 a4
  exact ⟨b4, (((T0.trans T1 (fun _ h => h)).trans T2 (fun _ h => h)).trans T3 (fun _ h => h)).trans T4 (fun _ h => h)⟩
theorem res_mods (w : World) (R : Nat) (a0 a1 a2 a3 a4 : Value) : Mods (fun k => k = R) w (((((w.setCell ⟨R, 0, none⟩ a0).setCell ⟨R, 1, none⟩ a1).setCell ⟨R, 2, none⟩ a2).setCell ⟨R, 3, none⟩ a3).setCell ⟨R, 4, none⟩ a4) :=
  (((((Mods.refl (fun k => k = R) w).setCell (p := ⟨R, 0, none⟩) (fun _ => rfl) a0).setCell (p := ⟨R, 1, none⟩) (fun _ => rfl) a1).setCell (p := ⟨R, 2, none⟩) (fun _ => rfl) a2).setCell (p := ⟨R, 3, none⟩) (fun _ => rfl) a3).setCell (p := ⟨R, 4, none⟩) (fun _ => rfl) a4
/-- a new block turns: for what was there nothing does -/
theorem Turn.fresh {o o' : Col} {C : Nat → Prop} {w w1 w2 : World} {R : Nat} (T : Turn o o' C w w1) (m : Mods (fun k => k = R) w1 w2) (hR : w.heap.size ≤ R) : Turn o o' C w w2 :=
  ⟨T.mods.trans m (fun _ _ h => h) (fun n hn e => by omega), T.same⟩
/-- the machine stands: its block holds the event -/
theorem MachAt.setLast {w : World} {o : Col} {M b : Nat} {P : GProg} {m : MachP} {v : MVals} (h : MachAt w o M b P m v) (hl : m.last = none) (e : EvP) (_he : e.cells = []) :
    MachAt ((((((w.setCell ⟨b, 11, none⟩ (.bool true)).setCell ⟨b, 12, none⟩ (.int .i64 e.op)).setCell ⟨b, 13, none⟩ (.int .u8 e.kind)).setCell ⟨b, 14, none⟩ (.int .i64 e.line)).setCell ⟨b, 15, none⟩ (.slice none 0 0)).setCell ⟨b, 16, none⟩ (.int .u8 e.halt)) o M b P { m with last := some e } v ∧
    Turn o o (Mine M) w ((((((w.setCell ⟨b, 11, none⟩ (.bool true)).setCell ⟨b, 12, none⟩ (.int .i64 e.op)).setCell ⟨b, 13, none⟩ (.int .u8 e.kind)).setCell ⟨b, 14, none⟩ (.int .i64 e.line)).setCell ⟨b, 15, none⟩ (.slice none 0 0)).setCell ⟨b, 16, none⟩ (.int .u8 e.halt)) := by
  obtain ⟨b0, T0⟩ := h.blk.set 11 (.bool true)
  obtain ⟨b1, T1⟩ := b0.set 12 (.int .i64 e.op)
  obtain ⟨b2, T2⟩ := b1.set 13 (.int .u8 e.kind)
  obtain ⟨b3, T3⟩ := b2.set 14 (.int .i64 e.line)
  obtain ⟨b4, T4⟩ := b3.set 15 (.slice none 0 0)
  obtain ⟨b5, T5⟩ := b4.set 16 (.int .u8 e.halt)
  have T := ((((T0.trans T1 (fun _ h => h)).trans T2 (fun _ h => h)).trans T3 (fun _ h => h)).trans T4 (fun _ h => h)).trans T5 (fun _ h => h)
  refine ⟨h.reblock T ?_ rfl rfl rfl rfl rfl rfl rfl, T.mono (fun c hc => by unfold Mine; omega)⟩
  have e1 : machV m v = [.slice (some ⟨v.mem, 0, none⟩) m.mem.length m.mem.length, v.lines, .slice (some ⟨v.fed, 0, none⟩) m.fed.length m.fed.length, .slice (some ⟨v.out, 0, none⟩) m.out.length m.out.length, v.ops, v.takes, v.bods, .slice (some ⟨v.cs, 0, none⟩) m.cs.length m.cs.length, v.hand, .int .i64 m.next, .int .i64 m.periods] ++ lastV none := by unfold machV; rw [hl]
  simp only [e1, List.setIfInBounds_toArray] at b5
  exact b5

theorem info_Event : (Try.prog.info? 39).map (fun i => (i.zero, i.size, i.bytes)) = some (some eZ, 5, 56) := by kernel_rfl

set_option maxRecDepth 100000 in
set_option maxHeartbeats 2000000 in
theorem step_stands {w : World} {o : Col} {M b tb : Nat} {P : GProg} {m : MachP} {v : MVals} (h : MachAt w o M b P m v) {e : EvP} (he : m.last = some e) :
    Calls Try.prog 33 #[.pointer (some ⟨b, 0, none⟩), .slice (some ⟨tb, 0, none⟩) 8 8] w (StepRet w o M b P (mstep P m)) := by
  have hst : mstep P m = ({ e with cells := [] }, m) := by unfold mstep; rw [he]
  rw [hst]
  have hbx := below_alloc w (.cells #[.int .i64 0, .int .u8 0, .int .i64 0, .slice none 0 0, .int .u8 0] 39)
  have Tx := Turn.of_below o (M + 207) hbx
  have h1 := h.turn Tx (fun _ h => h.elim)
  have hm : machV m v = [.slice (some ⟨v.mem, 0, none⟩) m.mem.length m.mem.length, v.lines, .slice (some ⟨v.fed, 0, none⟩) m.fed.length m.fed.length, .slice (some ⟨v.out, 0, none⟩) m.out.length m.out.length, v.ops, v.takes, v.bods, .slice (some ⟨v.cs, 0, none⟩) m.cs.length m.cs.length, v.hand, .int .i64 m.next, .int .i64 m.periods] ++ lastV (some e) := by unfold machV; rw [he]
  have c11 := h1.cell 11 (u := .bool true) (by rw [hm]; rfl)
  have c12 := h1.cell 12 (u := .int .i64 e.op) (by rw [hm]; rfl)
  have c13 := h1.cell 13 (u := .int .u8 e.kind) (by rw [hm]; rfl)
  have c14 := h1.cell 14 (u := .int .i64 e.line) (by rw [hm]; rfl)
  have c15 := h1.cell 15 (u := .slice none 0 0) (by rw [hm]; rfl)
  have c16 := h1.cell 16 (u := .int .u8 e.halt) (by rw [hm]; rfl)
  have H1 := Lib.hid h1
  have HT := Lib.hid Tx
  have HH := Lib.hid h
  clear h h1 Tx hbx hm he hst
  go_enter Try.func33, Try.ntmps33
  go_wp2
  refine bodyPost_ret_by (results_cell_row rfl _ _ _ _ _ _ _ rfl ((Below.heap_alloc (w.alloc (.cells #[.int .i64 e.op, .int .u8 e.kind, .int .i64 e.line, .slice none 0 0, .int .u8 e.halt] 39)) _ w.heap.size (by simp)).trans (heap_alloc_new w _)) Try.underlying39 rfl (by kernel_rfl)) rfl ?_
  have hb2 : Below w.heap.size w ((w.alloc (.cells #[.int .i64 e.op, .int .u8 e.kind, .int .i64 e.line, .slice none 0 0, .int .u8 e.halt] 39)).alloc (.cells #[.int .i64 e.op, .int .u8 e.kind, .int .i64 e.line, .slice none 0 0, .int .u8 e.halt] 39)) := ((Below.refl _ _).alloc (Nat.le_refl _) _).alloc (by simp) _
  have T2 := Turn.of_below o (M + 207) hb2
  exact ⟨_, v, .slice none 0 0, rfl, T2.mono (fun _ h => h.elim), HH.out.turn T2 (fun _ h => h.elim), .inl ⟨rfl, _, _, rfl⟩⟩
end Go.Proofs.Ytnnnpippekpibaa

/- What an operation does, whichever it is. -/
namespace Go.Proofs.Ytnnnpippekpibaa
open Go.RowKit

def doF (k : Int) : Nat := if k = 0 then 44 else if k = 1 then 45 else if k = 2 then 46 else if k = 3 then 47 else if k = 4 then 48 else if k = 5 then 49 else if k = 6 then 50 else 51
def DoesRet (w : World) (o : Col) (M b : Nat) (P : GProg) (m : MachP) (eb : Nat) (op kd ln : Int) : Ending → World → Prop :=
  if (doesX P (ctlOp P.ops m.next) m).1 = 0 ∨ (doesX P (ctlOp P.ops m.next) m).1 = 1 then
    DoGo w o M b P eb op kd ln (doesX P (ctlOp P.ops m.next) m).1 (doesX P (ctlOp P.ops m.next) m).2.1 { (doesX P (ctlOp P.ops m.next) m).2.2 with next := (wayX P m).1, cs := (wayX P m).2 }
  else DoStop w o M b P m eb op kd ln (doesX P (ctlOp P.ops m.next) m).1
theorem does_go {w : World} {o : Col} {M b : Nat} {P : GProg} {m m2 : MachP} {eb : Nat} {op kd ln h : Int} {c : List Nat} {e : Ending} {w' : World} (hx : doesX P (ctlOp P.ops m.next) m = (h, c, m2)) (hh : h = 0 ∨ h = 1) {m' : MachP} (hm : { m2 with next := (wayX P m).1, cs := (wayX P m).2 } = m') (H : DoGo w o M b P eb op kd ln h c m' e w') : DoesRet w o M b P m eb op kd ln e w' := by
  unfold DoesRet
  rw [hx, if_pos hh, hm]
  exact H
theorem does_stop {w : World} {o : Col} {M b : Nat} {P : GProg} {m : MachP} {eb : Nat} {op kd ln h : Int} {e : Ending} {w' : World} (hx : doesX P (ctlOp P.ops m.next) m = (h, [], m)) (hh : h ≠ 0 ∧ h ≠ 1) (H : DoStop w o M b P m eb op kd ln h e w') : DoesRet w o M b P m eb op kd ln e w' := by
  unfold DoesRet
  rw [hx, if_neg (fun h => h.elim hh.1 hh.2)]
  exact H
theorem way_plain {P : GProg} {m : MachP} (h0 : (ctlOp P.ops m.next).kind ≠ 0) (h1 : (ctlOp P.ops m.next).kind ≠ 1) (h2 : (ctlOp P.ops m.next).kind ≠ 2) : wayX P m = (m.next + 1, m.cs) := by
  unfold wayX ctlS
  rw [if_neg h0, if_neg h1, if_neg h2]

theorem does_any {w : World} {o : Col} {M b eb : Nat} {P : GProg} {m : MachP} {v : MVals} {F s : Nat} {op kd ln : Int} (h : MachAt w o M b P m v) (hE : EvAt w o M eb op kd ln 0 []) (hP : POk P) (hf : PFits P) (hm : MOk P F s m) (hs : s ≤ 1000000000) :
    Calls Try.prog (doF (ctlOp P.ops m.next).kind) #[.pointer (some ⟨b, 0, none⟩), opA (ctlOp P.ops m.next), .pointer (some ⟨eb, 0, none⟩)] w (DoesRet w o M b P m eb op kd ln) := by
  obtain ⟨d, hd, hr⟩ := hm.ctl
  obtain ⟨r1, -, hx⟩ := rest_op hP hr
  dsimp only at r1 hx
  have hcs := rest_cs hr
  have hops := hP.nops
  obtain ⟨x, hxe⟩ : ∃ x, ctlOp P.ops m.next = x := ⟨_, rfl⟩
  rw [hxe] at hx ⊢
  by_cases h0 : x.kind = 0
  · rw [show doF x.kind = 44 by unfold doF; rw [if_pos h0]]
    have hper := hm.per
    have hhl := hm.hand.1
    refine (end_any x h hE hhl (by omega)).mono fun e w' H => ?_
    have hd : doesX P x m = endX m := by unfold doesX; rw [if_pos h0]
    by_cases hc : 0 < m.hand.length
    · rw [if_pos hc] at H
      exact does_stop (by rw [hxe, hd, endX, if_pos hc]) (by decide) H
    · rw [if_neg hc] at H
      refine does_go (by rw [hxe, hd, endX, if_neg hc]) (by decide) ?_ H
      unfold wayX
      rw [hxe, if_pos h0]
  by_cases h1 : x.kind = 1
  · rw [show doF x.kind = 45 by unfold doF; rw [if_neg h0, if_pos h1]]
    have ha := hx.cnt (.inl h1)
    have hl := hcs.1
    have hcl : m.cs.length = P.counters.toNat := hcs.1
    refine (head_any x h hE (a := x.a.toNat) (by omega) (by omega)).mono fun e w' H => ?_
    have hd : doesX P x m = (0, [], m) := by unfold doesX; rw [if_neg h0, if_neg (by omega), if_neg (by omega), if_neg (by omega), if_neg (by omega), if_neg (by omega)]
    refine does_go (by rw [hxe, hd]) (.inl rfl) ?_ H
    unfold wayX ctlS
    simp only [hxe]
    rw [if_neg h0, if_pos h1]
  by_cases h2 : x.kind = 2
  · rw [show doF x.kind = 46 by unfold doF; rw [if_neg h0, if_neg h1, if_pos h2]]
    have ha := hx.cnt (.inr h2)
    have hb := hx.to h2
    have hcl : m.cs.length = P.counters.toNat := hcs.1
    have hk : x.a.toNat < m.cs.length := by omega
    have hcf : -100000 ≤ m.cs[x.a.toNat]?.getD 0 ∧ m.cs[x.a.toNat]?.getD 0 ≤ 100000 := by
      rw [List.getElem?_eq_getElem hk]
      have := hcs.2 _ (List.getElem_mem hk)
      simp only [Option.getD_some]
      omega
    refine (back_any x h hE (a := x.a.toNat) (t := x.b.toNat) (by omega) (by omega) (by omega) hk rfl hcf).mono fun e w' H => ?_
    have hd : doesX P x m = (0, [], m) := by unfold doesX; rw [if_neg h0, if_neg (by omega), if_neg (by omega), if_neg (by omega), if_neg (by omega), if_neg (by omega)]
    refine does_go (by rw [hxe, hd]) (.inl rfl) ?_ H
    unfold wayX ctlS
    simp only [hxe]
    rw [if_neg h0, if_neg h1, if_pos h2]
  have hway := way_plain (P := P) (m := m) (by rw [hxe]; exact h0) (by rw [hxe]; exact h1) (by rw [hxe]; exact h2)
  by_cases h3 : x.kind = 3
  · rw [show doF x.kind = 47 by unfold doF; rw [if_neg h0, if_neg h1, if_neg h2, if_pos h3]]
    have ha := hx.line (.inl h3)
    have hb := hx.rate (.inl h3)
    have hl := hm.lines
    refine (take_any x h hE hP hm (k := x.a.toNat) (n := x.b.toNat) (by omega) (by omega) (by omega) (by omega)).mono fun e w' H => ?_
    have hd : doesX P x m = takeX x m := by unfold doesX; rw [if_neg h0, if_pos h3]
    by_cases hc : (lineAt m x.a.toNat).cnt < x.b.toNat ∨ 64 < m.hand.length + x.b.toNat
    · rw [if_pos hc] at H
      exact does_stop (by rw [hxe, hd, takeX, if_pos hc]) (by decide) H
    · rw [if_neg hc] at H
      refine does_go (by rw [hxe, hd, takeX, if_neg hc]) (.inl rfl) ?_ H
      rw [hway]
  by_cases h4 : x.kind = 4
  · rw [show doF x.kind = 48 by unfold doF; rw [if_neg h0, if_neg h1, if_neg h2, if_neg h3, if_pos h4]]
    have ha := hx.ins h4
    have hb := hx.rate (.inr (.inl h4))
    have hl := hm.fed
    refine (readIn_any x h hE hm (k := x.a.toNat) (n := x.b.toNat) (by omega) (by omega) (by omega) (by omega)).mono fun e w' H => ?_
    have hd : doesX P x m = readX x m := by unfold doesX; rw [if_neg h0, if_neg h3, if_pos h4]
    by_cases hc : 64 < m.hand.length + x.b.toNat
    · rw [if_pos hc] at H
      exact does_stop (by rw [hxe, hd, readX, if_pos hc]) (by decide) H
    · rw [if_neg hc] at H
      by_cases hc2 : (rowAt m.fed x.a.toNat).length < x.b.toNat
      · rw [if_pos hc2] at H
        exact does_stop (by rw [hxe, hd, readX, if_neg hc, if_pos hc2]) (by decide) H
      · rw [if_neg hc2] at H
        refine does_go (by rw [hxe, hd, readX, if_neg hc, if_neg hc2]) (.inl rfl) ?_ H
        rw [hway]
  by_cases h5 : x.kind = 5
  · rw [show doF x.kind = 49 by unfold doF; rw [if_neg h0, if_neg h1, if_neg h2, if_neg h3, if_neg h4, if_pos h5]]
    have ha := hx.part h5
    refine (call_any x h hE hP hf hm hs (k := x.a.toNat) (by omega) (by omega)).mono fun e w' H => ?_
    have hd : doesX P x m = callX P x m := by unfold doesX; rw [if_neg h0, if_neg h3, if_neg h4, if_pos h5]
    by_cases hc : m.hand.length ≠ takesP (partAt P x.a.toNat)
    · rw [if_pos hc] at H
      exact does_stop (by rw [hxe, hd, callX, if_pos hc]) (by decide) H
    · rw [if_neg hc] at H
      by_cases hc2 : (callS P x m).err ≠ 0
      · rw [if_pos hc2] at H
        exact does_stop (by rw [hxe, hd, callX, if_neg hc, if_pos hc2]) (by decide) H
      · rw [if_neg hc2] at H
        refine does_go (by rw [hxe, hd, callX, if_neg hc, if_neg hc2]) (.inl rfl) ?_ H
        rw [hway]
  by_cases h6 : x.kind = 6
  · rw [show doF x.kind = 50 by unfold doF; rw [if_neg h0, if_neg h1, if_neg h2, if_neg h3, if_neg h4, if_neg h5, if_pos h6]]
    have ha := hx.line (.inr h6)
    have hb := hx.rate (.inr (.inr (.inl h6)))
    have hl := hm.lines
    refine (give_any x h hE hP hm (k := x.a.toNat) (n := x.b.toNat) (by omega) (by omega) (by omega) (by omega)).mono fun e w' H => ?_
    have hd : doesX P x m = giveX x m := by unfold doesX; rw [if_neg h0, if_neg h3, if_neg h4, if_neg h5, if_pos h6]
    by_cases hc : m.hand.length < x.b.toNat ∨ (lineAt m x.a.toNat).size < (lineAt m x.a.toNat).cnt + x.b.toNat
    · rw [if_pos hc] at H
      exact does_stop (by rw [hxe, hd, giveX, if_pos hc]) (by decide) H
    · rw [if_neg hc] at H
      refine does_go (by rw [hxe, hd, giveX, if_neg hc]) (.inl rfl) ?_ H
      rw [hway]
  · have h7 : x.kind = 7 := by have := hx.kind; omega
    rw [show doF x.kind = 51 by unfold doF; rw [if_neg h0, if_neg h1, if_neg h2, if_neg h3, if_neg h4, if_neg h5, if_neg h6]]
    have ha := hx.outs h7
    have hb := hx.rate (.inr (.inr (.inr h7)))
    have hl := hm.out
    refine (write_any x h hE hm hs (k := x.a.toNat) (n := x.b.toNat) (by omega) (by omega) (by omega) (by omega)).mono fun e w' H => ?_
    have hd : doesX P x m = writeX x m := by unfold doesX; rw [if_neg h0, if_neg h3, if_neg h4, if_neg h5, if_neg h6, if_pos h7]
    by_cases hc : m.hand.length < x.b.toNat
    · rw [if_pos hc] at H
      exact does_stop (by rw [hxe, hd, writeX, if_pos hc]) (by decide) H
    · rw [if_neg hc] at H
      refine does_go (by rw [hxe, hd, writeX, if_neg hc]) (.inl rfl) ?_ H
      rw [hway]
end Go.Proofs.Ytnnnpippekpibaa

/- The machine's step, where it does not stand. -/
namespace Go.Proofs.Ytnnnpippekpibaa
open Go.RowKit

theorem table_at {k : Int} (h : k = 0 ∨ k = 1 ∨ k = 2 ∨ k = 3 ∨ k = 4 ∨ k = 5 ∨ k = 6 ∨ k = 7) : tableV[k.toNat]? = some (fnV (doF k)) := by
  rcases h with rfl | rfl | rfl | rfl | rfl | rfl | rfl | rfl <;> rfl


theorem way_le {P : GProg} {m : MachP} (hn : m.next < P.ops.length) (hb : (ctlOp P.ops m.next).kind = 2 → (ctlOp P.ops m.next).b < P.ops.length) : (wayX P m).1 ≤ P.ops.length := by
  unfold wayX ctlS
  split
  · exact Nat.zero_le _
  · split
    · exact hn
    · split
      · rename_i h
        have := hb h
        simp only
        split <;> omega
      · exact hn

set_option maxRecDepth 100000 in
set_option maxHeartbeats 4000000 in
theorem step_goes {w : World} {o : Col} {M b tb : Nat} {P : GProg} {m : MachP} {v : MVals} {F s : Nat} (h : MachAt w o M b P m v) (hT : TableAt w o M tb) (hP : POk P) (hf : PFits P) (hm : MOk P F s m) (hs : s ≤ 1000000000) (hlast : m.last = none) :
    Calls Try.prog 33 #[.pointer (some ⟨b, 0, none⟩), .slice (some ⟨tb, 0, none⟩) 8 8] w (StepRet w o M b P (mstep P m)) := by
  obtain ⟨d, hd, hr⟩ := hm.ctl
  obtain ⟨r1, r2, hx⟩ := rest_op hP hr
  dsimp only at r1 r2 hx
  have hops := hP.nops
  have hmv : machV m v = [.slice (some ⟨v.mem, 0, none⟩) m.mem.length m.mem.length, v.lines, .slice (some ⟨v.fed, 0, none⟩) m.fed.length m.fed.length, .slice (some ⟨v.out, 0, none⟩) m.out.length m.out.length, v.ops, v.takes, v.bods, .slice (some ⟨v.cs, 0, none⟩) m.cs.length m.cs.length, v.hand, .int .i64 m.next, .int .i64 m.periods] ++ lastV none := by unfold machV; rw [hlast]
  -- the result's block
  have hb0 := below_alloc w (.cells #[.int .i64 0, .int .u8 0, .int .i64 0, .slice none 0 0, .int .u8 0] 39)
  have T0 := Turn.of_below o (M + 207) hb0
  have R0 : Blk (w.alloc (.cells #[.int .i64 0, .int .u8 0, .int .i64 0, .slice none 0 0, .int .u8 0] 39)) (ext o w.heap.size (M + 207)) (M + 207) w.heap.size 39 #[.int .i64 0, .int .u8 0, .int .i64 0, .slice none 0 0, .int .u8 0] := ⟨heap_alloc_new w _, ext_new (Nat.le_refl _)⟩
  have h0 := h.turn T0 (fun _ h => h.elim)
  have t0 := hT.turn T0 (fun h => h)
  have c11 := h0.cell 11 (u := .bool false) (by rw [hmv]; rfl)
  have c4 := h0.cell 4 (u := v.ops) (by rw [hmv]; rfl)
  have c9 := h0.cell 9 (u := .int .i64 m.next) (by rw [hmv]; rfl)
  obtain ⟨go, co, e4, hco, _⟩ := h0.ops.addr (by omega)
  have hop := h0.ops
  rw [e4] at c4 hop
  obtain ⟨g1, g2, g3⟩ := opsV_get P.ops m.next r1
  have o1 := hop.cellAt g1
  have o2 := hop.cellAt g2
  have o3 := hop.cellAt g3
  have hxe : P.ops[m.next] = ctlOp P.ops m.next := by rw [List.getElem?_eq_getElem r1] at r2; exact Option.some.inj r2
  rw [hxe] at o1 o2 o3
  obtain ⟨x, hxx⟩ : ∃ x, ctlOp P.ops m.next = x := ⟨_, rfl⟩
  rw [hxx] at o1 o2 o3 hx
  have HXX := Lib.hid hxx
  obtain ⟨kd, xa, xb⟩ := x
  dsimp only at o1 o2 o3
  have hkd := hx.kind
  dsimp only at hkd
  obtain ⟨kn, rfl⟩ : ∃ kn : Nat, kd = kn := ⟨kd.toNat, by omega⟩
  have hkn : (kn : Int) < 8 := by omega
  have hway := way_le (P := P) (m := m) r1 (fun h => by rw [HXX.out] at h ⊢; exact (hx.to h).2)
  have tk := t0.cell kn (fnV (doF kn)) (by have := table_at hkd; rw [Int.toNat_natCast] at this; simpa using this)
  have hri : (m.next : Int) < P.ops.length := by omega
  have H0 := Lib.hid h0
  have HT0 := Lib.hid t0
  have HR0 := Lib.hid R0
  have HTT := Lib.hid T0
  have HMM := Lib.hid hm
  have HMV := Lib.hid hmv
  have HXN := Lib.hid hx
  clear h hT hd hr r2 hb0 T0 R0 h0 t0 hop g1 g2 g3 hxe hxx e4 hmv hm
  generalize ext o w.heap.size (M + 207) = q at *
  -- the operation's, the event's
  obtain ⟨w0, hw0⟩ : ∃ x, w.alloc (.cells #[.int .i64 0, .int .u8 0, .int .i64 0, .slice none 0 0, .int .u8 0] 39) = x := ⟨_, rfl⟩
  rw [hw0] at H0 HT0 HR0 HTT c11 c4 c9 o1 o2 o3 tk
  have hs0 : w0.heap.size = w.heap.size + 1 := by rw [← hw0]; simp
  have hb1 := below_alloc w0 (.cells #[.int .u8 kn, .int .i64 xa, .int .i64 xb] 43)
  obtain ⟨w1, hw1⟩ : ∃ x, w0.alloc (.cells #[.int .u8 kn, .int .i64 xa, .int .i64 xb] 43) = x := ⟨_, rfl⟩
  rw [hw1] at hb1
  have T1 := Turn.of_below q (M + 206) hb1
  have X1 : Blk w1 (ext q w0.heap.size (M + 206)) (M + 206) (w.heap.size + 1) 43 #[.int .u8 kn, .int .i64 xa, .int .i64 xb] := ⟨by rw [← hw1, ← hs0]; exact heap_alloc_new w0 _, ext_new (by omega)⟩
  have c9' := cell_later hb1 c9
  have x10 := X1.cell 0 _ rfl
  have hs1 : w1.heap.size = w.heap.size + 1 + 1 := by rw [← hw1]; simp; omega
  obtain ⟨ln, hln, hlnc⟩ : ∃ ln : Int, ln = (if (kn : Int) = 3 ∨ (kn : Int) = 6 then xa else -1) ∧ (((kn : Int) == 3) = true ∧ ln = xa ∨ ((kn : Int) == 3) = false ∧ ((kn : Int) == 6) = true ∧ ln = xa ∨ ((kn : Int) == 3) = false ∧ ((kn : Int) == 6) = false ∧ ln = -1) := by
    refine ⟨_, rfl, ?_⟩
    by_cases k3 : (kn : Int) = 3
    · exact .inl ⟨by rw [beq_iff_eq]; exact k3, by rw [if_pos (Or.inl k3)]⟩
    · by_cases k6 : (kn : Int) = 6
      · exact .inr (.inl ⟨by rw [beq_eq_false_iff_ne]; exact k3, by rw [beq_iff_eq]; exact k6, by rw [if_pos (Or.inr k6)]⟩)
      · exact .inr (.inr ⟨by rw [beq_eq_false_iff_ne]; exact k3, by rw [beq_eq_false_iff_ne]; exact k6, by rw [if_neg (fun h => h.elim k3 k6)]⟩)
  have hb2 := below_alloc w1 (.cells #[.int .i64 m.next, .int .u8 kn, .int .i64 ln, .slice none 0 0, .int .u8 0] 39)
  obtain ⟨w2, hw2⟩ : ∃ x, w1.alloc (.cells #[.int .i64 m.next, .int .u8 kn, .int .i64 ln, .slice none 0 0, .int .u8 0] 39) = x := ⟨_, rfl⟩
  rw [hw2] at hb2
  have T2 := Turn.of_below (ext q w0.heap.size (M + 206)) (M + 205) hb2
  have E2 : EvAt w2 (ext (ext q w0.heap.size (M + 206)) w1.heap.size (M + 205)) M (w.heap.size + 1 + 1) m.next kn ln 0 [] := ⟨.slice none 0 0, ⟨by rw [← hw2, ← hs1]; exact heap_alloc_new w1 _, ext_new (by omega)⟩, .inl ⟨rfl, _, _, rfl⟩, fun _ => rfl⟩
  have T12 := T1.trans T2 (fun _ h => h)
  have H2 := H0.out.turn T12 (fun _ h => h.elim)
  have TB2 := HT0.out.turn T12 (fun h => h)
  have R2 := HR0.out.turn T12 (fun h => h)
  have X2 := X1.turn T2 (fun h => h)
  have TT2 := HTT.out.trans T12 (fun _ h => h)
  generalize ext (ext q w0.heap.size (M + 206)) w1.heap.size (M + 205) = q2 at *
  have x20 := X2.cell 0 _ rfl
  have x21 := X2.cell 1 _ rfl
  have x22 := X2.cell 2 _ rfl
  have tk2 := TB2.cell kn (.func (.func (doF kn)) #[] #[]) (by have := table_at hkd; rw [Int.toNat_natCast] at this; simpa [fnV] using this)
  have HE2 := Lib.hid E2
  have HM2 := Lib.hid H2
  have HTB2 := Lib.hid TB2
  have HR2 := Lib.hid R2
  have HX2 := Lib.hid X2
  have HTT2 := Lib.hid TT2
  obtain ⟨f, hfe⟩ : ∃ x, doF (kn : Int) = x := ⟨_, rfl⟩
  have hcf : ∀ (args : Array Value) (w : World), (callFunc f args).run Try.prog w = .ok (.enter f args) w := by
    intro args w
    rw [← hfe]
    rcases hkd with h | h | h | h | h | h | h | h <;> rw [h] <;> first | exact Try.call44 _ _ | exact Try.call45 _ _ | exact Try.call46 _ _ | exact Try.call47 _ _ | exact Try.call48 _ _ | exact Try.call49 _ _ | exact Try.call50 _ _ | exact Try.call51 _ _
  rw [hfe] at tk2
  have HD : Hid (∀ {w : World} {o : Col} {v : MVals} {eb : Nat} {op kd ln : Int}, MachAt w o M b P m v → EvAt w o M eb op kd ln 0 [] → Calls Try.prog f #[.pointer (some ⟨b, 0, none⟩), .agg #[.int .u8 kn, .int .i64 xa, .int .i64 xb], .pointer (some ⟨eb, 0, none⟩)] w (DoesRet w o M b P m eb op kd ln)) := Lib.hid fun h hE => by
    have := does_any h hE hP hf HMM.out hs
    rw [HXX.out] at this
    unfold opA at this
    dsimp only at this
    rw [hfe] at this
    exact this
  have HLN := Lib.hid hln
  clear hb1 T1 X1 hb2 T2 E2 T12 H2 TB2 R2 X2 TT2 H0 HT0 HR0 HTT hs0 hs1 tk hP hf hkd hx hln hfe
  subst hw0
  subst hw1
  subst hw2
  obtain ⟨⟨hh, c, m2⟩, hdx⟩ : ∃ x, doesX P (ctlOp P.ops m.next) m = x := ⟨_, rfl⟩
  have hev : ∀ h c, evX P m h c = ⟨m.next, kn, ln, castL c, h⟩ := fun h c => by unfold evX; rw [HXX.out, HLN.out]
  have HGO : Hid (hh = 0 ∨ hh = 1 → mstep P m = (⟨m.next, kn, ln, castL c, hh⟩, { m2 with next := (wayX P m).1, cs := (wayX P m).2 })) := Lib.hid fun h => by
    unfold mstep
    rw [hlast, hdx]
    simp only
    rw [if_pos h, hev]
  have HST : Hid (hh = 2 → mstep P m = (⟨m.next, kn, ln, [], 2⟩, m)) := Lib.hid fun h => by
    unfold mstep
    rw [hlast, hdx]
    simp only
    rw [if_neg (by omega), if_pos h, hev]
    rfl
  have HTR : Hid (hh = 3 ∨ hh = 4 → mstep P m = (⟨m.next, kn, ln, [], hh⟩, { m with last := some ⟨m.next, kn, ln, [], hh⟩ })) := Lib.hid fun h => by
    unfold mstep
    rw [hlast, hdx]
    simp only
    rw [if_neg (by omega), if_neg (by omega), hev]
    rfl
  have hcases : hh = 0 ∨ hh = 1 ∨ hh = 2 ∨ hh = 3 ∨ hh = 4 := by
    have := doesX_cases P (ctlOp P.ops m.next) m
    rw [hdx] at this
    simp only [Prod.mk.injEq] at this
    omega
  have HLA := Lib.hid hlast
  have HDX := Lib.hid hdx
  have HWAY := Lib.hid hway
  clear hdx hev hlast hway
  rcases hlnc with ⟨hb3, rfl⟩ | ⟨hb3, hb6, rfl⟩ | ⟨hb3, hb6, rfl⟩
  · go_enter Try.func33, Try.ntmps33
    go_wp2_with fail
    refine wp_region_lex (fun w' => w'.cell? ⟨b, 4, none⟩ = some (.slice (some ⟨go, 0, none⟩) P.ops.length co) ∧ w'.cell? ⟨b, 9, none⟩ = some (.int .i64 m.next) ∧ w'.cell? ⟨go, m.next * 3, none⟩ = some (.int .u8 kn) ∧ w'.cell? ⟨go, m.next * 3 + 1, none⟩ = some (.int .i64 ln) ∧ w'.cell? ⟨go, m.next * 3 + 2, none⟩ = some (.int .i64 xb)) [0, 1, 2, 3, 4, 5, 6, 7, 8, 9] [10, 11] (by kernel_rfl) (by kernel_rfl) rfl (fun _ _ hx h => ⟨hx.cell h.1, hx.cell h.2.1, hx.cell h.2.2.1, hx.cell h.2.2.2.1, hx.cell h.2.2.2.2⟩) ⟨c4, c9, o1, o2, o3⟩ ?_
    intro Q' hQ'
    simp only [pickOps, List.flatMap_cons, List.flatMap_nil, List.drop_succ_cons, List.drop_zero, List.take_succ_cons, List.take_zero, List.cons_append, List.nil_append, List.append_nil]
    repeat (first
      | (refine wpReads_skip (by rfl) ?_; (try simp only [Act.put, List.setIfInBounds_toArray, List.set_cons_zero, List.set_cons_succ]))
      | (refine wpReads_cons ?_ (by rfl) (by rfl) ?_ ?_; rotate_left; (intro wz hz; (try dsimp only at hz); go_simp; try with_reducible rfl); (try simp only [Act.put, List.setIfInBounds_toArray, List.set_cons_zero, List.set_cons_succ]))
      | (refine wpReads_any ?_ (by rfl) ?_ ?_; rotate_left; (intro wz; go_simp; try with_reducible rfl); (try simp only [Act.put, List.setIfInBounds_toArray, List.set_cons_zero, List.set_cons_succ])))
    refine wpReads_nil ?_
    go_wp2_with fail
    refine wp_region_lex (fun w' => w'.cell? ⟨b, 9, none⟩ = some (.int .i64 m.next) ∧ w'.cell? ⟨w.heap.size + 1, 0, none⟩ = some (.int .u8 kn)) [0, 1, 2, 3, 4, 5, 6] [7, 8] (by kernel_rfl) (by kernel_rfl) rfl (fun _ _ hx h => ⟨hx.cell h.1, hx.cell h.2⟩) ⟨c9', x10⟩ ?_
    intro Q' hQ'
    simp only [pickOps, List.flatMap_cons, List.flatMap_nil, List.drop_succ_cons, List.drop_zero, List.take_succ_cons, List.take_zero, List.cons_append, List.nil_append, List.append_nil]
    repeat (first
      | (refine wpReads_skip (by rfl) ?_; (try simp only [Act.put, List.setIfInBounds_toArray, List.set_cons_zero, List.set_cons_succ]))
      | (refine wpReads_cons ?_ (by rfl) (by rfl) ?_ ?_; rotate_left; (intro wz hz; (try dsimp only at hz); go_simp; try with_reducible rfl); (try simp only [Act.put, List.setIfInBounds_toArray, List.set_cons_zero, List.set_cons_succ]))
      | (refine wpReads_any ?_ (by rfl) ?_ ?_; rotate_left; (intro wz; go_simp; try with_reducible rfl); (try simp only [Act.put, List.setIfInBounds_toArray, List.set_cons_zero, List.set_cons_succ])))
    refine wpReads_nil ?_
    go_wp2_with fail
    refine wp_region_lex (fun w' => w'.cell? ⟨w.heap.size + 1, 0, none⟩ = some (.int .u8 kn) ∧ w'.cell? ⟨w.heap.size + 1, 1, none⟩ = some (.int .i64 ln) ∧ w'.cell? ⟨w.heap.size + 1, 2, none⟩ = some (.int .i64 xb) ∧ w'.cell? ⟨tb, kn, none⟩ = some (.func (.func f) #[] #[])) [0, 1, 2, 3, 4, 5, 6] [7] (by kernel_rfl) (by kernel_rfl) rfl (fun _ _ hx h => ⟨hx.cell h.1, hx.cell h.2.1, hx.cell h.2.2.1, hx.cell h.2.2.2⟩) ⟨x20, x21, x22, tk2⟩ ?_
    intro Q' hQ'
    simp only [pickOps, List.flatMap_cons, List.flatMap_nil, List.drop_succ_cons, List.drop_zero, List.take_succ_cons, List.take_zero, List.cons_append, List.nil_append, List.append_nil]
    repeat (first
      | (refine wpReads_skip (by rfl) ?_; (try simp only [Act.put, List.setIfInBounds_toArray, List.set_cons_zero, List.set_cons_succ]))
      | (refine wpReads_cons ?_ (by rfl) (by rfl) ?_ ?_; rotate_left; (intro wz hz; (try dsimp only at hz); go_simp; try with_reducible rfl); (try simp only [Act.put, List.setIfInBounds_toArray, List.set_cons_zero, List.set_cons_succ]))
      | (refine wpReads_any ?_ (by rfl) ?_ ?_; rotate_left; (intro wz; go_simp; try with_reducible rfl); (try simp only [Act.put, List.setIfInBounds_toArray, List.set_cons_zero, List.set_cons_succ])))
    refine wpReads_nil ?_
    go_wp2_with fail
    refine (HD.out (HM2.out.drewN 3) (HE2.out.drewN 3)).mono ?_
    rintro e w5 HX5
    unfold DoesRet at HX5
    rw [HDX.out] at HX5
    have TT0 := (HTT2.out.mono (D := MineS M) (fun _ h => h.elim)).drewN 3
    clear x10 c9' x20 x21 x22 tk2 c4 c9 c11 o1 o2 o3
    by_cases hgo : hh = 0 ∨ hh = 1
    · rw [if_pos hgo] at HX5
      obtain ⟨o5, v5, rfl, T5, d9, f9, M5, E5⟩ := HX5
      dsimp only at d9 M5 E5
      have R5 := (HR2.out.turn ((Turn.refl q2 (fun _ => False) _).drewN 3) (fun h => h)).turn T5 (notMineX (by omega))
      have TT := TT0.trans T5 MineX.s
      have hwl := HWAY.out
      obtain ⟨z, hz⟩ : ∃ x : Int, ((wayX P m).1 : Int) = x := ⟨_, rfl⟩
      rw [hz] at d9 M5
      have e9 : IntKind.i64.wrap (z - 1 + 1) = z := by rw [IntWalk.i64_in _ (by omega)]; omega
      obtain ⟨zz, hzz⟩ : ∃ x : Int, z - 1 = x := ⟨_, rfl⟩
      rw [hzz] at d9 e9
      have T9 : Turn o5 o5 (fun x => x = M) w5 (w5.setCell ⟨b, 9, none⟩ (.int .i64 z)) := ⟨(Mods.refl (fun k => o5 k = M) w5).setCell (p := ⟨b, 9, none⟩) (fun _ => M5.blk.2) _, fun _ _ => rfl⟩
      clear hz hzz T5 TT0 hwl
      rcases hgo with rfl | rfl
      · have E6 := E5.turn T9 (by omega) (by omega)
        have R6 := R5.turn T9 (by omega)
        obtain ⟨a0, c0, y3, y4, y0, y1, y2, I6⟩ := E6.reads
        have g0 := R6.frozen 0
        have g1 := R6.frozen 1
        have g2 := R6.frozen 2
        have g3 := R6.frozen 3
        have g4 := R6.frozen 4
        have k0 := R6.cell 0 _ rfl
        have k1 := R6.cell 1 _ rfl
        have k2 := R6.cell 2 _ rfl
        have k3 := R6.cell 3 _ rfl
        have k4 := R6.cell 4 _ rfl
        have S7 := res_store R6 (.int .i64 m.next) (.int .u8 kn) (.int .i64 ln) (.slice a0 (castL c).length c0) (.int .u8 0)
        have M7 := M5.turn S7.2 (fun c hc => by rw [hc]; exact notMine (by omega))
        have I7 := I6.turn S7.2 (by omega)
        have T7 := (TT.trans T9 (fun c hc => by rw [hc]; unfold MineS; omega)).trans S7.2 (fun c hc => by rw [hc]; unfold MineS; omega)
        have z4 := E5.reads
        obtain ⟨_, _, -, z4, -⟩ := z4
        have HS7 := Lib.hid S7.1
        have HM7 := Lib.hid M7
        have HI7 := Lib.hid I7
        have HT7 := Lib.hid T7
        have HGO2 := Lib.hid (HGO.out (by decide))
        clear E6 R6 S7 M7 I7 T7 I6 M5 E5 T9 R5 TT HGO HST HTR
        go_wp2
        refine bodyPost_ret_by (results_cell_row rfl _ _ _ _ _ _ _ rfl HS7.out.1 Try.underlying39 rfl (by kernel_rfl)) rfl ?_
        rw [HGO2.out]
        exact ⟨_, _, _, rfl, HT7.out, HM7.out, HI7.out⟩
      · have E6 := E5.turn T9 (by omega) (by omega)
        have R6 := R5.turn T9 (by omega)
        obtain ⟨a0, c0, y3, y4, y0, y1, y2, I6⟩ := E6.reads
        have g0 := R6.frozen 0
        have g1 := R6.frozen 1
        have g2 := R6.frozen 2
        have g3 := R6.frozen 3
        have g4 := R6.frozen 4
        have k0 := R6.cell 0 _ rfl
        have k1 := R6.cell 1 _ rfl
        have k2 := R6.cell 2 _ rfl
        have k3 := R6.cell 3 _ rfl
        have k4 := R6.cell 4 _ rfl
        have S7 := res_store R6 (.int .i64 m.next) (.int .u8 kn) (.int .i64 ln) (.slice a0 (castL c).length c0) (.int .u8 1)
        have M7 := M5.turn S7.2 (fun c hc => by rw [hc]; exact notMine (by omega))
        have I7 := I6.turn S7.2 (by omega)
        have T7 := (TT.trans T9 (fun c hc => by rw [hc]; unfold MineS; omega)).trans S7.2 (fun c hc => by rw [hc]; unfold MineS; omega)
        have z4 := E5.reads
        obtain ⟨_, _, -, z4, -⟩ := z4
        have HS7 := Lib.hid S7.1
        have HM7 := Lib.hid M7
        have HI7 := Lib.hid I7
        have HT7 := Lib.hid T7
        have HGO2 := Lib.hid (HGO.out (by decide))
        clear E6 R6 S7 M7 I7 T7 I6 M5 E5 T9 R5 TT HGO HST HTR
        go_wp2
        refine bodyPost_ret_by (results_cell_row rfl _ _ _ _ _ _ _ rfl HS7.out.1 Try.underlying39 rfl (by kernel_rfl)) rfl ?_
        rw [HGO2.out]
        exact ⟨_, _, _, rfl, HT7.out, HM7.out, HI7.out⟩
    · rw [if_neg hgo] at HX5
      obtain ⟨o5, v5, rfl, T5, M5, E5⟩ := HX5
      dsimp only at E5
      have R5 := (HR2.out.turn ((Turn.refl q2 (fun _ => False) _).drewN 3) (fun h => h)).turn T5 (notMineX (by omega))
      have TT := TT0.trans T5 MineX.s
      have hc2 : hh = 2 ∨ hh = 3 ∨ hh = 4 := by omega
      clear T5 TT0 hcases
      rcases hc2 with rfl | rfl | rfl
      · have HRS := Lib.hid (HST.out rfl)
        obtain ⟨_, _, -, z4, -⟩ := E5.reads
        have M6 := M5
        have E6 := E5
        have R6 := R5
        have TT6 := TT
        obtain ⟨_, _, -, y4, y0, y1, y2, I6⟩ := E6.reads
        have y3 := E6.noList
        have g0 := R6.frozen 0
        have g1 := R6.frozen 1
        have g2 := R6.frozen 2
        have g3 := R6.frozen 3
        have g4 := R6.frozen 4
        have k0 := R6.cell 0 _ rfl
        have k1 := R6.cell 1 _ rfl
        have k2 := R6.cell 2 _ rfl
        have k3 := R6.cell 3 _ rfl
        have k4 := R6.cell 4 _ rfl
        have S7 := res_store R6 (.int .i64 m.next) (.int .u8 kn) (.int .i64 ln) (.slice none 0 0) (.int .u8 2)
        have M7 := M6.turn S7.2 (fun c hc => by rw [hc]; exact notMine (by omega))
        have T7 := TT6.trans S7.2 (fun c hc => by rw [hc]; unfold MineS; omega)
        have HS7 := Lib.hid S7.1
        have HM7 := Lib.hid M7
        have HT7 := Lib.hid T7
        clear E6 R6 S7 M7 T7 M6 I6 TT6 M5 E5 R5 TT HGO HST HTR
        go_wp2
        refine bodyPost_ret_by (results_cell_row rfl _ _ _ _ _ _ _ rfl HS7.out.1 Try.underlying39 rfl (by kernel_rfl)) rfl ?_
        rw [HRS.out]
        exact ⟨_, _, .slice none 0 0, rfl, HT7.out, HM7.out, .inl ⟨rfl, _, _, rfl⟩⟩
      · have HRS := Lib.hid (HTR.out (.inl rfl))
        obtain ⟨_, _, -, z4, -⟩ := E5.reads
        obtain ⟨_, _, -, -, z0, z1, z2, -⟩ := E5.reads
        have z3 := E5.noList
        have hm5 : machV m v5 = [.slice (some ⟨v5.mem, 0, none⟩) m.mem.length m.mem.length, v5.lines, .slice (some ⟨v5.fed, 0, none⟩) m.fed.length m.fed.length, .slice (some ⟨v5.out, 0, none⟩) m.out.length m.out.length, v5.ops, v5.takes, v5.bods, .slice (some ⟨v5.cs, 0, none⟩) m.cs.length m.cs.length, v5.hand, .int .i64 m.next, .int .i64 m.periods] ++ lastV none := by unfold machV; rw [HLA.out]
        have j11 := M5.cell 11 (u := .bool false) (by rw [hm5]; rfl)
        have j12 := M5.cell 12 (u := .int .i64 0) (by rw [hm5]; rfl)
        have j13 := M5.cell 13 (u := .int .u8 0) (by rw [hm5]; rfl)
        have j14 := M5.cell 14 (u := .int .i64 0) (by rw [hm5]; rfl)
        have j15 := M5.cell 15 (u := .slice none 0 0) (by rw [hm5]; rfl)
        have j16 := M5.cell 16 (u := .int .u8 0) (by rw [hm5]; rfl)
        have p11 := M5.frozen 11
        have p12 := M5.frozen 12
        have p13 := M5.frozen 13
        have p14 := M5.frozen 14
        have p15 := M5.frozen 15
        have p16 := M5.frozen 16
        have S6 := M5.setLast HLA.out ⟨m.next, kn, ln, [], 3⟩ rfl
        dsimp only at S6
        have M6 := S6.1
        have E6 := E5.turn S6.2 (notMine (by omega)) (notMine (by omega))
        have R6 := R5.turn S6.2 (notMine (by omega))
        have TT6 := TT.trans S6.2 Mine.s
        clear S6 hm5
        obtain ⟨_, _, -, y4, y0, y1, y2, I6⟩ := E6.reads
        have y3 := E6.noList
        have g0 := R6.frozen 0
        have g1 := R6.frozen 1
        have g2 := R6.frozen 2
        have g3 := R6.frozen 3
        have g4 := R6.frozen 4
        have k0 := R6.cell 0 _ rfl
        have k1 := R6.cell 1 _ rfl
        have k2 := R6.cell 2 _ rfl
        have k3 := R6.cell 3 _ rfl
        have k4 := R6.cell 4 _ rfl
        have S7 := res_store R6 (.int .i64 m.next) (.int .u8 kn) (.int .i64 ln) (.slice none 0 0) (.int .u8 3)
        have M7 := M6.turn S7.2 (fun c hc => by rw [hc]; exact notMine (by omega))
        have T7 := TT6.trans S7.2 (fun c hc => by rw [hc]; unfold MineS; omega)
        have HS7 := Lib.hid S7.1
        have HM7 := Lib.hid M7
        have HT7 := Lib.hid T7
        clear E6 R6 S7 M7 T7 M6 I6 TT6 M5 E5 R5 TT HGO HST HTR
        go_wp2
        refine bodyPost_ret_by (results_cell_row rfl _ _ _ _ _ _ _ rfl HS7.out.1 Try.underlying39 rfl (by kernel_rfl)) rfl ?_
        rw [HRS.out]
        exact ⟨_, _, .slice none 0 0, rfl, HT7.out, HM7.out, .inl ⟨rfl, _, _, rfl⟩⟩
      · have HRS := Lib.hid (HTR.out (.inr rfl))
        obtain ⟨_, _, -, z4, -⟩ := E5.reads
        obtain ⟨_, _, -, -, z0, z1, z2, -⟩ := E5.reads
        have z3 := E5.noList
        have hm5 : machV m v5 = [.slice (some ⟨v5.mem, 0, none⟩) m.mem.length m.mem.length, v5.lines, .slice (some ⟨v5.fed, 0, none⟩) m.fed.length m.fed.length, .slice (some ⟨v5.out, 0, none⟩) m.out.length m.out.length, v5.ops, v5.takes, v5.bods, .slice (some ⟨v5.cs, 0, none⟩) m.cs.length m.cs.length, v5.hand, .int .i64 m.next, .int .i64 m.periods] ++ lastV none := by unfold machV; rw [HLA.out]
        have j11 := M5.cell 11 (u := .bool false) (by rw [hm5]; rfl)
        have j12 := M5.cell 12 (u := .int .i64 0) (by rw [hm5]; rfl)
        have j13 := M5.cell 13 (u := .int .u8 0) (by rw [hm5]; rfl)
        have j14 := M5.cell 14 (u := .int .i64 0) (by rw [hm5]; rfl)
        have j15 := M5.cell 15 (u := .slice none 0 0) (by rw [hm5]; rfl)
        have j16 := M5.cell 16 (u := .int .u8 0) (by rw [hm5]; rfl)
        have p11 := M5.frozen 11
        have p12 := M5.frozen 12
        have p13 := M5.frozen 13
        have p14 := M5.frozen 14
        have p15 := M5.frozen 15
        have p16 := M5.frozen 16
        have S6 := M5.setLast HLA.out ⟨m.next, kn, ln, [], 4⟩ rfl
        dsimp only at S6
        have M6 := S6.1
        have E6 := E5.turn S6.2 (notMine (by omega)) (notMine (by omega))
        have R6 := R5.turn S6.2 (notMine (by omega))
        have TT6 := TT.trans S6.2 Mine.s
        clear S6 hm5
        obtain ⟨_, _, -, y4, y0, y1, y2, I6⟩ := E6.reads
        have y3 := E6.noList
        have g0 := R6.frozen 0
        have g1 := R6.frozen 1
        have g2 := R6.frozen 2
        have g3 := R6.frozen 3
        have g4 := R6.frozen 4
        have k0 := R6.cell 0 _ rfl
        have k1 := R6.cell 1 _ rfl
        have k2 := R6.cell 2 _ rfl
        have k3 := R6.cell 3 _ rfl
        have k4 := R6.cell 4 _ rfl
        have S7 := res_store R6 (.int .i64 m.next) (.int .u8 kn) (.int .i64 ln) (.slice none 0 0) (.int .u8 4)
        have M7 := M6.turn S7.2 (fun c hc => by rw [hc]; exact notMine (by omega))
        have T7 := TT6.trans S7.2 (fun c hc => by rw [hc]; unfold MineS; omega)
        have HS7 := Lib.hid S7.1
        have HM7 := Lib.hid M7
        have HT7 := Lib.hid T7
        clear E6 R6 S7 M7 T7 M6 I6 TT6 M5 E5 R5 TT HGO HST HTR
        go_wp2
        refine bodyPost_ret_by (results_cell_row rfl _ _ _ _ _ _ _ rfl HS7.out.1 Try.underlying39 rfl (by kernel_rfl)) rfl ?_
        rw [HRS.out]
        exact ⟨_, _, .slice none 0 0, rfl, HT7.out, HM7.out, .inl ⟨rfl, _, _, rfl⟩⟩
  · go_enter Try.func33, Try.ntmps33
    go_wp2_with fail
    refine wp_region_lex (fun w' => w'.cell? ⟨b, 4, none⟩ = some (.slice (some ⟨go, 0, none⟩) P.ops.length co) ∧ w'.cell? ⟨b, 9, none⟩ = some (.int .i64 m.next) ∧ w'.cell? ⟨go, m.next * 3, none⟩ = some (.int .u8 kn) ∧ w'.cell? ⟨go, m.next * 3 + 1, none⟩ = some (.int .i64 ln) ∧ w'.cell? ⟨go, m.next * 3 + 2, none⟩ = some (.int .i64 xb)) [0, 1, 2, 3, 4, 5, 6, 7, 8, 9] [10, 11] (by kernel_rfl) (by kernel_rfl) rfl (fun _ _ hx h => ⟨hx.cell h.1, hx.cell h.2.1, hx.cell h.2.2.1, hx.cell h.2.2.2.1, hx.cell h.2.2.2.2⟩) ⟨c4, c9, o1, o2, o3⟩ ?_
    intro Q' hQ'
    simp only [pickOps, List.flatMap_cons, List.flatMap_nil, List.drop_succ_cons, List.drop_zero, List.take_succ_cons, List.take_zero, List.cons_append, List.nil_append, List.append_nil]
    repeat (first
      | (refine wpReads_skip (by rfl) ?_; (try simp only [Act.put, List.setIfInBounds_toArray, List.set_cons_zero, List.set_cons_succ]))
      | (refine wpReads_cons ?_ (by rfl) (by rfl) ?_ ?_; rotate_left; (intro wz hz; (try dsimp only at hz); go_simp; try with_reducible rfl); (try simp only [Act.put, List.setIfInBounds_toArray, List.set_cons_zero, List.set_cons_succ]))
      | (refine wpReads_any ?_ (by rfl) ?_ ?_; rotate_left; (intro wz; go_simp; try with_reducible rfl); (try simp only [Act.put, List.setIfInBounds_toArray, List.set_cons_zero, List.set_cons_succ])))
    refine wpReads_nil ?_
    go_wp2_with fail
    refine wp_region_lex (fun w' => w'.cell? ⟨b, 9, none⟩ = some (.int .i64 m.next) ∧ w'.cell? ⟨w.heap.size + 1, 0, none⟩ = some (.int .u8 kn)) [0, 1, 2, 3, 4, 5, 6] [7, 8] (by kernel_rfl) (by kernel_rfl) rfl (fun _ _ hx h => ⟨hx.cell h.1, hx.cell h.2⟩) ⟨c9', x10⟩ ?_
    intro Q' hQ'
    simp only [pickOps, List.flatMap_cons, List.flatMap_nil, List.drop_succ_cons, List.drop_zero, List.take_succ_cons, List.take_zero, List.cons_append, List.nil_append, List.append_nil]
    repeat (first
      | (refine wpReads_skip (by rfl) ?_; (try simp only [Act.put, List.setIfInBounds_toArray, List.set_cons_zero, List.set_cons_succ]))
      | (refine wpReads_cons ?_ (by rfl) (by rfl) ?_ ?_; rotate_left; (intro wz hz; (try dsimp only at hz); go_simp; try with_reducible rfl); (try simp only [Act.put, List.setIfInBounds_toArray, List.set_cons_zero, List.set_cons_succ]))
      | (refine wpReads_any ?_ (by rfl) ?_ ?_; rotate_left; (intro wz; go_simp; try with_reducible rfl); (try simp only [Act.put, List.setIfInBounds_toArray, List.set_cons_zero, List.set_cons_succ])))
    refine wpReads_nil ?_
    go_wp2_with fail
    refine wp_region_lex (fun w' => w'.cell? ⟨w.heap.size + 1, 0, none⟩ = some (.int .u8 kn) ∧ w'.cell? ⟨w.heap.size + 1, 1, none⟩ = some (.int .i64 ln) ∧ w'.cell? ⟨w.heap.size + 1, 2, none⟩ = some (.int .i64 xb) ∧ w'.cell? ⟨tb, kn, none⟩ = some (.func (.func f) #[] #[])) [0, 1, 2, 3, 4, 5, 6] [7] (by kernel_rfl) (by kernel_rfl) rfl (fun _ _ hx h => ⟨hx.cell h.1, hx.cell h.2.1, hx.cell h.2.2.1, hx.cell h.2.2.2⟩) ⟨x20, x21, x22, tk2⟩ ?_
    intro Q' hQ'
    simp only [pickOps, List.flatMap_cons, List.flatMap_nil, List.drop_succ_cons, List.drop_zero, List.take_succ_cons, List.take_zero, List.cons_append, List.nil_append, List.append_nil]
    repeat (first
      | (refine wpReads_skip (by rfl) ?_; (try simp only [Act.put, List.setIfInBounds_toArray, List.set_cons_zero, List.set_cons_succ]))
      | (refine wpReads_cons ?_ (by rfl) (by rfl) ?_ ?_; rotate_left; (intro wz hz; (try dsimp only at hz); go_simp; try with_reducible rfl); (try simp only [Act.put, List.setIfInBounds_toArray, List.set_cons_zero, List.set_cons_succ]))
      | (refine wpReads_any ?_ (by rfl) ?_ ?_; rotate_left; (intro wz; go_simp; try with_reducible rfl); (try simp only [Act.put, List.setIfInBounds_toArray, List.set_cons_zero, List.set_cons_succ])))
    refine wpReads_nil ?_
    go_wp2_with fail
    refine (HD.out (HM2.out.drewN 3) (HE2.out.drewN 3)).mono ?_
    rintro e w5 HX5
    unfold DoesRet at HX5
    rw [HDX.out] at HX5
    have TT0 := (HTT2.out.mono (D := MineS M) (fun _ h => h.elim)).drewN 3
    clear x10 c9' x20 x21 x22 tk2 c4 c9 c11 o1 o2 o3
    by_cases hgo : hh = 0 ∨ hh = 1
    · rw [if_pos hgo] at HX5
      obtain ⟨o5, v5, rfl, T5, d9, f9, M5, E5⟩ := HX5
      dsimp only at d9 M5 E5
      have R5 := (HR2.out.turn ((Turn.refl q2 (fun _ => False) _).drewN 3) (fun h => h)).turn T5 (notMineX (by omega))
      have TT := TT0.trans T5 MineX.s
      have hwl := HWAY.out
      obtain ⟨z, hz⟩ : ∃ x : Int, ((wayX P m).1 : Int) = x := ⟨_, rfl⟩
      rw [hz] at d9 M5
      have e9 : IntKind.i64.wrap (z - 1 + 1) = z := by rw [IntWalk.i64_in _ (by omega)]; omega
      obtain ⟨zz, hzz⟩ : ∃ x : Int, z - 1 = x := ⟨_, rfl⟩
      rw [hzz] at d9 e9
      have T9 : Turn o5 o5 (fun x => x = M) w5 (w5.setCell ⟨b, 9, none⟩ (.int .i64 z)) := ⟨(Mods.refl (fun k => o5 k = M) w5).setCell (p := ⟨b, 9, none⟩) (fun _ => M5.blk.2) _, fun _ _ => rfl⟩
      clear hz hzz T5 TT0 hwl
      rcases hgo with rfl | rfl
      · have E6 := E5.turn T9 (by omega) (by omega)
        have R6 := R5.turn T9 (by omega)
        obtain ⟨a0, c0, y3, y4, y0, y1, y2, I6⟩ := E6.reads
        have g0 := R6.frozen 0
        have g1 := R6.frozen 1
        have g2 := R6.frozen 2
        have g3 := R6.frozen 3
        have g4 := R6.frozen 4
        have k0 := R6.cell 0 _ rfl
        have k1 := R6.cell 1 _ rfl
        have k2 := R6.cell 2 _ rfl
        have k3 := R6.cell 3 _ rfl
        have k4 := R6.cell 4 _ rfl
        have S7 := res_store R6 (.int .i64 m.next) (.int .u8 kn) (.int .i64 ln) (.slice a0 (castL c).length c0) (.int .u8 0)
        have M7 := M5.turn S7.2 (fun c hc => by rw [hc]; exact notMine (by omega))
        have I7 := I6.turn S7.2 (by omega)
        have T7 := (TT.trans T9 (fun c hc => by rw [hc]; unfold MineS; omega)).trans S7.2 (fun c hc => by rw [hc]; unfold MineS; omega)
        have z4 := E5.reads
        obtain ⟨_, _, -, z4, -⟩ := z4
        have HS7 := Lib.hid S7.1
        have HM7 := Lib.hid M7
        have HI7 := Lib.hid I7
        have HT7 := Lib.hid T7
        have HGO2 := Lib.hid (HGO.out (by decide))
        clear E6 R6 S7 M7 I7 T7 I6 M5 E5 T9 R5 TT HGO HST HTR
        go_wp2
        refine bodyPost_ret_by (results_cell_row rfl _ _ _ _ _ _ _ rfl HS7.out.1 Try.underlying39 rfl (by kernel_rfl)) rfl ?_
        rw [HGO2.out]
        exact ⟨_, _, _, rfl, HT7.out, HM7.out, HI7.out⟩
      · have E6 := E5.turn T9 (by omega) (by omega)
        have R6 := R5.turn T9 (by omega)
        obtain ⟨a0, c0, y3, y4, y0, y1, y2, I6⟩ := E6.reads
        have g0 := R6.frozen 0
        have g1 := R6.frozen 1
        have g2 := R6.frozen 2
        have g3 := R6.frozen 3
        have g4 := R6.frozen 4
        have k0 := R6.cell 0 _ rfl
        have k1 := R6.cell 1 _ rfl
        have k2 := R6.cell 2 _ rfl
        have k3 := R6.cell 3 _ rfl
        have k4 := R6.cell 4 _ rfl
        have S7 := res_store R6 (.int .i64 m.next) (.int .u8 kn) (.int .i64 ln) (.slice a0 (castL c).length c0) (.int .u8 1)
        have M7 := M5.turn S7.2 (fun c hc => by rw [hc]; exact notMine (by omega))
        have I7 := I6.turn S7.2 (by omega)
        have T7 := (TT.trans T9 (fun c hc => by rw [hc]; unfold MineS; omega)).trans S7.2 (fun c hc => by rw [hc]; unfold MineS; omega)
        have z4 := E5.reads
        obtain ⟨_, _, -, z4, -⟩ := z4
        have HS7 := Lib.hid S7.1
        have HM7 := Lib.hid M7
        have HI7 := Lib.hid I7
        have HT7 := Lib.hid T7
        have HGO2 := Lib.hid (HGO.out (by decide))
        clear E6 R6 S7 M7 I7 T7 I6 M5 E5 T9 R5 TT HGO HST HTR
        go_wp2
        refine bodyPost_ret_by (results_cell_row rfl _ _ _ _ _ _ _ rfl HS7.out.1 Try.underlying39 rfl (by kernel_rfl)) rfl ?_
        rw [HGO2.out]
        exact ⟨_, _, _, rfl, HT7.out, HM7.out, HI7.out⟩
    · rw [if_neg hgo] at HX5
      obtain ⟨o5, v5, rfl, T5, M5, E5⟩ := HX5
      dsimp only at E5
      have R5 := (HR2.out.turn ((Turn.refl q2 (fun _ => False) _).drewN 3) (fun h => h)).turn T5 (notMineX (by omega))
      have TT := TT0.trans T5 MineX.s
      have hc2 : hh = 2 ∨ hh = 3 ∨ hh = 4 := by omega
      clear T5 TT0 hcases
      rcases hc2 with rfl | rfl | rfl
      · have HRS := Lib.hid (HST.out rfl)
        obtain ⟨_, _, -, z4, -⟩ := E5.reads
        have M6 := M5
        have E6 := E5
        have R6 := R5
        have TT6 := TT
        obtain ⟨_, _, -, y4, y0, y1, y2, I6⟩ := E6.reads
        have y3 := E6.noList
        have g0 := R6.frozen 0
        have g1 := R6.frozen 1
        have g2 := R6.frozen 2
        have g3 := R6.frozen 3
        have g4 := R6.frozen 4
        have k0 := R6.cell 0 _ rfl
        have k1 := R6.cell 1 _ rfl
        have k2 := R6.cell 2 _ rfl
        have k3 := R6.cell 3 _ rfl
        have k4 := R6.cell 4 _ rfl
        have S7 := res_store R6 (.int .i64 m.next) (.int .u8 kn) (.int .i64 ln) (.slice none 0 0) (.int .u8 2)
        have M7 := M6.turn S7.2 (fun c hc => by rw [hc]; exact notMine (by omega))
        have T7 := TT6.trans S7.2 (fun c hc => by rw [hc]; unfold MineS; omega)
        have HS7 := Lib.hid S7.1
        have HM7 := Lib.hid M7
        have HT7 := Lib.hid T7
        clear E6 R6 S7 M7 T7 M6 I6 TT6 M5 E5 R5 TT HGO HST HTR
        go_wp2
        refine bodyPost_ret_by (results_cell_row rfl _ _ _ _ _ _ _ rfl HS7.out.1 Try.underlying39 rfl (by kernel_rfl)) rfl ?_
        rw [HRS.out]
        exact ⟨_, _, .slice none 0 0, rfl, HT7.out, HM7.out, .inl ⟨rfl, _, _, rfl⟩⟩
      · have HRS := Lib.hid (HTR.out (.inl rfl))
        obtain ⟨_, _, -, z4, -⟩ := E5.reads
        obtain ⟨_, _, -, -, z0, z1, z2, -⟩ := E5.reads
        have z3 := E5.noList
        have hm5 : machV m v5 = [.slice (some ⟨v5.mem, 0, none⟩) m.mem.length m.mem.length, v5.lines, .slice (some ⟨v5.fed, 0, none⟩) m.fed.length m.fed.length, .slice (some ⟨v5.out, 0, none⟩) m.out.length m.out.length, v5.ops, v5.takes, v5.bods, .slice (some ⟨v5.cs, 0, none⟩) m.cs.length m.cs.length, v5.hand, .int .i64 m.next, .int .i64 m.periods] ++ lastV none := by unfold machV; rw [HLA.out]
        have j11 := M5.cell 11 (u := .bool false) (by rw [hm5]; rfl)
        have j12 := M5.cell 12 (u := .int .i64 0) (by rw [hm5]; rfl)
        have j13 := M5.cell 13 (u := .int .u8 0) (by rw [hm5]; rfl)
        have j14 := M5.cell 14 (u := .int .i64 0) (by rw [hm5]; rfl)
        have j15 := M5.cell 15 (u := .slice none 0 0) (by rw [hm5]; rfl)
        have j16 := M5.cell 16 (u := .int .u8 0) (by rw [hm5]; rfl)
        have p11 := M5.frozen 11
        have p12 := M5.frozen 12
        have p13 := M5.frozen 13
        have p14 := M5.frozen 14
        have p15 := M5.frozen 15
        have p16 := M5.frozen 16
        have S6 := M5.setLast HLA.out ⟨m.next, kn, ln, [], 3⟩ rfl
        dsimp only at S6
        have M6 := S6.1
        have E6 := E5.turn S6.2 (notMine (by omega)) (notMine (by omega))
        have R6 := R5.turn S6.2 (notMine (by omega))
        have TT6 := TT.trans S6.2 Mine.s
        clear S6 hm5
        obtain ⟨_, _, -, y4, y0, y1, y2, I6⟩ := E6.reads
        have y3 := E6.noList
        have g0 := R6.frozen 0
        have g1 := R6.frozen 1
        have g2 := R6.frozen 2
        have g3 := R6.frozen 3
        have g4 := R6.frozen 4
        have k0 := R6.cell 0 _ rfl
        have k1 := R6.cell 1 _ rfl
        have k2 := R6.cell 2 _ rfl
        have k3 := R6.cell 3 _ rfl
        have k4 := R6.cell 4 _ rfl
        have S7 := res_store R6 (.int .i64 m.next) (.int .u8 kn) (.int .i64 ln) (.slice none 0 0) (.int .u8 3)
        have M7 := M6.turn S7.2 (fun c hc => by rw [hc]; exact notMine (by omega))
        have T7 := TT6.trans S7.2 (fun c hc => by rw [hc]; unfold MineS; omega)
        have HS7 := Lib.hid S7.1
        have HM7 := Lib.hid M7
        have HT7 := Lib.hid T7
        clear E6 R6 S7 M7 T7 M6 I6 TT6 M5 E5 R5 TT HGO HST HTR
        go_wp2
        refine bodyPost_ret_by (results_cell_row rfl _ _ _ _ _ _ _ rfl HS7.out.1 Try.underlying39 rfl (by kernel_rfl)) rfl ?_
        rw [HRS.out]
        exact ⟨_, _, .slice none 0 0, rfl, HT7.out, HM7.out, .inl ⟨rfl, _, _, rfl⟩⟩
      · have HRS := Lib.hid (HTR.out (.inr rfl))
        obtain ⟨_, _, -, z4, -⟩ := E5.reads
        obtain ⟨_, _, -, -, z0, z1, z2, -⟩ := E5.reads
        have z3 := E5.noList
        have hm5 : machV m v5 = [.slice (some ⟨v5.mem, 0, none⟩) m.mem.length m.mem.length, v5.lines, .slice (some ⟨v5.fed, 0, none⟩) m.fed.length m.fed.length, .slice (some ⟨v5.out, 0, none⟩) m.out.length m.out.length, v5.ops, v5.takes, v5.bods, .slice (some ⟨v5.cs, 0, none⟩) m.cs.length m.cs.length, v5.hand, .int .i64 m.next, .int .i64 m.periods] ++ lastV none := by unfold machV; rw [HLA.out]
        have j11 := M5.cell 11 (u := .bool false) (by rw [hm5]; rfl)
        have j12 := M5.cell 12 (u := .int .i64 0) (by rw [hm5]; rfl)
        have j13 := M5.cell 13 (u := .int .u8 0) (by rw [hm5]; rfl)
        have j14 := M5.cell 14 (u := .int .i64 0) (by rw [hm5]; rfl)
        have j15 := M5.cell 15 (u := .slice none 0 0) (by rw [hm5]; rfl)
        have j16 := M5.cell 16 (u := .int .u8 0) (by rw [hm5]; rfl)
        have p11 := M5.frozen 11
        have p12 := M5.frozen 12
        have p13 := M5.frozen 13
        have p14 := M5.frozen 14
        have p15 := M5.frozen 15
        have p16 := M5.frozen 16
        have S6 := M5.setLast HLA.out ⟨m.next, kn, ln, [], 4⟩ rfl
        dsimp only at S6
        have M6 := S6.1
        have E6 := E5.turn S6.2 (notMine (by omega)) (notMine (by omega))
        have R6 := R5.turn S6.2 (notMine (by omega))
        have TT6 := TT.trans S6.2 Mine.s
        clear S6 hm5
        obtain ⟨_, _, -, y4, y0, y1, y2, I6⟩ := E6.reads
        have y3 := E6.noList
        have g0 := R6.frozen 0
        have g1 := R6.frozen 1
        have g2 := R6.frozen 2
        have g3 := R6.frozen 3
        have g4 := R6.frozen 4
        have k0 := R6.cell 0 _ rfl
        have k1 := R6.cell 1 _ rfl
        have k2 := R6.cell 2 _ rfl
        have k3 := R6.cell 3 _ rfl
        have k4 := R6.cell 4 _ rfl
        have S7 := res_store R6 (.int .i64 m.next) (.int .u8 kn) (.int .i64 ln) (.slice none 0 0) (.int .u8 4)
        have M7 := M6.turn S7.2 (fun c hc => by rw [hc]; exact notMine (by omega))
        have T7 := TT6.trans S7.2 (fun c hc => by rw [hc]; unfold MineS; omega)
        have HS7 := Lib.hid S7.1
        have HM7 := Lib.hid M7
        have HT7 := Lib.hid T7
        clear E6 R6 S7 M7 T7 M6 I6 TT6 M5 E5 R5 TT HGO HST HTR
        go_wp2
        refine bodyPost_ret_by (results_cell_row rfl _ _ _ _ _ _ _ rfl HS7.out.1 Try.underlying39 rfl (by kernel_rfl)) rfl ?_
        rw [HRS.out]
        exact ⟨_, _, .slice none 0 0, rfl, HT7.out, HM7.out, .inl ⟨rfl, _, _, rfl⟩⟩
  · go_enter Try.func33, Try.ntmps33
    go_wp2_with fail
    refine wp_region_lex (fun w' => w'.cell? ⟨b, 4, none⟩ = some (.slice (some ⟨go, 0, none⟩) P.ops.length co) ∧ w'.cell? ⟨b, 9, none⟩ = some (.int .i64 m.next) ∧ w'.cell? ⟨go, m.next * 3, none⟩ = some (.int .u8 kn) ∧ w'.cell? ⟨go, m.next * 3 + 1, none⟩ = some (.int .i64 xa) ∧ w'.cell? ⟨go, m.next * 3 + 2, none⟩ = some (.int .i64 xb)) [0, 1, 2, 3, 4, 5, 6, 7, 8, 9] [10, 11] (by kernel_rfl) (by kernel_rfl) rfl (fun _ _ hx h => ⟨hx.cell h.1, hx.cell h.2.1, hx.cell h.2.2.1, hx.cell h.2.2.2.1, hx.cell h.2.2.2.2⟩) ⟨c4, c9, o1, o2, o3⟩ ?_
    intro Q' hQ'
    simp only [pickOps, List.flatMap_cons, List.flatMap_nil, List.drop_succ_cons, List.drop_zero, List.take_succ_cons, List.take_zero, List.cons_append, List.nil_append, List.append_nil]
    repeat (first
      | (refine wpReads_skip (by rfl) ?_; (try simp only [Act.put, List.setIfInBounds_toArray, List.set_cons_zero, List.set_cons_succ]))
      | (refine wpReads_cons ?_ (by rfl) (by rfl) ?_ ?_; rotate_left; (intro wz hz; (try dsimp only at hz); go_simp; try with_reducible rfl); (try simp only [Act.put, List.setIfInBounds_toArray, List.set_cons_zero, List.set_cons_succ]))
      | (refine wpReads_any ?_ (by rfl) ?_ ?_; rotate_left; (intro wz; go_simp; try with_reducible rfl); (try simp only [Act.put, List.setIfInBounds_toArray, List.set_cons_zero, List.set_cons_succ])))
    refine wpReads_nil ?_
    go_wp2_with fail
    refine wp_region_lex (fun w' => w'.cell? ⟨b, 9, none⟩ = some (.int .i64 m.next) ∧ w'.cell? ⟨w.heap.size + 1, 0, none⟩ = some (.int .u8 kn)) [0, 1, 2, 3, 4, 5, 6] [7, 8] (by kernel_rfl) (by kernel_rfl) rfl (fun _ _ hx h => ⟨hx.cell h.1, hx.cell h.2⟩) ⟨c9', x10⟩ ?_
    intro Q' hQ'
    simp only [pickOps, List.flatMap_cons, List.flatMap_nil, List.drop_succ_cons, List.drop_zero, List.take_succ_cons, List.take_zero, List.cons_append, List.nil_append, List.append_nil]
    repeat (first
      | (refine wpReads_skip (by rfl) ?_; (try simp only [Act.put, List.setIfInBounds_toArray, List.set_cons_zero, List.set_cons_succ]))
      | (refine wpReads_cons ?_ (by rfl) (by rfl) ?_ ?_; rotate_left; (intro wz hz; (try dsimp only at hz); go_simp; try with_reducible rfl); (try simp only [Act.put, List.setIfInBounds_toArray, List.set_cons_zero, List.set_cons_succ]))
      | (refine wpReads_any ?_ (by rfl) ?_ ?_; rotate_left; (intro wz; go_simp; try with_reducible rfl); (try simp only [Act.put, List.setIfInBounds_toArray, List.set_cons_zero, List.set_cons_succ])))
    refine wpReads_nil ?_
    go_wp2_with fail
    refine wp_region_lex (fun w' => w'.cell? ⟨w.heap.size + 1, 0, none⟩ = some (.int .u8 kn) ∧ w'.cell? ⟨w.heap.size + 1, 1, none⟩ = some (.int .i64 xa) ∧ w'.cell? ⟨w.heap.size + 1, 2, none⟩ = some (.int .i64 xb) ∧ w'.cell? ⟨tb, kn, none⟩ = some (.func (.func f) #[] #[])) [0, 1, 2, 3, 4, 5, 6] [7] (by kernel_rfl) (by kernel_rfl) rfl (fun _ _ hx h => ⟨hx.cell h.1, hx.cell h.2.1, hx.cell h.2.2.1, hx.cell h.2.2.2⟩) ⟨x20, x21, x22, tk2⟩ ?_
    intro Q' hQ'
    simp only [pickOps, List.flatMap_cons, List.flatMap_nil, List.drop_succ_cons, List.drop_zero, List.take_succ_cons, List.take_zero, List.cons_append, List.nil_append, List.append_nil]
    repeat (first
      | (refine wpReads_skip (by rfl) ?_; (try simp only [Act.put, List.setIfInBounds_toArray, List.set_cons_zero, List.set_cons_succ]))
      | (refine wpReads_cons ?_ (by rfl) (by rfl) ?_ ?_; rotate_left; (intro wz hz; (try dsimp only at hz); go_simp; try with_reducible rfl); (try simp only [Act.put, List.setIfInBounds_toArray, List.set_cons_zero, List.set_cons_succ]))
      | (refine wpReads_any ?_ (by rfl) ?_ ?_; rotate_left; (intro wz; go_simp; try with_reducible rfl); (try simp only [Act.put, List.setIfInBounds_toArray, List.set_cons_zero, List.set_cons_succ])))
    refine wpReads_nil ?_
    go_wp2_with fail
    refine (HD.out (HM2.out.drewN 3) (HE2.out.drewN 3)).mono ?_
    rintro e w5 HX5
    unfold DoesRet at HX5
    rw [HDX.out] at HX5
    have TT0 := (HTT2.out.mono (D := MineS M) (fun _ h => h.elim)).drewN 3
    clear x10 c9' x20 x21 x22 tk2 c4 c9 c11 o1 o2 o3
    by_cases hgo : hh = 0 ∨ hh = 1
    · rw [if_pos hgo] at HX5
      obtain ⟨o5, v5, rfl, T5, d9, f9, M5, E5⟩ := HX5
      dsimp only at d9 M5 E5
      have R5 := (HR2.out.turn ((Turn.refl q2 (fun _ => False) _).drewN 3) (fun h => h)).turn T5 (notMineX (by omega))
      have TT := TT0.trans T5 MineX.s
      have hwl := HWAY.out
      obtain ⟨z, hz⟩ : ∃ x : Int, ((wayX P m).1 : Int) = x := ⟨_, rfl⟩
      rw [hz] at d9 M5
      have e9 : IntKind.i64.wrap (z - 1 + 1) = z := by rw [IntWalk.i64_in _ (by omega)]; omega
      obtain ⟨zz, hzz⟩ : ∃ x : Int, z - 1 = x := ⟨_, rfl⟩
      rw [hzz] at d9 e9
      have T9 : Turn o5 o5 (fun x => x = M) w5 (w5.setCell ⟨b, 9, none⟩ (.int .i64 z)) := ⟨(Mods.refl (fun k => o5 k = M) w5).setCell (p := ⟨b, 9, none⟩) (fun _ => M5.blk.2) _, fun _ _ => rfl⟩
      clear hz hzz T5 TT0 hwl
      rcases hgo with rfl | rfl
      · have E6 := E5.turn T9 (by omega) (by omega)
        have R6 := R5.turn T9 (by omega)
        obtain ⟨a0, c0, y3, y4, y0, y1, y2, I6⟩ := E6.reads
        have g0 := R6.frozen 0
        have g1 := R6.frozen 1
        have g2 := R6.frozen 2
        have g3 := R6.frozen 3
        have g4 := R6.frozen 4
        have k0 := R6.cell 0 _ rfl
        have k1 := R6.cell 1 _ rfl
        have k2 := R6.cell 2 _ rfl
        have k3 := R6.cell 3 _ rfl
        have k4 := R6.cell 4 _ rfl
        have S7 := res_store R6 (.int .i64 m.next) (.int .u8 kn) (.int .i64 (-1)) (.slice a0 (castL c).length c0) (.int .u8 0)
        have M7 := M5.turn S7.2 (fun c hc => by rw [hc]; exact notMine (by omega))
        have I7 := I6.turn S7.2 (by omega)
        have T7 := (TT.trans T9 (fun c hc => by rw [hc]; unfold MineS; omega)).trans S7.2 (fun c hc => by rw [hc]; unfold MineS; omega)
        have z4 := E5.reads
        obtain ⟨_, _, -, z4, -⟩ := z4
        have HS7 := Lib.hid S7.1
        have HM7 := Lib.hid M7
        have HI7 := Lib.hid I7
        have HT7 := Lib.hid T7
        have HGO2 := Lib.hid (HGO.out (by decide))
        clear E6 R6 S7 M7 I7 T7 I6 M5 E5 T9 R5 TT HGO HST HTR
        go_wp2
        refine bodyPost_ret_by (results_cell_row rfl _ _ _ _ _ _ _ rfl HS7.out.1 Try.underlying39 rfl (by kernel_rfl)) rfl ?_
        rw [HGO2.out]
        exact ⟨_, _, _, rfl, HT7.out, HM7.out, HI7.out⟩
      · have E6 := E5.turn T9 (by omega) (by omega)
        have R6 := R5.turn T9 (by omega)
        obtain ⟨a0, c0, y3, y4, y0, y1, y2, I6⟩ := E6.reads
        have g0 := R6.frozen 0
        have g1 := R6.frozen 1
        have g2 := R6.frozen 2
        have g3 := R6.frozen 3
        have g4 := R6.frozen 4
        have k0 := R6.cell 0 _ rfl
        have k1 := R6.cell 1 _ rfl
        have k2 := R6.cell 2 _ rfl
        have k3 := R6.cell 3 _ rfl
        have k4 := R6.cell 4 _ rfl
        have S7 := res_store R6 (.int .i64 m.next) (.int .u8 kn) (.int .i64 (-1)) (.slice a0 (castL c).length c0) (.int .u8 1)
        have M7 := M5.turn S7.2 (fun c hc => by rw [hc]; exact notMine (by omega))
        have I7 := I6.turn S7.2 (by omega)
        have T7 := (TT.trans T9 (fun c hc => by rw [hc]; unfold MineS; omega)).trans S7.2 (fun c hc => by rw [hc]; unfold MineS; omega)
        have z4 := E5.reads
        obtain ⟨_, _, -, z4, -⟩ := z4
        have HS7 := Lib.hid S7.1
        have HM7 := Lib.hid M7
        have HI7 := Lib.hid I7
        have HT7 := Lib.hid T7
        have HGO2 := Lib.hid (HGO.out (by decide))
        clear E6 R6 S7 M7 I7 T7 I6 M5 E5 T9 R5 TT HGO HST HTR
        go_wp2
        refine bodyPost_ret_by (results_cell_row rfl _ _ _ _ _ _ _ rfl HS7.out.1 Try.underlying39 rfl (by kernel_rfl)) rfl ?_
        rw [HGO2.out]
        exact ⟨_, _, _, rfl, HT7.out, HM7.out, HI7.out⟩
    · rw [if_neg hgo] at HX5
      obtain ⟨o5, v5, rfl, T5, M5, E5⟩ := HX5
      dsimp only at E5
      have R5 := (HR2.out.turn ((Turn.refl q2 (fun _ => False) _).drewN 3) (fun h => h)).turn T5 (notMineX (by omega))
      have TT := TT0.trans T5 MineX.s
      have hc2 : hh = 2 ∨ hh = 3 ∨ hh = 4 := by omega
      clear T5 TT0 hcases
      rcases hc2 with rfl | rfl | rfl
      · have HRS := Lib.hid (HST.out rfl)
        obtain ⟨_, _, -, z4, -⟩ := E5.reads
        have M6 := M5
        have E6 := E5
        have R6 := R5
        have TT6 := TT
        obtain ⟨_, _, -, y4, y0, y1, y2, I6⟩ := E6.reads
        have y3 := E6.noList
        have g0 := R6.frozen 0
        have g1 := R6.frozen 1
        have g2 := R6.frozen 2
        have g3 := R6.frozen 3
        have g4 := R6.frozen 4
        have k0 := R6.cell 0 _ rfl
        have k1 := R6.cell 1 _ rfl
        have k2 := R6.cell 2 _ rfl
        have k3 := R6.cell 3 _ rfl
        have k4 := R6.cell 4 _ rfl
        have S7 := res_store R6 (.int .i64 m.next) (.int .u8 kn) (.int .i64 (-1)) (.slice none 0 0) (.int .u8 2)
        have M7 := M6.turn S7.2 (fun c hc => by rw [hc]; exact notMine (by omega))
        have T7 := TT6.trans S7.2 (fun c hc => by rw [hc]; unfold MineS; omega)
        have HS7 := Lib.hid S7.1
        have HM7 := Lib.hid M7
        have HT7 := Lib.hid T7
        clear E6 R6 S7 M7 T7 M6 I6 TT6 M5 E5 R5 TT HGO HST HTR
        go_wp2
        refine bodyPost_ret_by (results_cell_row rfl _ _ _ _ _ _ _ rfl HS7.out.1 Try.underlying39 rfl (by kernel_rfl)) rfl ?_
        rw [HRS.out]
        exact ⟨_, _, .slice none 0 0, rfl, HT7.out, HM7.out, .inl ⟨rfl, _, _, rfl⟩⟩
      · have HRS := Lib.hid (HTR.out (.inl rfl))
        obtain ⟨_, _, -, z4, -⟩ := E5.reads
        obtain ⟨_, _, -, -, z0, z1, z2, -⟩ := E5.reads
        have z3 := E5.noList
        have hm5 : machV m v5 = [.slice (some ⟨v5.mem, 0, none⟩) m.mem.length m.mem.length, v5.lines, .slice (some ⟨v5.fed, 0, none⟩) m.fed.length m.fed.length, .slice (some ⟨v5.out, 0, none⟩) m.out.length m.out.length, v5.ops, v5.takes, v5.bods, .slice (some ⟨v5.cs, 0, none⟩) m.cs.length m.cs.length, v5.hand, .int .i64 m.next, .int .i64 m.periods] ++ lastV none := by unfold machV; rw [HLA.out]
        have j11 := M5.cell 11 (u := .bool false) (by rw [hm5]; rfl)
        have j12 := M5.cell 12 (u := .int .i64 0) (by rw [hm5]; rfl)
        have j13 := M5.cell 13 (u := .int .u8 0) (by rw [hm5]; rfl)
        have j14 := M5.cell 14 (u := .int .i64 0) (by rw [hm5]; rfl)
        have j15 := M5.cell 15 (u := .slice none 0 0) (by rw [hm5]; rfl)
        have j16 := M5.cell 16 (u := .int .u8 0) (by rw [hm5]; rfl)
        have p11 := M5.frozen 11
        have p12 := M5.frozen 12
        have p13 := M5.frozen 13
        have p14 := M5.frozen 14
        have p15 := M5.frozen 15
        have p16 := M5.frozen 16
        have S6 := M5.setLast HLA.out ⟨m.next, kn, (-1), [], 3⟩ rfl
        dsimp only at S6
        have M6 := S6.1
        have E6 := E5.turn S6.2 (notMine (by omega)) (notMine (by omega))
        have R6 := R5.turn S6.2 (notMine (by omega))
        have TT6 := TT.trans S6.2 Mine.s
        clear S6 hm5
        obtain ⟨_, _, -, y4, y0, y1, y2, I6⟩ := E6.reads
        have y3 := E6.noList
        have g0 := R6.frozen 0
        have g1 := R6.frozen 1
        have g2 := R6.frozen 2
        have g3 := R6.frozen 3
        have g4 := R6.frozen 4
        have k0 := R6.cell 0 _ rfl
        have k1 := R6.cell 1 _ rfl
        have k2 := R6.cell 2 _ rfl
        have k3 := R6.cell 3 _ rfl
        have k4 := R6.cell 4 _ rfl
        have S7 := res_store R6 (.int .i64 m.next) (.int .u8 kn) (.int .i64 (-1)) (.slice none 0 0) (.int .u8 3)
        have M7 := M6.turn S7.2 (fun c hc => by rw [hc]; exact notMine (by omega))
        have T7 := TT6.trans S7.2 (fun c hc => by rw [hc]; unfold MineS; omega)
        have HS7 := Lib.hid S7.1
        have HM7 := Lib.hid M7
        have HT7 := Lib.hid T7
        clear E6 R6 S7 M7 T7 M6 I6 TT6 M5 E5 R5 TT HGO HST HTR
        go_wp2
        refine bodyPost_ret_by (results_cell_row rfl _ _ _ _ _ _ _ rfl HS7.out.1 Try.underlying39 rfl (by kernel_rfl)) rfl ?_
        rw [HRS.out]
        exact ⟨_, _, .slice none 0 0, rfl, HT7.out, HM7.out, .inl ⟨rfl, _, _, rfl⟩⟩
      · have HRS := Lib.hid (HTR.out (.inr rfl))
        obtain ⟨_, _, -, z4, -⟩ := E5.reads
        obtain ⟨_, _, -, -, z0, z1, z2, -⟩ := E5.reads
        have z3 := E5.noList
        have hm5 : machV m v5 = [.slice (some ⟨v5.mem, 0, none⟩) m.mem.length m.mem.length, v5.lines, .slice (some ⟨v5.fed, 0, none⟩) m.fed.length m.fed.length, .slice (some ⟨v5.out, 0, none⟩) m.out.length m.out.length, v5.ops, v5.takes, v5.bods, .slice (some ⟨v5.cs, 0, none⟩) m.cs.length m.cs.length, v5.hand, .int .i64 m.next, .int .i64 m.periods] ++ lastV none := by unfold machV; rw [HLA.out]
        have j11 := M5.cell 11 (u := .bool false) (by rw [hm5]; rfl)
        have j12 := M5.cell 12 (u := .int .i64 0) (by rw [hm5]; rfl)
        have j13 := M5.cell 13 (u := .int .u8 0) (by rw [hm5]; rfl)
        have j14 := M5.cell 14 (u := .int .i64 0) (by rw [hm5]; rfl)
        have j15 := M5.cell 15 (u := .slice none 0 0) (by rw [hm5]; rfl)
        have j16 := M5.cell 16 (u := .int .u8 0) (by rw [hm5]; rfl)
        have p11 := M5.frozen 11
        have p12 := M5.frozen 12
        have p13 := M5.frozen 13
        have p14 := M5.frozen 14
        have p15 := M5.frozen 15
        have p16 := M5.frozen 16
        have S6 := M5.setLast HLA.out ⟨m.next, kn, (-1), [], 4⟩ rfl
        dsimp only at S6
        have M6 := S6.1
        have E6 := E5.turn S6.2 (notMine (by omega)) (notMine (by omega))
        have R6 := R5.turn S6.2 (notMine (by omega))
        have TT6 := TT.trans S6.2 Mine.s
        clear S6 hm5
        obtain ⟨_, _, -, y4, y0, y1, y2, I6⟩ := E6.reads
        have y3 := E6.noList
        have g0 := R6.frozen 0
        have g1 := R6.frozen 1
        have g2 := R6.frozen 2
        have g3 := R6.frozen 3
        have g4 := R6.frozen 4
        have k0 := R6.cell 0 _ rfl
        have k1 := R6.cell 1 _ rfl
        have k2 := R6.cell 2 _ rfl
        have k3 := R6.cell 3 _ rfl
        have k4 := R6.cell 4 _ rfl
        have S7 := res_store R6 (.int .i64 m.next) (.int .u8 kn) (.int .i64 (-1)) (.slice none 0 0) (.int .u8 4)
        have M7 := M6.turn S7.2 (fun c hc => by rw [hc]; exact notMine (by omega))
        have T7 := TT6.trans S7.2 (fun c hc => by rw [hc]; unfold MineS; omega)
        have HS7 := Lib.hid S7.1
        have HM7 := Lib.hid M7
        have HT7 := Lib.hid T7
        clear E6 R6 S7 M7 T7 M6 I6 TT6 M5 E5 R5 TT HGO HST HTR
        go_wp2
        refine bodyPost_ret_by (results_cell_row rfl _ _ _ _ _ _ _ rfl HS7.out.1 Try.underlying39 rfl (by kernel_rfl)) rfl ?_
        rw [HRS.out]
        exact ⟨_, _, .slice none 0 0, rfl, HT7.out, HM7.out, .inl ⟨rfl, _, _, rfl⟩⟩
end Go.Proofs.Ytnnnpippekpibaa

/- Runs of the machine, plainly: how long one is; step by step; whenever tokens come; a machine that stands. No function in sight. -/
namespace Go.Proofs.Ytnnnpippekpibaa
open Go.RowKit

/-- as many operations as are left up to the end of a period -/
def meas (S : Nat) (to : Int) (m : MachP) (d : Nat) : Nat := if (m.periods : Int) < to then (to - m.periods - 1).toNat * S + d + 1 else 0
/-- a machine that can go on -/
structure Ready (P : GProg) (m : MachP) (d : Nat) : Prop where
  rest : Rest P (m.next, m.cs) d
  last : ∀ e, m.last = some e → e.halt = 3 ∨ e.halt = 4
theorem Ready.halt {P : GProg} {m : MachP} {d : Nat} (h : Ready P m d) : ∀ e, m.last = some e → e.halt ≠ 0 ∧ e.halt ≠ 1 := fun e he => by
  have := h.last e he
  omega
theorem MOk.ready {P : GProg} {F s : Nat} {m : MachP} (h : MOk P F s m) : ∃ d, d < 131072 ∧ Ready P m d := by
  obtain ⟨d, h1, h2⟩ := h.ctl
  exact ⟨d, h1, h2, fun e he => (h.last e he).2.1⟩
theorem mstep_last {P : GProg} {m : MachP} {d : Nat} (h : Ready P m d) : ∀ e, (mstep P m).2.last = some e → e.halt = 3 ∨ e.halt = 4 := by
  intro e he
  unfold mstep at he
  rcases hl : m.last with _ | e0
  · rw [hl] at he
    simp only at he
    split at he
    · rename_i hgo
      rcases hgo with hgo | hgo
      · have := (doesX_going hgo).2.2.2.2
        simp only [this, hl] at he
        cases he
      · have := (doesX_end hgo).2
        simp only [this, hl] at he
        cases he
    · split at he
      · rw [hl] at he; cases he
      · simp only [Option.some.injEq] at he
        subst he
        rcases doesX_cases P (ctlOp P.ops m.next) m with h1 | h1 | h1 | h1 | h1
        · rename_i hno _; exact absurd (.inl h1) hno
        · rename_i hno _; exact absurd (.inr h1) hno
        · rename_i hno2; exact absurd (by rw [h1]) hno2
        · rw [h1]; exact .inl rfl
        · rw [h1]; exact .inr rfl
  · rw [hl] at he
    simp only at he
    exact h.last e he
/-- a step, and what is left -/
theorem ready_step {P : GProg} {S : Int} (hS : cstepsE P = (S, 0)) {m : MachP} {d : Nat} (h : Ready P m d) (to : Int) (hp : (m.periods : Int) < to) (hd : d < S.toNat) (hgo : (mstep P m).1.halt = 0 ∨ (mstep P m).1.halt = 1) :
    ∃ d', d' < S.toNat ∧ Ready P (mstep P m).2 d' ∧ meas S.toNat to m d = meas S.toNat to (mstep P m).2 d' + 1 ∧ ((mstep P m).1.halt = 0 → d = d' + 1 ∧ (mstep P m).2.periods = m.periods) ∧ ((mstep P m).1.halt = 1 → d = 0 ∧ (mstep P m).2.periods = m.periods + 1 ∧ d' + 1 = S.toNat ∧ (mstep P m).2.cs = List.replicate P.counters.toNat 0) := by
  have hb := rest_start hS
  have w := mstep_went hS h.halt h.rest
  have hla := mstep_last h
  rcases hgo with hgo | hgo
  · obtain ⟨d', e1, h2, h3, _⟩ := w.going hgo
    refine ⟨d', by omega, ⟨h2, hla⟩, ?_, fun _ => ⟨e1, h3⟩, fun h1 => by omega⟩
    unfold meas
    rw [h3, if_pos hp, if_pos hp]
    omega
  · obtain ⟨e1, h2, h3, h4, h5, _⟩ := w.done hgo
    refine ⟨S.toNat - 1, by omega, ⟨h4, hla⟩, ?_, fun h1 => by omega, fun _ => ⟨e1, h5, by omega, h3⟩⟩
    unfold meas
    rw [h5, if_pos hp, e1]
    by_cases hq : ((m.periods + 1 : Nat) : Int) < to
    · rw [if_pos hq]
      have e2 : (to - (m.periods : Int) - 1).toNat = (to - ((m.periods + 1 : Nat) : Int) - 1).toNat + 1 := by omega
      rw [e2, Nat.add_mul]
      omega
    · rw [if_neg hq]
      have e2 : (to - (m.periods : Int) - 1).toNat = 0 := by omega
      rw [e2]
      omega
theorem meas_pos {S : Nat} {to : Int} {m : MachP} {d : Nat} : 0 < meas S to m d ↔ (m.periods : Int) < to := by
  unfold meas
  split <;> omega
theorem meas_le {S : Nat} {to : Int} {m : MachP} {d : Nat} (hd : d < S) : meas S to m d ≤ (to - m.periods).toNat * S := by
  unfold meas
  split
  · have e : (to - (m.periods : Int)).toNat = (to - m.periods - 1).toNat + 1 := by omega
    rw [e, Nat.add_mul]
    omega
  · omega

/-- a run, with what there is to do -/
def mrunTo (P : GProg) (S : Int) (to : Int) (m : MachP) : Int × MachP := mrun P to ((to - m.periods).toNat * S.toNat) m
theorem mrun_enough {P : GProg} {S : Int} (hS : cstepsE P = (S, 0)) (to : Int) : ∀ (f : Nat) {m : MachP} {d : Nat}, Ready P m d → d < S.toNat → meas S.toNat to m d ≤ f → mrun P to f m = mrun P to (meas S.toNat to m d) m
  | 0, m, d, _, _, hf => by rw [show meas S.toNat to m d = 0 by omega]
  | f + 1, m, d, h, hd, hf => by
    by_cases hp : (m.periods : Int) < to
    · have hm := meas_pos (S := S.toNat) (d := d).2 hp
      obtain ⟨k, hk⟩ : ∃ k, meas S.toNat to m d = k + 1 := ⟨meas S.toNat to m d - 1, by omega⟩
      rw [hk, mrun, mrun, if_pos hp, if_pos hp]
      split
      · rfl
      · rename_i hgo
        obtain ⟨d', h1, h2, h3, _⟩ := ready_step hS h to hp hd (by omega)
        have e : k = meas S.toNat to (mstep P m).2 d' := by omega
        rw [e]
        exact mrun_enough hS to f h2 h1 (by omega)
    · have e0 : meas S.toNat to m d = 0 := by have := meas_pos (S := S.toNat) (to := to) (m := m) (d := d); omega
      rw [e0, mrun, mrun, if_neg hp]
theorem mrunTo_is {P : GProg} {S : Int} (hS : cstepsE P = (S, 0)) (to : Int) {m : MachP} {d : Nat} (h : Ready P m d) (hd : d < S.toNat) : mrunTo P S to m = mrun P to (meas S.toNat to m d) m := mrun_enough hS to _ h hd (meas_le hd)
/-- how a run goes on -/
theorem mrunTo_done {P : GProg} {S : Int} {to : Int} {m : MachP} (hp : ¬ (m.periods : Int) < to) : mrunTo P S to m = (1, m) := by
  unfold mrunTo
  rw [show (to - (m.periods : Int)).toNat = 0 by omega, Nat.zero_mul, mrun]
theorem mrunTo_step {P : GProg} {S : Int} (hS : cstepsE P = (S, 0)) {to : Int} {m : MachP} {d : Nat} (h : Ready P m d) (hd : d < S.toNat) (hp : (m.periods : Int) < to) :
    mrunTo P S to m = if (mstep P m).1.halt ≠ 0 ∧ (mstep P m).1.halt ≠ 1 then ((mstep P m).1.halt, (mstep P m).2) else mrunTo P S to (mstep P m).2 := by
  rw [mrunTo_is hS to h hd]
  have hm := (meas_pos (S := S.toNat) (to := to) (m := m) (d := d)).2 hp
  obtain ⟨k, hk⟩ : ∃ k, meas S.toNat to m d = k + 1 := ⟨meas S.toNat to m d - 1, by omega⟩
  rw [hk, mrun, if_pos hp]
  split
  · rfl
  · rename_i hgo
    obtain ⟨d', h1, h2, h3, _⟩ := ready_step hS h to hp hd (by omega)
    rw [mrunTo_is hS to h2 h1, show k = meas S.toNat to (mstep P m).2 d' by omega]
end Go.Proofs.Ytnnnpippekpibaa

/- Three laws of the machine, plainly: step by step; whenever tokens come; a machine that stands. No function in sight. -/
namespace Go.Proofs.Ytnnnpippekpibaa
open Go.RowKit

/-- an operation within a run -/
theorem inner_step {P : GProg} {S : Int} (hS : cstepsE P = (S, 0)) {to : Int} {m : MachP} {d : Nat} {R : Int × MachP} (h : Ready P m d) (hd : d < S.toNat) (hp : (m.periods : Int) < to) (hR : mrunTo P S to m = R) :
    ((mstep P m).1.halt = 0 ∧ ∃ d', d = d' + 1 ∧ Ready P (mstep P m).2 d' ∧ (mstep P m).2.periods = m.periods ∧ mrunTo P S to (mstep P m).2 = R) ∨
    ((mstep P m).1.halt = 1 ∧ d = 0 ∧ ∃ d', d' + 1 = S.toNat ∧ Ready P (mstep P m).2 d' ∧ (mstep P m).2.periods = m.periods + 1 ∧ (mstep P m).2.cs = List.replicate P.counters.toNat 0 ∧ mrunTo P S to (mstep P m).2 = R) ∨
    ((mstep P m).1.halt ≠ 0 ∧ (mstep P m).1.halt ≠ 1 ∧ R = ((mstep P m).1.halt, (mstep P m).2)) := by
  rw [mrunTo_step hS h hd hp] at hR
  by_cases hgo : (mstep P m).1.halt ≠ 0 ∧ (mstep P m).1.halt ≠ 1
  · rw [if_pos hgo] at hR
    exact .inr (.inr ⟨hgo.1, hgo.2, hR.symm⟩)
  · rw [if_neg hgo] at hR
    obtain ⟨d', h1, h2, h3, h4, h5⟩ := ready_step hS h to hp hd (by omega)
    by_cases h0 : (mstep P m).1.halt = 0
    · obtain ⟨e1, e2⟩ := h4 h0
      exact .inl ⟨h0, d', e1, h2, e2, hR⟩
    · have h1' : (mstep P m).1.halt = 1 := by omega
      obtain ⟨e1, e2, e3, e4⟩ := h5 h1'
      exact .inr (.inl ⟨h1', e1, d', e3, h2, e2, e4, hR⟩)

/-- tokens laid behind an input's -/
def feedAt (m : MachP) (i : Nat) (ts : List Int) : MachP := { m with fed := m.fed.set i (rowAt m.fed i ++ ts) }
def feedAll : List (List Int) → Nat → MachP → MachP
  | [], _, m => m
  | x :: r, i, m => feedAll r (i + 1) (feedAt m i x)
/-- it does not matter when tokens come: an operation that does not starve -/
theorem doesX_feed (P : GProg) (x : GOp) (m : MachP) (i : Nat) (ts : List Int) (h : (doesX P x m).1 ≠ 2) : doesX P x (feedAt m i ts) = ((doesX P x m).1, (doesX P x m).2.1, feedAt (doesX P x m).2.2 i ts) := by
  revert h
  unfold doesX
  by_cases h0 : x.kind = 0
  · rw [if_pos h0, if_pos h0, endX, endX]
    intro _
    show (if 0 < m.hand.length then _ else _) = _
    split <;> rfl
  rw [if_neg h0, if_neg h0]
  by_cases h3 : x.kind = 3
  · rw [if_pos h3, if_pos h3]
    intro _
    unfold takeX
    show (if (lineAt m x.a.toNat).cnt < x.b.toNat ∨ 64 < m.hand.length + x.b.toNat then _ else _) = _
    split <;> rfl
  rw [if_neg h3, if_neg h3]
  by_cases h4 : x.kind = 4
  · rw [if_pos h4, if_pos h4]
    unfold readX
    intro h
    by_cases hf : 64 < m.hand.length + x.b.toNat
    · have hf' : 64 < (feedAt m i ts).hand.length + x.b.toNat := hf
      rw [if_pos hf, if_pos hf']
    · have hf' : ¬ 64 < (feedAt m i ts).hand.length + x.b.toNat := hf
      rw [if_neg hf] at h
      rw [if_neg hf, if_neg hf']
      by_cases hl : (rowAt m.fed x.a.toNat).length < x.b.toNat
      · rw [if_pos hl] at h
        exact absurd rfl h
      · rw [if_neg hl]
        unfold feedAt
        by_cases hi : i = x.a.toNat
        · subst hi
          by_cases hlt : x.a.toNat < m.fed.length
          · have e1 : rowAt (m.fed.set x.a.toNat (rowAt m.fed x.a.toNat ++ ts)) x.a.toNat = rowAt m.fed x.a.toNat ++ ts := by simp [rowAt, hlt]
            simp only [e1]
            rw [if_neg (by rw [List.length_append]; omega)]
            have e2 : rowAt (m.fed.set x.a.toNat ((rowAt m.fed x.a.toNat).drop x.b.toNat)) x.a.toNat = (rowAt m.fed x.a.toNat).drop x.b.toNat := by simp [rowAt, hlt]
            rw [e2, List.take_append_of_le_length (by omega), List.drop_append_of_le_length (by omega), List.set_set, List.set_set]
          · have e0 : rowAt m.fed x.a.toNat = [] := by simp [rowAt, hlt]
            have es : ∀ v, m.fed.set x.a.toNat v = m.fed := fun v => List.set_eq_of_length_le (by omega)
            simp only [es, e0] at hl ⊢
            rw [if_neg hl]
        · have e1 : ∀ v, rowAt (m.fed.set i v) x.a.toNat = rowAt m.fed x.a.toNat := fun v => by simp [rowAt, List.getElem?_set_ne hi]
          have e2 : ∀ v, rowAt (m.fed.set x.a.toNat v) i = rowAt m.fed i := fun v => by simp [rowAt, List.getElem?_set_ne (Ne.symm hi)]
          simp only [e1, e2]
          rw [if_neg hl, List.set_comm _ _ hi]
  rw [if_neg h4, if_neg h4]
  by_cases h5 : x.kind = 5
  · rw [if_pos h5, if_pos h5]
    intro _
    unfold callX
    show (if m.hand.length ≠ takesP (partAt P x.a.toNat) then _ else if (callS P x m).err ≠ 0 then _ else _) = _
    split
    · rfl
    · split <;> rfl
  rw [if_neg h5, if_neg h5]
  by_cases h6 : x.kind = 6
  · rw [if_pos h6, if_pos h6]
    intro _
    unfold giveX
    show (if m.hand.length < x.b.toNat ∨ (lineAt m x.a.toNat).size < (lineAt m x.a.toNat).cnt + x.b.toNat then _ else _) = _
    split <;> rfl
  rw [if_neg h6, if_neg h6]
  by_cases h7 : x.kind = 7
  · rw [if_pos h7, if_pos h7]
    intro _
    unfold writeX
    show (if m.hand.length < x.b.toNat then _ else _) = _
    split <;> rfl
  rw [if_neg h7, if_neg h7]
  intro _
  rfl
theorem mstep_feed (P : GProg) (m : MachP) (i : Nat) (ts : List Int) (h : (mstep P m).1.halt ≠ 2) : mstep P (feedAt m i ts) = ((mstep P m).1, feedAt (mstep P m).2 i ts) := by
  revert h
  unfold mstep
  show _ → (match m.last with | some e => _ | none => _) = _
  rcases hl : m.last with _ | e
  · simp only
    intro h
    have hn : (doesX P (ctlOp P.ops m.next) m).1 ≠ 2 := by
      intro e
      rw [if_neg (by omega), if_pos e] at h
      exact h rfl
    have hd := doesX_feed P (ctlOp P.ops m.next) m i ts hn
    show (if (doesX P (ctlOp P.ops m.next) (feedAt m i ts)).1 = 0 ∨ (doesX P (ctlOp P.ops m.next) (feedAt m i ts)).1 = 1 then _ else _) = _
    by_cases hgo : (doesX P (ctlOp P.ops m.next) m).1 = 0 ∨ (doesX P (ctlOp P.ops m.next) m).1 = 1
    · rw [if_pos (by rw [hd]; exact hgo), if_pos hgo]
      show (evX P m (doesX P (ctlOp P.ops m.next) (feedAt m i ts)).1 (doesX P (ctlOp P.ops m.next) (feedAt m i ts)).2.1, { (doesX P (ctlOp P.ops m.next) (feedAt m i ts)).2.2 with next := (wayX P m).1, cs := (wayX P m).2 }) = _
      rw [hd]
      rfl
    · rw [if_neg (by rw [hd]; exact hgo), if_neg hgo, if_neg hn]
      show (if (doesX P (ctlOp P.ops m.next) (feedAt m i ts)).1 = 2 then _ else (evX P m (doesX P (ctlOp P.ops m.next) (feedAt m i ts)).1 [], { feedAt m i ts with last := some (evX P m (doesX P (ctlOp P.ops m.next) (feedAt m i ts)).1 []) })) = _
      rw [hd, if_neg hn]
      rfl
  · intro _
    rfl
/-- a machine that starves, or stands, is as it was -/
theorem mstep_stop {P : GProg} {m : MachP} (h0 : (mstep P m).1.halt ≠ 0) (h1 : (mstep P m).1.halt ≠ 1) : (mstep P (mstep P m).2).1.halt = (mstep P m).1.halt ∧ mstep P (mstep P m).2 = ((mstep P (mstep P m).2).1, (mstep P m).2) ∧ ((mstep P m).1.halt ≠ 2 → ∃ e, (mstep P m).2.last = some e) ∧ ((mstep P m).1.halt = 2 → m.last = none → (mstep P m).2 = m) := by
  revert h0 h1
  unfold mstep
  rcases hl : m.last with _ | e
  · simp only
    by_cases hgo : (doesX P (ctlOp P.ops m.next) m).1 = 0 ∨ (doesX P (ctlOp P.ops m.next) m).1 = 1
    · rw [if_pos hgo]
      intro h0 h1
      exact absurd hgo (by rintro (h | h) <;> first | exact h0 h | exact h1 h)
    · rw [if_neg hgo]
      by_cases h2 : (doesX P (ctlOp P.ops m.next) m).1 = 2
      · rw [if_pos h2]
        intro _ _
        simp only [hl]
        rw [if_neg hgo, if_pos h2]
        exact ⟨by trivial, by trivial, fun h => absurd (by trivial) h, fun _ _ => by trivial⟩
      · rw [if_neg h2]
        intro _ _
        exact ⟨by trivial, by trivial, fun _ => ⟨_, rfl⟩, fun h => absurd h h2⟩
  · intro _ _
    simp only [hl]
    exact ⟨by trivial, by trivial, fun _ => ⟨_, rfl⟩, fun _ h => by cases h⟩
end Go.Proofs.Ytnnnpippekpibaa

/- The laws of whole runs, plainly: tokens fed late or at once; a machine that stands or starves. No function in sight. -/
namespace Go.Proofs.Ytnnnpippekpibaa
open Go.RowKit

theorem Ready.feed {P : GProg} {m : MachP} {d : Nat} (h : Ready P m d) (i : Nat) (ts : List Int) : Ready P (feedAt m i ts) d := ⟨h.rest, h.last⟩
theorem feedAll_rest : ∀ (X : List (List Int)) (i : Nat) (m : MachP), ∃ f, feedAll X i m = { m with fed := f } ∧ f.length = m.fed.length
  | [], _, m => ⟨m.fed, rfl, rfl⟩
  | x :: r, i, m => by
    obtain ⟨f, h, hl⟩ := feedAll_rest r (i + 1) (feedAt m i x)
    exact ⟨f, h, by rw [hl]; exact List.length_set⟩
theorem Ready.feedAll {P : GProg} {m : MachP} {d : Nat} (h : Ready P m d) (X : List (List Int)) (i : Nat) : Ready P (feedAll X i m) d := by
  obtain ⟨f, e, _⟩ := feedAll_rest X i m
  rw [e]
  exact ⟨h.rest, h.last⟩
theorem mstep_feedAll (P : GProg) : ∀ (X : List (List Int)) (i : Nat) (m : MachP), (mstep P m).1.halt ≠ 2 → mstep P (feedAll X i m) = ((mstep P m).1, feedAll X i (mstep P m).2)
  | [], _, _, _ => rfl
  | x :: r, i, m, h => by
    have h1 := mstep_feed P m i x h
    have h2 := mstep_feedAll P r (i + 1) (feedAt m i x) (by rw [h1]; exact h)
    rw [feedAll, h2, h1]
    rfl
theorem feedAll_periods (X : List (List Int)) (i : Nat) (m : MachP) : (feedAll X i m).periods = m.periods := by
  obtain ⟨f, h, _⟩ := feedAll_rest X i m
  rw [h]
/-- a run with more tokens -/
theorem feeds_run {P : GProg} {S : Int} (hS : cstepsE P = (S, 0)) (X : List (List Int)) (i : Nat) (to : Int) : ∀ (k : Nat) {m : MachP} {d : Nat} {R : Int × MachP}, meas S.toNat to m d = k → Ready P m d → d < S.toNat → mrunTo P S to m = R →
    (R.1 ≠ 2 → mrunTo P S to (feedAll X i m) = (R.1, feedAll X i R.2)) ∧
    (R.1 = 2 → m.last = none → mrunTo P S to (feedAll X i m) = mrunTo P S to (feedAll X i R.2) ∧ ((R.2.periods : Int) < to ∧ m.periods ≤ R.2.periods) ∧ R.2.last = none ∧ ∃ d', d' < S.toNat ∧ Ready P R.2 d')
  | k, m, d, R, hk, h, hd, hR => by
    by_cases hp : (m.periods : Int) < to
    · have hs := mrunTo_step hS h hd hp
      have hpf : ((feedAll X i m).periods : Int) < to := by rw [feedAll_periods]; exact hp
      have hsf := mrunTo_step hS (h.feedAll X i) hd hpf
      rw [hR] at hs
      by_cases h2 : (mstep P m).1.halt = 2
      · rw [if_pos (by omega)] at hs
        rw [hs, h2]
        refine ⟨fun h => absurd rfl h, fun _ hl => ?_⟩
        have h3 := (mstep_stop (P := P) (m := m) (by omega) (by omega)).2.2.2 h2 hl
        simp only [h3]
        exact ⟨trivial, ⟨hp, Nat.le_refl _⟩, hl, d, hd, h⟩
      · have hf := mstep_feedAll P X i m h2
        rw [hf] at hsf
        by_cases hgo : (mstep P m).1.halt ≠ 0 ∧ (mstep P m).1.halt ≠ 1
        · rw [if_pos hgo] at hs
          rw [if_pos hgo] at hsf
          rw [hs]
          exact ⟨fun _ => hsf, fun h => absurd h h2⟩
        · rw [if_neg hgo] at hs
          rw [if_neg hgo] at hsf
          obtain ⟨d', h3, h4, h5, h6, h7⟩ := ready_step hS h to hp hd (by omega)
          have hlt : meas S.toNat to (mstep P m).2 d' < k := by omega
          have ih := feeds_run hS X i to _ (d := d') rfl h4 h3 hs.symm
          rw [hsf]
          refine ⟨ih.1, fun hh hl => ?_⟩
          have w := mstep_went hS h.halt h.rest
          have hl2 : (mstep P m).2.last = none ∧ m.periods ≤ (mstep P m).2.periods := by
            by_cases h0 : (mstep P m).1.halt = 0
            · obtain ⟨_, _, _, h8, h9⟩ := w.going h0
              exact ⟨h9, by omega⟩
            · obtain ⟨_, _, _, _, h8, h9⟩ := w.done (by omega)
              exact ⟨h9, by omega⟩
          obtain ⟨a1, a2, a3, a4⟩ := ih.2 hh hl2.1
          exact ⟨a1, ⟨a2.1, by omega⟩, a3, a4⟩
    · have h1 := mrunTo_done (P := P) (S := S) hp
      rw [hR] at h1
      rw [h1]
      refine ⟨fun _ => mrunTo_done (by rw [feedAll_periods]; exact hp), fun h => by cases h⟩
  termination_by k => k
/-- how a run ends -/
theorem mrun_ends {P : GProg} {S : Int} (hS : cstepsE P = (S, 0)) (to : Int) : ∀ (k : Nat) {m : MachP} {d : Nat} {R : Int × MachP}, meas S.toNat to m d = k → Ready P m d → d < S.toNat → mrunTo P S to m = R →
    (R.1 = 1 ∧ ¬ (R.2.periods : Int) < to ∧ ((m.periods : Int) ≤ to → (R.2.periods : Int) = to) ∧ ∃ d', d' < S.toNat ∧ Ready P R.2 d') ∨
    (R.1 ≠ 0 ∧ R.1 ≠ 1 ∧ (R.2.periods : Int) < to ∧ (mstep P R.2).1.halt = R.1 ∧ mstep P R.2 = ((mstep P R.2).1, R.2) ∧ (R.1 ≠ 2 → ∃ e, R.2.last = some e) ∧ ∃ d', d' < S.toNat ∧ Ready P R.2 d')
  | k, m, d, R, hk, h, hd, hR => by
    by_cases hp : (m.periods : Int) < to
    · have hs := mrunTo_step hS h hd hp
      rw [hR] at hs
      by_cases hgo : (mstep P m).1.halt ≠ 0 ∧ (mstep P m).1.halt ≠ 1
      · rw [if_pos hgo] at hs
        obtain ⟨a1, a2, a3, _⟩ := mstep_stop hgo.1 hgo.2
        have w := (mstep_went hS h.halt h.rest).stops hgo.1 hgo.2
        refine .inr ?_
        rw [hs]
        refine ⟨hgo.1, hgo.2, by show ((mstep P m).2.periods : Int) < to; rw [w.1]; exact hp, a1, a2, a3, d, hd, ?_, mstep_last h⟩
        show Rest P ((mstep P m).2.next, (mstep P m).2.cs) d
        rw [w.2.1, w.2.2]
        exact h.rest
      · rw [if_neg hgo] at hs
        obtain ⟨d', h3, h4, h5, h6, h7⟩ := ready_step hS h to hp hd (by omega)
        have hlt : meas S.toNat to (mstep P m).2 d' < k := by omega
        rcases mrun_ends hS to _ (d := d') rfl h4 h3 hs.symm with ⟨b1, b2, b3, b4⟩ | b
        · refine .inl ⟨b1, b2, fun _ => b3 ?_, b4⟩
          by_cases h0 : (mstep P m).1.halt = 0
          · have := (h6 h0).2; omega
          · have := (h7 (by omega)).2.1; omega
        · exact .inr b
    · have h1 := mrunTo_done (P := P) (S := S) hp
      rw [hR] at h1
      rw [h1]
      exact .inl ⟨rfl, hp, fun h => by show (m.periods : Int) = to; omega, d, hd, h⟩
  termination_by k => k

/-- two lists for each input, one behind the other -/
theorem feedAt_comm (m : MachP) (i j : Nat) (x y : List Int) (h : i ≠ j) : feedAt (feedAt m i x) j y = feedAt (feedAt m j y) i x := by
  unfold feedAt rowAt
  simp only [List.getElem?_set_ne h, List.getElem?_set_ne (Ne.symm h)]
  rw [List.set_comm _ _ h]
theorem feedAt_two (m : MachP) (i : Nat) (x y : List Int) : feedAt (feedAt m i x) i y = feedAt m i (x ++ y) := by
  unfold feedAt rowAt
  by_cases hi : i < m.fed.length
  · simp [hi, List.set_set]
  · have e : ∀ v, m.fed.set i v = m.fed := fun v => List.set_eq_of_length_le (by omega)
    simp only [e]
theorem feedAll_at : ∀ (X : List (List Int)) (i j : Nat) (m : MachP) (y : List Int), j < i → feedAt (feedAll X i m) j y = feedAll X i (feedAt m j y)
  | [], _, _, _, _, _ => rfl
  | x :: r, i, j, m, y, h => by
    rw [feedAll, feedAll, feedAll_at r (i + 1) j _ y (by omega), feedAt_comm _ i j _ _ (by omega)]
theorem feedAll_two : ∀ (L : List (List Int × List Int)) (i : Nat) (m : MachP), feedAll (L.map Prod.snd) i (feedAll (L.map Prod.fst) i m) = feedAll (L.map fun p => p.1 ++ p.2) i m
  | [], _, _ => rfl
  | p :: r, i, m => by
    rw [List.map_cons, List.map_cons, List.map_cons, feedAll, feedAll, feedAll, feedAll_at _ _ _ _ _ (by omega), feedAll_two r, feedAt_two]
end Go.Proofs.Ytnnnpippekpibaa
