/- The graph's find. -/
import Derived.Test.YtbmbfifempkhgaaGFind
import Derived.Test.YtbmbfifempkhgaaGRows
import Derived.Test.YtbmbfifempkhgaaReg4
namespace Go.Proofs.Ytbmbfifempkhgaa
open Go.RowKit


/-- what 'find' answers -/
def FindRet (w : World) (E : Int) (e : Ending) (w' : World) : Prop := SpotRet E e ∧ Below w.heap.size w w'

/-- what the walk knows of find's blocks -/
structure FindAt (w wr : World) (q : Col) (s : ByteArray) (va ve vi vo : Value) : Prop where
  kept : Kept w.heap.size q w wr
  gr : Blk wr q 7 w.heap.size 26 #[.string s, va, ve, vi, vo]
  sp : Blk wr q 7 (w.heap.size + 1) 140 #[.int .u8 0, .int .i64 0, .int .i64 0]
theorem FindAt.turn {w wr wr' : World} {q q' : Col} {s : ByteArray} {va ve vi vo : Value} (h : FindAt w wr q s va ve vi vo) (T : Turn q q' ChkC wr wr') : FindAt w wr' q' s va ve vi vo :=
  ⟨h.kept.turn T (by unfold ChkC; omega), h.gr.turn T (by unfold ChkC; omega), h.sp.turn T (by unfold ChkC; omega)⟩
theorem FindAt.below {w wr wr' : World} {q : Col} {s : ByteArray} {va ve vi vo : Value} (h : FindAt w wr q s va ve vi vo) (c : Nat) (hb : Below wr.heap.size wr wr') : FindAt w wr' (ext q wr.heap.size c) s va ve vi vo :=
  h.turn ((Turn.of_below q c hb).mono (fun _ h => h.elim))
theorem FindAt.ret {w wr : World} {q : Col} {s : ByteArray} {va ve vi vo : Value} (h : FindAt w wr q s va ve vi vo) (a b c : Value) : Below w.heap.size w (((wr.setCell ⟨w.heap.size + 1, 0, none⟩ a).setCell ⟨w.heap.size + 1, 1, none⟩ b).setCell ⟨w.heap.size + 1, 2, none⟩ c) :=
  ((h.kept.below.setCell (by simp) _).setCell (by simp) _).setCell (by simp) _

theorem spot_setd {w : World} {o : Col} {R : Nat} {a b c : Int} (h : Blk w o 7 R 140 #[.int .u8 0, .int .i64 0, .int .i64 0]) :
    (((w.setCell ⟨R, 0, none⟩ (.int .u8 a)).setCell ⟨R, 1, none⟩ (.int .i64 b)).setCell ⟨R, 2, none⟩ (.int .i64 c)).drew.heap[R]? = some (.cells #[.int .u8 a, .int .i64 b, .int .i64 c] 140 (0, 0)) := spot_set h
theorem chkP_C (x : Nat) (h : ChkP x) : ChkC x := by unfold ChkP at h; unfold ChkC; omega
theorem FindAt.turnC {w wr wr' : World} {q q' : Col} {Cs : Nat → Prop} {s : ByteArray} {va ve vi vo : Value} (h : FindAt w wr q s va ve vi vo) (T : Turn q q' Cs wr wr') (h0 : ¬ Cs 0) (h7 : ¬ Cs 7) : FindAt w wr' q' s va ve vi vo :=
  ⟨h.kept.turn T h0, h.gr.turn T h7, h.sp.turn T h7⟩
theorem ChkAt.kept67 {w w' : World} {o o' : Col} {Cs : Nat → Prop} {C B : Nat} {X : ChkV} {k : Chk} (h : ChkAt w o C B X k) (T : Turn o o' Cs w w') (h1 : ¬ Cs 1) : w'.cell? ⟨C, 6, none⟩ = some X.vI ∧ w'.cell? ⟨C, 7, none⟩ = some X.vO := by
  obtain ⟨D, n, gI, gO, b, _⟩ := h.st
  have b2 := b.turn T h1
  exact ⟨b2.cell 6 _ rfl, b2.cell 7 _ rfl⟩
/-- a local spot is written -/
theorem spot_turn {w : World} {o : Col} {L : Nat} {t : TypeId} {cs : Array Value} (h : Blk w o 8 L t cs) (a b c : Value) : Turn o (ext o w.heap.size 8) (fun x => x = 8) w (((w.setCell ⟨L, 0, none⟩ a).setCell ⟨L, 1, none⟩ b).setCell ⟨L, 2, none⟩ c) :=
  Turn.of_mods o 8 (spot_only w L a b c) (fun b _ e => by subst e; exact h.2)
theorem spot8_set {w : World} {o : Col} {R : Nat} {a b c : Int} (h : Blk w o 8 R 140 #[.int .u8 0, .int .i64 0, .int .i64 0]) :
    (((w.setCell ⟨R, 0, none⟩ (.int .u8 a)).setCell ⟨R, 1, none⟩ (.int .i64 b)).setCell ⟨R, 2, none⟩ (.int .i64 c)).heap[R]? = some (.cells #[.int .u8 a, .int .i64 b, .int .i64 c] 140 (0, 0)) :=
  block_setCell (block_setCell (block_setCell h.1 0 (.int .u8 a)) 1 (.int .i64 b)) 2 (.int .i64 c)

theorem check_tail {g : GGraph} (h1 : headE g = 0) (h2 : actorsE chk0 g.actors = 0) (h3 : edgesE (chk1 g) g.edges = 0) : checkE g = if portsE (chk2 g).seen (chk2 g).ins g.ins ≠ 0 then portsE (chk2 g).seen (chk2 g).ins g.ins
    else if portsE (portsN (chk2 g).seen g.ins) (chk2 g).outs g.outs ≠ 0 then portsE (portsN (chk2 g).seen g.ins) (chk2 g).outs g.outs else openE (portsS (chk2 g).ins g.ins) (portsS (chk2 g).outs g.outs) := by
  unfold checkE
  rw [h1, h2, h3]
  simp
theorem head_ok {g : GGraph} (h : headE g = 0) : g.actors.length ≤ 32 ∧ g.edges.length ≤ 96 ∧ g.ins.length ≤ 16 ∧ g.outs.length ≤ 16 := by
  unfold headE at h
  split at h
  · cases h
  split at h
  · cases h
  split at h
  · cases h
  split at h
  · cases h
  split at h
  · cases h
  split at h
  · cases h
  omega
theorem seen2 (g : GGraph) : (chk2 g).seen.length = g.actors.length := by
  rw [chk2, (edgesC_len _ _).2.2, chk1, actorsC_seen]; simp [chk0]
set_option maxRecDepth 100000 in
set_option maxHeartbeats 4000000 in
theorem gfind_any (w : World) (v : Value) (g : GGraph) (h : HasGraph w v g) (hs : g.name.size ≤ 4611686018427387904) (hsa : ∀ p ∈ g.actors, p.name.size ≤ 4611686018427387904 ∧ p.params.length ≤ 17600000000000) (hsi : ∀ p ∈ g.ins, p.name.size ≤ 4611686018427387904) (hso : ∀ p ∈ g.outs, p.name.size ≤ 4611686018427387904) :
    Calls Try.prog 76 #[v] w (FindRet w (checkE g)) := by
  obtain ⟨va, ve, vi, vo, rfl, ra, re, ri, ro⟩ := h.shape
  obtain ⟨a1, c1, rfl⟩ := ra.slice
  obtain ⟨a2, c2, rfl⟩ := re.slice
  obtain ⟨a3, c3, rfl⟩ := ri.slice
  obtain ⟨a4, c4, rfl⟩ := ro.slice
  obtain ⟨E, hE⟩ : ∃ E, checkE g = E := ⟨_, rfl⟩
  rw [hE]
  have HE := Lib.hid hE
  have RA := Lib.hid ra
  have RE := Lib.hid re
  have RI := Lib.hid ri
  have RO := Lib.hid ro
  have HS := Lib.hid hs
  have HSA := Lib.hid hsa
  have HSI := Lib.hid hsi
  have HSO := Lib.hid hso
  have hmm := @run_makeMap Try.prog
  obtain ⟨k0, kc, kg, ks⟩ := find_start w g.name (.slice a1 g.actors.length c1) (.slice a2 g.edges.length c2) (.slice a3 g.ins.length c3) (.slice a4 g.outs.length c4)
  have HF0 := Lib.hid (⟨k0, kg, ks⟩ : FindAt _ _ _ _ _ _ _ _)
  have HC0 := Lib.hid kc
  clear hE ra re ri ro hs hsa hsi hso k0 kc kg ks h
  go_enter Try.func76, Try.ntmps76
  go_wp2_with fail
  clear hmm
  unfold findW at HF0 HC0
  refine (ghead_any _ _ (w.heap.size + 3) (w.heap.size + 2) _ chk0 a1 a2 a3 a4 _ _ _ _ c1 c2 c3 c4 rfl rfl rfl rfl HS.out HC0.out).mono ?_
  rintro e w1 ⟨⟨xa, xb, xc, rfl⟩, o1, T, hC1⟩
  rw [show headL (ChkV.name ⟨g.name, .slice a1 g.actors.length c1, .slice a2 g.edges.length c2, .slice a3 g.ins.length c3, .slice a4 g.outs.length c4, .slice none 0 0, .slice none 0 0⟩) g.actors.length g.edges.length g.ins.length g.outs.length = headE g from rfl] at hC1 ⊢
  have HC1 := Lib.hid hC1
  have HF1 := Lib.hid (HF0.out.turn T)
  have HF2 := Lib.hid (HF1.out.below 7 (below_alloc _ (.cells #[.int .u8 xa, .int .i64 xb, .int .i64 xc] 140)))
  have hL := heap_alloc_new w1 (.cells #[.int .u8 xa, .int .i64 xb, .int .i64 xc] 140)
  have l0 := cells_row _ _ hL 0 _ rfl
  have l1 := cells_row _ _ hL 1 _ rfl
  have l2 := cells_row _ _ hL 2 _ rfl
  clear T hC1 hL HF0 HC0 HF1
  obtain ⟨ne, hne⟩ : ∃ x, headE g = x := ⟨_, rfl⟩
  rw [hne] at HC1 ⊢
  have HNE := Lib.hid hne
  clear hne
  by_cases h0 : ne = 0
  · subst h0
    have hok := head_ok HNE.out
    have HC2 := Lib.hid ((HC1.out rfl).below 7 (below_alloc _ (.cells #[.int .u8 xa, .int .i64 xb, .int .i64 xc] 140)))
    clear HC1 l0 l1 l2
    go_wp2_with fail
    refine (gactors_any w _ _ (w.heap.size + 3) (w.heap.size + 2) _ chk0 g.actors RA.out HF2.out.kept (by simp [chk0]; omega) (by simp [chk0]; omega) (by simp [chk0]; omega) HSA.out HC2.out).mono ?_
    rintro e w3 ⟨⟨xa, xb, xc, rfl⟩, o3, vI, vO, T, hC3⟩
    have HC3 := Lib.hid hC3
    have HF3 := Lib.hid (HF2.out.turn T)
    have HF4 := Lib.hid (HF3.out.below 7 (below_alloc _ (.cells #[.int .u8 xa, .int .i64 xb, .int .i64 xc] 140)))
    have hL := heap_alloc_new w3 (.cells #[.int .u8 xa, .int .i64 xb, .int .i64 xc] 140)
    have l0 := cells_row _ _ hL 0 _ rfl
    have l1 := cells_row _ _ hL 1 _ rfl
    have l2 := cells_row _ _ hL 2 _ rfl
    clear T hC3 hL HF2 HC2 HF3
    obtain ⟨ne, hne⟩ : ∃ x, actorsE chk0 g.actors = x := ⟨_, rfl⟩
    rw [hne] at HC3 ⊢
    have HNA := Lib.hid hne
    clear hne
    by_cases h0 : ne = 0
    · subst h0
      have HC4 : Hid (ChkAt _ _ (w.heap.size + 3) (w.heap.size + 2) _ (chk1 g)) := Lib.hid ((HC3.out rfl).below 7 (below_alloc _ (.cells #[.int .u8 xa, .int .i64 xb, .int .i64 xc] 140)))
      clear HC3 l0 l1 l2
      go_wp2_with fail
      refine (gedges_any w _ _ (w.heap.size + 3) (w.heap.size + 2) _ (chk1 g) g.edges RE.out HF4.out.kept (by omega) HC4.out).mono ?_
      rintro e w5 ⟨⟨xa, xb, xc, rfl⟩, o5, T, hC5⟩
      have HC5 := Lib.hid hC5
      have HF5 := Lib.hid (HF4.out.turn T)
      have HF6 := Lib.hid (HF5.out.below 7 (below_alloc _ (.cells #[.int .u8 xa, .int .i64 xb, .int .i64 xc] 140)))
      have hL := heap_alloc_new w5 (.cells #[.int .u8 xa, .int .i64 xb, .int .i64 xc] 140)
      have l0 := cells_row _ _ hL 0 _ rfl
      have l1 := cells_row _ _ hL 1 _ rfl
      have l2 := cells_row _ _ hL 2 _ rfl
      clear T hC5 hL HF4 HC4 HF5
      obtain ⟨ne, hne⟩ : ∃ x, edgesE (chk1 g) g.edges = x := ⟨_, rfl⟩
      rw [hne] at HC5 ⊢
      have HND := Lib.hid hne
      clear hne
      by_cases h0 : ne = 0
      · subst h0
        have HC6 : Hid (ChkAt _ _ (w.heap.size + 3) (w.heap.size + 2) ⟨g.name, .slice a1 g.actors.length c1, .slice a2 g.edges.length c2, .slice a3 g.ins.length c3, .slice a4 g.outs.length c4, vI, vO⟩ (chk2 g)) := Lib.hid ((HC5.out rfl).below 7 (below_alloc _ (.cells #[.int .u8 xa, .int .i64 xb, .int .i64 xc] 140)))
        have y3 := HF6.out.gr.cell 3 _ rfl
        have y6 := HC6.out.cells.2.2.2.2.2.2.1
        clear HC5 l0 l1 l2
        go_wp2_with fail
        generalize w5.alloc (.cells #[.int .u8 xa, .int .i64 xb, .int .i64 xc] 140) = V at *
        generalize ext o5 w5.heap.size 7 = q6 at *
        have hlp : (chk2 g).seen.length + g.ins.length ≤ 1000000 := by have := seen2 g; omega
        refine wp_region_mid2 (fun w' => w'.cell? ⟨w.heap.size, 3, none⟩ = some (.slice a3 g.ins.length c3) ∧ w'.cell? ⟨w.heap.size + 3, 6, none⟩ = some vI) [0, 1, 2, 3, 4, 5, 6] 7 11 [8, 9, 10] [7] 2 (by kernel_rfl) (by kernel_rfl) rfl ⟨y3, y6⟩ ?_
        intro Q' hQ'
        simp only [pickOps, List.flatMap_cons, List.flatMap_nil, List.drop_succ_cons, List.drop_zero, List.take_succ_cons, List.take_zero, List.cons_append, List.nil_append, List.append_nil]
        repeat (first
          | (refine wpReads_skip (by rfl) ?_; (try simp only [Act.put, List.setIfInBounds_toArray, List.set_cons_zero, List.set_cons_succ]))
          | (refine wpReads_cons ?_ (by rfl) (by rfl) ?_ ?_; rotate_left; (intro wz hz; (try dsimp only at hz); go_simp; try with_reducible rfl); (try simp only [Act.put, List.setIfInBounds_toArray, List.set_cons_zero, List.set_cons_succ]))
          | (refine wpReads_any ?_ (by rfl) ?_ ?_; rotate_left; (intro wz; go_simp; try with_reducible rfl); (try simp only [Act.put, List.setIfInBounds_toArray, List.set_cons_zero, List.set_cons_succ])))
        refine wpReads_nil ?_
        refine ⟨?_, ?_⟩
        · go_wp2_with fail
          refine (gports_in w _ _ (w.heap.size + 3) (w.heap.size + 2) ⟨g.name, .slice a1 g.actors.length c1, .slice a2 g.edges.length c2, .slice a3 g.ins.length c3, .slice a4 g.outs.length c4, vI, vO⟩ (chk2 g) _ g.ins 3 2 RI.out (HF6.out.kept.drewN 1) hlp HSI.out (HC6.out.drewN 1)).mono ?_
          rintro e w7 ⟨⟨xa, xb, xc, rfl⟩, o7, T, hC7⟩
          have T7 := ((Turn.refl _ ChkP _).drewN 1).trans T (fun _ h => h)
          have HF7 := Lib.hid (HF6.out.turn (T7.mono chkP_C))
          have HC7 := Lib.hid hC7
          have s3 := HF7.out.gr.cell 3 _ rfl
          have s6 := (HC6.out.kept67 T7 (by unfold ChkP; omega)).1
          clear T T7 hC7 HF6 HC6 y3 y6
          go_wp2
          refine ⟨⟨s3, s6⟩, ?_⟩
          repeat (first
            | (refine wpReads_skip (by rfl) ?_; (try simp only [Act.put, List.setIfInBounds_toArray, List.set_cons_zero, List.set_cons_succ]))
            | (refine wpReads_cons ?_ (by rfl) (by rfl) ?_ ?_; rotate_left; (intro wz hz; (try dsimp only at hz); go_simp; try with_reducible rfl); (try simp only [Act.put, List.setIfInBounds_toArray, List.set_cons_zero, List.set_cons_succ]))
            | (refine wpReads_any ?_ (by rfl) ?_ ?_; rotate_left; (intro wz; go_simp; try with_reducible rfl); (try simp only [Act.put, List.setIfInBounds_toArray, List.set_cons_zero, List.set_cons_succ])))
          refine wpReads_nil ?_
          refine wpAnyT_list (ks := [11, 12, 13]) (fun _ _ hx h => ⟨hx.cell h.1, hx.cell h.2⟩) (by kernel_rfl) ?_
          simp only [pickOps, List.flatMap_cons, List.flatMap_nil, List.drop_succ_cons, List.drop_zero, List.take_succ_cons, List.take_zero, List.cons_append, List.nil_append, List.append_nil]
          have HF8 := Lib.hid (HF7.out.below 8 (below_alloc _ (.cells #[.int .u8 xa, .int .i64 xb, .int .i64 xc] 140)))
          have hL := heap_alloc_new w7 (.cells #[.int .u8 xa, .int .i64 xb, .int .i64 xc] 140)
          have l0 := cells_row _ _ hL 0 _ rfl
          have l1 := cells_row _ _ hL 1 _ rfl
          have l2 := cells_row _ _ hL 2 _ rfl
          clear hL HF7 s3 s6
          obtain ⟨ne, hne⟩ : ∃ x, portsE (chk2 g).seen (chk2 g).ins g.ins = x := ⟨_, rfl⟩
          rw [hne] at HC7 ⊢
          have HEX := Lib.hid (HE.out.symm.trans (check_tail HNE.out HNA.out HND.out)).symm
          rw [hne] at HEX
          clear hne
          by_cases h0 : ne = 0
          · subst h0
            rw [if_neg (by simp)] at HEX
            have HC8 := Lib.hid ((HC7.out rfl).below 8 (below_alloc _ (.cells #[.int .u8 xa, .int .i64 xb, .int .i64 xc] 140)))
            clear HC7 l0 l1 l2
            go_wp2_with fail
            generalize w7.alloc (.cells #[.int .u8 xa, .int .i64 xb, .int .i64 xc] 140) = W8 at *
            generalize ext o7 w7.heap.size 8 = q8 at *
            have y4 := HF8.out.gr.cell 4 _ rfl
            have y7 := HC8.out.cells.2.2.2.2.2.2.2
            have hlq : (portsN (chk2 g).seen g.ins).length + g.outs.length ≤ 1000000 := by have := seen2 g; simp [portsN]; omega
            refine wp_region_mid2 (fun w' => w'.cell? ⟨w.heap.size, 4, none⟩ = some (.slice a4 g.outs.length c4) ∧ w'.cell? ⟨w.heap.size + 3, 7, none⟩ = some vO) [0, 1, 2, 3, 4, 5, 6] 7 11 [8, 9, 10] [7] 2 (by kernel_rfl) (by kernel_rfl) rfl ⟨y4, y7⟩ ?_
            intro Q' hQ'
            simp only [pickOps, List.flatMap_cons, List.flatMap_nil, List.drop_succ_cons, List.drop_zero, List.take_succ_cons, List.take_zero, List.cons_append, List.nil_append, List.append_nil]
            repeat (first
              | (refine wpReads_skip (by rfl) ?_; (try simp only [Act.put, List.setIfInBounds_toArray, List.set_cons_zero, List.set_cons_succ]))
              | (refine wpReads_cons ?_ (by rfl) (by rfl) ?_ ?_; rotate_left; (intro wz hz; (try dsimp only at hz); go_simp; try with_reducible rfl); (try simp only [Act.put, List.setIfInBounds_toArray, List.set_cons_zero, List.set_cons_succ]))
              | (refine wpReads_any ?_ (by rfl) ?_ ?_; rotate_left; (intro wz; go_simp; try with_reducible rfl); (try simp only [Act.put, List.setIfInBounds_toArray, List.set_cons_zero, List.set_cons_succ])))
            refine wpReads_nil ?_
            refine ⟨?_, ?_⟩
            · go_wp2_with fail
              refine (gports_out w _ _ (w.heap.size + 3) (w.heap.size + 2) ⟨g.name, .slice a1 g.actors.length c1, .slice a2 g.edges.length c2, .slice a3 g.ins.length c3, .slice a4 g.outs.length c4, vI, vO⟩ ⟨portsN (chk2 g).seen g.ins, portsS (chk2 g).ins g.ins, (chk2 g).outs⟩ _ g.outs 4 1 RO.out (HF8.out.kept.drewN 1) hlq HSO.out (HC8.out.drewN 1)).mono ?_
              rintro e w7 ⟨⟨xa, xb, xc, rfl⟩, o7, T, hC7⟩
              have T7 := ((Turn.refl _ ChkP _).drewN 1).trans T (fun _ h => h)
              have HF7 := Lib.hid (HF8.out.turn (T7.mono chkP_C))
              have HC7 := Lib.hid hC7
              have s3 := HF7.out.gr.cell 4 _ rfl
              have s6 := (HC8.out.kept67 T7 (by unfold ChkP; omega)).2
              clear T T7 hC7 HF8 HC8 y4 y7
              go_wp2
              refine ⟨⟨s3, s6⟩, ?_⟩
              repeat (first
                | (refine wpReads_skip (by rfl) ?_; (try simp only [Act.put, List.setIfInBounds_toArray, List.set_cons_zero, List.set_cons_succ]))
                | (refine wpReads_cons ?_ (by rfl) (by rfl) ?_ ?_; rotate_left; (intro wz hz; (try dsimp only at hz); go_simp; try with_reducible rfl); (try simp only [Act.put, List.setIfInBounds_toArray, List.set_cons_zero, List.set_cons_succ]))
                | (refine wpReads_any ?_ (by rfl) ?_ ?_; rotate_left; (intro wz; go_simp; try with_reducible rfl); (try simp only [Act.put, List.setIfInBounds_toArray, List.set_cons_zero, List.set_cons_succ])))
              refine wpReads_nil ?_
              refine wpAnyT_list (ks := [11, 12, 13]) (fun _ _ hx h => ⟨hx.cell h.1, hx.cell h.2⟩) (by kernel_rfl) ?_
              simp only [pickOps, List.flatMap_cons, List.flatMap_nil, List.drop_succ_cons, List.drop_zero, List.take_succ_cons, List.take_zero, List.cons_append, List.nil_append, List.append_nil]
              have HF8 := Lib.hid (HF7.out.below 8 (below_alloc _ (.cells #[.int .u8 xa, .int .i64 xb, .int .i64 xc] 140)))
              have hL := heap_alloc_new w7 (.cells #[.int .u8 xa, .int .i64 xb, .int .i64 xc] 140)
              have l0 := cells_row _ _ hL 0 _ rfl
              have l1 := cells_row _ _ hL 1 _ rfl
              have l2 := cells_row _ _ hL 2 _ rfl
              clear hL HF7 s3 s6
              obtain ⟨ne, hne⟩ : ∃ x, portsE (portsN (chk2 g).seen g.ins) (chk2 g).outs g.outs = x := ⟨_, rfl⟩
              rw [show portsE (Chk.seen ⟨portsN (chk2 g).seen g.ins, portsS (chk2 g).ins g.ins, (chk2 g).outs⟩) (Chk.outs ⟨portsN (chk2 g).seen g.ins, portsS (chk2 g).ins g.ins, (chk2 g).outs⟩) g.outs = ne from hne] at HC7 ⊢
              rw [hne] at HEX
              clear hne
              by_cases h0 : ne = 0
              · subst h0
                have HC8 := Lib.hid ((HC7.out rfl).below 8 (below_alloc _ (.cells #[.int .u8 xa, .int .i64 xb, .int .i64 xc] 140)))
                clear HC7 l0 l1 l2
                go_wp2_with fail
                generalize w7.alloc (.cells #[.int .u8 xa, .int .i64 xb, .int .i64 xc] 140) = W8 at *
                generalize ext o7 w7.heap.size 8 = q8 at *
                rw [if_neg (by simp)] at HEX
                have hRI := actorsE_rows g.actors chk0 HNA.out (rowsLe_nil 16) (rowsLe_nil 16)
                have hRE := edgesC_rows g.edges (m := 16) (chk1 g) hRI.1 hRI.2
                have hR1 : RowsLe (portsS (chk2 g).ins g.ins) 16 := portsS_rows _ _ hRE.1
                have hR2 : RowsLe (portsS (chk2 g).outs g.outs) 16 := portsS_rows _ _ hRE.2
                have hl1 : (portsS (chk2 g).ins g.ins).length = g.actors.length := by rw [portsS_len, chk2, (edgesC_len _ _).1, chk1, (actorsC_rows _ _).1]; simp [chk0]
                have hl2 : (portsS (chk2 g).outs g.outs).length = g.actors.length := by rw [portsS_len, chk2, (edgesC_len _ _).2.1, chk1, (actorsC_rows _ _).2]; simp [chk0]
                refine (gopen_any _ _ (w.heap.size + 3) (w.heap.size + 2) _ _ a1 g.actors.length c1 rfl hl1 hl2 (by omega) (fun r => ⟨Nat.le_trans (hR1 r) (by omega), Nat.le_trans (hR2 r) (by omega)⟩) HC8.out).mono ?_
                rintro e w11 ⟨⟨xa, xb, xc, rfl⟩, o11, T, _⟩
                have HF11 := Lib.hid (HF8.out.turn T)
                have HSPR := Lib.hid HF11.out.sp
                have e : E = openE (portsS (chk2 g).ins g.ins) (portsS (chk2 g).outs g.outs) := HEX.out.symm
                clear T hRI hRE hR1 hR2 hl1 hl2
                subst e
                have z0 := HSPR.out.cell 0 _ rfl
                have z1 := HSPR.out.cell 1 _ rfl
                have z2 := HSPR.out.cell 2 _ rfl
                have f0 := HSPR.out.frozen 0
                have f1 := HSPR.out.frozen 1
                have f2 := HSPR.out.frozen 2
                go_wp2
                refine bodyPost_ret_by (results_tmp_row rfl _ _ _ _ _ _ _ rfl (spot_set HSPR.out) Try.underlying140 rfl (by kernel_rfl)) rfl ?_
                exact ⟨⟨_, _, _, rfl⟩, HF11.out.ret _ _ _⟩
              · have e : E = ne := by rw [← HEX.out, if_pos h0]
                subst e
                go_wp2_with fail
                refine wp_region_lex (fun w' => w'.cell? ⟨w7.heap.size, 0, none⟩ = some (.int .u8 xa) ∧ w'.cell? ⟨w7.heap.size, 1, none⟩ = some (.int .i64 xb) ∧ w'.cell? ⟨w7.heap.size, 2, none⟩ = some (.int .i64 xc)) [0, 1, 2] [3] (by kernel_rfl) (by kernel_rfl) rfl (fun _ _ hx h => ⟨hx.cell h.1, hx.cell h.2.1, hx.cell h.2.2⟩) ⟨l0, l1, l2⟩ ?_
                intro Q' hQ'
                simp only [pickOps, List.flatMap_cons, List.flatMap_nil, List.drop_succ_cons, List.drop_zero, List.take_succ_cons, List.take_zero, List.cons_append, List.nil_append, List.append_nil]
                repeat (first
                  | (refine wpReads_skip (by rfl) ?_; (try simp only [Act.put, List.setIfInBounds_toArray, List.set_cons_zero, List.set_cons_succ]))
                  | (refine wpReads_cons ?_ (by rfl) (by rfl) ?_ ?_; rotate_left; (intro wz hz; (try dsimp only at hz); go_simp; try with_reducible rfl); (try simp only [Act.put, List.setIfInBounds_toArray, List.set_cons_zero, List.set_cons_succ]))
                  | (refine wpReads_any ?_ (by rfl) ?_ ?_; rotate_left; (intro wz; go_simp; try with_reducible rfl); (try simp only [Act.put, List.setIfInBounds_toArray, List.set_cons_zero, List.set_cons_succ])))
                refine wpReads_nil ?_
                have HSPR := Lib.hid HF8.out.sp
                have z0 := HSPR.out.cell 0 _ rfl
                have z1 := HSPR.out.cell 1 _ rfl
                have z2 := HSPR.out.cell 2 _ rfl
                have f0 := HSPR.out.frozen 0
                have f1 := HSPR.out.frozen 1
                have f2 := HSPR.out.frozen 2
                go_wp2
                refine bodyPost_ret_by (results_tmp_row rfl _ _ _ _ _ _ _ rfl (spot_setd HSPR.out) Try.underlying140 rfl (by kernel_rfl)) rfl ?_
                exact ⟨⟨_, _, _, rfl⟩, below_dr (n := 1) (HF8.out.ret _ _ _)⟩
            · go_wp2
              have hbL := below_alloc W8 (.cells #[.int .u8 0, .int .i64 0, .int .i64 0] 140)
              have HFb := Lib.hid (HF8.out.below 8 hbL)
              have HCb := Lib.hid (HC8.out.below 8 hbL)
              have HLb : Hid (Blk (W8.alloc (.cells #[.int .u8 0, .int .i64 0, .int .i64 0] 140)) (ext q8 W8.heap.size 8) 8 W8.heap.size 140 #[.int .u8 0, .int .i64 0, .int .i64 0]) := Lib.hid ⟨heap_alloc_new _ _, ext_new (Nat.le_refl _)⟩
              refine ⟨⟨ca y4, ca y7⟩, ?_⟩
              clear hbL HF8 HC8 y4 y7
              go_wp2_with fail
              refine (gports_out w _ _ (w.heap.size + 3) (w.heap.size + 2) ⟨g.name, .slice a1 g.actors.length c1, .slice a2 g.edges.length c2, .slice a3 g.ins.length c3, .slice a4 g.outs.length c4, vI, vO⟩ ⟨portsN (chk2 g).seen g.ins, portsS (chk2 g).ins g.ins, (chk2 g).outs⟩ _ g.outs 4 1 RO.out (HFb.out.kept.drewN 1) hlq HSO.out (HCb.out.drewN 1)).mono ?_
              rintro e w7 ⟨⟨xa, xb, xc, rfl⟩, o7, T, hC7⟩
              have T7 := ((Turn.refl _ ChkP _).drewN 1).trans T (fun _ h => h)
              have HF7 := Lib.hid (HFb.out.turn (T7.mono chkP_C))
              have HC7 := Lib.hid hC7
              have HL7 := Lib.hid (HLb.out.turn T7 (by unfold ChkP; omega))
              have s3 := HF7.out.gr.cell 4 _ rfl
              have s6 := (HCb.out.kept67 T7 (by unfold ChkP; omega)).2
              clear T T7 hC7 HFb HCb HLb
              go_wp2
              refine ⟨⟨s3, s6⟩, ?_⟩
              repeat (first
                | (refine wpReads_skip (by rfl) ?_; (try simp only [Act.put, List.setIfInBounds_toArray, List.set_cons_zero, List.set_cons_succ]))
                | (refine wpReads_cons ?_ (by rfl) (by rfl) ?_ ?_; rotate_left; (intro wz hz; (try dsimp only at hz); go_simp; try with_reducible rfl); (try simp only [Act.put, List.setIfInBounds_toArray, List.set_cons_zero, List.set_cons_succ]))
                | (refine wpReads_any ?_ (by rfl) ?_ ?_; rotate_left; (intro wz; go_simp; try with_reducible rfl); (try simp only [Act.put, List.setIfInBounds_toArray, List.set_cons_zero, List.set_cons_succ])))
              refine wpReads_nil ?_
              refine wpAnyT_list (ks := [12, 13]) (fun _ _ hx h => ⟨hx.cell h.1, hx.cell h.2⟩) (by kernel_rfl) ?_
              simp only [pickOps, List.flatMap_cons, List.flatMap_nil, List.drop_succ_cons, List.drop_zero, List.take_succ_cons, List.take_zero, List.cons_append, List.nil_append, List.append_nil]
              generalize W8.heap.size = L at *
              have TS := spot_turn HL7.out (.int .u8 xa) (.int .i64 xb) (.int .i64 xc)
              have HF8 := Lib.hid (HF7.out.turnC TS (by decide) (by decide))
              have hL := spot8_set (a := xa) (b := xb) (c := xc) HL7.out
              have l0 := cells_row _ _ hL 0 _ rfl
              have l1 := cells_row _ _ hL 1 _ rfl
              have l2 := cells_row _ _ hL 2 _ rfl
              have k0 := HL7.out.cell 0 _ rfl
              have k1 := HL7.out.cell 1 _ rfl
              have k2 := HL7.out.cell 2 _ rfl
              have kf0 := HL7.out.frozen 0
              have kf1 := HL7.out.frozen 1
              have kf2 := HL7.out.frozen 2
              have HTS := Lib.hid TS
              clear hL HF7 s3 s6 TS
              obtain ⟨ne, hne⟩ : ∃ x, portsE (portsN (chk2 g).seen g.ins) (chk2 g).outs g.outs = x := ⟨_, rfl⟩
              rw [show portsE (Chk.seen ⟨portsN (chk2 g).seen g.ins, portsS (chk2 g).ins g.ins, (chk2 g).outs⟩) (Chk.outs ⟨portsN (chk2 g).seen g.ins, portsS (chk2 g).ins g.ins, (chk2 g).outs⟩) g.outs = ne from hne] at HC7 ⊢
              rw [hne] at HEX
              clear hne
              by_cases h0 : ne = 0
              · subst h0
                have HC8 := Lib.hid ((HC7.out rfl).turn HTS.out (fun x hx e => by subst e; unfold ChkC at hx; omega))
                clear HC7 l0 l1 l2 HTS HL7
                go_wp2_with fail
                clear k0 k1 k2 kf0 kf1 kf2
                generalize ((w7.setCell ⟨L, 0, none⟩ (.int .u8 xa)).setCell ⟨L, 1, none⟩ (.int .i64 xb)).setCell ⟨L, 2, none⟩ (.int .i64 xc) = W8 at *
                generalize ext o7 w7.heap.size 8 = q8 at *
                rw [if_neg (by simp)] at HEX
                have hRI := actorsE_rows g.actors chk0 HNA.out (rowsLe_nil 16) (rowsLe_nil 16)
                have hRE := edgesC_rows g.edges (m := 16) (chk1 g) hRI.1 hRI.2
                have hR1 : RowsLe (portsS (chk2 g).ins g.ins) 16 := portsS_rows _ _ hRE.1
                have hR2 : RowsLe (portsS (chk2 g).outs g.outs) 16 := portsS_rows _ _ hRE.2
                have hl1 : (portsS (chk2 g).ins g.ins).length = g.actors.length := by rw [portsS_len, chk2, (edgesC_len _ _).1, chk1, (actorsC_rows _ _).1]; simp [chk0]
                have hl2 : (portsS (chk2 g).outs g.outs).length = g.actors.length := by rw [portsS_len, chk2, (edgesC_len _ _).2.1, chk1, (actorsC_rows _ _).2]; simp [chk0]
                refine (gopen_any _ _ (w.heap.size + 3) (w.heap.size + 2) _ _ a1 g.actors.length c1 rfl hl1 hl2 (by omega) (fun r => ⟨Nat.le_trans (hR1 r) (by omega), Nat.le_trans (hR2 r) (by omega)⟩) HC8.out).mono ?_
                rintro e w11 ⟨⟨xa, xb, xc, rfl⟩, o11, T, _⟩
                have HF11 := Lib.hid (HF8.out.turn T)
                have HSPR := Lib.hid HF11.out.sp
                have e : E = openE (portsS (chk2 g).ins g.ins) (portsS (chk2 g).outs g.outs) := HEX.out.symm
                clear T hRI hRE hR1 hR2 hl1 hl2
                subst e
                have z0 := HSPR.out.cell 0 _ rfl
                have z1 := HSPR.out.cell 1 _ rfl
                have z2 := HSPR.out.cell 2 _ rfl
                have f0 := HSPR.out.frozen 0
                have f1 := HSPR.out.frozen 1
                have f2 := HSPR.out.frozen 2
                go_wp2
                refine bodyPost_ret_by (results_tmp_row rfl _ _ _ _ _ _ _ rfl (spot_set HSPR.out) Try.underlying140 rfl (by kernel_rfl)) rfl ?_
                exact ⟨⟨_, _, _, rfl⟩, HF11.out.ret _ _ _⟩
              · have e : E = ne := by rw [← HEX.out, if_pos h0]
                subst e
                go_wp2_with fail
                refine wp_region_lex (fun w' => w'.cell? ⟨L, 0, none⟩ = some (.int .u8 xa) ∧ w'.cell? ⟨L, 1, none⟩ = some (.int .i64 xb) ∧ w'.cell? ⟨L, 2, none⟩ = some (.int .i64 xc)) [0, 1, 2] [3] (by kernel_rfl) (by kernel_rfl) rfl (fun _ _ hx h => ⟨hx.cell h.1, hx.cell h.2.1, hx.cell h.2.2⟩) ⟨l0, l1, l2⟩ ?_
                intro Q' hQ'
                simp only [pickOps, List.flatMap_cons, List.flatMap_nil, List.drop_succ_cons, List.drop_zero, List.take_succ_cons, List.take_zero, List.cons_append, List.nil_append, List.append_nil]
                repeat (first
                  | (refine wpReads_skip (by rfl) ?_; (try simp only [Act.put, List.setIfInBounds_toArray, List.set_cons_zero, List.set_cons_succ]))
                  | (refine wpReads_cons ?_ (by rfl) (by rfl) ?_ ?_; rotate_left; (intro wz hz; (try dsimp only at hz); go_simp; try with_reducible rfl); (try simp only [Act.put, List.setIfInBounds_toArray, List.set_cons_zero, List.set_cons_succ]))
                  | (refine wpReads_any ?_ (by rfl) ?_ ?_; rotate_left; (intro wz; go_simp; try with_reducible rfl); (try simp only [Act.put, List.setIfInBounds_toArray, List.set_cons_zero, List.set_cons_succ])))
                refine wpReads_nil ?_
                have HSPR := Lib.hid HF8.out.sp
                have z0 := HSPR.out.cell 0 _ rfl
                have z1 := HSPR.out.cell 1 _ rfl
                have z2 := HSPR.out.cell 2 _ rfl
                have f0 := HSPR.out.frozen 0
                have f1 := HSPR.out.frozen 1
                have f2 := HSPR.out.frozen 2
                go_wp2
                refine bodyPost_ret_by (results_tmp_row rfl _ _ _ _ _ _ _ rfl (spot_setd HSPR.out) Try.underlying140 rfl (by kernel_rfl)) rfl ?_
                exact ⟨⟨_, _, _, rfl⟩, below_dr (n := 1) (HF8.out.ret _ _ _)⟩
          · have e : E = ne := by rw [← HEX.out, if_pos h0]
            subst e
            go_wp2_with fail
            refine wp_region_lex (fun w' => w'.cell? ⟨w7.heap.size, 0, none⟩ = some (.int .u8 xa) ∧ w'.cell? ⟨w7.heap.size, 1, none⟩ = some (.int .i64 xb) ∧ w'.cell? ⟨w7.heap.size, 2, none⟩ = some (.int .i64 xc)) [0, 1, 2] [3] (by kernel_rfl) (by kernel_rfl) rfl (fun _ _ hx h => ⟨hx.cell h.1, hx.cell h.2.1, hx.cell h.2.2⟩) ⟨l0, l1, l2⟩ ?_
            intro Q' hQ'
            simp only [pickOps, List.flatMap_cons, List.flatMap_nil, List.drop_succ_cons, List.drop_zero, List.take_succ_cons, List.take_zero, List.cons_append, List.nil_append, List.append_nil]
            repeat (first
              | (refine wpReads_skip (by rfl) ?_; (try simp only [Act.put, List.setIfInBounds_toArray, List.set_cons_zero, List.set_cons_succ]))
              | (refine wpReads_cons ?_ (by rfl) (by rfl) ?_ ?_; rotate_left; (intro wz hz; (try dsimp only at hz); go_simp; try with_reducible rfl); (try simp only [Act.put, List.setIfInBounds_toArray, List.set_cons_zero, List.set_cons_succ]))
              | (refine wpReads_any ?_ (by rfl) ?_ ?_; rotate_left; (intro wz; go_simp; try with_reducible rfl); (try simp only [Act.put, List.setIfInBounds_toArray, List.set_cons_zero, List.set_cons_succ])))
            refine wpReads_nil ?_
            have HSPR := Lib.hid HF8.out.sp
            have z0 := HSPR.out.cell 0 _ rfl
            have z1 := HSPR.out.cell 1 _ rfl
            have z2 := HSPR.out.cell 2 _ rfl
            have f0 := HSPR.out.frozen 0
            have f1 := HSPR.out.frozen 1
            have f2 := HSPR.out.frozen 2
            go_wp2
            refine bodyPost_ret_by (results_tmp_row rfl _ _ _ _ _ _ _ rfl (spot_setd HSPR.out) Try.underlying140 rfl (by kernel_rfl)) rfl ?_
            exact ⟨⟨_, _, _, rfl⟩, below_dr (n := 1) (HF8.out.ret _ _ _)⟩
        · go_wp2
          have hbL := below_alloc V (.cells #[.int .u8 0, .int .i64 0, .int .i64 0] 140)
          have HFb := Lib.hid (HF6.out.below 8 hbL)
          have HCb := Lib.hid (HC6.out.below 8 hbL)
          have HLb : Hid (Blk (V.alloc (.cells #[.int .u8 0, .int .i64 0, .int .i64 0] 140)) (ext q6 V.heap.size 8) 8 V.heap.size 140 #[.int .u8 0, .int .i64 0, .int .i64 0]) := Lib.hid ⟨heap_alloc_new _ _, ext_new (Nat.le_refl _)⟩
          refine ⟨⟨ca y3, ca y6⟩, ?_⟩
          clear hbL HF6 HC6 y3 y6
          go_wp2_with fail
          refine (gports_in w _ _ (w.heap.size + 3) (w.heap.size + 2) ⟨g.name, .slice a1 g.actors.length c1, .slice a2 g.edges.length c2, .slice a3 g.ins.length c3, .slice a4 g.outs.length c4, vI, vO⟩ (chk2 g) _ g.ins 3 2 RI.out (HFb.out.kept.drewN 1) hlp HSI.out (HCb.out.drewN 1)).mono ?_
          rintro e w7 ⟨⟨xa, xb, xc, rfl⟩, o7, T, hC7⟩
          have T7 := ((Turn.refl _ ChkP _).drewN 1).trans T (fun _ h => h)
          have HF7 := Lib.hid (HFb.out.turn (T7.mono chkP_C))
          have HC7 := Lib.hid hC7
          have HL7 := Lib.hid (HLb.out.turn T7 (by unfold ChkP; omega))
          have s3 := HF7.out.gr.cell 3 _ rfl
          have s6 := (HCb.out.kept67 T7 (by unfold ChkP; omega)).1
          clear T T7 hC7 HFb HCb HLb
          go_wp2
          refine ⟨⟨s3, s6⟩, ?_⟩
          repeat (first
            | (refine wpReads_skip (by rfl) ?_; (try simp only [Act.put, List.setIfInBounds_toArray, List.set_cons_zero, List.set_cons_succ]))
            | (refine wpReads_cons ?_ (by rfl) (by rfl) ?_ ?_; rotate_left; (intro wz hz; (try dsimp only at hz); go_simp; try with_reducible rfl); (try simp only [Act.put, List.setIfInBounds_toArray, List.set_cons_zero, List.set_cons_succ]))
            | (refine wpReads_any ?_ (by rfl) ?_ ?_; rotate_left; (intro wz; go_simp; try with_reducible rfl); (try simp only [Act.put, List.setIfInBounds_toArray, List.set_cons_zero, List.set_cons_succ])))
          refine wpReads_nil ?_
          refine wpAnyT_list (ks := [12, 13]) (fun _ _ hx h => ⟨hx.cell h.1, hx.cell h.2⟩) (by kernel_rfl) ?_
          simp only [pickOps, List.flatMap_cons, List.flatMap_nil, List.drop_succ_cons, List.drop_zero, List.take_succ_cons, List.take_zero, List.cons_append, List.nil_append, List.append_nil]
          generalize V.heap.size = L at *
          have TS := spot_turn HL7.out (.int .u8 xa) (.int .i64 xb) (.int .i64 xc)
          have HF8 := Lib.hid (HF7.out.turnC TS (by decide) (by decide))
          have hL := spot8_set (a := xa) (b := xb) (c := xc) HL7.out
          have l0 := cells_row _ _ hL 0 _ rfl
          have l1 := cells_row _ _ hL 1 _ rfl
          have l2 := cells_row _ _ hL 2 _ rfl
          have k0 := HL7.out.cell 0 _ rfl
          have k1 := HL7.out.cell 1 _ rfl
          have k2 := HL7.out.cell 2 _ rfl
          have kf0 := HL7.out.frozen 0
          have kf1 := HL7.out.frozen 1
          have kf2 := HL7.out.frozen 2
          have HTS := Lib.hid TS
          clear hL HF7 s3 s6 TS
          obtain ⟨ne, hne⟩ : ∃ x, portsE (chk2 g).seen (chk2 g).ins g.ins = x := ⟨_, rfl⟩
          rw [hne] at HC7 ⊢
          have HEX := Lib.hid (HE.out.symm.trans (check_tail HNE.out HNA.out HND.out)).symm
          rw [hne] at HEX
          clear hne
          by_cases h0 : ne = 0
          · subst h0
            rw [if_neg (by simp)] at HEX
            have HC8 := Lib.hid ((HC7.out rfl).turn HTS.out (fun x hx e => by subst e; unfold ChkC at hx; omega))
            clear HC7 l0 l1 l2 HTS HL7
            go_wp2_with fail
            clear k0 k1 k2 kf0 kf1 kf2
            generalize ((w7.setCell ⟨L, 0, none⟩ (.int .u8 xa)).setCell ⟨L, 1, none⟩ (.int .i64 xb)).setCell ⟨L, 2, none⟩ (.int .i64 xc) = W8 at *
            generalize ext o7 w7.heap.size 8 = q8 at *
            have y4 := HF8.out.gr.cell 4 _ rfl
            have y7 := HC8.out.cells.2.2.2.2.2.2.2
            have hlq : (portsN (chk2 g).seen g.ins).length + g.outs.length ≤ 1000000 := by have := seen2 g; simp [portsN]; omega
            refine wp_region_mid2 (fun w' => w'.cell? ⟨w.heap.size, 4, none⟩ = some (.slice a4 g.outs.length c4) ∧ w'.cell? ⟨w.heap.size + 3, 7, none⟩ = some vO) [0, 1, 2, 3, 4, 5, 6] 7 11 [8, 9, 10] [7] 2 (by kernel_rfl) (by kernel_rfl) rfl ⟨y4, y7⟩ ?_
            intro Q' hQ'
            simp only [pickOps, List.flatMap_cons, List.flatMap_nil, List.drop_succ_cons, List.drop_zero, List.take_succ_cons, List.take_zero, List.cons_append, List.nil_append, List.append_nil]
            repeat (first
              | (refine wpReads_skip (by rfl) ?_; (try simp only [Act.put, List.setIfInBounds_toArray, List.set_cons_zero, List.set_cons_succ]))
              | (refine wpReads_cons ?_ (by rfl) (by rfl) ?_ ?_; rotate_left; (intro wz hz; (try dsimp only at hz); go_simp; try with_reducible rfl); (try simp only [Act.put, List.setIfInBounds_toArray, List.set_cons_zero, List.set_cons_succ]))
              | (refine wpReads_any ?_ (by rfl) ?_ ?_; rotate_left; (intro wz; go_simp; try with_reducible rfl); (try simp only [Act.put, List.setIfInBounds_toArray, List.set_cons_zero, List.set_cons_succ])))
            refine wpReads_nil ?_
            refine ⟨?_, ?_⟩
            · go_wp2_with fail
              refine (gports_out w _ _ (w.heap.size + 3) (w.heap.size + 2) ⟨g.name, .slice a1 g.actors.length c1, .slice a2 g.edges.length c2, .slice a3 g.ins.length c3, .slice a4 g.outs.length c4, vI, vO⟩ ⟨portsN (chk2 g).seen g.ins, portsS (chk2 g).ins g.ins, (chk2 g).outs⟩ _ g.outs 4 1 RO.out (HF8.out.kept.drewN 1) hlq HSO.out (HC8.out.drewN 1)).mono ?_
              rintro e w7 ⟨⟨xa, xb, xc, rfl⟩, o7, T, hC7⟩
              have T7 := ((Turn.refl _ ChkP _).drewN 1).trans T (fun _ h => h)
              have HF7 := Lib.hid (HF8.out.turn (T7.mono chkP_C))
              have HC7 := Lib.hid hC7
              have s3 := HF7.out.gr.cell 4 _ rfl
              have s6 := (HC8.out.kept67 T7 (by unfold ChkP; omega)).2
              clear T T7 hC7 HF8 HC8 y4 y7
              go_wp2
              refine ⟨⟨s3, s6⟩, ?_⟩
              repeat (first
                | (refine wpReads_skip (by rfl) ?_; (try simp only [Act.put, List.setIfInBounds_toArray, List.set_cons_zero, List.set_cons_succ]))
                | (refine wpReads_cons ?_ (by rfl) (by rfl) ?_ ?_; rotate_left; (intro wz hz; (try dsimp only at hz); go_simp; try with_reducible rfl); (try simp only [Act.put, List.setIfInBounds_toArray, List.set_cons_zero, List.set_cons_succ]))
                | (refine wpReads_any ?_ (by rfl) ?_ ?_; rotate_left; (intro wz; go_simp; try with_reducible rfl); (try simp only [Act.put, List.setIfInBounds_toArray, List.set_cons_zero, List.set_cons_succ])))
              refine wpReads_nil ?_
              refine wpAnyT_list (ks := [11, 12, 13]) (fun _ _ hx h => ⟨hx.cell h.1, hx.cell h.2⟩) (by kernel_rfl) ?_
              simp only [pickOps, List.flatMap_cons, List.flatMap_nil, List.drop_succ_cons, List.drop_zero, List.take_succ_cons, List.take_zero, List.cons_append, List.nil_append, List.append_nil]
              have HF8 := Lib.hid (HF7.out.below 8 (below_alloc _ (.cells #[.int .u8 xa, .int .i64 xb, .int .i64 xc] 140)))
              have hL := heap_alloc_new w7 (.cells #[.int .u8 xa, .int .i64 xb, .int .i64 xc] 140)
              have l0 := cells_row _ _ hL 0 _ rfl
              have l1 := cells_row _ _ hL 1 _ rfl
              have l2 := cells_row _ _ hL 2 _ rfl
              clear hL HF7 s3 s6
              obtain ⟨ne, hne⟩ : ∃ x, portsE (portsN (chk2 g).seen g.ins) (chk2 g).outs g.outs = x := ⟨_, rfl⟩
              rw [show portsE (Chk.seen ⟨portsN (chk2 g).seen g.ins, portsS (chk2 g).ins g.ins, (chk2 g).outs⟩) (Chk.outs ⟨portsN (chk2 g).seen g.ins, portsS (chk2 g).ins g.ins, (chk2 g).outs⟩) g.outs = ne from hne] at HC7 ⊢
              rw [hne] at HEX
              clear hne
              by_cases h0 : ne = 0
              · subst h0
                have HC8 := Lib.hid ((HC7.out rfl).below 8 (below_alloc _ (.cells #[.int .u8 xa, .int .i64 xb, .int .i64 xc] 140)))
                clear HC7 l0 l1 l2
                go_wp2_with fail
                generalize w7.alloc (.cells #[.int .u8 xa, .int .i64 xb, .int .i64 xc] 140) = W8 at *
                generalize ext o7 w7.heap.size 8 = q8 at *
                rw [if_neg (by simp)] at HEX
                have hRI := actorsE_rows g.actors chk0 HNA.out (rowsLe_nil 16) (rowsLe_nil 16)
                have hRE := edgesC_rows g.edges (m := 16) (chk1 g) hRI.1 hRI.2
                have hR1 : RowsLe (portsS (chk2 g).ins g.ins) 16 := portsS_rows _ _ hRE.1
                have hR2 : RowsLe (portsS (chk2 g).outs g.outs) 16 := portsS_rows _ _ hRE.2
                have hl1 : (portsS (chk2 g).ins g.ins).length = g.actors.length := by rw [portsS_len, chk2, (edgesC_len _ _).1, chk1, (actorsC_rows _ _).1]; simp [chk0]
                have hl2 : (portsS (chk2 g).outs g.outs).length = g.actors.length := by rw [portsS_len, chk2, (edgesC_len _ _).2.1, chk1, (actorsC_rows _ _).2]; simp [chk0]
                refine (gopen_any _ _ (w.heap.size + 3) (w.heap.size + 2) _ _ a1 g.actors.length c1 rfl hl1 hl2 (by omega) (fun r => ⟨Nat.le_trans (hR1 r) (by omega), Nat.le_trans (hR2 r) (by omega)⟩) HC8.out).mono ?_
                rintro e w11 ⟨⟨xa, xb, xc, rfl⟩, o11, T, _⟩
                have HF11 := Lib.hid (HF8.out.turn T)
                have HSPR := Lib.hid HF11.out.sp
                have e : E = openE (portsS (chk2 g).ins g.ins) (portsS (chk2 g).outs g.outs) := HEX.out.symm
                clear T hRI hRE hR1 hR2 hl1 hl2
                subst e
                have z0 := HSPR.out.cell 0 _ rfl
                have z1 := HSPR.out.cell 1 _ rfl
                have z2 := HSPR.out.cell 2 _ rfl
                have f0 := HSPR.out.frozen 0
                have f1 := HSPR.out.frozen 1
                have f2 := HSPR.out.frozen 2
                go_wp2
                refine bodyPost_ret_by (results_tmp_row rfl _ _ _ _ _ _ _ rfl (spot_set HSPR.out) Try.underlying140 rfl (by kernel_rfl)) rfl ?_
                exact ⟨⟨_, _, _, rfl⟩, HF11.out.ret _ _ _⟩
              · have e : E = ne := by rw [← HEX.out, if_pos h0]
                subst e
                go_wp2_with fail
                refine wp_region_lex (fun w' => w'.cell? ⟨w7.heap.size, 0, none⟩ = some (.int .u8 xa) ∧ w'.cell? ⟨w7.heap.size, 1, none⟩ = some (.int .i64 xb) ∧ w'.cell? ⟨w7.heap.size, 2, none⟩ = some (.int .i64 xc)) [0, 1, 2] [3] (by kernel_rfl) (by kernel_rfl) rfl (fun _ _ hx h => ⟨hx.cell h.1, hx.cell h.2.1, hx.cell h.2.2⟩) ⟨l0, l1, l2⟩ ?_
                intro Q' hQ'
                simp only [pickOps, List.flatMap_cons, List.flatMap_nil, List.drop_succ_cons, List.drop_zero, List.take_succ_cons, List.take_zero, List.cons_append, List.nil_append, List.append_nil]
                repeat (first
                  | (refine wpReads_skip (by rfl) ?_; (try simp only [Act.put, List.setIfInBounds_toArray, List.set_cons_zero, List.set_cons_succ]))
                  | (refine wpReads_cons ?_ (by rfl) (by rfl) ?_ ?_; rotate_left; (intro wz hz; (try dsimp only at hz); go_simp; try with_reducible rfl); (try simp only [Act.put, List.setIfInBounds_toArray, List.set_cons_zero, List.set_cons_succ]))
                  | (refine wpReads_any ?_ (by rfl) ?_ ?_; rotate_left; (intro wz; go_simp; try with_reducible rfl); (try simp only [Act.put, List.setIfInBounds_toArray, List.set_cons_zero, List.set_cons_succ])))
                refine wpReads_nil ?_
                have HSPR := Lib.hid HF8.out.sp
                have z0 := HSPR.out.cell 0 _ rfl
                have z1 := HSPR.out.cell 1 _ rfl
                have z2 := HSPR.out.cell 2 _ rfl
                have f0 := HSPR.out.frozen 0
                have f1 := HSPR.out.frozen 1
                have f2 := HSPR.out.frozen 2
                go_wp2
                refine bodyPost_ret_by (results_tmp_row rfl _ _ _ _ _ _ _ rfl (spot_setd HSPR.out) Try.underlying140 rfl (by kernel_rfl)) rfl ?_
                exact ⟨⟨_, _, _, rfl⟩, below_dr (n := 1) (HF8.out.ret _ _ _)⟩
            · go_wp2
              have hbL := below_alloc W8 (.cells #[.int .u8 0, .int .i64 0, .int .i64 0] 140)
              have HFb := Lib.hid (HF8.out.below 8 hbL)
              have HCb := Lib.hid (HC8.out.below 8 hbL)
              have HLb : Hid (Blk (W8.alloc (.cells #[.int .u8 0, .int .i64 0, .int .i64 0] 140)) (ext q8 W8.heap.size 8) 8 W8.heap.size 140 #[.int .u8 0, .int .i64 0, .int .i64 0]) := Lib.hid ⟨heap_alloc_new _ _, ext_new (Nat.le_refl _)⟩
              refine ⟨⟨ca y4, ca y7⟩, ?_⟩
              clear hbL HF8 HC8 y4 y7
              go_wp2_with fail
              refine (gports_out w _ _ (w.heap.size + 3) (w.heap.size + 2) ⟨g.name, .slice a1 g.actors.length c1, .slice a2 g.edges.length c2, .slice a3 g.ins.length c3, .slice a4 g.outs.length c4, vI, vO⟩ ⟨portsN (chk2 g).seen g.ins, portsS (chk2 g).ins g.ins, (chk2 g).outs⟩ _ g.outs 4 1 RO.out (HFb.out.kept.drewN 1) hlq HSO.out (HCb.out.drewN 1)).mono ?_
              rintro e w7 ⟨⟨xa, xb, xc, rfl⟩, o7, T, hC7⟩
              have T7 := ((Turn.refl _ ChkP _).drewN 1).trans T (fun _ h => h)
              have HF7 := Lib.hid (HFb.out.turn (T7.mono chkP_C))
              have HC7 := Lib.hid hC7
              have HL7 := Lib.hid (HLb.out.turn T7 (by unfold ChkP; omega))
              have s3 := HF7.out.gr.cell 4 _ rfl
              have s6 := (HCb.out.kept67 T7 (by unfold ChkP; omega)).2
              clear T T7 hC7 HFb HCb HLb
              go_wp2
              refine ⟨⟨s3, s6⟩, ?_⟩
              repeat (first
                | (refine wpReads_skip (by rfl) ?_; (try simp only [Act.put, List.setIfInBounds_toArray, List.set_cons_zero, List.set_cons_succ]))
                | (refine wpReads_cons ?_ (by rfl) (by rfl) ?_ ?_; rotate_left; (intro wz hz; (try dsimp only at hz); go_simp; try with_reducible rfl); (try simp only [Act.put, List.setIfInBounds_toArray, List.set_cons_zero, List.set_cons_succ]))
                | (refine wpReads_any ?_ (by rfl) ?_ ?_; rotate_left; (intro wz; go_simp; try with_reducible rfl); (try simp only [Act.put, List.setIfInBounds_toArray, List.set_cons_zero, List.set_cons_succ])))
              refine wpReads_nil ?_
              refine wpAnyT_list (ks := [12, 13]) (fun _ _ hx h => ⟨hx.cell h.1, hx.cell h.2⟩) (by kernel_rfl) ?_
              simp only [pickOps, List.flatMap_cons, List.flatMap_nil, List.drop_succ_cons, List.drop_zero, List.take_succ_cons, List.take_zero, List.cons_append, List.nil_append, List.append_nil]
              generalize W8.heap.size = L at *
              have TS := spot_turn HL7.out (.int .u8 xa) (.int .i64 xb) (.int .i64 xc)
              have HF8 := Lib.hid (HF7.out.turnC TS (by decide) (by decide))
              have hL := spot8_set (a := xa) (b := xb) (c := xc) HL7.out
              have l0 := cells_row _ _ hL 0 _ rfl
              have l1 := cells_row _ _ hL 1 _ rfl
              have l2 := cells_row _ _ hL 2 _ rfl
              have k0 := HL7.out.cell 0 _ rfl
              have k1 := HL7.out.cell 1 _ rfl
              have k2 := HL7.out.cell 2 _ rfl
              have kf0 := HL7.out.frozen 0
              have kf1 := HL7.out.frozen 1
              have kf2 := HL7.out.frozen 2
              have HTS := Lib.hid TS
              clear hL HF7 s3 s6 TS
              obtain ⟨ne, hne⟩ : ∃ x, portsE (portsN (chk2 g).seen g.ins) (chk2 g).outs g.outs = x := ⟨_, rfl⟩
              rw [show portsE (Chk.seen ⟨portsN (chk2 g).seen g.ins, portsS (chk2 g).ins g.ins, (chk2 g).outs⟩) (Chk.outs ⟨portsN (chk2 g).seen g.ins, portsS (chk2 g).ins g.ins, (chk2 g).outs⟩) g.outs = ne from hne] at HC7 ⊢
              rw [hne] at HEX
              clear hne
              by_cases h0 : ne = 0
              · subst h0
                have HC8 := Lib.hid ((HC7.out rfl).turn HTS.out (fun x hx e => by subst e; unfold ChkC at hx; omega))
                clear HC7 l0 l1 l2 HTS HL7
                go_wp2_with fail
                clear k0 k1 k2 kf0 kf1 kf2
                generalize ((w7.setCell ⟨L, 0, none⟩ (.int .u8 xa)).setCell ⟨L, 1, none⟩ (.int .i64 xb)).setCell ⟨L, 2, none⟩ (.int .i64 xc) = W8 at *
                generalize ext o7 w7.heap.size 8 = q8 at *
                rw [if_neg (by simp)] at HEX
                have hRI := actorsE_rows g.actors chk0 HNA.out (rowsLe_nil 16) (rowsLe_nil 16)
                have hRE := edgesC_rows g.edges (m := 16) (chk1 g) hRI.1 hRI.2
                have hR1 : RowsLe (portsS (chk2 g).ins g.ins) 16 := portsS_rows _ _ hRE.1
                have hR2 : RowsLe (portsS (chk2 g).outs g.outs) 16 := portsS_rows _ _ hRE.2
                have hl1 : (portsS (chk2 g).ins g.ins).length = g.actors.length := by rw [portsS_len, chk2, (edgesC_len _ _).1, chk1, (actorsC_rows _ _).1]; simp [chk0]
                have hl2 : (portsS (chk2 g).outs g.outs).length = g.actors.length := by rw [portsS_len, chk2, (edgesC_len _ _).2.1, chk1, (actorsC_rows _ _).2]; simp [chk0]
                refine (gopen_any _ _ (w.heap.size + 3) (w.heap.size + 2) _ _ a1 g.actors.length c1 rfl hl1 hl2 (by omega) (fun r => ⟨Nat.le_trans (hR1 r) (by omega), Nat.le_trans (hR2 r) (by omega)⟩) HC8.out).mono ?_
                rintro e w11 ⟨⟨xa, xb, xc, rfl⟩, o11, T, _⟩
                have HF11 := Lib.hid (HF8.out.turn T)
                have HSPR := Lib.hid HF11.out.sp
                have e : E = openE (portsS (chk2 g).ins g.ins) (portsS (chk2 g).outs g.outs) := HEX.out.symm
                clear T hRI hRE hR1 hR2 hl1 hl2
                subst e
                have z0 := HSPR.out.cell 0 _ rfl
                have z1 := HSPR.out.cell 1 _ rfl
                have z2 := HSPR.out.cell 2 _ rfl
                have f0 := HSPR.out.frozen 0
                have f1 := HSPR.out.frozen 1
                have f2 := HSPR.out.frozen 2
                go_wp2
                refine bodyPost_ret_by (results_tmp_row rfl _ _ _ _ _ _ _ rfl (spot_set HSPR.out) Try.underlying140 rfl (by kernel_rfl)) rfl ?_
                exact ⟨⟨_, _, _, rfl⟩, HF11.out.ret _ _ _⟩
              · have e : E = ne := by rw [← HEX.out, if_pos h0]
                subst e
                go_wp2_with fail
                refine wp_region_lex (fun w' => w'.cell? ⟨L, 0, none⟩ = some (.int .u8 xa) ∧ w'.cell? ⟨L, 1, none⟩ = some (.int .i64 xb) ∧ w'.cell? ⟨L, 2, none⟩ = some (.int .i64 xc)) [0, 1, 2] [3] (by kernel_rfl) (by kernel_rfl) rfl (fun _ _ hx h => ⟨hx.cell h.1, hx.cell h.2.1, hx.cell h.2.2⟩) ⟨l0, l1, l2⟩ ?_
                intro Q' hQ'
                simp only [pickOps, List.flatMap_cons, List.flatMap_nil, List.drop_succ_cons, List.drop_zero, List.take_succ_cons, List.take_zero, List.cons_append, List.nil_append, List.append_nil]
                repeat (first
                  | (refine wpReads_skip (by rfl) ?_; (try simp only [Act.put, List.setIfInBounds_toArray, List.set_cons_zero, List.set_cons_succ]))
                  | (refine wpReads_cons ?_ (by rfl) (by rfl) ?_ ?_; rotate_left; (intro wz hz; (try dsimp only at hz); go_simp; try with_reducible rfl); (try simp only [Act.put, List.setIfInBounds_toArray, List.set_cons_zero, List.set_cons_succ]))
                  | (refine wpReads_any ?_ (by rfl) ?_ ?_; rotate_left; (intro wz; go_simp; try with_reducible rfl); (try simp only [Act.put, List.setIfInBounds_toArray, List.set_cons_zero, List.set_cons_succ])))
                refine wpReads_nil ?_
                have HSPR := Lib.hid HF8.out.sp
                have z0 := HSPR.out.cell 0 _ rfl
                have z1 := HSPR.out.cell 1 _ rfl
                have z2 := HSPR.out.cell 2 _ rfl
                have f0 := HSPR.out.frozen 0
                have f1 := HSPR.out.frozen 1
                have f2 := HSPR.out.frozen 2
                go_wp2
                refine bodyPost_ret_by (results_tmp_row rfl _ _ _ _ _ _ _ rfl (spot_setd HSPR.out) Try.underlying140 rfl (by kernel_rfl)) rfl ?_
                exact ⟨⟨_, _, _, rfl⟩, below_dr (n := 1) (HF8.out.ret _ _ _)⟩
          · have e : E = ne := by rw [← HEX.out, if_pos h0]
            subst e
            go_wp2_with fail
            refine wp_region_lex (fun w' => w'.cell? ⟨L, 0, none⟩ = some (.int .u8 xa) ∧ w'.cell? ⟨L, 1, none⟩ = some (.int .i64 xb) ∧ w'.cell? ⟨L, 2, none⟩ = some (.int .i64 xc)) [0, 1, 2] [3] (by kernel_rfl) (by kernel_rfl) rfl (fun _ _ hx h => ⟨hx.cell h.1, hx.cell h.2.1, hx.cell h.2.2⟩) ⟨l0, l1, l2⟩ ?_
            intro Q' hQ'
            simp only [pickOps, List.flatMap_cons, List.flatMap_nil, List.drop_succ_cons, List.drop_zero, List.take_succ_cons, List.take_zero, List.cons_append, List.nil_append, List.append_nil]
            repeat (first
              | (refine wpReads_skip (by rfl) ?_; (try simp only [Act.put, List.setIfInBounds_toArray, List.set_cons_zero, List.set_cons_succ]))
              | (refine wpReads_cons ?_ (by rfl) (by rfl) ?_ ?_; rotate_left; (intro wz hz; (try dsimp only at hz); go_simp; try with_reducible rfl); (try simp only [Act.put, List.setIfInBounds_toArray, List.set_cons_zero, List.set_cons_succ]))
              | (refine wpReads_any ?_ (by rfl) ?_ ?_; rotate_left; (intro wz; go_simp; try with_reducible rfl); (try simp only [Act.put, List.setIfInBounds_toArray, List.set_cons_zero, List.set_cons_succ])))
            refine wpReads_nil ?_
            have HSPR := Lib.hid HF8.out.sp
            have z0 := HSPR.out.cell 0 _ rfl
            have z1 := HSPR.out.cell 1 _ rfl
            have z2 := HSPR.out.cell 2 _ rfl
            have f0 := HSPR.out.frozen 0
            have f1 := HSPR.out.frozen 1
            have f2 := HSPR.out.frozen 2
            go_wp2
            refine bodyPost_ret_by (results_tmp_row rfl _ _ _ _ _ _ _ rfl (spot_setd HSPR.out) Try.underlying140 rfl (by kernel_rfl)) rfl ?_
            exact ⟨⟨_, _, _, rfl⟩, below_dr (n := 1) (HF8.out.ret _ _ _)⟩
      · have e : E = ne := by rw [← HE.out, checkE, HNE.out, if_neg (by simp), HNA.out, if_neg (by simp), HND.out, if_pos h0]
        subst e
        go_wp2_with fail
        refine wp_region_lex (fun w' => w'.cell? ⟨w5.heap.size, 0, none⟩ = some (.int .u8 xa) ∧ w'.cell? ⟨w5.heap.size, 1, none⟩ = some (.int .i64 xb) ∧ w'.cell? ⟨w5.heap.size, 2, none⟩ = some (.int .i64 xc)) [0, 1, 2] [3] (by kernel_rfl) (by kernel_rfl) rfl (fun _ _ hx h => ⟨hx.cell h.1, hx.cell h.2.1, hx.cell h.2.2⟩) ⟨l0, l1, l2⟩ ?_
        intro Q' hQ'
        simp only [pickOps, List.flatMap_cons, List.flatMap_nil, List.drop_succ_cons, List.drop_zero, List.take_succ_cons, List.take_zero, List.cons_append, List.nil_append, List.append_nil]
        repeat (first
          | (refine wpReads_skip (by rfl) ?_; (try simp only [Act.put, List.setIfInBounds_toArray, List.set_cons_zero, List.set_cons_succ]))
          | (refine wpReads_cons ?_ (by rfl) (by rfl) ?_ ?_; rotate_left; (intro wz hz; (try dsimp only at hz); go_simp; try with_reducible rfl); (try simp only [Act.put, List.setIfInBounds_toArray, List.set_cons_zero, List.set_cons_succ]))
          | (refine wpReads_any ?_ (by rfl) ?_ ?_; rotate_left; (intro wz; go_simp; try with_reducible rfl); (try simp only [Act.put, List.setIfInBounds_toArray, List.set_cons_zero, List.set_cons_succ])))
        refine wpReads_nil ?_
        have HSPR := Lib.hid HF6.out.sp
        have z0 := HSPR.out.cell 0 _ rfl
        have z1 := HSPR.out.cell 1 _ rfl
        have z2 := HSPR.out.cell 2 _ rfl
        have f0 := HSPR.out.frozen 0
        have f1 := HSPR.out.frozen 1
        have f2 := HSPR.out.frozen 2
        go_wp2
        refine bodyPost_ret_by (results_tmp_row rfl _ _ _ _ _ _ _ rfl (spot_setd HSPR.out) Try.underlying140 rfl (by kernel_rfl)) rfl ?_
        exact ⟨⟨_, _, _, rfl⟩, below_dr (n := 1) (HF6.out.ret _ _ _)⟩
    · have e : E = ne := by rw [← HE.out, checkE, HNE.out, if_neg (by simp), HNA.out, if_pos h0]
      subst e
      go_wp2_with fail
      refine wp_region_lex (fun w' => w'.cell? ⟨w3.heap.size, 0, none⟩ = some (.int .u8 xa) ∧ w'.cell? ⟨w3.heap.size, 1, none⟩ = some (.int .i64 xb) ∧ w'.cell? ⟨w3.heap.size, 2, none⟩ = some (.int .i64 xc)) [0, 1, 2] [3] (by kernel_rfl) (by kernel_rfl) rfl (fun _ _ hx h => ⟨hx.cell h.1, hx.cell h.2.1, hx.cell h.2.2⟩) ⟨l0, l1, l2⟩ ?_
      intro Q' hQ'
      simp only [pickOps, List.flatMap_cons, List.flatMap_nil, List.drop_succ_cons, List.drop_zero, List.take_succ_cons, List.take_zero, List.cons_append, List.nil_append, List.append_nil]
      repeat (first
        | (refine wpReads_skip (by rfl) ?_; (try simp only [Act.put, List.setIfInBounds_toArray, List.set_cons_zero, List.set_cons_succ]))
        | (refine wpReads_cons ?_ (by rfl) (by rfl) ?_ ?_; rotate_left; (intro wz hz; (try dsimp only at hz); go_simp; try with_reducible rfl); (try simp only [Act.put, List.setIfInBounds_toArray, List.set_cons_zero, List.set_cons_succ]))
        | (refine wpReads_any ?_ (by rfl) ?_ ?_; rotate_left; (intro wz; go_simp; try with_reducible rfl); (try simp only [Act.put, List.setIfInBounds_toArray, List.set_cons_zero, List.set_cons_succ])))
      refine wpReads_nil ?_
      have HSPR := Lib.hid HF4.out.sp
      have z0 := HSPR.out.cell 0 _ rfl
      have z1 := HSPR.out.cell 1 _ rfl
      have z2 := HSPR.out.cell 2 _ rfl
      have f0 := HSPR.out.frozen 0
      have f1 := HSPR.out.frozen 1
      have f2 := HSPR.out.frozen 2
      go_wp2
      refine bodyPost_ret_by (results_tmp_row rfl _ _ _ _ _ _ _ rfl (spot_setd HSPR.out) Try.underlying140 rfl (by kernel_rfl)) rfl ?_
      exact ⟨⟨_, _, _, rfl⟩, below_dr (n := 1) (HF4.out.ret _ _ _)⟩
  · have e : E = ne := by rw [← HE.out, checkE, HNE.out, if_pos h0]
    subst e
    go_wp2_with fail
    refine wp_region_lex (fun w' => w'.cell? ⟨w1.heap.size, 0, none⟩ = some (.int .u8 xa) ∧ w'.cell? ⟨w1.heap.size, 1, none⟩ = some (.int .i64 xb) ∧ w'.cell? ⟨w1.heap.size, 2, none⟩ = some (.int .i64 xc)) [0, 1, 2] [3] (by kernel_rfl) (by kernel_rfl) rfl (fun _ _ hx h => ⟨hx.cell h.1, hx.cell h.2.1, hx.cell h.2.2⟩) ⟨l0, l1, l2⟩ ?_
    intro Q' hQ'
    simp only [pickOps, List.flatMap_cons, List.flatMap_nil, List.drop_succ_cons, List.drop_zero, List.take_succ_cons, List.take_zero, List.cons_append, List.nil_append, List.append_nil]
    repeat (first
      | (refine wpReads_skip (by rfl) ?_; (try simp only [Act.put, List.setIfInBounds_toArray, List.set_cons_zero, List.set_cons_succ]))
      | (refine wpReads_cons ?_ (by rfl) (by rfl) ?_ ?_; rotate_left; (intro wz hz; (try dsimp only at hz); go_simp; try with_reducible rfl); (try simp only [Act.put, List.setIfInBounds_toArray, List.set_cons_zero, List.set_cons_succ]))
      | (refine wpReads_any ?_ (by rfl) ?_ ?_; rotate_left; (intro wz; go_simp; try with_reducible rfl); (try simp only [Act.put, List.setIfInBounds_toArray, List.set_cons_zero, List.set_cons_succ])))
    refine wpReads_nil ?_
    have HSPR := Lib.hid HF2.out.sp
    have z0 := HSPR.out.cell 0 _ rfl
    have z1 := HSPR.out.cell 1 _ rfl
    have z2 := HSPR.out.cell 2 _ rfl
    have f0 := HSPR.out.frozen 0
    have f1 := HSPR.out.frozen 1
    have f2 := HSPR.out.frozen 2
    go_wp2
    refine bodyPost_ret_by (results_tmp_row rfl _ _ _ _ _ _ _ rfl (spot_setd HSPR.out) Try.underlying140 rfl (by kernel_rfl)) rfl ?_
    exact ⟨⟨_, _, _, rfl⟩, below_dr (n := 1) (HF2.out.ret _ _ _)⟩
end Go.Proofs.Ytbmbfifempkhgaa
