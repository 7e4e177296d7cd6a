/- The graph's find. -/
import Derived.Test.YtaholpfikcdhbaaDynNilZ6
import Derived.Test.YtaholpfikcdhbaaDynNilZ5
import Derived.Deep.CutBlock
import Derived.Deep.LoopGhost
namespace Go.Proofs.Ytaholpfikcdhbaa
open Go.RowKit


/-- what 'find' answers -/
def FindRet (w : World) (E : Int) (e : Ending) (w' : World) : Prop := SpotRet E e ∧ Below w.heap.size w w'

/-- what the walk knows of find's blocks -/
structure FindAt (w wr : World) (q : Col) (s : ByteArray) (va ve vi vo : Value) : Prop where
  kept : Kept w.heap.size q w wr
  gr : Blk wr q 7 w.heap.size 61 #[.string s, va, ve, vi, vo]
  sp : Blk wr q 7 (w.heap.size + 1) 94 #[.int .u8 0, .int .i64 0, .int .i64 0]
theorem FindAt.turn {w wr wr' : World} {q q' : Col} {s : ByteArray} {va ve vi vo : Value} (h : FindAt w wr q s va ve vi vo) (T : Turn q q' ChkC wr wr') : FindAt w wr' q' s va ve vi vo :=
  ⟨h.kept.turn T (by unfold ChkC; omega), h.gr.turn T (by unfold ChkC; omega), h.sp.turn T (by unfold ChkC; omega)⟩
theorem FindAt.below {w wr wr' : World} {q : Col} {s : ByteArray} {va ve vi vo : Value} (h : FindAt w wr q s va ve vi vo) (c : Nat) (hb : Below wr.heap.size wr wr') : FindAt w wr' (ext q wr.heap.size c) s va ve vi vo :=
  h.turn ((Turn.of_below q c hb).mono (fun _ h => h.elim))
theorem FindAt.ret {w wr : World} {q : Col} {s : ByteArray} {va ve vi vo : Value} (h : FindAt w wr q s va ve vi vo) (a b c : Value) : Below w.heap.size w (((wr.setCell ⟨w.heap.size + 1, 0, none⟩ a).setCell ⟨w.heap.size + 1, 1, none⟩ b).setCell ⟨w.heap.size + 1, 2, none⟩ c) :=
  ((h.kept.below.setCell (by simp) _).setCell (by simp) _).setCell (by simp) _

theorem spot_setd {w : World} {o : Col} {R : Nat} {a b c : Int} (h : Blk w o 7 R 94 #[.int .u8 0, .int .i64 0, .int .i64 0]) :
    (((w.setCell ⟨R, 0, none⟩ (.int .u8 a)).setCell ⟨R, 1, none⟩ (.int .i64 b)).setCell ⟨R, 2, none⟩ (.int .i64 c)).drew.heap[R]? = some (.cells #[.int .u8 a, .int .i64 b, .int .i64 c] 94 (0, 0)) := spot_set h
theorem chkP_C (x : Nat) (h : ChkP x) : ChkC x := by unfold ChkP at h; unfold ChkC; omega
theorem FindAt.turnC {w wr wr' : World} {q q' : Col} {Cs : Nat → Prop} {s : ByteArray} {va ve vi vo : Value} (h : FindAt w wr q s va ve vi vo) (T : Turn q q' Cs wr wr') (h0 : ¬ Cs 0) (h7 : ¬ Cs 7) : FindAt w wr' q' s va ve vi vo :=
  ⟨h.kept.turn T h0, h.gr.turn T h7, h.sp.turn T h7⟩
theorem ChkAt.kept67 {w w' : World} {o o' : Col} {Cs : Nat → Prop} {C B : Nat} {X : ChkV} {k : Chk} (h : ChkAt w o C B X k) (T : Turn o o' Cs w w') (h1 : ¬ Cs 1) : w'.cell? ⟨C, 6, none⟩ = some X.vI ∧ w'.cell? ⟨C, 7, none⟩ = some X.vO := by
  obtain ⟨D, n, gI, gO, b, _⟩ := h.st
  have b2 := b.turn T h1
  exact ⟨b2.cell 6 _ rfl, b2.cell 7 _ rfl⟩
/-- a local spot is written -/
theorem spot_turn {w : World} {o : Col} {L : Nat} {t : TypeId} {cs : Array Value} (h : Blk w o 8 L t cs) (a b c : Value) : Turn o (ext o w.heap.size 8) (fun x => x = 8) w (((w.setCell ⟨L, 0, none⟩ a).setCell ⟨L, 1, none⟩ b).setCell ⟨L, 2, none⟩ c) :=
  Turn.of_mods o 8 (spot_only w L a b c) (fun b _ e => by subst e; exact h.2)
theorem spot8_set {w : World} {o : Col} {R : Nat} {a b c : Int} (h : Blk w o 8 R 94 #[.int .u8 0, .int .i64 0, .int .i64 0]) :
    (((w.setCell ⟨R, 0, none⟩ (.int .u8 a)).setCell ⟨R, 1, none⟩ (.int .i64 b)).setCell ⟨R, 2, none⟩ (.int .i64 c)).heap[R]? = some (.cells #[.int .u8 a, .int .i64 b, .int .i64 c] 94 (0, 0)) :=
  block_setCell (block_setCell (block_setCell h.1 0 (.int .u8 a)) 1 (.int .i64 b)) 2 (.int .i64 c)

theorem check_tail {g : GGraph} (h1 : headE g = 0) (h2 : actorsE chk0 g.actors = 0) (h3 : edgesE (chk1 g) g.edges = 0) : checkE g = if portsE (chk2 g).seen (chk2 g).ins g.ins ≠ 0 then portsE (chk2 g).seen (chk2 g).ins g.ins
    else if portsE (portsN (chk2 g).seen g.ins) (chk2 g).outs g.outs ≠ 0 then portsE (portsN (chk2 g).seen g.ins) (chk2 g).outs g.outs else openE (portsS (chk2 g).ins g.ins) (portsS (chk2 g).outs g.outs) := by
  unfold checkE
  rw [h1, h2, h3]
  simp
theorem head_ok {g : GGraph} (h : headE g = 0) : g.actors.length ≤ 32 ∧ g.edges.length ≤ 96 ∧ g.ins.length ≤ 16 ∧ g.outs.length ≤ 16 := by
  unfold headE at h
  split at h
  · cases h
  split at h
  · cases h
  split at h
  · cases h
  split at h
  · cases h
  split at h
  · cases h
  split at h
  · cases h
  omega
theorem seen2 (g : GGraph) : (chk2 g).seen.length = g.actors.length := by
  rw [chk2, (edgesC_len _ _).2.2, chk1, actorsC_seen]; simp [chk0]
set_option maxRecDepth 100000 in
set_option maxHeartbeats 4000000 in
theorem gfind_any (w : World) (v : Value) (g : GGraph) (h : HasGraph w v g) (hs : g.name.size ≤ 4611686018427387904) (hsa : ∀ p ∈ g.actors, p.name.size ≤ 4611686018427387904 ∧ p.params.length ≤ 17600000000000) (hsi : ∀ p ∈ g.ins, p.name.size ≤ 4611686018427387904) (hso : ∀ p ∈ g.outs, p.name.size ≤ 4611686018427387904) :
    Calls Try.prog 31 #[v] w (FindRet w (checkE g)) := by
  obtain ⟨va, ve, vi, vo, rfl, ra, re, ri, ro⟩ := h.shape
  obtain ⟨a1, c1, rfl⟩ := ra.slice
  obtain ⟨a2, c2, rfl⟩ := re.slice
  obtain ⟨a3, c3, rfl⟩ := ri.slice
  obtain ⟨a4, c4, rfl⟩ := ro.slice
  obtain ⟨E, hE⟩ : ∃ E, checkE g = E := ⟨_, rfl⟩
  rw [hE]
  have HE := Lib.hid hE
  have RA := Lib.hid ra
  have RE := Lib.hid re
  have RI := Lib.hid ri
  have RO := Lib.hid ro
  have HS := Lib.hid hs
  have HSA := Lib.hid hsa
  have HSI := Lib.hid hsi
  have HSO := Lib.hid hso
  have hmm := @run_makeMap Try.prog
  obtain ⟨k0, kc, kg, ks⟩ := find_start w g.name (.slice a1 g.actors.length c1) (.slice a2 g.edges.length c2) (.slice a3 g.ins.length c3) (.slice a4 g.outs.length c4)
  have HF0 := Lib.hid (⟨k0, kg, ks⟩ : FindAt _ _ _ _ _ _ _ _)
  have HC0 := Lib.hid kc
  clear hE ra re ri ro hs hsa hsi hso k0 kc kg ks h
  go_enter Try.func31, Try.ntmps31
  go_wp2_with fail
  clear hmm
  unfold findW at HF0 HC0
  refine (ghead_any _ _ (w.heap.size + 3) (w.heap.size + 2) _ chk0 a1 a2 a3 a4 _ _ _ _ c1 c2 c3 c4 rfl rfl rfl rfl HS.out HC0.out).mono ?_
  rintro e w1 ⟨⟨xa, xb, xc, rfl⟩, o1, T, hC1⟩
  rw [show headL (ChkV.name ⟨g.name, .slice a1 g.actors.length c1, .slice a2 g.edges.length c2, .slice a3 g.ins.length c3, .slice a4 g.outs.length c4, .slice none 0 0, .slice none 0 0⟩) g.actors.length g.edges.length g.ins.length g.outs.length = headE g from rfl] at hC1 ⊢
  have HC1 := Lib.hid hC1
  have HF1 := Lib.hid (HF0.out.turn T)
  have HF2 := Lib.hid (HF1.out.below 7 (below_alloc _ (.cells #[.int .u8 xa, .int .i64 xb, .int .i64 xc] 94)))
  have hL := heap_alloc_new w1 (.cells #[.int .u8 xa, .int .i64 xb, .int .i64 xc] 94)
  have l0 := cells_row _ _ hL 0 _ rfl
  have l1 := cells_row _ _ hL 1 _ rfl
  have l2 := cells_row _ _ hL 2 _ rfl
  clear T hC1 hL HF0 HC0 HF1
  obtain ⟨ne, hne⟩ : ∃ x, headE g = x := ⟨_, rfl⟩
  rw [hne] at HC1 ⊢
  have HNE := Lib.hid hne
  clear hne
  by_cases h0 : ne = 0
  · subst h0
    have hok := head_ok HNE.out
    have HC2 := Lib.hid ((HC1.out rfl).below 7 (below_alloc _ (.cells #[.int .u8 xa, .int .i64 xb, .int .i64 xc] 94)))
    clear HC1 l0 l1 l2
    go_wp2_with fail
    refine (gactors_any w _ _ (w.heap.size + 3) (w.heap.size + 2) _ chk0 g.actors RA.out HF2.out.kept (by simp [chk0]; omega) (by simp [chk0]; omega) (by simp [chk0]; omega) HSA.out HC2.out).mono ?_
    rintro e w3 ⟨⟨xa, xb, xc, rfl⟩, o3, vI, vO, T, hC3⟩
    have HC3 := Lib.hid hC3
    have HF3 := Lib.hid (HF2.out.turn T)
    have HF4 := Lib.hid (HF3.out.below 7 (below_alloc _ (.cells #[.int .u8 xa, .int .i64 xb, .int .i64 xc] 94)))
    have hL := heap_alloc_new w3 (.cells #[.int .u8 xa, .int .i64 xb, .int .i64 xc] 94)
    have l0 := cells_row _ _ hL 0 _ rfl
    have l1 := cells_row _ _ hL 1 _ rfl
    have l2 := cells_row _ _ hL 2 _ rfl
    clear T hC3 hL HF2 HC2 HF3
    obtain ⟨ne, hne⟩ : ∃ x, actorsE chk0 g.actors = x := ⟨_, rfl⟩
    rw [hne] at HC3 ⊢
    have HNA := Lib.hid hne
    clear hne
    by_cases h0 : ne = 0
    · subst h0
      have HC4 : Hid (ChkAt _ _ (w.heap.size + 3) (w.heap.size + 2) _ (chk1 g)) := Lib.hid ((HC3.out rfl).below 7 (below_alloc _ (.cells #[.int .u8 xa, .int .i64 xb, .int .i64 xc] 94)))
      clear HC3 l0 l1 l2
      go_wp2_with fail
      refine (gedges_any w _ _ (w.heap.size + 3) (w.heap.size + 2) _ (chk1 g) g.edges RE.out HF4.out.kept (by omega) HC4.out).mono ?_
      rintro e w5 ⟨⟨xa, xb, xc, rfl⟩, o5, T, hC5⟩
      have HC5 := Lib.hid hC5
      have HF5 := Lib.hid (HF4.out.turn T)
      have HF6 := Lib.hid (HF5.out.below 7 (below_alloc _ (.cells #[.int .u8 xa, .int .i64 xb, .int .i64 xc] 94)))
      have hL := heap_alloc_new w5 (.cells #[.int .u8 xa, .int .i64 xb, .int .i64 xc] 94)
      have l0 := cells_row _ _ hL 0 _ rfl
      have l1 := cells_row _ _ hL 1 _ rfl
      have l2 := cells_row _ _ hL 2 _ rfl
      clear T hC5 hL HF4 HC4 HF5
      obtain ⟨ne, hne⟩ : ∃ x, edgesE (chk1 g) g.edges = x := ⟨_, rfl⟩
      rw [hne] at HC5 ⊢
      have HND := Lib.hid hne
      clear hne
      by_cases h0 : ne = 0
      · subst h0
        have HC6 : Hid (ChkAt _ _ (w.heap.size + 3) (w.heap.size + 2) ⟨g.name, .slice a1 g.actors.length c1, .slice a2 g.edges.length c2, .slice a3 g.ins.length c3, .slice a4 g.outs.length c4, vI, vO⟩ (chk2 g)) := Lib.hid ((HC5.out rfl).below 7 (below_alloc _ (.cells #[.int .u8 xa, .int .i64 xb, .int .i64 xc] 94)))
        have y3 := HF6.out.gr.cell 3 _ rfl
        have y6 := HC6.out.cells.2.2.2.2.2.2.1
        clear HC5 l0 l1 l2
        go_wp2_with fail
        generalize w5.alloc (.cells #[.int .u8 xa, .int .i64 xb, .int .i64 xc] 94) = V at *
        generalize ext o5 w5.heap.size 7 = q6 at *
        have hlp : (chk2 g).seen.length + g.ins.length ≤ 1000000 := by have := seen2 g; omega
        refine wp_region_mid2 (fun w' => w'.cell? ⟨w.heap.size, 3, none⟩ = some (.slice a3 g.ins.length c3) ∧ w'.cell? ⟨w.heap.size + 3, 6, none⟩ = some vI) [0, 1, 2, 3, 4, 5, 6] 7 11 [8, 9, 10] [7] 2 (by kernel_rfl) (by kernel_rfl) rfl ⟨y3, y6⟩ ?_
        intro Q' hQ'
        simp only [pickOps, List.flatMap_cons, List.flatMap_nil, List.drop_succ_cons, List.drop_zero, List.take_succ_cons, List.take_zero, List.cons_append, List.nil_append, List.append_nil]
        repeat (first
          | (refine wpReads_skip (by rfl) ?_; (try simp only [Act.put, List.setIfInBounds_toArray, List.set_cons_zero, List.set_cons_succ]))
          | (refine wpReads_cons ?_ (by rfl) (by rfl) ?_ ?_; rotate_left; (intro wz hz; (try dsimp only at hz); go_simp; try with_reducible rfl); (try simp only [Act.put, List.setIfInBounds_toArray, List.set_cons_zero, List.set_cons_succ]))
          | (refine wpReads_any ?_ (by rfl) ?_ ?_; rotate_left; (intro wz; go_simp; try with_reducible rfl); (try simp only [Act.put, List.setIfInBounds_toArray, List.set_cons_zero, List.set_cons_succ])))
        refine wpReads_nil ?_
        refine ⟨?_, ?_⟩
        · go_wp2_with fail
          refine (gports_in w _ _ (w.heap.size + 3) (w.heap.size + 2) ⟨g.name, .slice a1 g.actors.length c1, .slice a2 g.edges.length c2, .slice a3 g.ins.length c3, .slice a4 g.outs.length c4, vI, vO⟩ (chk2 g) _ g.ins 3 2 RI.out (HF6.out.kept.drewN 1) hlp HSI.out (HC6.out.drewN 1)).mono ?_
          rintro e w7 ⟨⟨xa, xb, xc, rfl⟩, o7, T, hC7⟩
          have T7 := ((Turn.refl _ ChkP _).drewN 1).trans T (fun _ h => h)
          have HF7 := Lib.hid (HF6.out.turn (T7.mono chkP_C))
          have HC7 := Lib.hid hC7
          have s3 := HF7.out.gr.cell 3 _ rfl
          have s6 := (HC6.out.kept67 T7 (by unfold ChkP; omega)).1
          clear T T7 hC7 HF6 HC6 y3 y6
          go_wp2
          refine ⟨⟨s3, s6⟩, ?_⟩
          repeat (first
            | (refine wpReads_skip (by rfl) ?_; (try simp only [Act.put, List.setIfInBounds_toArray, List.set_cons_zero, List.set_cons_succ]))
            | (refine wpReads_cons ?_ (by rfl) (by rfl) ?_ ?_; rotate_left; (intro wz hz; (try dsimp only at hz); go_simp; try with_reducible rfl); (try simp only [Act.put, List.setIfInBounds_toArray, List.set_cons_zero, List.set_cons_succ]))
            | (refine wpReads_any ?_ (by rfl) ?_ ?_; rotate_left; (intro wz; go_simp; try with_reducible rfl); (try simp only [Act.put, List.setIfInBounds_toArray, List.set_cons_zero, List.set_cons_succ])))
          refine wpReads_nil ?_
          refine wpAnyT_list (ks := [11, 12, 13]) (fun _ _ hx h => ⟨hx.cell h.1, hx.cell h.2⟩) (by kernel_rfl) ?_
          simp only [pickOps, List.flatMap_cons, List.flatMap_nil, List.drop_succ_cons, List.drop_zero, List.take_succ_cons, List.take_zero, List.cons_append, List.nil_append, List.append_nil]
          have HF8 := Lib.hid (HF7.out.below 8 (below_alloc _ (.cells #[.int .u8 xa, .int .i64 xb, .int .i64 xc] 94)))
          have hL := heap_alloc_new w7 (.cells #[.int .u8 xa, .int .i64 xb, .int .i64 xc] 94)
          have l0 := cells_row _ _ hL 0 _ rfl
          have l1 := cells_row _ _ hL 1 _ rfl
          have l2 := cells_row _ _ hL 2 _ rfl
          clear hL HF7 s3 s6
          obtain ⟨ne, hne⟩ : ∃ x, portsE (chk2 g).seen (chk2 g).ins g.ins = x := ⟨_, rfl⟩
          rw [hne] at HC7 ⊢
          have HEX := Lib.hid (HE.out.symm.trans (check_tail HNE.out HNA.out HND.out)).symm
          rw [hne] at HEX
          clear hne
          by_cases h0 : ne = 0
          · subst h0
            rw [if_neg (by simp)] at HEX
            have HC8 := Lib.hid ((HC7.out rfl).below 8 (below_alloc _ (.cells #[.int .u8 xa, .int .i64 xb, .int .i64 xc] 94)))
            clear HC7 l0 l1 l2
            go_wp2_with fail
            generalize w7.alloc (.cells #[.int .u8 xa, .int .i64 xb, .int .i64 xc] 94) = W8 at *
            generalize ext o7 w7.heap.size 8 = q8 at *
            have y4 := HF8.out.gr.cell 4 _ rfl
            have y7 := HC8.out.cells.2.2.2.2.2.2.2
            have hlq : (portsN (chk2 g).seen g.ins).length + g.outs.length ≤ 1000000 := by have := seen2 g; simp [portsN]; omega
            refine wp_region_mid2 (fun w' => w'.cell? ⟨w.heap.size, 4, none⟩ = some (.slice a4 g.outs.length c4) ∧ w'.cell? ⟨w.heap.size + 3, 7, none⟩ = some vO) [0, 1, 2, 3, 4, 5, 6] 7 11 [8, 9, 10] [7] 2 (by kernel_rfl) (by kernel_rfl) rfl ⟨y4, y7⟩ ?_
            intro Q' hQ'
            simp only [pickOps, List.flatMap_cons, List.flatMap_nil, List.drop_succ_cons, List.drop_zero, List.take_succ_cons, List.take_zero, List.cons_append, List.nil_append, List.append_nil]
            repeat (first
              | (refine wpReads_skip (by rfl) ?_; (try simp only [Act.put, List.setIfInBounds_toArray, List.set_cons_zero, List.set_cons_succ]))
              | (refine wpReads_cons ?_ (by rfl) (by rfl) ?_ ?_; rotate_left; (intro wz hz; (try dsimp only at hz); go_simp; try with_reducible rfl); (try simp only [Act.put, List.setIfInBounds_toArray, List.set_cons_zero, List.set_cons_succ]))
              | (refine wpReads_any ?_ (by rfl) ?_ ?_; rotate_left; (intro wz; go_simp; try with_reducible rfl); (try simp only [Act.put, List.setIfInBounds_toArray, List.set_cons_zero, List.set_cons_succ])))
            refine wpReads_nil ?_
            refine ⟨?_, ?_⟩
            · go_wp2_with fail
              refine (gports_out w _ _ (w.heap.size + 3) (w.heap.size + 2) ⟨g.name, .slice a1 g.actors.length c1, .slice a2 g.edges.length c2, .slice a3 g.ins.length c3, .slice a4 g.outs.length c4, vI, vO⟩ ⟨portsN (chk2 g).seen g.ins, portsS (chk2 g).ins g.ins, (chk2 g).outs⟩ _ g.outs 4 1 RO.out (HF8.out.kept.drewN 1) hlq HSO.out (HC8.out.drewN 1)).mono ?_
              rintro e w7 ⟨⟨xa, xb, xc, rfl⟩, o7, T, hC7⟩
              have T7 := ((Turn.refl _ ChkP _).drewN 1).trans T (fun _ h => h)
              have HF7 := Lib.hid (HF8.out.turn (T7.mono chkP_C))
              have HC7 := Lib.hid hC7
              have s3 := HF7.out.gr.cell 4 _ rfl
              have s6 := (HC8.out.kept67 T7 (by unfold ChkP; omega)).2
              clear T T7 hC7 HF8 HC8 y4 y7
              go_wp2
              refine ⟨⟨s3, s6⟩, ?_⟩
              repeat (first
                | (refine wpReads_skip (by rfl) ?_; (try simp only [Act.put, List.setIfInBounds_toArray, List.set_cons_zero, List.set_cons_succ]))
                | (refine wpReads_cons ?_ (by rfl) (by rfl) ?_ ?_; rotate_left; (intro wz hz; (try dsimp only at hz); go_simp; try with_reducible rfl); (try simp only [Act.put, List.setIfInBounds_toArray, List.set_cons_zero, List.set_cons_succ]))
                | (refine wpReads_any ?_ (by rfl) ?_ ?_; rotate_left; (intro wz; go_simp; try with_reducible rfl); (try simp only [Act.put, List.setIfInBounds_toArray, List.set_cons_zero, List.set_cons_succ])))
              refine wpReads_nil ?_
              refine wpAnyT_list (ks := [11, 12, 13]) (fun _ _ hx h => ⟨hx.cell h.1, hx.cell h.2⟩) (by kernel_rfl) ?_
              simp only [pickOps, List.flatMap_cons, List.flatMap_nil, List.drop_succ_cons, List.drop_zero, List.take_succ_cons, List.take_zero, List.cons_append, List.nil_append, List.append_nil]
              have HF8 := Lib.hid (HF7.out.below 8 (below_alloc _ (.cells #[.int .u8 xa, .int .i64 xb, .int .i64 xc] 94)))
              have hL := heap_alloc_new w7 (.cells #[.int .u8 xa, .int .i64 xb, .int .i64 xc] 94)
              have l0 := cells_row _ _ hL 0 _ rfl
              have l1 := cells_row _ _ hL 1 _ rfl
              have l2 := cells_row _ _ hL 2 _ rfl
              clear hL HF7 s3 s6
              obtain ⟨ne, hne⟩ : ∃ x, portsE (portsN (chk2 g).seen g.ins) (chk2 g).outs g.outs = x := ⟨_, rfl⟩
              rw [show portsE (Chk.seen ⟨portsN (chk2 g).seen g.ins, portsS (chk2 g).ins g.ins, (chk2 g).outs⟩) (Chk.outs ⟨portsN (chk2 g).seen g.ins, portsS (chk2 g).ins g.ins, (chk2 g).outs⟩) g.outs = ne from hne] at HC7 ⊢
              rw [hne] at HEX
              clear hne
              by_cases h0 : ne = 0
              · subst h0
                have HC8 := Lib.hid ((HC7.out rfl).below 8 (below_alloc _ (.cells #[.int .u8 xa, .int .i64 xb, .int .i64 xc] 94)))
                clear HC7 l0 l1 l2
                go_wp2_with fail
                generalize w7.alloc (.cells #[.int .u8 xa, .int .i64 xb, .int .i64 xc] 94) = W8 at *
                generalize ext o7 w7.heap.size 8 = q8 at *
                rw [if_neg (by simp)] at HEX
                have hRI := actorsE_rows g.actors chk0 HNA.out (rowsLe_nil 16) (rowsLe_nil 16)
                have hRE := edgesC_rows g.edges (m := 16) (chk1 g) hRI.1 hRI.2
                have hR1 : RowsLe (portsS (chk2 g).ins g.ins) 16 := portsS_rows _ _ hRE.1
                have hR2 : RowsLe (portsS (chk2 g).outs g.outs) 16 := portsS_rows _ _ hRE.2
                have hl1 : (portsS (chk2 g).ins g.ins).length = g.actors.length := by rw [portsS_len, chk2, (edgesC_len _ _).1, chk1, (actorsC_rows _ _).1]; simp [chk0]
                have hl2 : (portsS (chk2 g).outs g.outs).length = g.actors.length := by rw [portsS_len, chk2, (edgesC_len _ _).2.1, chk1, (actorsC_rows _ _).2]; simp [chk0]
                refine (gopen_any _ _ (w.heap.size + 3) (w.heap.size + 2) _ _ a1 g.actors.length c1 rfl hl1 hl2 (by omega) (fun r => ⟨Nat.le_trans (hR1 r) (by omega), Nat.le_trans (hR2 r) (by omega)⟩) HC8.out).mono ?_
                rintro e w11 ⟨⟨xa, xb, xc, rfl⟩, o11, T, _⟩
                have HF11 := Lib.hid (HF8.out.turn T)
                have HSPR := Lib.hid HF11.out.sp
                have e : E = openE (portsS (chk2 g).ins g.ins) (portsS (chk2 g).outs g.outs) := HEX.out.symm
                clear T hRI hRE hR1 hR2 hl1 hl2
                subst e
                have z0 := HSPR.out.cell 0 _ rfl
                have z1 := HSPR.out.cell 1 _ rfl
                have z2 := HSPR.out.cell 2 _ rfl
                have f0 := HSPR.out.frozen 0
                have f1 := HSPR.out.frozen 1
                have f2 := HSPR.out.frozen 2
                go_wp2
                refine bodyPost_ret_by (results_tmp_row rfl _ _ _ _ _ _ _ rfl (spot_set HSPR.out) Try.underlying94 rfl (by kernel_rfl)) rfl ?_
                exact ⟨⟨_, _, _, rfl⟩, HF11.out.ret _ _ _⟩
              · have e : E = ne := by rw [← HEX.out, if_pos h0]
                subst e
                go_wp2_with fail
                refine wp_region_lex (fun w' => w'.cell? ⟨w7.heap.size, 0, none⟩ = some (.int .u8 xa) ∧ w'.cell? ⟨w7.heap.size, 1, none⟩ = some (.int .i64 xb) ∧ w'.cell? ⟨w7.heap.size, 2, none⟩ = some (.int .i64 xc)) [0, 1, 2] [3] (by kernel_rfl) (by kernel_rfl) rfl (fun _ _ hx h => ⟨hx.cell h.1, hx.cell h.2.1, hx.cell h.2.2⟩) ⟨l0, l1, l2⟩ ?_
                intro Q' hQ'
                simp only [pickOps, List.flatMap_cons, List.flatMap_nil, List.drop_succ_cons, List.drop_zero, List.take_succ_cons, List.take_zero, List.cons_append, List.nil_append, List.append_nil]
                repeat (first
                  | (refine wpReads_skip (by rfl) ?_; (try simp only [Act.put, List.setIfInBounds_toArray, List.set_cons_zero, List.set_cons_succ]))
                  | (refine wpReads_cons ?_ (by rfl) (by rfl) ?_ ?_; rotate_left; (intro wz hz; (try dsimp only at hz); go_simp; try with_reducible rfl); (try simp only [Act.put, List.setIfInBounds_toArray, List.set_cons_zero, List.set_cons_succ]))
                  | (refine wpReads_any ?_ (by rfl) ?_ ?_; rotate_left; (intro wz; go_simp; try with_reducible rfl); (try simp only [Act.put, List.setIfInBounds_toArray, List.set_cons_zero, List.set_cons_succ])))
                refine wpReads_nil ?_
                have HSPR := Lib.hid HF8.out.sp
                have z0 := HSPR.out.cell 0 _ rfl
                have z1 := HSPR.out.cell 1 _ rfl
                have z2 := HSPR.out.cell 2 _ rfl
                have f0 := HSPR.out.frozen 0
                have f1 := HSPR.out.frozen 1
                have f2 := HSPR.out.frozen 2
                go_wp2
                refine bodyPost_ret_by (results_tmp_row rfl _ _ _ _ _ _ _ rfl (spot_setd HSPR.out) Try.underlying94 rfl (by kernel_rfl)) rfl ?_
                exact ⟨⟨_, _, _, rfl⟩, below_dr (n := 1) (HF8.out.ret _ _ _)⟩
            · go_wp2
              have hbL := below_alloc W8 (.cells #[.int .u8 0, .int .i64 0, .int .i64 0] 94)
              have HFb := Lib.hid (HF8.out.below 8 hbL)
              have HCb := Lib.hid (HC8.out.below 8 hbL)
              have HLb : Hid (Blk (W8.alloc (.cells #[.int .u8 0, .int .i64 0, .int .i64 0] 94)) (ext q8 W8.heap.size 8) 8 W8.heap.size 94 #[.int .u8 0, .int .i64 0, .int .i64 0]) := Lib.hid ⟨heap_alloc_new _ _, ext_new (Nat.le_refl _)⟩
              refine ⟨⟨ca y4, ca y7⟩, ?_⟩
              clear hbL HF8 HC8 y4 y7
              go_wp2_with fail
              refine (gports_out w _ _ (w.heap.size + 3) (w.heap.size + 2) ⟨g.name, .slice a1 g.actors.length c1, .slice a2 g.edges.length c2, .slice a3 g.ins.length c3, .slice a4 g.outs.length c4, vI, vO⟩ ⟨portsN (chk2 g).seen g.ins, portsS (chk2 g).ins g.ins, (chk2 g).outs⟩ _ g.outs 4 1 RO.out (HFb.out.kept.drewN 1) hlq HSO.out (HCb.out.drewN 1)).mono ?_
              rintro e w7 ⟨⟨xa, xb, xc, rfl⟩, o7, T, hC7⟩
              have T7 := ((Turn.refl _ ChkP _).drewN 1).trans T (fun _ h => h)
              have HF7 := Lib.hid (HFb.out.turn (T7.mono chkP_C))
              have HC7 := Lib.hid hC7
              have HL7 := Lib.hid (HLb.out.turn T7 (by unfold ChkP; omega))
              have s3 := HF7.out.gr.cell 4 _ rfl
              have s6 := (HCb.out.kept67 T7 (by unfold ChkP; omega)).2
              clear T T7 hC7 HFb HCb HLb
              go_wp2
              refine ⟨⟨s3, s6⟩, ?_⟩
              repeat (first
                | (refine wpReads_skip (by rfl) ?_; (try simp only [Act.put, List.setIfInBounds_toArray, List.set_cons_zero, List.set_cons_succ]))
                | (refine wpReads_cons ?_ (by rfl) (by rfl) ?_ ?_; rotate_left; (intro wz hz; (try dsimp only at hz); go_simp; try with_reducible rfl); (try simp only [Act.put, List.setIfInBounds_toArray, List.set_cons_zero, List.set_cons_succ]))
                | (refine wpReads_any ?_ (by rfl) ?_ ?_; rotate_left; (intro wz; go_simp; try with_reducible rfl); (try simp only [Act.put, List.setIfInBounds_toArray, List.set_cons_zero, List.set_cons_succ])))
              refine wpReads_nil ?_
              refine wpAnyT_list (ks := [12, 13]) (fun _ _ hx h => ⟨hx.cell h.1, hx.cell h.2⟩) (by kernel_rfl) ?_
              simp only [pickOps, List.flatMap_cons, List.flatMap_nil, List.drop_succ_cons, List.drop_zero, List.take_succ_cons, List.take_zero, List.cons_append, List.nil_append, List.append_nil]
              generalize W8.heap.size = L at *
              have TS := spot_turn HL7.out (.int .u8 xa) (.int .i64 xb) (.int .i64 xc)
              have HF8 := Lib.hid (HF7.out.turnC TS (by decide) (by decide))
              have hL := spot8_set (a := xa) (b := xb) (c := xc) HL7.out
              have l0 := cells_row _ _ hL 0 _ rfl
              have l1 := cells_row _ _ hL 1 _ rfl
              have l2 := cells_row _ _ hL 2 _ rfl
              have k0 := HL7.out.cell 0 _ rfl
              have k1 := HL7.out.cell 1 _ rfl
              have k2 := HL7.out.cell 2 _ rfl
              have kf0 := HL7.out.frozen 0
              have kf1 := HL7.out.frozen 1
              have kf2 := HL7.out.frozen 2
              have HTS := Lib.hid TS
              clear hL HF7 s3 s6 TS
              obtain ⟨ne, hne⟩ : ∃ x, portsE (portsN (chk2 g).seen g.ins) (chk2 g).outs g.outs = x := ⟨_, rfl⟩
              rw [show portsE (Chk.seen ⟨portsN (chk2 g).seen g.ins, portsS (chk2 g).ins g.ins, (chk2 g).outs⟩) (Chk.outs ⟨portsN (chk2 g).seen g.ins, portsS (chk2 g).ins g.ins, (chk2 g).outs⟩) g.outs = ne from hne] at HC7 ⊢
              rw [hne] at HEX
              clear hne
              by_cases h0 : ne = 0
              · subst h0
                have HC8 := Lib.hid ((HC7.out rfl).turn HTS.out (fun x hx e => by subst e; unfold ChkC at hx; omega))
                clear HC7 l0 l1 l2 HTS HL7
                go_wp2_with fail
                clear k0 k1 k2 kf0 kf1 kf2
                generalize ((w7.setCell ⟨L, 0, none⟩ (.int .u8 xa)).setCell ⟨L, 1, none⟩ (.int .i64 xb)).setCell ⟨L, 2, none⟩ (.int .i64 xc) = W8 at *
                generalize ext o7 w7.heap.size 8 = q8 at *
                rw [if_neg (by simp)] at HEX
                have hRI := actorsE_rows g.actors chk0 HNA.out (rowsLe_nil 16) (rowsLe_nil 16)
                have hRE := edgesC_rows g.edges (m := 16) (chk1 g) hRI.1 hRI.2
                have hR1 : RowsLe (portsS (chk2 g).ins g.ins) 16 := portsS_rows _ _ hRE.1
                have hR2 : RowsLe (portsS (chk2 g).outs g.outs) 16 := portsS_rows _ _ hRE.2
                have hl1 : (portsS (chk2 g).ins g.ins).length = g.actors.length := by rw [portsS_len, chk2, (edgesC_len _ _).1, chk1, (actorsC_rows _ _).1]; simp [chk0]
                have hl2 : (portsS (chk2 g).outs g.outs).length = g.actors.length := by rw [portsS_len, chk2, (edgesC_len _ _).2.1, chk1, (actorsC_rows _ _).2]; simp [chk0]
                refine (gopen_any _ _ (w.heap.size + 3) (w.heap.size + 2) _ _ a1 g.actors.length c1 rfl hl1 hl2 (by omega) (fun r => ⟨Nat.le_trans (hR1 r) (by omega), Nat.le_trans (hR2 r) (by omega)⟩) HC8.out).mono ?_
                rintro e w11 ⟨⟨xa, xb, xc, rfl⟩, o11, T, _⟩
                have HF11 := Lib.hid (HF8.out.turn T)
                have HSPR := Lib.hid HF11.out.sp
                have e : E = openE (portsS (chk2 g).ins g.ins) (portsS (chk2 g).outs g.outs) := HEX.out.symm
                clear T hRI hRE hR1 hR2 hl1 hl2
                subst e
                have z0 := HSPR.out.cell 0 _ rfl
                have z1 := HSPR.out.cell 1 _ rfl
                have z2 := HSPR.out.cell 2 _ rfl
                have f0 := HSPR.out.frozen 0
                have f1 := HSPR.out.frozen 1
                have f2 := HSPR.out.frozen 2
                go_wp2
                refine bodyPost_ret_by (results_tmp_row rfl _ _ _ _ _ _ _ rfl (spot_set HSPR.out) Try.underlying94 rfl (by kernel_rfl)) rfl ?_
                exact ⟨⟨_, _, _, rfl⟩, HF11.out.ret _ _ _⟩
              · have e : E = ne := by rw [← HEX.out, if_pos h0]
                subst e
                go_wp2_with fail
                refine wp_region_lex (fun w' => w'.cell? ⟨L, 0, none⟩ = some (.int .u8 xa) ∧ w'.cell? ⟨L, 1, none⟩ = some (.int .i64 xb) ∧ w'.cell? ⟨L, 2, none⟩ = some (.int .i64 xc)) [0, 1, 2] [3] (by kernel_rfl) (by kernel_rfl) rfl (fun _ _ hx h => ⟨hx.cell h.1, hx.cell h.2.1, hx.cell h.2.2⟩) ⟨l0, l1, l2⟩ ?_
                intro Q' hQ'
                simp only [pickOps, List.flatMap_cons, List.flatMap_nil, List.drop_succ_cons, List.drop_zero, List.take_succ_cons, List.take_zero, List.cons_append, List.nil_append, List.append_nil]
                repeat (first
                  | (refine wpReads_skip (by rfl) ?_; (try simp only [Act.put, List.setIfInBounds_toArray, List.set_cons_zero, List.set_cons_succ]))
                  | (refine wpReads_cons ?_ (by rfl) (by rfl) ?_ ?_; rotate_left; (intro wz hz; (try dsimp only at hz); go_simp; try with_reducible rfl); (try simp only [Act.put, List.setIfInBounds_toArray, List.set_cons_zero, List.set_cons_succ]))
                  | (refine wpReads_any ?_ (by rfl) ?_ ?_; rotate_left; (intro wz; go_simp; try with_reducible rfl); (try simp only [Act.put, List.setIfInBounds_toArray, List.set_cons_zero, List.set_cons_succ])))
                refine wpReads_nil ?_
                have HSPR := Lib.hid HF8.out.sp
                have z0 := HSPR.out.cell 0 _ rfl
                have z1 := HSPR.out.cell 1 _ rfl
                have z2 := HSPR.out.cell 2 _ rfl
                have f0 := HSPR.out.frozen 0
                have f1 := HSPR.out.frozen 1
                have f2 := HSPR.out.frozen 2
                go_wp2
                refine bodyPost_ret_by (results_tmp_row rfl _ _ _ _ _ _ _ rfl (spot_setd HSPR.out) Try.underlying94 rfl (by kernel_rfl)) rfl ?_
                exact ⟨⟨_, _, _, rfl⟩, below_dr (n := 1) (HF8.out.ret _ _ _)⟩
          · have e : E = ne := by rw [← HEX.out, if_pos h0]
            subst e
            go_wp2_with fail
            refine wp_region_lex (fun w' => w'.cell? ⟨w7.heap.size, 0, none⟩ = some (.int .u8 xa) ∧ w'.cell? ⟨w7.heap.size, 1, none⟩ = some (.int .i64 xb) ∧ w'.cell? ⟨w7.heap.size, 2, none⟩ = some (.int .i64 xc)) [0, 1, 2] [3] (by kernel_rfl) (by kernel_rfl) rfl (fun _ _ hx h => ⟨hx.cell h.1, hx.cell h.2.1, hx.cell h.2.2⟩) ⟨l0, l1, l2⟩ ?_
            intro Q' hQ'
            simp only [pickOps, List.flatMap_cons, List.flatMap_nil, List.drop_succ_cons, List.drop_zero, List.take_succ_cons, List.take_zero, List.cons_append, List.nil_append, List.append_nil]
            repeat (first
              | (refine wpReads_skip (by rfl) ?_; (try simp only [Act.put, List.setIfInBounds_toArray, List.set_cons_zero, List.set_cons_succ]))
              | (refine wpReads_cons ?_ (by rfl) (by rfl) ?_ ?_; rotate_left; (intro wz hz; (try dsimp only at hz); go_simp; try with_reducible rfl); (try simp only [Act.put, List.setIfInBounds_toArray, List.set_cons_zero, List.set_cons_succ]))
              | (refine wpReads_any ?_ (by rfl) ?_ ?_; rotate_left; (intro wz; go_simp; try with_reducible rfl); (try simp only [Act.put, List.setIfInBounds_toArray, List.set_cons_zero, List.set_cons_succ])))
            refine wpReads_nil ?_
            have HSPR := Lib.hid HF8.out.sp
            have z0 := HSPR.out.cell 0 _ rfl
            have z1 := HSPR.out.cell 1 _ rfl
            have z2 := HSPR.out.cell 2 _ rfl
            have f0 := HSPR.out.frozen 0
            have f1 := HSPR.out.frozen 1
            have f2 := HSPR.out.frozen 2
            go_wp2
            refine bodyPost_ret_by (results_tmp_row rfl _ _ _ _ _ _ _ rfl (spot_setd HSPR.out) Try.underlying94 rfl (by kernel_rfl)) rfl ?_
            exact ⟨⟨_, _, _, rfl⟩, below_dr (n := 1) (HF8.out.ret _ _ _)⟩
        · go_wp2
          have hbL := below_alloc V (.cells #[.int .u8 0, .int .i64 0, .int .i64 0] 94)
          have HFb := Lib.hid (HF6.out.below 8 hbL)
          have HCb := Lib.hid (HC6.out.below 8 hbL)
          have HLb : Hid (Blk (V.alloc (.cells #[.int .u8 0, .int .i64 0, .int .i64 0] 94)) (ext q6 V.heap.size 8) 8 V.heap.size 94 #[.int .u8 0, .int .i64 0, .int .i64 0]) := Lib.hid ⟨heap_alloc_new _ _, ext_new (Nat.le_refl _)⟩
          refine ⟨⟨ca y3, ca y6⟩, ?_⟩
          clear hbL HF6 HC6 y3 y6
          go_wp2_with fail
          refine (gports_in w _ _ (w.heap.size + 3) (w.heap.size + 2) ⟨g.name, .slice a1 g.actors.length c1, .slice a2 g.edges.length c2, .slice a3 g.ins.length c3, .slice a4 g.outs.length c4, vI, vO⟩ (chk2 g) _ g.ins 3 2 RI.out (HFb.out.kept.drewN 1) hlp HSI.out (HCb.out.drewN 1)).mono ?_
          rintro e w7 ⟨⟨xa, xb, xc, rfl⟩, o7, T, hC7⟩
          have T7 := ((Turn.refl _ ChkP _).drewN 1).trans T (fun _ h => h)
          have HF7 := Lib.hid (HFb.out.turn (T7.mono chkP_C))
          have HC7 := Lib.hid hC7
          have HL7 := Lib.hid (HLb.out.turn T7 (by unfold ChkP; omega))
          have s3 := HF7.out.gr.cell 3 _ rfl
          have s6 := (HCb.out.kept67 T7 (by unfold ChkP; omega)).1
          clear T T7 hC7 HFb HCb HLb
          go_wp2
          refine ⟨⟨s3, s6⟩, ?_⟩
          repeat (first
            | (refine wpReads_skip (by rfl) ?_; (try simp only [Act.put, List.setIfInBounds_toArray, List.set_cons_zero, List.set_cons_succ]))
            | (refine wpReads_cons ?_ (by rfl) (by rfl) ?_ ?_; rotate_left; (intro wz hz; (try dsimp only at hz); go_simp; try with_reducible rfl); (try simp only [Act.put, List.setIfInBounds_toArray, List.set_cons_zero, List.set_cons_succ]))
            | (refine wpReads_any ?_ (by rfl) ?_ ?_; rotate_left; (intro wz; go_simp; try with_reducible rfl); (try simp only [Act.put, List.setIfInBounds_toArray, List.set_cons_zero, List.set_cons_succ])))
          refine wpReads_nil ?_
          refine wpAnyT_list (ks := [12, 13]) (fun _ _ hx h => ⟨hx.cell h.1, hx.cell h.2⟩) (by kernel_rfl) ?_
          simp only [pickOps, List.flatMap_cons, List.flatMap_nil, List.drop_succ_cons, List.drop_zero, List.take_succ_cons, List.take_zero, List.cons_append, List.nil_append, List.append_nil]
          generalize V.heap.size = L at *
          have TS := spot_turn HL7.out (.int .u8 xa) (.int .i64 xb) (.int .i64 xc)
          have HF8 := Lib.hid (HF7.out.turnC TS (by decide) (by decide))
          have hL := spot8_set (a := xa) (b := xb) (c := xc) HL7.out
          have l0 := cells_row _ _ hL 0 _ rfl
          have l1 := cells_row _ _ hL 1 _ rfl
          have l2 := cells_row _ _ hL 2 _ rfl
          have k0 := HL7.out.cell 0 _ rfl
          have k1 := HL7.out.cell 1 _ rfl
          have k2 := HL7.out.cell 2 _ rfl
          have kf0 := HL7.out.frozen 0
          have kf1 := HL7.out.frozen 1
          have kf2 := HL7.out.frozen 2
          have HTS := Lib.hid TS
          clear hL HF7 s3 s6 TS
          obtain ⟨ne, hne⟩ : ∃ x, portsE (chk2 g).seen (chk2 g).ins g.ins = x := ⟨_, rfl⟩
          rw [hne] at HC7 ⊢
          have HEX := Lib.hid (HE.out.symm.trans (check_tail HNE.out HNA.out HND.out)).symm
          rw [hne] at HEX
          clear hne
          by_cases h0 : ne = 0
          · subst h0
            rw [if_neg (by simp)] at HEX
            have HC8 := Lib.hid ((HC7.out rfl).turn HTS.out (fun x hx e => by subst e; unfold ChkC at hx; omega))
            clear HC7 l0 l1 l2 HTS HL7
            go_wp2_with fail
            clear k0 k1 k2 kf0 kf1 kf2
            generalize ((w7.setCell ⟨L, 0, none⟩ (.int .u8 xa)).setCell ⟨L, 1, none⟩ (.int .i64 xb)).setCell ⟨L, 2, none⟩ (.int .i64 xc) = W8 at *
            generalize ext o7 w7.heap.size 8 = q8 at *
            have y4 := HF8.out.gr.cell 4 _ rfl
            have y7 := HC8.out.cells.2.2.2.2.2.2.2
            have hlq : (portsN (chk2 g).seen g.ins).length + g.outs.length ≤ 1000000 := by have := seen2 g; simp [portsN]; omega
            refine wp_region_mid2 (fun w' => w'.cell? ⟨w.heap.size, 4, none⟩ = some (.slice a4 g.outs.length c4) ∧ w'.cell? ⟨w.heap.size + 3, 7, none⟩ = some vO) [0, 1, 2, 3, 4, 5, 6] 7 11 [8, 9, 10] [7] 2 (by kernel_rfl) (by kernel_rfl) rfl ⟨y4, y7⟩ ?_
            intro Q' hQ'
            simp only [pickOps, List.flatMap_cons, List.flatMap_nil, List.drop_succ_cons, List.drop_zero, List.take_succ_cons, List.take_zero, List.cons_append, List.nil_append, List.append_nil]
            repeat (first
              | (refine wpReads_skip (by rfl) ?_; (try simp only [Act.put, List.setIfInBounds_toArray, List.set_cons_zero, List.set_cons_succ]))
              | (refine wpReads_cons ?_ (by rfl) (by rfl) ?_ ?_; rotate_left; (intro wz hz; (try dsimp only at hz); go_simp; try with_reducible rfl); (try simp only [Act.put, List.setIfInBounds_toArray, List.set_cons_zero, List.set_cons_succ]))
              | (refine wpReads_any ?_ (by rfl) ?_ ?_; rotate_left; (intro wz; go_simp; try with_reducible rfl); (try simp only [Act.put, List.setIfInBounds_toArray, List.set_cons_zero, List.set_cons_succ])))
            refine wpReads_nil ?_
            refine ⟨?_, ?_⟩
            · go_wp2_with fail
              refine (gports_out w _ _ (w.heap.size + 3) (w.heap.size + 2) ⟨g.name, .slice a1 g.actors.length c1, .slice a2 g.edges.length c2, .slice a3 g.ins.length c3, .slice a4 g.outs.length c4, vI, vO⟩ ⟨portsN (chk2 g).seen g.ins, portsS (chk2 g).ins g.ins, (chk2 g).outs⟩ _ g.outs 4 1 RO.out (HF8.out.kept.drewN 1) hlq HSO.out (HC8.out.drewN 1)).mono ?_
              rintro e w7 ⟨⟨xa, xb, xc, rfl⟩, o7, T, hC7⟩
              have T7 := ((Turn.refl _ ChkP _).drewN 1).trans T (fun _ h => h)
              have HF7 := Lib.hid (HF8.out.turn (T7.mono chkP_C))
              have HC7 := Lib.hid hC7
              have s3 := HF7.out.gr.cell 4 _ rfl
              have s6 := (HC8.out.kept67 T7 (by unfold ChkP; omega)).2
              clear T T7 hC7 HF8 HC8 y4 y7
              go_wp2
              refine ⟨⟨s3, s6⟩, ?_⟩
              repeat (first
                | (refine wpReads_skip (by rfl) ?_; (try simp only [Act.put, List.setIfInBounds_toArray, List.set_cons_zero, List.set_cons_succ]))
                | (refine wpReads_cons ?_ (by rfl) (by rfl) ?_ ?_; rotate_left; (intro wz hz; (try dsimp only at hz); go_simp; try with_reducible rfl); (try simp only [Act.put, List.setIfInBounds_toArray, List.set_cons_zero, List.set_cons_succ]))
                | (refine wpReads_any ?_ (by rfl) ?_ ?_; rotate_left; (intro wz; go_simp; try with_reducible rfl); (try simp only [Act.put, List.setIfInBounds_toArray, List.set_cons_zero, List.set_cons_succ])))
              refine wpReads_nil ?_
              refine wpAnyT_list (ks := [11, 12, 13]) (fun _ _ hx h => ⟨hx.cell h.1, hx.cell h.2⟩) (by kernel_rfl) ?_
              simp only [pickOps, List.flatMap_cons, List.flatMap_nil, List.drop_succ_cons, List.drop_zero, List.take_succ_cons, List.take_zero, List.cons_append, List.nil_append, List.append_nil]
              have HF8 := Lib.hid (HF7.out.below 8 (below_alloc _ (.cells #[.int .u8 xa, .int .i64 xb, .int .i64 xc] 94)))
              have hL := heap_alloc_new w7 (.cells #[.int .u8 xa, .int .i64 xb, .int .i64 xc] 94)
              have l0 := cells_row _ _ hL 0 _ rfl
              have l1 := cells_row _ _ hL 1 _ rfl
              have l2 := cells_row _ _ hL 2 _ rfl
              clear hL HF7 s3 s6
              obtain ⟨ne, hne⟩ : ∃ x, portsE (portsN (chk2 g).seen g.ins) (chk2 g).outs g.outs = x := ⟨_, rfl⟩
              rw [show portsE (Chk.seen ⟨portsN (chk2 g).seen g.ins, portsS (chk2 g).ins g.ins, (chk2 g).outs⟩) (Chk.outs ⟨portsN (chk2 g).seen g.ins, portsS (chk2 g).ins g.ins, (chk2 g).outs⟩) g.outs = ne from hne] at HC7 ⊢
              rw [hne] at HEX
              clear hne
              by_cases h0 : ne = 0
              · subst h0
                have HC8 := Lib.hid ((HC7.out rfl).below 8 (below_alloc _ (.cells #[.int .u8 xa, .int .i64 xb, .int .i64 xc] 94)))
                clear HC7 l0 l1 l2
                go_wp2_with fail
                generalize w7.alloc (.cells #[.int .u8 xa, .int .i64 xb, .int .i64 xc] 94) = W8 at *
                generalize ext o7 w7.heap.size 8 = q8 at *
                rw [if_neg (by simp)] at HEX
                have hRI := actorsE_rows g.actors chk0 HNA.out (rowsLe_nil 16) (rowsLe_nil 16)
                have hRE := edgesC_rows g.edges (m := 16) (chk1 g) hRI.1 hRI.2
                have hR1 : RowsLe (portsS (chk2 g).ins g.ins) 16 := portsS_rows _ _ hRE.1
                have hR2 : RowsLe (portsS (chk2 g).outs g.outs) 16 := portsS_rows _ _ hRE.2
                have hl1 : (portsS (chk2 g).ins g.ins).length = g.actors.length := by rw [portsS_len, chk2, (edgesC_len _ _).1, chk1, (actorsC_rows _ _).1]; simp [chk0]
                have hl2 : (portsS (chk2 g).outs g.outs).length = g.actors.length := by rw [portsS_len, chk2, (edgesC_len _ _).2.1, chk1, (actorsC_rows _ _).2]; simp [chk0]
                refine (gopen_any _ _ (w.heap.size + 3) (w.heap.size + 2) _ _ a1 g.actors.length c1 rfl hl1 hl2 (by omega) (fun r => ⟨Nat.le_trans (hR1 r) (by omega), Nat.le_trans (hR2 r) (by omega)⟩) HC8.out).mono ?_
                rintro e w11 ⟨⟨xa, xb, xc, rfl⟩, o11, T, _⟩
                have HF11 := Lib.hid (HF8.out.turn T)
                have HSPR := Lib.hid HF11.out.sp
                have e : E = openE (portsS (chk2 g).ins g.ins) (portsS (chk2 g).outs g.outs) := HEX.out.symm
                clear T hRI hRE hR1 hR2 hl1 hl2
                subst e
                have z0 := HSPR.out.cell 0 _ rfl
                have z1 := HSPR.out.cell 1 _ rfl
                have z2 := HSPR.out.cell 2 _ rfl
                have f0 := HSPR.out.frozen 0
                have f1 := HSPR.out.frozen 1
                have f2 := HSPR.out.frozen 2
                go_wp2
                refine bodyPost_ret_by (results_tmp_row rfl _ _ _ _ _ _ _ rfl (spot_set HSPR.out) Try.underlying94 rfl (by kernel_rfl)) rfl ?_
                exact ⟨⟨_, _, _, rfl⟩, HF11.out.ret _ _ _⟩
              · have e : E = ne := by rw [← HEX.out, if_pos h0]
                subst e
                go_wp2_with fail
                refine wp_region_lex (fun w' => w'.cell? ⟨w7.heap.size, 0, none⟩ = some (.int .u8 xa) ∧ w'.cell? ⟨w7.heap.size, 1, none⟩ = some (.int .i64 xb) ∧ w'.cell? ⟨w7.heap.size, 2, none⟩ = some (.int .i64 xc)) [0, 1, 2] [3] (by kernel_rfl) (by kernel_rfl) rfl (fun _ _ hx h => ⟨hx.cell h.1, hx.cell h.2.1, hx.cell h.2.2⟩) ⟨l0, l1, l2⟩ ?_
                intro Q' hQ'
                simp only [pickOps, List.flatMap_cons, List.flatMap_nil, List.drop_succ_cons, List.drop_zero, List.take_succ_cons, List.take_zero, List.cons_append, List.nil_append, List.append_nil]
                repeat (first
                  | (refine wpReads_skip (by rfl) ?_; (try simp only [Act.put, List.setIfInBounds_toArray, List.set_cons_zero, List.set_cons_succ]))
                  | (refine wpReads_cons ?_ (by rfl) (by rfl) ?_ ?_; rotate_left; (intro wz hz; (try dsimp only at hz); go_simp; try with_reducible rfl); (try simp only [Act.put, List.setIfInBounds_toArray, List.set_cons_zero, List.set_cons_succ]))
                  | (refine wpReads_any ?_ (by rfl) ?_ ?_; rotate_left; (intro wz; go_simp; try with_reducible rfl); (try simp only [Act.put, List.setIfInBounds_toArray, List.set_cons_zero, List.set_cons_succ])))
                refine wpReads_nil ?_
                have HSPR := Lib.hid HF8.out.sp
                have z0 := HSPR.out.cell 0 _ rfl
                have z1 := HSPR.out.cell 1 _ rfl
                have z2 := HSPR.out.cell 2 _ rfl
                have f0 := HSPR.out.frozen 0
                have f1 := HSPR.out.frozen 1
                have f2 := HSPR.out.frozen 2
                go_wp2
                refine bodyPost_ret_by (results_tmp_row rfl _ _ _ _ _ _ _ rfl (spot_setd HSPR.out) Try.underlying94 rfl (by kernel_rfl)) rfl ?_
                exact ⟨⟨_, _, _, rfl⟩, below_dr (n := 1) (HF8.out.ret _ _ _)⟩
            · go_wp2
              have hbL := below_alloc W8 (.cells #[.int .u8 0, .int .i64 0, .int .i64 0] 94)
              have HFb := Lib.hid (HF8.out.below 8 hbL)
              have HCb := Lib.hid (HC8.out.below 8 hbL)
              have HLb : Hid (Blk (W8.alloc (.cells #[.int .u8 0, .int .i64 0, .int .i64 0] 94)) (ext q8 W8.heap.size 8) 8 W8.heap.size 94 #[.int .u8 0, .int .i64 0, .int .i64 0]) := Lib.hid ⟨heap_alloc_new _ _, ext_new (Nat.le_refl _)⟩
              refine ⟨⟨ca y4, ca y7⟩, ?_⟩
              clear hbL HF8 HC8 y4 y7
              go_wp2_with fail
              refine (gports_out w _ _ (w.heap.size + 3) (w.heap.size + 2) ⟨g.name, .slice a1 g.actors.length c1, .slice a2 g.edges.length c2, .slice a3 g.ins.length c3, .slice a4 g.outs.length c4, vI, vO⟩ ⟨portsN (chk2 g).seen g.ins, portsS (chk2 g).ins g.ins, (chk2 g).outs⟩ _ g.outs 4 1 RO.out (HFb.out.kept.drewN 1) hlq HSO.out (HCb.out.drewN 1)).mono ?_
              rintro e w7 ⟨⟨xa, xb, xc, rfl⟩, o7, T, hC7⟩
              have T7 := ((Turn.refl _ ChkP _).drewN 1).trans T (fun _ h => h)
              have HF7 := Lib.hid (HFb.out.turn (T7.mono chkP_C))
              have HC7 := Lib.hid hC7
              have HL7 := Lib.hid (HLb.out.turn T7 (by unfold ChkP; omega))
              have s3 := HF7.out.gr.cell 4 _ rfl
              have s6 := (HCb.out.kept67 T7 (by unfold ChkP; omega)).2
              clear T T7 hC7 HFb HCb HLb
              go_wp2
              refine ⟨⟨s3, s6⟩, ?_⟩
              repeat (first
                | (refine wpReads_skip (by rfl) ?_; (try simp only [Act.put, List.setIfInBounds_toArray, List.set_cons_zero, List.set_cons_succ]))
                | (refine wpReads_cons ?_ (by rfl) (by rfl) ?_ ?_; rotate_left; (intro wz hz; (try dsimp only at hz); go_simp; try with_reducible rfl); (try simp only [Act.put, List.setIfInBounds_toArray, List.set_cons_zero, List.set_cons_succ]))
                | (refine wpReads_any ?_ (by rfl) ?_ ?_; rotate_left; (intro wz; go_simp; try with_reducible rfl); (try simp only [Act.put, List.setIfInBounds_toArray, List.set_cons_zero, List.set_cons_succ])))
              refine wpReads_nil ?_
              refine wpAnyT_list (ks := [12, 13]) (fun _ _ hx h => ⟨hx.cell h.1, hx.cell h.2⟩) (by kernel_rfl) ?_
              simp only [pickOps, List.flatMap_cons, List.flatMap_nil, List.drop_succ_cons, List.drop_zero, List.take_succ_cons, List.take_zero, List.cons_append, List.nil_append, List.append_nil]
              generalize W8.heap.size = L at *
              have TS := spot_turn HL7.out (.int .u8 xa) (.int .i64 xb) (.int .i64 xc)
              have HF8 := Lib.hid (HF7.out.turnC TS (by decide) (by decide))
              have hL := spot8_set (a := xa) (b := xb) (c := xc) HL7.out
              have l0 := cells_row _ _ hL 0 _ rfl
              have l1 := cells_row _ _ hL 1 _ rfl
              have l2 := cells_row _ _ hL 2 _ rfl
              have k0 := HL7.out.cell 0 _ rfl
              have k1 := HL7.out.cell 1 _ rfl
              have k2 := HL7.out.cell 2 _ rfl
              have kf0 := HL7.out.frozen 0
              have kf1 := HL7.out.frozen 1
              have kf2 := HL7.out.frozen 2
              have HTS := Lib.hid TS
              clear hL HF7 s3 s6 TS
              obtain ⟨ne, hne⟩ : ∃ x, portsE (portsN (chk2 g).seen g.ins) (chk2 g).outs g.outs = x := ⟨_, rfl⟩
              rw [show portsE (Chk.seen ⟨portsN (chk2 g).seen g.ins, portsS (chk2 g).ins g.ins, (chk2 g).outs⟩) (Chk.outs ⟨portsN (chk2 g).seen g.ins, portsS (chk2 g).ins g.ins, (chk2 g).outs⟩) g.outs = ne from hne] at HC7 ⊢
              rw [hne] at HEX
              clear hne
              by_cases h0 : ne = 0
              · subst h0
                have HC8 := Lib.hid ((HC7.out rfl).turn HTS.out (fun x hx e => by subst e; unfold ChkC at hx; omega))
                clear HC7 l0 l1 l2 HTS HL7
                go_wp2_with fail
                clear k0 k1 k2 kf0 kf1 kf2
                generalize ((w7.setCell ⟨L, 0, none⟩ (.int .u8 xa)).setCell ⟨L, 1, none⟩ (.int .i64 xb)).setCell ⟨L, 2, none⟩ (.int .i64 xc) = W8 at *
                generalize ext o7 w7.heap.size 8 = q8 at *
                rw [if_neg (by simp)] at HEX
                have hRI := actorsE_rows g.actors chk0 HNA.out (rowsLe_nil 16) (rowsLe_nil 16)
                have hRE := edgesC_rows g.edges (m := 16) (chk1 g) hRI.1 hRI.2
                have hR1 : RowsLe (portsS (chk2 g).ins g.ins) 16 := portsS_rows _ _ hRE.1
                have hR2 : RowsLe (portsS (chk2 g).outs g.outs) 16 := portsS_rows _ _ hRE.2
                have hl1 : (portsS (chk2 g).ins g.ins).length = g.actors.length := by rw [portsS_len, chk2, (edgesC_len _ _).1, chk1, (actorsC_rows _ _).1]; simp [chk0]
                have hl2 : (portsS (chk2 g).outs g.outs).length = g.actors.length := by rw [portsS_len, chk2, (edgesC_len _ _).2.1, chk1, (actorsC_rows _ _).2]; simp [chk0]
                refine (gopen_any _ _ (w.heap.size + 3) (w.heap.size + 2) _ _ a1 g.actors.length c1 rfl hl1 hl2 (by omega) (fun r => ⟨Nat.le_trans (hR1 r) (by omega), Nat.le_trans (hR2 r) (by omega)⟩) HC8.out).mono ?_
                rintro e w11 ⟨⟨xa, xb, xc, rfl⟩, o11, T, _⟩
                have HF11 := Lib.hid (HF8.out.turn T)
                have HSPR := Lib.hid HF11.out.sp
                have e : E = openE (portsS (chk2 g).ins g.ins) (portsS (chk2 g).outs g.outs) := HEX.out.symm
                clear T hRI hRE hR1 hR2 hl1 hl2
                subst e
                have z0 := HSPR.out.cell 0 _ rfl
                have z1 := HSPR.out.cell 1 _ rfl
                have z2 := HSPR.out.cell 2 _ rfl
                have f0 := HSPR.out.frozen 0
                have f1 := HSPR.out.frozen 1
                have f2 := HSPR.out.frozen 2
                go_wp2
                refine bodyPost_ret_by (results_tmp_row rfl _ _ _ _ _ _ _ rfl (spot_set HSPR.out) Try.underlying94 rfl (by kernel_rfl)) rfl ?_
                exact ⟨⟨_, _, _, rfl⟩, HF11.out.ret _ _ _⟩
              · have e : E = ne := by rw [← HEX.out, if_pos h0]
                subst e
                go_wp2_with fail
                refine wp_region_lex (fun w' => w'.cell? ⟨L, 0, none⟩ = some (.int .u8 xa) ∧ w'.cell? ⟨L, 1, none⟩ = some (.int .i64 xb) ∧ w'.cell? ⟨L, 2, none⟩ = some (.int .i64 xc)) [0, 1, 2] [3] (by kernel_rfl) (by kernel_rfl) rfl (fun _ _ hx h => ⟨hx.cell h.1, hx.cell h.2.1, hx.cell h.2.2⟩) ⟨l0, l1, l2⟩ ?_
                intro Q' hQ'
                simp only [pickOps, List.flatMap_cons, List.flatMap_nil, List.drop_succ_cons, List.drop_zero, List.take_succ_cons, List.take_zero, List.cons_append, List.nil_append, List.append_nil]
                repeat (first
                  | (refine wpReads_skip (by rfl) ?_; (try simp only [Act.put, List.setIfInBounds_toArray, List.set_cons_zero, List.set_cons_succ]))
                  | (refine wpReads_cons ?_ (by rfl) (by rfl) ?_ ?_; rotate_left; (intro wz hz; (try dsimp only at hz); go_simp; try with_reducible rfl); (try simp only [Act.put, List.setIfInBounds_toArray, List.set_cons_zero, List.set_cons_succ]))
                  | (refine wpReads_any ?_ (by rfl) ?_ ?_; rotate_left; (intro wz; go_simp; try with_reducible rfl); (try simp only [Act.put, List.setIfInBounds_toArray, List.set_cons_zero, List.set_cons_succ])))
                refine wpReads_nil ?_
                have HSPR := Lib.hid HF8.out.sp
                have z0 := HSPR.out.cell 0 _ rfl
                have z1 := HSPR.out.cell 1 _ rfl
                have z2 := HSPR.out.cell 2 _ rfl
                have f0 := HSPR.out.frozen 0
                have f1 := HSPR.out.frozen 1
                have f2 := HSPR.out.frozen 2
                go_wp2
                refine bodyPost_ret_by (results_tmp_row rfl _ _ _ _ _ _ _ rfl (spot_setd HSPR.out) Try.underlying94 rfl (by kernel_rfl)) rfl ?_
                exact ⟨⟨_, _, _, rfl⟩, below_dr (n := 1) (HF8.out.ret _ _ _)⟩
          · have e : E = ne := by rw [← HEX.out, if_pos h0]
            subst e
            go_wp2_with fail
            refine wp_region_lex (fun w' => w'.cell? ⟨L, 0, none⟩ = some (.int .u8 xa) ∧ w'.cell? ⟨L, 1, none⟩ = some (.int .i64 xb) ∧ w'.cell? ⟨L, 2, none⟩ = some (.int .i64 xc)) [0, 1, 2] [3] (by kernel_rfl) (by kernel_rfl) rfl (fun _ _ hx h => ⟨hx.cell h.1, hx.cell h.2.1, hx.cell h.2.2⟩) ⟨l0, l1, l2⟩ ?_
            intro Q' hQ'
            simp only [pickOps, List.flatMap_cons, List.flatMap_nil, List.drop_succ_cons, List.drop_zero, List.take_succ_cons, List.take_zero, List.cons_append, List.nil_append, List.append_nil]
            repeat (first
              | (refine wpReads_skip (by rfl) ?_; (try simp only [Act.put, List.setIfInBounds_toArray, List.set_cons_zero, List.set_cons_succ]))
              | (refine wpReads_cons ?_ (by rfl) (by rfl) ?_ ?_; rotate_left; (intro wz hz; (try dsimp only at hz); go_simp; try with_reducible rfl); (try simp only [Act.put, List.setIfInBounds_toArray, List.set_cons_zero, List.set_cons_succ]))
              | (refine wpReads_any ?_ (by rfl) ?_ ?_; rotate_left; (intro wz; go_simp; try with_reducible rfl); (try simp only [Act.put, List.setIfInBounds_toArray, List.set_cons_zero, List.set_cons_succ])))
            refine wpReads_nil ?_
            have HSPR := Lib.hid HF8.out.sp
            have z0 := HSPR.out.cell 0 _ rfl
            have z1 := HSPR.out.cell 1 _ rfl
            have z2 := HSPR.out.cell 2 _ rfl
            have f0 := HSPR.out.frozen 0
            have f1 := HSPR.out.frozen 1
            have f2 := HSPR.out.frozen 2
            go_wp2
            refine bodyPost_ret_by (results_tmp_row rfl _ _ _ _ _ _ _ rfl (spot_setd HSPR.out) Try.underlying94 rfl (by kernel_rfl)) rfl ?_
            exact ⟨⟨_, _, _, rfl⟩, below_dr (n := 1) (HF8.out.ret _ _ _)⟩
      · have e : E = ne := by rw [← HE.out, checkE, HNE.out, if_neg (by simp), HNA.out, if_neg (by simp), HND.out, if_pos h0]
        subst e
        go_wp2_with fail
        refine wp_region_lex (fun w' => w'.cell? ⟨w5.heap.size, 0, none⟩ = some (.int .u8 xa) ∧ w'.cell? ⟨w5.heap.size, 1, none⟩ = some (.int .i64 xb) ∧ w'.cell? ⟨w5.heap.size, 2, none⟩ = some (.int .i64 xc)) [0, 1, 2] [3] (by kernel_rfl) (by kernel_rfl) rfl (fun _ _ hx h => ⟨hx.cell h.1, hx.cell h.2.1, hx.cell h.2.2⟩) ⟨l0, l1, l2⟩ ?_
        intro Q' hQ'
        simp only [pickOps, List.flatMap_cons, List.flatMap_nil, List.drop_succ_cons, List.drop_zero, List.take_succ_cons, List.take_zero, List.cons_append, List.nil_append, List.append_nil]
        repeat (first
          | (refine wpReads_skip (by rfl) ?_; (try simp only [Act.put, List.setIfInBounds_toArray, List.set_cons_zero, List.set_cons_succ]))
          | (refine wpReads_cons ?_ (by rfl) (by rfl) ?_ ?_; rotate_left; (intro wz hz; (try dsimp only at hz); go_simp; try with_reducible rfl); (try simp only [Act.put, List.setIfInBounds_toArray, List.set_cons_zero, List.set_cons_succ]))
          | (refine wpReads_any ?_ (by rfl) ?_ ?_; rotate_left; (intro wz; go_simp; try with_reducible rfl); (try simp only [Act.put, List.setIfInBounds_toArray, List.set_cons_zero, List.set_cons_succ])))
        refine wpReads_nil ?_
        have HSPR := Lib.hid HF6.out.sp
        have z0 := HSPR.out.cell 0 _ rfl
        have z1 := HSPR.out.cell 1 _ rfl
        have z2 := HSPR.out.cell 2 _ rfl
        have f0 := HSPR.out.frozen 0
        have f1 := HSPR.out.frozen 1
        have f2 := HSPR.out.frozen 2
        go_wp2
        refine bodyPost_ret_by (results_tmp_row rfl _ _ _ _ _ _ _ rfl (spot_setd HSPR.out) Try.underlying94 rfl (by kernel_rfl)) rfl ?_
        exact ⟨⟨_, _, _, rfl⟩, below_dr (n := 1) (HF6.out.ret _ _ _)⟩
    · have e : E = ne := by rw [← HE.out, checkE, HNE.out, if_neg (by simp), HNA.out, if_pos h0]
      subst e
      go_wp2_with fail
      refine wp_region_lex (fun w' => w'.cell? ⟨w3.heap.size, 0, none⟩ = some (.int .u8 xa) ∧ w'.cell? ⟨w3.heap.size, 1, none⟩ = some (.int .i64 xb) ∧ w'.cell? ⟨w3.heap.size, 2, none⟩ = some (.int .i64 xc)) [0, 1, 2] [3] (by kernel_rfl) (by kernel_rfl) rfl (fun _ _ hx h => ⟨hx.cell h.1, hx.cell h.2.1, hx.cell h.2.2⟩) ⟨l0, l1, l2⟩ ?_
      intro Q' hQ'
      simp only [pickOps, List.flatMap_cons, List.flatMap_nil, List.drop_succ_cons, List.drop_zero, List.take_succ_cons, List.take_zero, List.cons_append, List.nil_append, List.append_nil]
      repeat (first
        | (refine wpReads_skip (by rfl) ?_; (try simp only [Act.put, List.setIfInBounds_toArray, List.set_cons_zero, List.set_cons_succ]))
        | (refine wpReads_cons ?_ (by rfl) (by rfl) ?_ ?_; rotate_left; (intro wz hz; (try dsimp only at hz); go_simp; try with_reducible rfl); (try simp only [Act.put, List.setIfInBounds_toArray, List.set_cons_zero, List.set_cons_succ]))
        | (refine wpReads_any ?_ (by rfl) ?_ ?_; rotate_left; (intro wz; go_simp; try with_reducible rfl); (try simp only [Act.put, List.setIfInBounds_toArray, List.set_cons_zero, List.set_cons_succ])))
      refine wpReads_nil ?_
      have HSPR := Lib.hid HF4.out.sp
      have z0 := HSPR.out.cell 0 _ rfl
      have z1 := HSPR.out.cell 1 _ rfl
      have z2 := HSPR.out.cell 2 _ rfl
      have f0 := HSPR.out.frozen 0
      have f1 := HSPR.out.frozen 1
      have f2 := HSPR.out.frozen 2
      go_wp2
      refine bodyPost_ret_by (results_tmp_row rfl _ _ _ _ _ _ _ rfl (spot_setd HSPR.out) Try.underlying94 rfl (by kernel_rfl)) rfl ?_
      exact ⟨⟨_, _, _, rfl⟩, below_dr (n := 1) (HF4.out.ret _ _ _)⟩
  · have e : E = ne := by rw [← HE.out, checkE, HNE.out, if_pos h0]
    subst e
    go_wp2_with fail
    refine wp_region_lex (fun w' => w'.cell? ⟨w1.heap.size, 0, none⟩ = some (.int .u8 xa) ∧ w'.cell? ⟨w1.heap.size, 1, none⟩ = some (.int .i64 xb) ∧ w'.cell? ⟨w1.heap.size, 2, none⟩ = some (.int .i64 xc)) [0, 1, 2] [3] (by kernel_rfl) (by kernel_rfl) rfl (fun _ _ hx h => ⟨hx.cell h.1, hx.cell h.2.1, hx.cell h.2.2⟩) ⟨l0, l1, l2⟩ ?_
    intro Q' hQ'
    simp only [pickOps, List.flatMap_cons, List.flatMap_nil, List.drop_succ_cons, List.drop_zero, List.take_succ_cons, List.take_zero, List.cons_append, List.nil_append, List.append_nil]
    repeat (first
      | (refine wpReads_skip (by rfl) ?_; (try simp only [Act.put, List.setIfInBounds_toArray, List.set_cons_zero, List.set_cons_succ]))
      | (refine wpReads_cons ?_ (by rfl) (by rfl) ?_ ?_; rotate_left; (intro wz hz; (try dsimp only at hz); go_simp; try with_reducible rfl); (try simp only [Act.put, List.setIfInBounds_toArray, List.set_cons_zero, List.set_cons_succ]))
      | (refine wpReads_any ?_ (by rfl) ?_ ?_; rotate_left; (intro wz; go_simp; try with_reducible rfl); (try simp only [Act.put, List.setIfInBounds_toArray, List.set_cons_zero, List.set_cons_succ])))
    refine wpReads_nil ?_
    have HSPR := Lib.hid HF2.out.sp
    have z0 := HSPR.out.cell 0 _ rfl
    have z1 := HSPR.out.cell 1 _ rfl
    have z2 := HSPR.out.cell 2 _ rfl
    have f0 := HSPR.out.frozen 0
    have f1 := HSPR.out.frozen 1
    have f2 := HSPR.out.frozen 2
    go_wp2
    refine bodyPost_ret_by (results_tmp_row rfl _ _ _ _ _ _ _ rfl (spot_setd HSPR.out) Try.underlying94 rfl (by kernel_rfl)) rfl ?_
    exact ⟨⟨_, _, _, rfl⟩, below_dr (n := 1) (HF2.out.ret _ _ _)⟩
end Go.Proofs.Ytaholpfikcdhbaa

/- graph.Check. -/
namespace Go.Proofs.Ytaholpfikcdhbaa
open Go.RowKit

/-- the bounds that every text and list keeps -/
def GSized (g : GGraph) : Prop := g.name.size ≤ 4611686018427387904 ∧ (∀ p ∈ g.actors, p.name.size ≤ 4611686018427387904 ∧ p.params.length ≤ 17600000000000) ∧ (∀ p ∈ g.ins, p.name.size ≤ 4611686018427387904) ∧ ∀ p ∈ g.outs, p.name.size ≤ 4611686018427387904

set_option maxRecDepth 100000 in
theorem gcheck_any (w : World) (v : Value) (g : GGraph) (h : HasGraph w v g) (hs : GSized g) : Calls Try.prog 25 #[v] w (Tells (.int .i64 (checkE g)) w) := by
  obtain ⟨va, ve, vi, vo, rfl, _⟩ := h.shape
  have hbG := below_alloc w (.cells #[.string g.name, va, ve, vi, vo] 61)
  have hG := heap_alloc_new w (.cells #[.string g.name, va, ve, vi, vo] 61)
  have q0 := cells_row _ _ hG 0 _ rfl
  have q1 := cells_row _ _ hG 1 _ rfl
  have q2 := cells_row _ _ hG 2 _ rfl
  have q3 := cells_row _ _ hG 3 _ rfl
  have q4 := cells_row _ _ hG 4 _ rfl
  have HG := Lib.hid (h.below hbG)
  have HB := Lib.hid hbG
  have HS := Lib.hid hs
  obtain ⟨E, hE⟩ : ∃ E, checkE g = E := ⟨_, rfl⟩
  rw [hE]
  have HE := Lib.hid hE
  clear h hs hbG hG hE
  go_enter Try.func25, Try.ntmps25
  go_wp2_with fail
  refine (gfind_any _ _ g HG.out HS.out.1 HS.out.2.1 HS.out.2.2.1 HS.out.2.2.2).mono ?_
  rintro e w1 ⟨⟨a, b, c, rfl⟩, hb1⟩
  rw [HE.out]
  have hb : Below w.heap.size w w1 := HB.out.trans (hb1.mono HB.out.size)
  have HBB := Lib.hid (hb.alloc hb.size (.cells #[.int .u8 a, .int .i64 b, .int .i64 c] 94))
  clear hb hb1 q0 q1 q2 q3 q4
  go_wp2
  go_ret
  exact ⟨rfl, HBB.out⟩
end Go.Proofs.Ytaholpfikcdhbaa

/- dyn's New: what it calls, what it makes. -/
namespace Go.Proofs.Ytaholpfikcdhbaa
open Go.RowKit

theorem head_few {g : GGraph} (h : headE g = 0) : g.actors.length ≤ 32 ∧ g.edges.length ≤ 96 ∧ g.ins.length ≤ 16 ∧ g.outs.length ≤ 16 := by
  unfold headE at h
  split at h
  · cases h
  split at h
  · cases h
  split at h
  · cases h
  split at h
  · cases h
  split at h
  · cases h
  split at h
  · cases h
  omega
/-- two new rows, each in its colour -/
theorem rated_col {w w' : World} {is os : List Int} {e : Ending} (o : Col) (M : Nat) (h : Rated w is os e w') : ∃ vi vo o', e = .returned (.tuple #[vi, vo]) ∧ Turn o o' (fun _ => False) w w' ∧ Own w' o' (M + 3) 3 1 vi is.length (ivs is) ∧ Own w' o' (M + 4) 3 1 vo os.length (ivs os) := by
  obtain ⟨g1, c1, g2, c2, rfl, h1, h2, hne, hb⟩ := h
  have l1 := (h1.lt g1 rfl).1
  have l2 := (h2.lt g2 rfl).1
  refine ⟨_, _, fun k => if k = g1 then M + 3 else if k < w.heap.size then o k else M + 4, rfl, ⟨Mods.of_below hb _, fun k hk => ?_⟩, ⟨owns_base h1 (fun _ _ => Nat.zero_le _), fun k hk => ?_⟩, ⟨owns_base h2 (fun _ _ => Nat.zero_le _), fun k hk => ?_⟩⟩
  · show (if k = g1 then M + 3 else if k < w.heap.size then o k else M + 4) = o k
    rw [if_neg (by omega), if_pos hk]
  · cases hk
    show (if g1 = g1 then M + 3 else if g1 < w.heap.size then o g1 else M + 4) = M + 3
    rw [if_pos rfl]
  · cases hk
    show (if g2 = g1 then M + 3 else if g2 < w.heap.size then o g2 else M + 4) = M + 4
    rw [if_neg (Ne.symm hne), if_neg (by omega)]
theorem info_source : (Try.prog.info? 67).map (fun i => (i.zero, i.size, i.bytes)) = some (some .nilIface, 1, 16) := by kernel_rfl
theorem info_sink : (Try.prog.info? 65).map (fun i => (i.zero, i.size, i.bytes)) = some (some .nilIface, 1, 16) := by kernel_rfl
theorem info_ptask : (Try.prog.info? 45).map (fun i => (i.zero, i.size, i.bytes)) = some (some (.pointer none), 1, 8) := by kernel_rfl
theorem info_chan : (Try.prog.info? 43).map (fun i => (i.zero, i.size, i.bytes)) = some (some (.agg #[.pointer none]), 1, 8) := by kernel_rfl
theorem info_ptape : (Try.prog.info? 48).map (fun i => (i.zero, i.size, i.bytes)) = some (some (.pointer none), 1, 8) := by kernel_rfl
theorem made_nils (n : Nat) : madeCells (Value.cells .nilIface) (n * 1) = (List.replicate n Value.nilIface).toArray := by
  rw [← Array.toList_inj, Nat.mul_one]
  simp [madeCells, Value.cells, Nat.mod_one, List.map_const']
theorem mk_srcs (n : Nat) (hn : n ≤ 100000) (w : World) : (Instr.makeSlice 50 (.int .i64 (n : Int)) (.int .i64 (n : Int))).run Try.prog w = .ok (.slice (some ⟨w.heap.size, 0, none⟩) n n) (w.alloc (.cells (List.replicate n Value.nilIface).toArray 67)) := by
  obtain ⟨i0, hi, hz0, hz1, hz2⟩ := info_parts info_source
  have h := run_make (P := Try.prog) (w := w) 50 67 i0 _ Try.underlying50 hi hz0 .i64 .i64 n n (by omega) (Int.le_refl _) (by rw [hz2]; omega) (by omega)
  rw [h, Int.toNat_natCast, hz1, made_nils]
theorem mk_snks (n : Nat) (hn : n ≤ 100000) (w : World) : (Instr.makeSlice 51 (.int .i64 (n : Int)) (.int .i64 (n : Int))).run Try.prog w = .ok (.slice (some ⟨w.heap.size, 0, none⟩) n n) (w.alloc (.cells (List.replicate n Value.nilIface).toArray 65)) := by
  obtain ⟨i0, hi, hz0, hz1, hz2⟩ := info_parts info_sink
  have h := run_make (P := Try.prog) (w := w) 51 65 i0 _ Try.underlying51 hi hz0 .i64 .i64 n n (by omega) (Int.le_refl _) (by rw [hz2]; omega) (by omega)
  rw [h, Int.toNat_natCast, hz1, made_nils]
theorem mk_rowsN (n : Nat) (hn : n ≤ 100000) (w : World) : (Instr.makeSlice 52 (.int .i64 (n : Int)) (.int .i64 (n : Int))).run Try.prog w = .ok (.slice (some ⟨w.heap.size, 0, none⟩) n n) (w.alloc (.cells (List.replicate n (.slice none 0 0)).toArray 22)) := mk_rows n hn w
theorem blk_new {w : World} (q : Col) (c : Nat) (cs : Array Value) (t : TypeId) : Blk (w.alloc (.cells cs t)) (ext q w.heap.size c) c w.heap.size t cs := ⟨heap_alloc_new w _, ext_new (Nat.le_refl _)⟩
/-- begin, over the task's block alone -/
def Began (w : World) (o : Col) (M b n : Nat) (bd sv dv iv ov : Value) (e : Ending) (w' : World) : Prop := ∃ o' h, e = .returned (.tuple #[]) ∧ Turn o o' (fun c => c = M) w w' ∧ Blk w' o' M b 54 #[bd, sv, dv, iv, ov, .slice (some ⟨h, 0, none⟩) n n, .slice none 0 0, .int .i64 0, .bool false, .int .i64 0] ∧ Blk w' o' (M + 7) h 22 (List.replicate n (.slice none 0 0)).toArray
set_option maxRecDepth 100000 in
set_option maxHeartbeats 1000000 in
theorem tbegin_new {w : World} {o : Col} {M b n ic : Nat} {ia : Option Addr} {bd sv dv ov : Value} (h : Blk w o M b 54 #[bd, sv, dv, .slice ia n ic, ov, .slice none 0 0, .slice none 0 0, .int .i64 0, .bool false, .int .i64 0]) (hn : n ≤ 16) : Calls Try.prog 28 #[.pointer (some ⟨b, 0, none⟩)] w (Began w o M b n bd sv dv (.slice ia n ic) ov) := by
  have hmk := mk_rows n (by omega) w
  obtain ⟨zi, hzi⟩ : ∃ x, (List.replicate n (Value.slice none 0 0)).toArray = x := ⟨_, rfl⟩
  rw [hzi] at hmk
  have HZI := Lib.hid hzi
  have c3 := h.cell 3 _ rfl
  have hba := below_alloc w (.cells zi 22)
  have T1 := Turn.of_below o (M + 7) hba
  have hb1 := h.turn T1 (fun h => h)
  have c5 := hb1.cell 5 _ rfl
  have c6 := hb1.cell 6 _ rfl
  have c7 := hb1.cell 7 _ rfl
  have c8 := hb1.cell 8 _ rfl
  have f5 := hb1.frozen 5
  have f6 := hb1.frozen 6
  have f7 := hb1.frozen 7
  have f8 := hb1.frozen 8
  have HB1 := Lib.hid hb1
  have HT1 := Lib.hid T1
  clear h hba T1 hb1 hzi hn
  go_enter Try.func28, Try.ntmps28
  go_wp2
  go_end0
  have hzi := HZI.out
  have T1 := HT1.out
  have B0 := HB1.out
  obtain ⟨B1, S1⟩ := B0.set 5 (.slice (some ⟨w.heap.size, 0, none⟩) n n)
  obtain ⟨B2, S2⟩ := B1.set 6 (.slice none 0 0)
  obtain ⟨B3, S3⟩ := B2.set 7 (.int .i64 0)
  obtain ⟨B4, S4⟩ := B3.set 8 (.bool false)
  have S := ((S1.trans S2 (fun _ h => h)).trans S3 (fun _ h => h)).trans S4 (fun _ h => h)
  have TT := (T1.mono (D := fun x => x = M) (fun _ h => h.elim)).trans S (fun _ h => h)
  have N0 : Blk (w.alloc (.cells zi 22)) (ext o w.heap.size (M + 7)) (M + 7) w.heap.size 22 zi := ⟨heap_alloc_new w _, ext_new (Nat.le_refl _)⟩
  have N1 := N0.turn S (fun h => by omega)
  refine ⟨_, w.heap.size, rfl, TT, B4, ?_⟩
  rw [hzi]
  exact N1
/-- an append onto a row, at a colour -/
theorem own_app {w w' : World} {o : Col} {c : Nat} {e : TypeId} {size n m : Nat} {v v' : Value} {xs ys : List Value} (h : Own w o c e size v n xs) (h1 : w'.ownsRow 0 e size v' m ys) (h2 : w.grownBy w' v.ownBlock) (h3 : v'.ownBlock = v.ownBlock ∨ v'.ownBlock = some w.heap.size) : Turn o (ext o w.heap.size c) (fun x => x = c) w w' ∧ Own w' (ext o w.heap.size c) c e size v' m ys := by
  refine ⟨Turn.of_mods o c ((Mods.refl (fun k => v.ownBlock = some k) w).grown h2 (fun k hk _ => hk)) (fun k _ hk => h.2 k hk), h1, fun k hk => ?_⟩
  rcases h3 with h3 | h3
  · rw [h3] at hk
    exact (ext_old (h.1.lt k hk).2).trans (h.2 k hk)
  · rw [h3] at hk
    have := Option.some.inj hk
    exact ext_new (by omega)
/-- the new queue, at a colour -/
theorem queue_col {w w' : World} {b : Nat} {C : Int} {l : List Int} {r : Option Nat} {N : Nat} (o : Col) (c : Nat) (hb : Below w.heap.size w w') (h : IQ w' w.heap.size b C l r N) (hN : N ≤ 256) : Turn o (ext o w.heap.size c) (fun _ => False) w w' ∧ QAt w' (ext o w.heap.size c) c b C l 256 := by
  obtain ⟨v, g, zs, h1, h2, h3, h4, h5, h6, h7, h8, h9, h10, h11⟩ := h
  refine ⟨Turn.of_below o c hb, r, ⟨v, g, zs, h1, owns_base h2 (fun _ _ => Nat.zero_le _), h3, h4, h5, h6, by omega, h8, h9, Nat.zero_le _, h11⟩, ext_new h10, fun k hk => ext_new ?_⟩
  rw [← h5] at hk
  exact (h2.lt k hk).1
theorem Kept.ext {B : Nat} {o : Col} {w0 w w' : World} (h : Kept B o w0 w) (c : Nat) (hb : Below w.heap.size w w') : Kept B (ext o w.heap.size c) w0 w' := h.turn (Turn.of_below o c hb) (fun h => h)
/-- a new task, begun, whose ports lead nowhere -/
theorem half_new {w : World} {o : Col} {M b h gs gd bp : Nat} {g : GGraph} {t : Nat} {vi vo : Value} {qs : Ptrs} (a : GActor) (ha : g.actors[t]? = some a) (hA : Act w o (M + 1) (M + 2) bp a.tag a.params (keep0 a.tag a.params) 0)
    (hB : Blk w o M b 54 #[.pointer (some ⟨bp, 0, none⟩), .slice (some ⟨gs, 0, none⟩) (ratesI g t).length (ratesI g t).length, .slice (some ⟨gd, 0, none⟩) (ratesO g t).length (ratesO g t).length, vi, vo, .slice (some ⟨h, 0, none⟩) (ratesI g t).length (ratesI g t).length, .slice none 0 0, .int .i64 0, .bool false, .int .i64 0])
    (hI : Own w o (M + 3) 3 1 vi (ratesI g t).length (ivs (ratesI g t))) (hO : Own w o (M + 4) 3 1 vo (ratesO g t).length (ivs (ratesO g t)))
    (hS : Blk w o (M + 5) gs 67 (List.replicate (ratesI g t).length Value.nilIface).toArray) (hD : Blk w o (M + 6) gd 65 (List.replicate (ratesO g t).length Value.nilIface).toArray) (hH : Blk w o (M + 7) h 22 (List.replicate (ratesI g t).length (.slice none 0 0)).toArray) (hi : (ratesI g t).length ≤ 16) (ho : (ratesO g t).length ≤ 16) :
    HalfT w o M b g t (newTask g t) ⟨bp, .slice (some ⟨gs, 0, none⟩) (ratesI g t).length (ratesI g t).length, .slice (some ⟨gd, 0, none⟩) (ratesO g t).length (ratesO g t).length, vi, vo, h, List.replicate (ratesI g t).length (.slice none 0 0), .slice none 0 0, []⟩ (fromS qs g t 0) (toS qs g t 0) := by
  have hk : keepT g t = keep0 a.tag a.params := by unfold keepT; rw [ha]
  refine ⟨hB, fun a' ha' => ?_, hI.vals, hO.vals, ⟨gs, rfl, by rw [fromS_zero]; exact hS⟩, ⟨gd, rfl, by rw [toS_zero]; exact hD⟩, fromS_len _ _ _ _, toS_len _ _ _ _, ⟨by simp [newTask], hH, fun k hk2 => ?_⟩, .inl ⟨rfl, rfl⟩, ⟨hi, ho, by simp [newTask]; exact hi, by simp [newTask]⟩⟩
  · rw [ha] at ha'
    cases ha'
    show Act w o (M + 1) (M + 2) bp a.tag a.params (keepT g t) 0
    rw [hk]
    exact hA
  · have e1 : (newTask g t).hand[k] = [] := by simp [newTask]
    rw [e1]
    simp only [List.getElem_replicate]
    exact OffRow.nil _ _ _ _
/-- its two rows of ports are there -/
def Ported (q : Col) (w : World) (M tb nI nO : Nat) (bd vi vo : Value) (wx : World) : Prop := ∃ q' gs gd, Turn q q' (fun c => c = M) w wx ∧ Blk wx q' M tb 54 #[bd, .slice (some ⟨gs, 0, none⟩) nI nI, .slice (some ⟨gd, 0, none⟩) nO nO, vi, vo, .slice none 0 0, .slice none 0 0, .int .i64 0, .bool false, .int .i64 0] ∧
  Blk wx q' (M + 5) gs 67 (List.replicate nI Value.nilIface).toArray ∧ Blk wx q' (M + 6) gd 65 (List.replicate nO Value.nilIface).toArray
section
variable {q : Col} {w wd : World} {M tb nI nO : Nat} {bd vi vo : Value} {zi zo : Array Value}
theorem ported_a (T : Turn q q (fun c => c = M) w wd) (B : Blk wd q M tb 54 #[bd, .slice none 0 0, .slice none 0 0, vi, vo, .slice none 0 0, .slice none 0 0, .int .i64 0, .bool false, .int .i64 0]) (hi : (List.replicate nI Value.nilIface).toArray = zi) (ho : (List.replicate nO Value.nilIface).toArray = zo) :
    Ported q w M tb nI nO bd vi vo ((((wd.alloc (.cells zi 67)).alloc (.cells zo 65)).setCell ⟨tb, 1, none⟩ (.slice (some ⟨wd.heap.size, 0, none⟩) nI nI)).setCell ⟨tb, 2, none⟩ (.slice (some ⟨wd.heap.size + 1, 0, none⟩) nO nO)) := by
  have T1 := Turn.of_below q (M + 5) (below_alloc wd (.cells zi 67))
  have N1 := blk_new (w := wd) q (M + 5) zi 67
  have B1 := B.turn T1 (fun h => h)
  have T2 := Turn.of_below (ext q wd.heap.size (M + 5)) (M + 6) (below_alloc (wd.alloc (.cells zi 67)) (.cells zo 65))
  have N2 := blk_new (w := wd.alloc (.cells zi 67)) (ext q wd.heap.size (M + 5)) (M + 6) zo 65
  have M1 := N1.turn T2 (fun h => h)
  have B2 := B1.turn T2 (fun h => h)
  obtain ⟨B3, S3⟩ := B2.set 1 (.slice (some ⟨wd.heap.size, 0, none⟩) nI nI)
  obtain ⟨B4, S4⟩ := B3.set 2 (.slice (some ⟨wd.heap.size + 1, 0, none⟩) nO nO)
  have S := S3.trans S4 (fun _ h => h)
  refine ⟨_, wd.heap.size, wd.heap.size + 1, ((T.trans (T1.mono (D := fun c => c = M) (fun _ h => h.elim)) (fun _ h => h)).trans (T2.mono (D := fun c => c = M) (fun _ h => h.elim)) (fun _ h => h)).trans S (fun _ h => h), B4, ?_, ?_⟩
  · rw [hi]; exact M1.turn S (fun h => by omega)
  · rw [ho]; have := N2.turn S (fun h => by omega); simpa using this
theorem ported_b (T : Turn q q (fun c => c = M) w wd) (B : Blk wd q M tb 54 #[bd, .slice none 0 0, .slice none 0 0, vi, vo, .slice none 0 0, .slice none 0 0, .int .i64 0, .bool false, .int .i64 0]) (hi : (List.replicate nI Value.nilIface).toArray = zi) (ho : (List.replicate nO Value.nilIface).toArray = zo) :
    Ported q w M tb nI nO bd vi vo ((((wd.alloc (.cells zi 67)).setCell ⟨tb, 1, none⟩ (.slice (some ⟨wd.heap.size, 0, none⟩) nI nI)).alloc (.cells zo 65)).setCell ⟨tb, 2, none⟩ (.slice (some ⟨wd.heap.size + 1, 0, none⟩) nO nO)) := by
  have T1 := Turn.of_below q (M + 5) (below_alloc wd (.cells zi 67))
  have N1 := blk_new (w := wd) q (M + 5) zi 67
  have B1 := B.turn T1 (fun h => h)
  obtain ⟨B3, S3⟩ := B1.set 1 (.slice (some ⟨wd.heap.size, 0, none⟩) nI nI)
  have T2 := Turn.of_below (ext q wd.heap.size (M + 5)) (M + 6) (below_alloc ((wd.alloc (.cells zi 67)).setCell ⟨tb, 1, none⟩ (.slice (some ⟨wd.heap.size, 0, none⟩) nI nI)) (.cells zo 65))
  have N2 := blk_new (w := (wd.alloc (.cells zi 67)).setCell ⟨tb, 1, none⟩ (.slice (some ⟨wd.heap.size, 0, none⟩) nI nI)) (ext q wd.heap.size (M + 5)) (M + 6) zo 65
  have M1 := (N1.turn S3 (fun h => by omega)).turn T2 (fun h => h)
  have B2 := B3.turn T2 (fun h => h)
  obtain ⟨B4, S4⟩ := B2.set 2 (.slice (some ⟨wd.heap.size + 1, 0, none⟩) nO nO)
  refine ⟨_, wd.heap.size, wd.heap.size + 1, ((((T.trans (T1.mono (D := fun c => c = M) (fun _ h => h.elim)) (fun _ h => h)).trans S3 (fun _ h => h))).trans (T2.mono (D := fun c => c = M) (fun _ h => h.elim)) (fun _ h => h)).trans S4 (fun _ h => h), B4, ?_, ?_⟩
  · rw [hi]; exact M1.turn S4 (fun h => by omega)
  · rw [ho]; have := N2.turn S4 (fun h => by omega); simpa [World.setCell] using this
theorem ported_c (T : Turn q q (fun c => c = M) w wd) (B : Blk wd q M tb 54 #[bd, .slice none 0 0, .slice none 0 0, vi, vo, .slice none 0 0, .slice none 0 0, .int .i64 0, .bool false, .int .i64 0]) (hi : (List.replicate nI Value.nilIface).toArray = zi) (ho : (List.replicate nO Value.nilIface).toArray = zo) :
    Ported q w M tb nI nO bd vi vo ((((wd.alloc (.cells zo 65)).alloc (.cells zi 67)).setCell ⟨tb, 1, none⟩ (.slice (some ⟨wd.heap.size + 1, 0, none⟩) nI nI)).setCell ⟨tb, 2, none⟩ (.slice (some ⟨wd.heap.size, 0, none⟩) nO nO)) := by
  have T1 := Turn.of_below q (M + 6) (below_alloc wd (.cells zo 65))
  have N1 := blk_new (w := wd) q (M + 6) zo 65
  have B1 := B.turn T1 (fun h => h)
  have T2 := Turn.of_below (ext q wd.heap.size (M + 6)) (M + 5) (below_alloc (wd.alloc (.cells zo 65)) (.cells zi 67))
  have N2 := blk_new (w := wd.alloc (.cells zo 65)) (ext q wd.heap.size (M + 6)) (M + 5) zi 67
  have M1 := N1.turn T2 (fun h => h)
  have B2 := B1.turn T2 (fun h => h)
  obtain ⟨B3, S3⟩ := B2.set 1 (.slice (some ⟨wd.heap.size + 1, 0, none⟩) nI nI)
  obtain ⟨B4, S4⟩ := B3.set 2 (.slice (some ⟨wd.heap.size, 0, none⟩) nO nO)
  have S := S3.trans S4 (fun _ h => h)
  refine ⟨_, wd.heap.size + 1, wd.heap.size, ((T.trans (T1.mono (D := fun c => c = M) (fun _ h => h.elim)) (fun _ h => h)).trans (T2.mono (D := fun c => c = M) (fun _ h => h.elim)) (fun _ h => h)).trans S (fun _ h => h), B4, ?_, ?_⟩
  · rw [hi]; have := N2.turn S (fun h => by omega); simpa using this
  · rw [ho]; exact M1.turn S (fun h => by omega)
end
end Go.Proofs.Ytaholpfikcdhbaa
