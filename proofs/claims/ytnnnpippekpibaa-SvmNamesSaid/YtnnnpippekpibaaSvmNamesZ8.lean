/- The law 'pianola SvmNames' (said): for every input it returns true, and what it was handed reads as before. The frame: arguments opened, the walk called, arguments shut. -/
import Derived.Test.YtnnnpippekpibaaSvmStepsZ7
import Derived.Deep.CutBlock
import Derived.Test.YtnnnpippekpibaaSvmStepsZ2
import Derived.Test.YtnnnpippekpibaaSvmStepsZ3
import Derived.Test.YtnnnpippekpibaaRows
import Derived.WalkKit
import Derived.ProofKit
import Derived.OpenShut
import Derived.ShutString
import Derived.ChangeOld
import Derived.Below
/- A new machine: its operations, its rows. -/
namespace Go.Proofs.Ytnnnpippekpibaa
open Go.RowKit

theorem info_pbody : (Try.prog.info? 82).map (fun i => (i.zero, i.size, i.bytes)) = some (some (.pointer none), 1, 8) := by kernel_rfl
theorem info_op3 : (Try.prog.info? 43).map (fun i => (i.zero, i.size, i.bytes)) = some (some opZ, 3, 24) := by kernel_rfl
theorem info_line4 : (Try.prog.info? 78).map (fun i => (i.zero, i.size, i.bytes)) = some (some (.agg #[.int .i64 0, .int .i64 0, .int .i64 0, .int .i64 0]), 4, 32) := by kernel_rfl
theorem mk_ints (n : Nat) (hn : n ≤ 100000) (w : World) : (Instr.makeSlice 37 (.int .i64 (n : Int)) (.int .i64 (n : Int))).run Try.prog w = .ok (.slice (some ⟨w.heap.size, 0, none⟩) n n) (w.alloc (.cells (ivs (List.replicate n 0)).toArray 3)) := by
  obtain ⟨i0, hi, hz0, hz1, hz2⟩ := info_parts info_int
  have h := run_make (P := Try.prog) (w := w) 37 3 i0 _ Try.underlying37 hi hz0 .i64 .i64 n n (by omega) (Int.le_refl _) (by rw [hz2]; omega) (by omega)
  have e : madeCells (Value.cells (.int .i64 0)) (n * 1) = (ivs (List.replicate n 0)).toArray := by rw [← made_ints n]
  rw [h, Int.toNat_natCast, hz1, e]
theorem mk_intss (n : Nat) (hn : n ≤ 100000) (w : World) : (Instr.makeSlice 45 (.int .i64 (n : Int)) (.int .i64 (n : Int))).run Try.prog w = .ok (.slice (some ⟨w.heap.size, 0, none⟩) n n) (w.alloc (.cells (List.replicate n (.slice none 0 0)).toArray 37)) := by
  obtain ⟨i0, hi, hz0, hz1, hz2⟩ := info_parts info_ints
  have h := run_make (P := Try.prog) (w := w) 45 37 i0 _ Try.underlying45 hi hz0 .i64 .i64 n n (by omega) (Int.le_refl _) (by rw [hz2]; omega) (by omega)
  have e : madeCells (Value.cells (.slice none 0 0)) (n * 1) = (List.replicate n (.slice none 0 0)).toArray := by rw [← made_rows n]
  rw [h, Int.toNat_natCast, hz1, e]
/-- a new block -/
theorem blk_new {w : World} (q : Col) (c : Nat) (cs : Array Value) (t : TypeId) : Blk (w.alloc (.cells cs t)) (ext q w.heap.size c) c w.heap.size t cs := ⟨heap_alloc_new w _, ext_new (Nat.le_refl _)⟩

def emptyM : List Value := [.slice none 0 0, .slice none 0 0, .slice none 0 0, .slice none 0 0]
/-- what is there first: the operations, the counters -/
structure First (w0 w : World) (M X : Nat) (P : GProg) (vp vl vo : Value) (p : Value) : Prop where
  ex : ∃ b q ov cb, p = .pointer (some ⟨b, 0, none⟩) ∧ Kept w0.heap.size q w0 w ∧ Blk w q (M + 210) X 30 #[.int .i64 P.memory, .int .i64 P.counters, .int .i64 P.ins, .int .i64 P.outs, vp, vl, vo] ∧
    Blk w q M b 72 #[.slice none 0 0, .slice none 0 0, .slice none 0 0, .slice none 0 0, ov, .slice none 0 0, .slice none 0 0, .slice (some ⟨cb, 0, none⟩) P.counters.toNat P.counters.toNat, .slice none 0 0, .int .i64 0, .int .i64 0, .bool false, .int .i64 0, .int .u8 0, .int .i64 0, .slice none 0 0, .int .u8 0] ∧
    Own w q (M + 5) 43 3 ov P.ops.length (opsV P.ops) ∧ Blk w q (M + 8) cb 3 (ivs (List.replicate P.counters.toNat 0)).toArray

theorem first_fin {w0 wa : World} {q : Col} {M X cb nc : Nat} {P : GProg} {vp vl vo ov : Value} (_hM : 1 ≤ M) (hn : P.counters.toNat = nc) (K : Kept w0.heap.size q w0 wa) (hX : Blk wa q (M + 210) X 30 #[.int .i64 P.memory, .int .i64 P.counters, .int .i64 P.ins, .int .i64 P.outs, vp, vl, vo]) (hO : Own wa q (M + 5) 43 3 ov P.ops.length (opsV P.ops)) (hC : Blk wa q (M + 8) cb 3 (ivs (List.replicate nc 0)).toArray) :
    First w0 (wa.alloc (.cells #[.slice none 0 0, .slice none 0 0, .slice none 0 0, .slice none 0 0, ov, .slice none 0 0, .slice none 0 0, .slice (some ⟨cb, 0, none⟩) nc nc, .slice none 0 0, .int .i64 0, .int .i64 0, .bool false, .int .i64 0, .int .u8 0, .int .i64 0, .slice none 0 0, .int .u8 0] 72)) M X P vp vl vo (.pointer (some ⟨wa.heap.size, 0, none⟩)) := by
  have T := Turn.of_below q M (below_alloc wa (.cells #[.slice none 0 0, .slice none 0 0, .slice none 0 0, .slice none 0 0, ov, .slice none 0 0, .slice none 0 0, .slice (some ⟨cb, 0, none⟩) nc nc, .slice none 0 0, .int .i64 0, .int .i64 0, .bool false, .int .i64 0, .int .u8 0, .int .i64 0, .slice none 0 0, .int .u8 0] 72))
  subst hn
  exact ⟨wa.heap.size, _, ov, cb, rfl, K.turn T (fun h => h), hX.turn T (fun h => h), blk_new q M _ _, hO.turn T (fun h => h), hC.turn T (fun h => h)⟩

/-- the rows are there, no line, no part -/
structure Second (w0 w : World) (M X b : Nat) (P : GProg) (vp vl vo : Value) : Prop where
  ex : ∃ q v, Kept w0.heap.size q w0 w ∧ Blk w q (M + 210) X 30 #[.int .i64 P.memory, .int .i64 P.counters, .int .i64 P.ins, .int .i64 P.outs, vp, vl, vo] ∧ MachAt w q M b (firstP P 0) (lineM P 0) v
theorem second_fin {w0 w : World} {q : Col} {M X b gm gf go cb : Nat} {P : GProg} {vp vl vo ov : Value} (hP : POk P) (K : Kept w0.heap.size q w0 w) (hX : Blk w q (M + 210) X 30 #[.int .i64 P.memory, .int .i64 P.counters, .int .i64 P.ins, .int .i64 P.outs, vp, vl, vo])
    (hB : Blk w q M b 72 #[.slice (some ⟨gm, 0, none⟩) P.memory.toNat P.memory.toNat, .slice none 0 0, .slice (some ⟨gf, 0, none⟩) P.ins.toNat P.ins.toNat, .slice (some ⟨go, 0, none⟩) P.outs.toNat P.outs.toNat, ov, .slice none 0 0, .slice none 0 0, .slice (some ⟨cb, 0, none⟩) P.counters.toNat P.counters.toNat, .slice none 0 0, .int .i64 0, .int .i64 0, .bool false, .int .i64 0, .int .u8 0, .int .i64 0, .slice none 0 0, .int .u8 0])
    (hM : Blk w q (M + 1) gm 3 (ivs (List.replicate P.memory.toNat 0)).toArray) (hF : Blk w q (M + 3) gf 37 (List.replicate P.ins.toNat (.slice none 0 0)).toArray) (hO : Blk w q (M + 4) go 37 (List.replicate P.outs.toNat (.slice none 0 0)).toArray) (hOp : Own w q (M + 5) 43 3 ov P.ops.length (opsV P.ops)) (hC : Blk w q (M + 8) cb 3 (ivs (List.replicate P.counters.toNat 0)).toArray) : Second w0 w M X b P vp vl vo := by
  have h1 := hP.ins
  have h2 := hP.outs
  refine ⟨q, ⟨gm, .slice none 0 0, gf, go, ov, .slice none 0 0, .slice none 0 0, cb, .slice none 0 0, List.replicate P.ins.toNat (.slice none 0 0), List.replicate P.outs.toNat (.slice none 0 0), []⟩, K, hX, ?_⟩
  have hm : newMem P 0 = List.replicate P.memory.toNat 0 := by unfold newMem; rw [List.take_zero]; rfl
  refine ⟨?_, by show Blk w q (M + 1) gm _ (ivs (newMem P 0)).toArray; rw [hm]; exact hM, Own.nil _ _ _ _ _, ⟨by simp [lineM], hF, fun k hk => ?_⟩, ⟨by simp [lineM], hO, fun k hk => ?_⟩, hOp, Own.nil _ _ _ _ _, Own.nil _ _ _ _ _, rfl, fun k hk => ?_, hC, OffRow.nil _ _ _ _, ⟨by simp [lineM]; omega, by simp [lineM]; omega, by simp [firstP]⟩⟩
  · unfold machV lineM
    simp only [hm, List.length_replicate]
    exact hB
  · simp only [List.getElem_replicate, lineM]
    exact OffRow.nil _ _ _ _
  · simp only [List.getElem_replicate, lineM]
    exact OffRow.nil _ _ _ _
  · simp [firstP] at hk

/-- while the two rows come -/
structure Six (w0 w : World) (q : Col) (M X b gm cb : Nat) (P : GProg) (vp vl vo opv c2 c3 : Value) : Prop where
  kept : Kept w0.heap.size q w0 w
  prog : Blk w q (M + 210) X 30 #[.int .i64 P.memory, .int .i64 P.counters, .int .i64 P.ins, .int .i64 P.outs, vp, vl, vo]
  blk : Blk w q M b 72 #[.slice (some ⟨gm, 0, none⟩) P.memory.toNat P.memory.toNat, .slice none 0 0, c2, c3, opv, .slice none 0 0, .slice none 0 0, .slice (some ⟨cb, 0, none⟩) P.counters.toNat P.counters.toNat, .slice none 0 0, .int .i64 0, .int .i64 0, .bool false, .int .i64 0, .int .u8 0, .int .i64 0, .slice none 0 0, .int .u8 0]
  mem : Blk w q (M + 1) gm 3 (ivs (List.replicate P.memory.toNat 0)).toArray
  ops : Own w q (M + 5) 43 3 opv P.ops.length (opsV P.ops)
  cs : Blk w q (M + 8) cb 3 (ivs (List.replicate P.counters.toNat 0)).toArray
theorem Six.turn {w0 w w' : World} {q q' : Col} {M X b gm cb : Nat} {P : GProg} {vp vl vo opv c2 c3 : Value} (h : Six w0 w q M X b gm cb P vp vl vo opv c2 c3) (T : Turn q q' (fun _ => False) w w') : Six w0 w' q' M X b gm cb P vp vl vo opv c2 c3 :=
  ⟨h.kept.turn T (fun h => h), h.prog.turn T (fun h => h), h.blk.turn T (fun h => h), h.mem.turn T (fun h => h), h.ops.turn T (fun h => h), h.cs.turn T (fun h => h)⟩
theorem Six.set2 {w0 w : World} {q : Col} {M X b gm cb : Nat} {P : GProg} {vp vl vo opv c2 c3 : Value} (hM : 1 ≤ M) (h : Six w0 w q M X b gm cb P vp vl vo opv c2 c3) (u : Value) : Six w0 (w.setCell ⟨b, 2, none⟩ u) q M X b gm cb P vp vl vo opv u c3 ∧ Turn q q (fun x => x = M) w (w.setCell ⟨b, 2, none⟩ u) := by
  obtain ⟨s, T⟩ := h.blk.set 2 u
  exact ⟨⟨h.kept.turn T (by omega), h.prog.turn T (by omega), s, h.mem.turn T (by omega), h.ops.turn T (by omega), h.cs.turn T (by omega)⟩, T⟩
theorem Six.set3 {w0 w : World} {q : Col} {M X b gm cb : Nat} {P : GProg} {vp vl vo opv c2 c3 : Value} (hM : 1 ≤ M) (h : Six w0 w q M X b gm cb P vp vl vo opv c2 c3) (u : Value) : Six w0 (w.setCell ⟨b, 3, none⟩ u) q M X b gm cb P vp vl vo opv c2 u ∧ Turn q q (fun x => x = M) w (w.setCell ⟨b, 3, none⟩ u) := by
  obtain ⟨s, T⟩ := h.blk.set 3 u
  exact ⟨⟨h.kept.turn T (by omega), h.prog.turn T (by omega), s, h.mem.turn T (by omega), h.ops.turn T (by omega), h.cs.turn T (by omega)⟩, T⟩


set_option maxRecDepth 100000 in
set_option maxHeartbeats 4000000 in
theorem mNew_any (w : World) (o : Col) (M : Nat) (hM : 1 ≤ M) (v : Value) (P : GProg) (hv : HasProg w v P) (hps : ∀ p ∈ P.parts, p.params.length ≤ 17600000000000) (hf : PFits P) : Calls Try.prog 8 #[v] w (NewRet w o M P) := by
  obtain ⟨vp, vl, vo, rfl, rp, rl, ro⟩ := hv
  obtain ⟨ap, cp, rfl⟩ := rp.slice
  obtain ⟨al, cl, rfl⟩ := rl.slice
  obtain ⟨ao, co, rfl⟩ := ro.slice
  have HV : Hid (HasProg w (.agg #[.int .i64 P.memory, .int .i64 P.counters, .int .i64 P.ins, .int .i64 P.outs, .slice ap P.parts.length cp, .slice al P.lines.length cl, .slice ao P.ops.length co]) P) := Lib.hid ⟨_, _, _, rfl, rp, rl, ro⟩
  have HRP := Lib.hid rp
  have HRL := Lib.hid rl
  have HRO := Lib.hid ro
  have HPS := Lib.hid hps
  have HF := Lib.hid hf
  clear rp rl ro hps hf
  have hb1 := below_alloc w (.cells #[.int .i64 P.memory, .int .i64 P.counters, .int .i64 P.ins, .int .i64 P.outs, .slice ap P.parts.length cp, .slice al P.lines.length cl, .slice ao P.ops.length co] 30)
  have T1 := Turn.of_below (fun _ => 0) (M + 210) hb1
  have hX := blk_new (w := w) (fun _ => 0) (M + 210) #[.int .i64 P.memory, .int .i64 P.counters, .int .i64 P.ins, .int .i64 P.outs, .slice ap P.parts.length cp, .slice al P.lines.length cl, .slice ao P.ops.length co] 30
  have K1 := (Kept.start w).turn T1 (fun h => h)
  have HX := Lib.hid hX
  have HK := Lib.hid K1
  have x0 := hX.cell 0 _ rfl
  have x1 := hX.cell 1 _ rfl
  have x2 := hX.cell 2 _ rfl
  have x3 := hX.cell 3 _ rfl
  have x4 := hX.cell 4 _ rfl
  have x5 := hX.cell 5 _ rfl
  have x6 := hX.cell 6 _ rfl
  generalize ext (fun _ => 0) w.heap.size (M + 210) = q0 at *
  clear T1 hX K1 hb1
  obtain ⟨E, hE⟩ : ∃ x, checkC P = x := ⟨_, rfl⟩
  unfold NewRet
  rw [hE]
  have HE := Lib.hid hE
  clear hE
  by_cases h0 : E ≠ 0
  · rw [if_pos h0]
    have hb : (E != 0) = true := by rw [bne_iff_ne]; exact h0
    go_enter Try.func8, Try.ntmps8
    go_wp2_with fail
    refine (ccheck_any _ _ P (HV.out.below HK.out.below) HPS.out).mono ?_
    rintro e w2 ⟨rfl, hb2⟩
    rw [HE.out]
    have HB2 := Lib.hid (HK.out.below.trans (hb2.mono HK.out.size))
    clear hb2
    go_wp2
    go_ret2
    exact ⟨rfl, HB2.out⟩
  · rw [if_neg h0]
    obtain rfl : E = 0 := by simpa using h0
    clear h0
    have hS : cstepsE P = ((cstepsE P).1, 0) := by
      have := HE.out
      unfold checkC at this
      rw [← this]
    have hP := pok_of hS
    go_enter Try.func8, Try.ntmps8
    go_wp2_with fail
    refine (ccheck_any _ _ P (HV.out.below HK.out.below) HPS.out).mono ?_
    rintro e w2 ⟨rfl, hb2⟩
    rw [HE.out]
    have T2 := Turn.of_below q0 (M + 211) hb2
    have HK2 := Lib.hid (HK.out.turn T2 (fun h => h))
    have hX2 := HX.out.turn T2 (fun h => h)
    have HX2 := Lib.hid hX2
    have hc := hP.counters
    obtain ⟨nc, hnc⟩ : ∃ nc : Nat, P.counters = nc := ⟨P.counters.toNat, by omega⟩
    have x1 := hX2.cell 1 _ rfl
    have x6 := hX2.cell 6 _ rfl
    rw [hnc] at x1
    generalize ext q0 _ (M + 211) = q2 at *
    clear T2 hX2 hb2 HK HX x0 x2 x3 x4 x5
    have HP := Lib.hid hP
    have HNC := Lib.hid hnc
    have hnc2 : nc ≤ 17 := by omega
    have hops := hP.nops
    have hmk := mk_ints nc (by omega)
    obtain ⟨zs, hzs⟩ : ∃ x, (ivs (List.replicate nc 0)).toArray = x := ⟨_, rfl⟩
    rw [hzs] at hmk
    have HZ := Lib.hid hzs
    clear hzs
    obtain ⟨i0, hi, hz0, hz1, hz2⟩ := info_parts info_op3
    have HI := Lib.hid hi
    clear hc hP hS hi
    go_wp2_with fail
    go_cut [5] from 22 to 29 (fun p wx => First w wx M w.heap.size P (.slice ap P.parts.length cp) (.slice al P.lines.length cl) (.slice ao P.ops.length co) p)
    case first =>
      refine wp_region_drift (fun w' => w'.cell? ⟨w.heap.size, 1, none⟩ = some (.int .i64 (nc : Int)) ∧ w'.cell? ⟨w.heap.size, 6, none⟩ = some (.slice ao P.ops.length co)) [0, 1, 3, 4] [2, 5] [0, 1, 3, 4] 5 (by kernel_rfl) (by kernel_rfl) rfl ⟨x1, x6⟩ ?_
      intro Q' hQ' hQ2
      simp only [pickOps, List.flatMap_cons, List.flatMap_nil, List.drop_succ_cons, List.drop_zero, List.take_succ_cons, List.take_zero, List.cons_append, List.nil_append, List.append_nil]
      repeat (first
        | (refine wpReads_skip (by rfl) ?_; (try simp only [Act.put, List.setIfInBounds_toArray, List.set_cons_zero, List.set_cons_succ]))
        | (refine wpReads_cons ?_ (by rfl) (by rfl) ?_ ?_; rotate_left; (intro wz hz; (try dsimp only at hz); go_simp; try with_reducible rfl); (try simp only [Act.put, List.setIfInBounds_toArray, List.set_cons_zero, List.set_cons_succ]))
        | (refine wpReads_any ?_ (by rfl) ?_ ?_; rotate_left; (intro wz; go_simp; try with_reducible rfl); (try simp only [Act.put, List.setIfInBounds_toArray, List.set_cons_zero, List.set_cons_succ])))
      refine wpReads_nil ?_
      obtain ⟨wd, hwd⟩ : ∃ x, w2.drew = x := ⟨_, rfl⟩
      have HKd := Lib.hid (HK2.out.drewN 1)
      have HXd := Lib.hid (HX2.out.drewN 1)
      change Hid (Kept _ _ _ w2.drew) at HKd
      change Hid (Blk w2.drew _ _ _ _ _) at HXd
      rw [hwd] at HKd HXd ⊢
      clear hwd HK2 HX2 x1 x6
      have HS : Hid (∀ {w' : World} {q' : Col} {C : Nat → Prop}, Turn q2 q' C wd w' → ¬ C (M + 210) → w'.cell? ⟨w.heap.size, 1, none⟩ = some (.int .i64 (nc : Int)) ∧ w'.cell? ⟨w.heap.size, 6, none⟩ = some (.slice ao P.ops.length co)) := Lib.hid fun T hC => by
        have h := HXd.out.turn T hC
        refine ⟨?_, h.cell 6 _ rfl⟩
        rw [← HNC.out]
        exact h.cell 1 _ rfl
      obtain ⟨ao', co', eo, hnone, -, hnews⟩ := HRO.out.below HKd.out.below
      cases eo
      refine wpAnyT_two (i := 2) (k := 5) (by kernel_rfl) ?_ ?_
      · have HNO := Lib.hid hnone
        have HNE := Lib.hid hnews
        clear hnone hnews
        simp only [pickOps, List.flatMap_cons, List.flatMap_nil, List.drop_succ_cons, List.drop_zero, List.take_succ_cons, List.take_zero, List.append_nil]
        go_wp2_with (at_builtin; refine stop_here ?_)
        refine go_on ?_
        refine wpList_app rfl _ _ 28 rfl 0 43 i0 _ 3 24 Try.underlying28 HI.out hz0 hz1 hz2 rfl (.slice none 0 0) 0 [] rfl (World.ownsRow_nil wd 0 43 3) ao P.ops.length co (opsV P.ops) rfl (opsV_len _) HNO.out HNE.out (opsV_one _) (by unfold maxLen; omega) (grow_ok (by omega)) (Nat.zero_le _) ?_
        intro v7 w7 k1 k20 _ k4
        have k2 : wd.grownBy w7 (Value.slice none 0 0).ownBlock := k20
        have hb7 : Below wd.heap.size wd w7 := ((Mods.refl (fun _ => False) wd).grown k2 (fun k hk hlt => by cases hk)).below (Nat.le_refl _) (fun _ _ h => h)
        simp only [Nat.zero_add, List.nil_append] at k1
        have T7 := Turn.of_below q2 (M + 5) hb7
        have O7 : Own w7 (ext q2 wd.heap.size (M + 5)) (M + 5) 43 3 v7 P.ops.length (opsV P.ops) := ⟨k1, fun k hk => by
          rcases k4 with k4 | k4
          · rw [k4] at hk; cases hk
          · rw [k4] at hk; exact ext_new (by have := Option.some.inj hk; omega)⟩
        have K7 := HKd.out.turn T7 (fun h => h)
        have X7 := HXd.out.turn T7 (fun h => h)
        obtain ⟨oa, oc, rfl⟩ := O7.slice
        have S7 := HS.out T7 (fun h => h)
        have Tc := Turn.of_below (ext q2 wd.heap.size (M + 5)) (M + 8) (below_alloc w7 (.cells zs 3))
        have C8 := blk_new (w := w7) (ext q2 wd.heap.size (M + 5)) (M + 8) zs 3
        have S8 := HS.out (T7.trans Tc (fun _ h => h)) (fun h => h)
        have HFIN := Lib.hid (first_fin hM (P := P) (nc := nc) (by rw [HNC.out]; rfl) (K7.turn Tc (fun h => h)) (X7.turn Tc (fun h => h)) (O7.turn Tc (fun h => h)) (by rw [HZ.out]; exact C8))
        have hsz : (w7.alloc (.cells zs 3)).heap.size = w7.heap.size + 1 := by simp
        rw [hsz] at HFIN
        clear T7 O7 K7 X7 Tc C8 k1 k20 k2 hb7 k4 hQ2 hsz
        go_wp2
        refine ⟨by intros; exact S7, ?_⟩
        refine wpAnyT_one (i := 5) (by kernel_rfl) ?_
        simp only [pickOps, List.flatMap_cons, List.flatMap_nil, List.drop_succ_cons, List.drop_zero, List.take_succ_cons, List.take_zero, List.append_nil]
        go_wp2_with fail
        refine ⟨by intros; exact S8, ?_⟩
        refine wpAnyT_list (ks := [6, 7, 8]) (fun _ _ hx h => ⟨hx.cell h.1, hx.cell h.2⟩) (by kernel_rfl) ?_
        simp only [pickOps, List.flatMap_cons, List.flatMap_nil, List.drop_succ_cons, List.drop_zero, List.take_succ_cons, List.take_zero, List.cons_append, List.nil_append, List.append_nil]
        go_wp2
        go_meet
        case rel => exact HFIN.out
      · have Tc := Turn.of_below q2 (M + 8) (below_alloc wd (.cells zs 3))
        have C8 := blk_new (w := wd) q2 (M + 8) zs 3
        have S8 := HS.out Tc (fun h => h)
        have hsz : (wd.alloc (.cells zs 3)).heap.size = wd.heap.size + 1 := by simp
        have hnews : ∀ ad, ao = some ad → ∀ j u, (opsV P.ops)[j]? = some u → (wd.alloc (.cells zs 3)).cell? (ad.add j) = some u := fun ad e j u hu => cell_later (below_alloc wd _) (hnews ad e j u hu)
        have HNO := Lib.hid hnone
        have HNE := Lib.hid hnews
        have HC8 := Lib.hid C8
        have HTc := Lib.hid Tc
        have HS8 := Lib.hid S8
        clear hnone hnews C8 Tc S8
        simp only [pickOps, List.flatMap_cons, List.flatMap_nil, List.drop_succ_cons, List.drop_zero, List.take_succ_cons, List.take_zero, List.append_nil]
        go_wp2_with fail
        refine ⟨by intros; exact HS8.out, ?_⟩
        refine wpAnyT_one (i := 2) (by kernel_rfl) ?_
        simp only [pickOps, List.flatMap_cons, List.flatMap_nil, List.drop_succ_cons, List.drop_zero, List.take_succ_cons, List.take_zero, List.append_nil]
        obtain ⟨we, hwe⟩ : ∃ x, wd.alloc (.cells zs 3) = x := ⟨_, rfl⟩
        rw [hwe] at HNE HC8 HTc HS8 hsz ⊢
        generalize ext q2 wd.heap.size (M + 8) = q8 at *
        clear hwe
        go_wp2_with (at_builtin; refine stop_here ?_)
        refine go_on ?_
        refine wpList_app rfl _ _ 28 rfl 0 43 i0 _ 3 24 Try.underlying28 HI.out hz0 hz1 hz2 rfl (.slice none 0 0) 0 [] rfl (World.ownsRow_nil we 0 43 3) ao P.ops.length co (opsV P.ops) rfl (opsV_len _) HNO.out HNE.out (opsV_one _) (by unfold maxLen; omega) (grow_ok (by omega)) (Nat.zero_le _) ?_
        intro v7 w7 k1 k20 _ k4
        have k2 : we.grownBy w7 (Value.slice none 0 0).ownBlock := k20
        have hb7 : Below we.heap.size we w7 := ((Mods.refl (fun _ => False) we).grown k2 (fun k hk hlt => by cases hk)).below (Nat.le_refl _) (fun _ _ h => h)
        simp only [Nat.zero_add, List.nil_append] at k1
        have T7 := Turn.of_below q8 (M + 5) hb7
        have O7 : Own w7 (ext q8 we.heap.size (M + 5)) (M + 5) 43 3 v7 P.ops.length (opsV P.ops) := ⟨k1, fun k hk => by
          rcases k4 with k4 | k4
          · rw [k4] at hk; cases hk
          · rw [k4] at hk; exact ext_new (by have := Option.some.inj hk; omega)⟩
        obtain ⟨oa, oc, rfl⟩ := O7.slice
        have T78 := HTc.out.trans T7 (fun _ h => h)
        have S7 := HS.out T78 (fun h => h)
        have HFIN := Lib.hid (first_fin hM (P := P) (nc := nc) (by rw [HNC.out]; rfl) (HKd.out.turn T78 (fun h => h)) (HXd.out.turn T78 (fun h => h)) O7 (by rw [HZ.out]; exact HC8.out.turn T7 (fun h => h)))
        clear T7 O7 T78 k1 k20 k2 hb7 k4 hQ2 hsz
        go_wp2
        refine ⟨by intros; exact S7, ?_⟩
        refine wpAnyT_list (ks := [6, 7, 8]) (fun _ _ hx h => ⟨hx.cell h.1, hx.cell h.2⟩) (by kernel_rfl) ?_
        simp only [pickOps, List.flatMap_cons, List.flatMap_nil, List.drop_succ_cons, List.drop_zero, List.take_succ_cons, List.take_zero, List.cons_append, List.nil_append, List.append_nil]
        go_wp2
        go_meet
        case rel => exact HFIN.out
    case rest =>
      obtain ⟨b, q, ov, cb, rfl, K, hX, hB, hO, hC⟩ := hcut.ex
      have hp1 := HP.out.mem
      have hp2 := HP.out.ins
      have hp3 := HP.out.outs
      obtain ⟨nm, hnm⟩ : ∃ n : Nat, P.memory = n := ⟨P.memory.toNat, by omega⟩
      obtain ⟨ni, hni⟩ : ∃ n : Nat, P.ins = n := ⟨P.ins.toNat, by omega⟩
      obtain ⟨no, hno⟩ : ∃ n : Nat, P.outs = n := ⟨P.outs.toNat, by omega⟩
      have hnm2 : nm ≤ 1024 := by omega
      have hni2 : ni ≤ 16 := by omega
      have hno2 : no ≤ 16 := by omega
      have x0 := hX.cell 0 _ rfl
      rw [hnm] at x0
      have mk0 := mk_ints nm (by omega)
      obtain ⟨zm, hzm⟩ : ∃ x, (ivs (List.replicate nm 0)).toArray = x := ⟨_, rfl⟩
      rw [hzm] at mk0
      have c0 := hB.cell 0 _ rfl
      have f0 := hB.frozen 0
      -- the memory
      have Tm := Turn.of_below q (M + 1) (below_alloc wc (.cells zm 3))
      have Bm := blk_new (w := wc) q (M + 1) zm 3
      have c0 := (hB.turn Tm (fun h => h)).cell 0 _ rfl
      have f0 := (hB.turn Tm (fun h => h)).frozen 0
      have S1 := (hB.turn Tm (fun h => h)).set 0 (.slice (some ⟨wc.heap.size, 0, none⟩) nm nm)
      have T1 : Turn q (ext q wc.heap.size (M + 1)) (fun x => x = M) wc _ := (Tm.mono (fun _ h => h.elim)).trans S1.2 (fun _ h => h)
      have K1 := K.turn T1 (by omega)
      have X1 := hX.turn T1 (by omega)
      have M1 := Bm.turn S1.2 (by omega)
      have O1 := hO.turn T1 (by omega)
      have C1 := hC.turn T1 (by omega)
      have B1 := S1.1
      obtain ⟨W, hW⟩ : ∃ x, (wc.alloc (.cells zm 3)).setCell ⟨b, 0, none⟩ (.slice (some ⟨wc.heap.size, 0, none⟩) nm nm) = x := ⟨_, rfl⟩
      obtain ⟨gm, hgm⟩ : ∃ x, wc.heap.size = x := ⟨_, rfl⟩
      rw [hW] at K1 X1 M1 O1 C1 B1
      generalize ext q wc.heap.size (M + 1) = q1 at *
      rw [hgm] at M1 B1
      have HK1 := Lib.hid K1
      have HX1 := Lib.hid X1
      have HM1 := Lib.hid M1
      have HO1 := Lib.hid O1
      have HC1 := Lib.hid C1
      have HB1 := Lib.hid B1
      have HNI := Lib.hid hni
      have HNO := Lib.hid hno
      have HNM := Lib.hid hnm
      have HZM := Lib.hid hzm
      have y2 := X1.cell 2 _ rfl
      have y3 := X1.cell 3 _ rfl
      clear Tm Bm S1 T1 K1 X1 M1 O1 C1 B1 K hX hB hO hC hzm hnm hp1 hp2 hp3
      rw [hgm] at hW
      go_wp2_with fail
      try rw [hW]
      clear hW hgm x0 c0 f0 mk0 hmk
      rw [hni] at y2
      rw [hno] at y3
      have mki := mk_intss ni (by omega)
      have mko := mk_intss no (by omega)
      obtain ⟨zi, hzi⟩ : ∃ x, (List.replicate ni (Value.slice none 0 0)).toArray = x := ⟨_, rfl⟩
      obtain ⟨zo, hzo⟩ : ∃ x, (List.replicate no (Value.slice none 0 0)).toArray = x := ⟨_, rfl⟩
      rw [hzi] at mki
      rw [hzo] at mko
      have HZI := Lib.hid hzi
      have HZO := Lib.hid hzo
      clear hzi hzo hni hno
      go_cut [37] from 37 to 50 (fun _ wx => Second w wx M w.heap.size b P (.slice ap P.parts.length cp) (.slice al P.lines.length cl) (.slice ao P.ops.length co))
      case first =>
        refine wp_region_drift (fun w' => w'.cell? ⟨w.heap.size, 2, none⟩ = some (.int .i64 (ni : Int)) ∧ w'.cell? ⟨w.heap.size, 3, none⟩ = some (.int .i64 (no : Int))) [0, 1, 2, 3, 5, 6, 8, 9, 10] [4, 7, 11] [0, 1, 2, 3, 5, 6] 10 (by kernel_rfl) (by kernel_rfl) rfl ⟨y2, y3⟩ ?_
        intro Q' hQ' hQ2
        simp only [pickOps, List.flatMap_cons, List.flatMap_nil, List.drop_succ_cons, List.drop_zero, List.take_succ_cons, List.take_zero, List.cons_append, List.nil_append, List.append_nil]
        repeat (first
          | (refine wpReads_skip (by rfl) ?_; (try simp only [Act.put, List.setIfInBounds_toArray, List.set_cons_zero, List.set_cons_succ]))
          | (refine wpReads_cons ?_ (by rfl) (by rfl) ?_ ?_; rotate_left; (intro wz hz; (try dsimp only at hz); go_simp; try with_reducible rfl); (try simp only [Act.put, List.setIfInBounds_toArray, List.set_cons_zero, List.set_cons_succ]))
          | (refine wpReads_any ?_ (by rfl) ?_ ?_; rotate_left; (intro wz; go_simp; try with_reducible rfl); (try simp only [Act.put, List.setIfInBounds_toArray, List.set_cons_zero, List.set_cons_succ])))
        refine wpReads_nil ?_
        obtain ⟨wd, hwd⟩ : ∃ x, W.drew = x := ⟨_, rfl⟩
        have HSX : Hid (Six w wd q1 M w.heap.size b gm cb P (.slice ap P.parts.length cp) (.slice al P.lines.length cl) (.slice ao P.ops.length co) ov (.slice none 0 0) (.slice none 0 0)) := Lib.hid (by
          rw [← hwd]
          exact ⟨HK1.out.drewN 1, HX1.out.drewN 1, by rw [HNM.out, Int.toNat_natCast]; exact HB1.out.drewN 1, by rw [HNM.out, Int.toNat_natCast, HZM.out]; exact HM1.out.drewN 1, HO1.out.drewN 1, HC1.out.drewN 1⟩)
        rw [hwd]
        clear hwd HK1 HX1 HB1 HM1 HO1 HC1 y2 y3
        have HS : Hid (∀ {w' : World} {q' : Col} {c2 c3 : Value}, Six w w' q' M w.heap.size b gm cb P (.slice ap P.parts.length cp) (.slice al P.lines.length cl) (.slice ao P.ops.length co) ov c2 c3 → w'.cell? ⟨w.heap.size, 2, none⟩ = some (.int .i64 (ni : Int)) ∧ w'.cell? ⟨w.heap.size, 3, none⟩ = some (.int .i64 (no : Int))) := Lib.hid fun h => by
          rw [← HNI.out, ← HNO.out]
          exact ⟨h.prog.cell 2 _ rfl, h.prog.cell 3 _ rfl⟩
        --REG6
        refine wpAnyT_two (i := 4) (k := 7) (by kernel_rfl) ?_ ?_
        · skip
          have T1 := Turn.of_below q1 (M + 3) (below_alloc wd (.cells zi 37))
          have N1 := Lib.hid (blk_new (w := wd) q1 (M + 3) zi 37)
          have S1 := Lib.hid (HSX.out.turn T1)
          simp only [pickOps, List.flatMap_cons, List.flatMap_nil, List.drop_succ_cons, List.drop_zero, List.take_succ_cons, List.take_zero, List.append_nil]
          go_wp2_with fail
          refine ⟨by intros; exact HS.out S1.out, ?_⟩
          obtain ⟨gf, hgf⟩ : ∃ x, wd.heap.size = x := ⟨_, rfl⟩
          obtain ⟨wa1, hwa1⟩ : ∃ x, wd.alloc (.cells zi 37) = x := ⟨_, rfl⟩
          rw [hwa1] at N1 S1 ⊢
          generalize ext q1 wd.heap.size (M + 3) = qa1 at *
          rw [hgf] at N1 ⊢
          clear T1 hwa1
          have HFD := N1
          refine wpAnyT_later (r := [8, 9, 10]) (n := 6) hQ2 (by kernel_rfl) (HS.out S1.out) ?_
          simp only [pickOps, List.flatMap_cons, List.flatMap_nil, List.drop_succ_cons, List.drop_zero, List.take_succ_cons, List.take_zero, List.cons_append, List.nil_append, List.append_nil]
          repeat (first
            | (refine wpReads_skip (by rfl) ?_; (try simp only [Act.put, List.setIfInBounds_toArray, List.set_cons_zero, List.set_cons_succ]))
            | (refine wpReads_cons ?_ (by rfl) (by rfl) ?_ ?_; rotate_left; (intro wz hz; (try dsimp only at hz); go_simp; try with_reducible rfl); (try simp only [Act.put, List.setIfInBounds_toArray, List.set_cons_zero, List.set_cons_succ]))
            | (refine wpReads_any ?_ (by rfl) ?_ ?_; rotate_left; (intro wz; go_simp; try with_reducible rfl); (try simp only [Act.put, List.setIfInBounds_toArray, List.set_cons_zero, List.set_cons_succ])))
          refine wpReads_nil ?_
          refine wpAnyT_two (i := 7) (k := 11) (by kernel_rfl) ?_ ?_
          · skip
            have T2 := Turn.of_below qa1 (M + 4) (below_alloc wa1 (.cells zo 37))
            have N2 := Lib.hid (blk_new (w := wa1) qa1 (M + 4) zo 37)
            have S2 := Lib.hid (S1.out.turn T2)
            replace HFD := Lib.hid (HFD.out.turn T2 (fun h => h))
            simp only [pickOps, List.flatMap_cons, List.flatMap_nil, List.drop_succ_cons, List.drop_zero, List.take_succ_cons, List.take_zero, List.append_nil]
            go_wp2_with fail
            refine ⟨by intros; exact HS.out S2.out, ?_⟩
            obtain ⟨go, hgo⟩ : ∃ x, wa1.heap.size = x := ⟨_, rfl⟩
            obtain ⟨wa2, hwa2⟩ : ∃ x, wa1.alloc (.cells zo 37) = x := ⟨_, rfl⟩
            rw [hwa2] at N2 S2 HFD ⊢
            generalize ext qa1 wa1.heap.size (M + 4) = qa2 at *
            rw [hgo] at N2 ⊢
            clear T2 hwa2
            have HOU := N2
            refine wpAnyT_one (i := 11) (by kernel_rfl) ?_
            have S3a := S2.out.set2 hM (.slice (some ⟨gf, 0, none⟩) ni ni)
            have S3 := Lib.hid S3a.1
            have f3 := S2.out.blk.frozen 2
            have d3 := S2.out.blk.cell 2 _ rfl
            replace HFD := Lib.hid (HFD.out.turn S3a.2 (by omega))
            replace HOU := Lib.hid (HOU.out.turn S3a.2 (by omega))
            clear S3a
            simp only [pickOps, List.flatMap_cons, List.flatMap_nil, List.drop_succ_cons, List.drop_zero, List.take_succ_cons, List.take_zero, List.append_nil]
            go_wp2_with fail
            refine ⟨by intros; exact HS.out S3.out, ?_⟩
            obtain ⟨wa3, hwa3⟩ : ∃ x, wa2.setCell ⟨b, 2, none⟩ (.slice (some ⟨gf, 0, none⟩) ni ni) = x := ⟨_, rfl⟩
            rw [hwa3] at S3 HFD HOU ⊢
            clear hwa3 f3 d3
            clear hQ2
            refine wpAnyT_list (ks := [12, 13, 14, 15]) (fun _ _ hx h => ⟨hx.cell h.1, hx.cell h.2⟩) (by kernel_rfl) ?_
            simp only [pickOps, List.flatMap_cons, List.flatMap_nil, List.drop_succ_cons, List.drop_zero, List.take_succ_cons, List.take_zero, List.cons_append, List.nil_append, List.append_nil]
            have F9a := S3.out.set3 hM (.slice (some ⟨go, 0, none⟩) no no)
            have f9 := S3.out.blk.frozen 3
            have d9 := S3.out.blk.cell 3 _ rfl
            have hfin := second_fin HP.out F9a.1.kept F9a.1.prog (gf := gf) (go := go) (by have h := F9a.1.blk; rw [HNI.out, HNO.out, Int.toNat_natCast, Int.toNat_natCast]; exact h) F9a.1.mem (by rw [HNI.out, Int.toNat_natCast, HZI.out]; exact HFD.out.turn F9a.2 (by omega)) (by rw [HNO.out, Int.toNat_natCast, HZO.out]; exact HOU.out.turn F9a.2 (by omega)) F9a.1.ops F9a.1.cs
            have HFIN := Lib.hid hfin
            clear hfin F9a
            go_wp2
            go_meet
            case rel => exact HFIN.out
          · skip
            have S2a := S1.out.set2 hM (.slice (some ⟨gf, 0, none⟩) ni ni)
            have S2 := Lib.hid S2a.1
            have f2 := S1.out.blk.frozen 2
            have d2 := S1.out.blk.cell 2 _ rfl
            replace HFD := Lib.hid (HFD.out.turn S2a.2 (by omega))
            clear S2a
            simp only [pickOps, List.flatMap_cons, List.flatMap_nil, List.drop_succ_cons, List.drop_zero, List.take_succ_cons, List.take_zero, List.append_nil]
            go_wp2_with fail
            refine ⟨by intros; exact HS.out S2.out, ?_⟩
            obtain ⟨wa2, hwa2⟩ : ∃ x, wa1.setCell ⟨b, 2, none⟩ (.slice (some ⟨gf, 0, none⟩) ni ni) = x := ⟨_, rfl⟩
            rw [hwa2] at S2 HFD ⊢
            clear hwa2 f2 d2
            refine wpAnyT_one (i := 7) (by kernel_rfl) ?_
            have T3 := Turn.of_below qa1 (M + 4) (below_alloc wa2 (.cells zo 37))
            have N3 := Lib.hid (blk_new (w := wa2) qa1 (M + 4) zo 37)
            have S3 := Lib.hid (S2.out.turn T3)
            replace HFD := Lib.hid (HFD.out.turn T3 (fun h => h))
            simp only [pickOps, List.flatMap_cons, List.flatMap_nil, List.drop_succ_cons, List.drop_zero, List.take_succ_cons, List.take_zero, List.append_nil]
            go_wp2_with fail
            refine ⟨by intros; exact HS.out S3.out, ?_⟩
            obtain ⟨go, hgo⟩ : ∃ x, wa2.heap.size = x := ⟨_, rfl⟩
            obtain ⟨wa3, hwa3⟩ : ∃ x, wa2.alloc (.cells zo 37) = x := ⟨_, rfl⟩
            rw [hwa3] at N3 S3 HFD ⊢
            generalize ext qa1 wa2.heap.size (M + 4) = qa3 at *
            rw [hgo] at N3 ⊢
            clear T3 hwa3
            have HOU := N3
            clear hQ2
            refine wpAnyT_list (ks := [12, 13, 14, 15]) (fun _ _ hx h => ⟨hx.cell h.1, hx.cell h.2⟩) (by kernel_rfl) ?_
            simp only [pickOps, List.flatMap_cons, List.flatMap_nil, List.drop_succ_cons, List.drop_zero, List.take_succ_cons, List.take_zero, List.cons_append, List.nil_append, List.append_nil]
            have F9a := S3.out.set3 hM (.slice (some ⟨go, 0, none⟩) no no)
            have f9 := S3.out.blk.frozen 3
            have d9 := S3.out.blk.cell 3 _ rfl
            have hfin := second_fin HP.out F9a.1.kept F9a.1.prog (gf := gf) (go := go) (by have h := F9a.1.blk; rw [HNI.out, HNO.out, Int.toNat_natCast, Int.toNat_natCast]; exact h) F9a.1.mem (by rw [HNI.out, Int.toNat_natCast, HZI.out]; exact HFD.out.turn F9a.2 (by omega)) (by rw [HNO.out, Int.toNat_natCast, HZO.out]; exact HOU.out.turn F9a.2 (by omega)) F9a.1.ops F9a.1.cs
            have HFIN := Lib.hid hfin
            clear hfin F9a
            go_wp2
            go_meet
            case rel => exact HFIN.out
        · skip
          have T1 := Turn.of_below q1 (M + 4) (below_alloc wd (.cells zo 37))
          have N1 := Lib.hid (blk_new (w := wd) q1 (M + 4) zo 37)
          have S1 := Lib.hid (HSX.out.turn T1)
          simp only [pickOps, List.flatMap_cons, List.flatMap_nil, List.drop_succ_cons, List.drop_zero, List.take_succ_cons, List.take_zero, List.append_nil]
          go_wp2_with fail
          refine ⟨by intros; exact HS.out S1.out, ?_⟩
          obtain ⟨go, hgo⟩ : ∃ x, wd.heap.size = x := ⟨_, rfl⟩
          obtain ⟨wa1, hwa1⟩ : ∃ x, wd.alloc (.cells zo 37) = x := ⟨_, rfl⟩
          rw [hwa1] at N1 S1 ⊢
          generalize ext q1 wd.heap.size (M + 4) = qa1 at *
          rw [hgo] at N1 ⊢
          clear T1 hwa1
          have HOU := N1
          refine wpAnyT_one (i := 4) (by kernel_rfl) ?_
          have T2 := Turn.of_below qa1 (M + 3) (below_alloc wa1 (.cells zi 37))
          have N2 := Lib.hid (blk_new (w := wa1) qa1 (M + 3) zi 37)
          have S2 := Lib.hid (S1.out.turn T2)
          replace HOU := Lib.hid (HOU.out.turn T2 (fun h => h))
          simp only [pickOps, List.flatMap_cons, List.flatMap_nil, List.drop_succ_cons, List.drop_zero, List.take_succ_cons, List.take_zero, List.append_nil]
          go_wp2_with fail
          refine ⟨by intros; exact HS.out S2.out, ?_⟩
          obtain ⟨gf, hgf⟩ : ∃ x, wa1.heap.size = x := ⟨_, rfl⟩
          obtain ⟨wa2, hwa2⟩ : ∃ x, wa1.alloc (.cells zi 37) = x := ⟨_, rfl⟩
          rw [hwa2] at N2 S2 HOU ⊢
          generalize ext qa1 wa1.heap.size (M + 3) = qa2 at *
          rw [hgf] at N2 ⊢
          clear T2 hwa2
          have HFD := N2
          refine wpAnyT_later (r := [8, 9, 10]) (n := 5) hQ2 (by kernel_rfl) (HS.out S2.out) ?_
          simp only [pickOps, List.flatMap_cons, List.flatMap_nil, List.drop_succ_cons, List.drop_zero, List.take_succ_cons, List.take_zero, List.cons_append, List.nil_append, List.append_nil]
          repeat (first
            | (refine wpReads_skip (by rfl) ?_; (try simp only [Act.put, List.setIfInBounds_toArray, List.set_cons_zero, List.set_cons_succ]))
            | (refine wpReads_cons ?_ (by rfl) (by rfl) ?_ ?_; rotate_left; (intro wz hz; (try dsimp only at hz); go_simp; try with_reducible rfl); (try simp only [Act.put, List.setIfInBounds_toArray, List.set_cons_zero, List.set_cons_succ]))
            | (refine wpReads_any ?_ (by rfl) ?_ ?_; rotate_left; (intro wz; go_simp; try with_reducible rfl); (try simp only [Act.put, List.setIfInBounds_toArray, List.set_cons_zero, List.set_cons_succ])))
          refine wpReads_nil ?_
          refine wpAnyT_one (i := 11) (by kernel_rfl) ?_
          have S3a := S2.out.set2 hM (.slice (some ⟨gf, 0, none⟩) ni ni)
          have S3 := Lib.hid S3a.1
          have f3 := S2.out.blk.frozen 2
          have d3 := S2.out.blk.cell 2 _ rfl
          replace HFD := Lib.hid (HFD.out.turn S3a.2 (by omega))
          replace HOU := Lib.hid (HOU.out.turn S3a.2 (by omega))
          clear S3a
          simp only [pickOps, List.flatMap_cons, List.flatMap_nil, List.drop_succ_cons, List.drop_zero, List.take_succ_cons, List.take_zero, List.append_nil]
          go_wp2_with fail
          refine ⟨by intros; exact HS.out S3.out, ?_⟩
          obtain ⟨wa3, hwa3⟩ : ∃ x, wa2.setCell ⟨b, 2, none⟩ (.slice (some ⟨gf, 0, none⟩) ni ni) = x := ⟨_, rfl⟩
          rw [hwa3] at S3 HFD HOU ⊢
          clear hwa3 f3 d3
          clear hQ2
          refine wpAnyT_list (ks := [12, 13, 14, 15]) (fun _ _ hx h => ⟨hx.cell h.1, hx.cell h.2⟩) (by kernel_rfl) ?_
          simp only [pickOps, List.flatMap_cons, List.flatMap_nil, List.drop_succ_cons, List.drop_zero, List.take_succ_cons, List.take_zero, List.cons_append, List.nil_append, List.append_nil]
          have F9a := S3.out.set3 hM (.slice (some ⟨go, 0, none⟩) no no)
          have f9 := S3.out.blk.frozen 3
          have d9 := S3.out.blk.cell 3 _ rfl
          have hfin := second_fin HP.out F9a.1.kept F9a.1.prog (gf := gf) (go := go) (by have h := F9a.1.blk; rw [HNI.out, HNO.out, Int.toNat_natCast, Int.toNat_natCast]; exact h) F9a.1.mem (by rw [HNI.out, Int.toNat_natCast, HZI.out]; exact HFD.out.turn F9a.2 (by omega)) (by rw [HNO.out, Int.toNat_natCast, HZO.out]; exact HOU.out.turn F9a.2 (by omega)) F9a.1.ops F9a.1.cs
          have HFIN := Lib.hid hfin
          clear hfin F9a
          go_wp2
          go_meet
          case rel => exact HFIN.out
        --ENDREG6
      case rest =>
        obtain ⟨q2, v2, K2, X2, M2⟩ := hcut.ex
        have HK2 := Lib.hid K2
        have HX2 := Lib.hid X2
        have HM2 := Lib.hid M2
        have z5 := X2.cell 5 _ rfl
        have hnl := HP.out.nlines
        clear K2 X2 M2 HK1 HX1 HB1 HM1 HO1 HC1 HZI HZO HZM HZ mki mko y2 y3 hni2 hno2 hnm2 hnc2
        go_wp2_with fail
        clear z5
        go_loopw [54] (fun i wl => ∃ (j : Nat) (q : Col) (v : MVals), j ≤ P.lines.length ∧ i = .int .i64 j ∧ Kept w.heap.size q w wl ∧ Blk wl q (M + 210) w.heap.size 30 #[.int .i64 P.memory, .int .i64 P.counters, .int .i64 P.ins, .int .i64 P.outs, .slice ap P.parts.length cp, .slice al P.lines.length cl, .slice ao P.ops.length co] ∧ MachAt wl q M b (firstP P 0) (lineM P j) v) (fun i _ => P.lines.length - (intOf i).toNat)
        case atStart => exact ⟨0, q2, v2, Nat.zero_le _, rfl, HK2.out, HX2.out, HM2.out⟩
        case round =>
          clear HK2 HX2 HM2
          obtain ⟨j, q, v, hj, rfl, hK, hX, hM5⟩ := hrel
          have HK5 := Lib.hid hK
          have HX5 := Lib.hid hX
          have HM5 := Lib.hid hM5
          clear hK hX hM5
          by_cases hlt : j < P.lines.length
          · have hlti : (j : Int) < P.lines.length := by omega
            obtain ⟨b0, off, rfl, hcap, hb0, hrec⟩ := (HRL.out.below (tail_steady _ _) HK5.out.below).at (by omega)
            obtain ⟨cs, hcs, hPR, hcl⟩ := hrec j hlt
            obtain ⟨y, rfl, hst⟩ := hPR
            have c0 := hcl 0 (by omega)
            have c1 := hcl 1 (by omega)
            have c2 := hcl 2 (by omega)
            simp [lineHd] at c0 c1 c2
            have hcapi : (P.lines.length : Int) ≤ cl := by omega
            obtain ⟨sa, sc, hxs⟩ := Ints.slice hst
            subst hxs
            have hsucc := newMem_succ hlt
            have hml := newMem_len HP.out j hj
            have hin := HP.out.lines _ (List.getElem_mem hlt)
            have hlm : lineM P (j + 1) = { lineM P j with mem := layS (newMem P j) P.lines[j], lines := (P.lines.take j).map newLine ++ [newLine P.lines[j]] } := by
              unfold lineM
              rw [hsucc, List.take_succ_eq_append_getElem hlt, List.map_append]
              rfl
            have HLM := Lib.hid hlm
            have HST := Lib.hid hst
            clear hcl hcs hrec hst hsucc hlm
            obtain ⟨⟨ba, bs, st⟩, hae⟩ : ∃ x, P.lines[j] = x := ⟨_, rfl⟩
            rw [hae] at c0 c1 c2 HST HLM hin
            dsimp only at c0 c1 c2 HST hin
            obtain ⟨bn, rfl⟩ : ∃ n : Nat, ba = n := ⟨ba.toNat, by omega⟩
            obtain ⟨sn, rfl⟩ : ∃ n : Nat, bs = n := ⟨bs.toNat, by omega⟩
            clear hae
            -- the line, boxed
            have Ty := Turn.of_below q (M + 212) (below_alloc wr (.cells #[.int .i64 (bn : Int), .int .i64 (sn : Int), .slice sa st.length sc] 76))
            have Yb := blk_new (w := wr) q (M + 212) #[.int .i64 (bn : Int), .int .i64 (sn : Int), .slice sa st.length sc] 76
            have My := HM5.out.turn Ty (fun _ h => h.elim)
            have Xy := HX5.out.turn Ty (fun h => h)
            have Ky := HK5.out.turn Ty (fun h => h)
            have hSy := HST.out.below (Ty.below (Nat.le_refl _) (fun _ _ h => h))
            obtain ⟨wy, hwy⟩ : ∃ x, wr.alloc (.cells #[.int .i64 (bn : Int), .int .i64 (sn : Int), .slice sa st.length sc] 76) = x := ⟨_, rfl⟩
            obtain ⟨Y, hY⟩ : ∃ x, wr.heap.size = x := ⟨_, rfl⟩
            rw [hwy] at My Xy Ky Yb hSy
            generalize ext q wr.heap.size (M + 212) = qy at *
            rw [hY] at Yb
            have hmy : Blk wy.drew qy (M + 1) v.mem 3 (ivs (newMem P j)).toArray := My.mem
            have HCP := copy_lay (w := wy.drew) (base := bn) hmy (hSy.drewN 1) (by rw [hml]; omega) 3
            rw [hml, HNM.out, Int.toNat_natCast] at HCP
            have Mz := (My.drewN 1).setMemAll (l := (newMem P j).take bn ++ st ++ (newMem P j).drop (bn + st.length)) HCP.2.2 HCP.2.1 (by show _ = (newMem P j).length; rw [List.length_append, List.length_append, List.length_take, List.length_drop]; omega)
            have Xz := (Xy.drewN 1).turn HCP.2.2 (by omega)
            have Yz := (Yb.drewN 1).turn HCP.2.2 (by omega)
            have Kz := (Ky.drewN 1).turn HCP.2.2 (by omega)
            have hcopy := HCP.1
            obtain ⟨wz, hwz⟩ : ∃ x, wy.drew.setRow v.mem (ivs ((newMem P j).take bn ++ st ++ (newMem P j).drop (bn + st.length))).toArray = x := ⟨_, rfl⟩
            change MachAt (wy.drew.setRow _ _) _ _ _ _ _ _ at Mz
            rw [hwz] at hcopy Mz Xz Yz Kz
            have c00 := My.cell 0 (u := .slice (some ⟨v.mem, 0, none⟩) (newMem P j).length (newMem P j).length) (by unfold machV; rfl)
            rw [hml, HNM.out, Int.toNat_natCast] at c00
            have y0 := Yb.cell 0 _ rfl
            have y1 := Yb.cell 1 _ rfl
            have y2 := Yb.cell 2 _ rfl
            have HMz := Lib.hid Mz
            have HXz := Lib.hid Xz
            have HYz := Lib.hid Yz
            have HKz := Lib.hid Kz
            have hbni : (bn : Int) ≤ nm := by have := HNM.out; omega
            have hsl : st.length ≤ 1024 := by have := HNM.out; have := HP.out.mem; omega
            clear Ty My Xy Ky hSy Yb hmy HCP Mz Xz Yz Kz hwz hml hin HST
            have hll : (lineM P j).lines.length = j := by
              show ((P.lines.take j).map newLine).length = j
              rw [List.length_map, List.length_take]
              omega
            have hrow := HMz.out.lines
            obtain ⟨la, lc, elv⟩ := hrow.slice
            change Own wz qy (M + 2) _ 4 v.lines (lineM P j).lines.length (linesV (lineM P j).lines) at hrow
            change v.lines = .slice la (lineM P j).lines.length lc at elv
            rw [hll] at hrow elv
            rw [elv] at hrow
            have HROW := Lib.hid hrow
            have HELV := Lib.hid elv
            have z1 := HMz.out.cell 1 (u := v.lines) (by unfold machV; rfl)
            rw [elv] at z1
            have yz0 := HYz.out.cell 0 _ rfl
            have yz1 := HYz.out.cell 1 _ rfl
            have yz2 := HYz.out.cell 2 _ rfl
            have HLL := Lib.hid hll
            clear hrow elv hll
            obtain ⟨i9, hi9, iz0, iz1, iz2⟩ := info_parts info_line4
            have HI9 := Lib.hid hi9
            clear hi9
            by_cases hcn : nm = bn
            · rw [if_pos hcn] at hcopy
              subst hcn
              rw [Nat.sub_self] at hcopy
              go_wp2_with fail
              refine wp_region_lex (fun w' => w'.cell? ⟨b, 0, none⟩ = some (.slice (some ⟨v.mem, 0, none⟩) nm nm) ∧ w'.cell? ⟨Y, 0, none⟩ = some (.int .i64 (nm : Int)) ∧ w'.cell? ⟨Y, 2, none⟩ = some (.slice sa st.length sc)) [0, 1, 2, 3, 4, 5, 6, 7, 8, 9, 10] [11] (by kernel_rfl) (by kernel_rfl) rfl (fun _ _ hx h => ⟨hx.cell h.1, hx.cell h.2.1, hx.cell h.2.2⟩) ⟨c00, y0, y2⟩ ?_
              intro Q' hQ'
              simp only [pickOps, List.flatMap_cons, List.flatMap_nil, List.drop_succ_cons, List.drop_zero, List.take_succ_cons, List.take_zero, List.cons_append, List.nil_append, List.append_nil]
              repeat (first
                | (refine wpReads_skip (by rfl) ?_; (try simp only [Act.put, List.setIfInBounds_toArray, List.set_cons_zero, List.set_cons_succ]))
                | (refine wpReads_cons ?_ (by rfl) (by rfl) ?_ ?_; rotate_left; (intro wz hz; (try dsimp only at hz); go_simp; try with_reducible rfl); (try simp only [Act.put, List.setIfInBounds_toArray, List.set_cons_zero, List.set_cons_succ]))
                | (refine wpReads_any ?_ (by rfl) ?_ ?_; rotate_left; (intro wz; go_simp; try with_reducible rfl); (try simp only [Act.put, List.setIfInBounds_toArray, List.set_cons_zero, List.set_cons_succ])))
              refine wpReads_nil ?_
              go_wp2_with fail
              refine wp_region_lex (fun w' => w'.cell? ⟨b, 1, none⟩ = some (.slice la j lc) ∧ w'.cell? ⟨Y, 0, none⟩ = some (.int .i64 (nm : Int)) ∧ w'.cell? ⟨Y, 1, none⟩ = some (.int .i64 sn) ∧ w'.cell? ⟨Y, 2, none⟩ = some (.slice sa st.length sc)) [0, 1, 2, 3, 4, 5, 6, 7, 8, 9, 10, 11] [12, 13, 14, 15, 16, 17] (by kernel_rfl) (by kernel_rfl) rfl (fun _ _ hx h => ⟨hx.cell h.1, hx.cell h.2.1, hx.cell h.2.2.1, hx.cell h.2.2.2⟩) ⟨z1, yz0, yz1, yz2⟩ ?_
              intro Q' hQ'
              simp only [pickOps, List.flatMap_cons, List.flatMap_nil, List.drop_succ_cons, List.drop_zero, List.take_succ_cons, List.take_zero, List.cons_append, List.nil_append, List.append_nil]
              repeat (first
                | (refine wpReads_skip (by rfl) ?_; (try simp only [Act.put, List.setIfInBounds_toArray, List.set_cons_zero, List.set_cons_succ]))
                | (refine wpReads_cons ?_ (by rfl) (by rfl) ?_ ?_; rotate_left; (intro wz hz; (try dsimp only at hz); go_simp; try with_reducible rfl); (try simp only [Act.put, List.setIfInBounds_toArray, List.set_cons_zero, List.set_cons_succ]))
                | (refine wpReads_any ?_ (by rfl) ?_ ?_; rotate_left; (intro wz; go_simp; try with_reducible rfl); (try simp only [Act.put, List.setIfInBounds_toArray, List.set_cons_zero, List.set_cons_succ])))
              refine wpReads_nil ?_
              go_wp2_with (at_builtin; refine stop_here ?_)
              refine go_on ?_
              refine wpList_app rfl _ _ 65 rfl 0 78 i9 _ 4 32 Try.underlying65 HI9.out iz0 iz1 iz2 rfl (.slice la j lc) j _ rfl (HROW.out.1.alloc (w := wz.drew) _) (some ⟨wz.heap.size, 0, none⟩) 1 1 [.int .i64 (nm : Int), .int .i64 (sn : Int), .int .i64 0, .int .i64 (st.length : Int)] rfl rfl (fun h => by cases h) (news_at (w := wz.drew) (n := wz.heap.size) rfl [.int .i64 (nm : Int), .int .i64 (sn : Int), .int .i64 0, .int .i64 (st.length : Int)] 78) (by simp [Value.oneCell']) (by unfold maxLen; omega) (grow_ok (by omega)) (Nat.zero_le _) ?_
              intro v7 w7 k1 k20 _ k4
              have k2 : (wz.drew.alloc (.cells #[.int .i64 (nm : Int), .int .i64 (sn : Int), .int .i64 0, .int .i64 (st.length : Int)] 78)).grownBy w7 (Value.slice la j lc).ownBlock := k20
              have hm7 : Mods (fun g => (Value.slice la j lc).ownBlock = some g) wz.drew w7 := ((Mods.refl _ wz.drew).alloc _).grown k2 (fun g hg _ => hg)
              have T7 : Turn qy (ext qy wz.drew.heap.size (M + 2)) (fun x => x = M + 2) wz.drew w7 := Turn.of_mods qy (M + 2) hm7 (fun g _ hg => HROW.out.2 g hg)
              have hrow7 : Own w7 (ext qy wz.drew.heap.size (M + 2)) (M + 2) 78 4 v7 (j + 1) (linesV (lineM P j).lines ++ [.int .i64 (nm : Int), .int .i64 (sn : Int), .int .i64 0, .int .i64 (st.length : Int)]) := ⟨k1, fun g hg => by
                rcases k4 with k4 | k4
                · rw [k4] at hg
                  exact (ext_old (HROW.out.1.lt g hg).2).trans (HROW.out.2 g hg)
                · rw [k4] at hg
                  have e := Option.some.inj hg
                  simp at e
                  exact ext_new (by simp; omega)⟩
              have hle : linesV (lineM P j).lines ++ [.int .i64 (nm : Int), .int .i64 (sn : Int), .int .i64 0, .int .i64 (st.length : Int)] = linesV ((P.lines.take j).map newLine ++ [newLine ⟨(nm : Int), sn, st⟩]) := by
                unfold linesV
                rw [List.flatMap_append]
                simp [lineV, newLine, lineM]
              have hlen : ((P.lines.take j).map newLine ++ [newLine ⟨(nm : Int), sn, st⟩]).length = j + 1 := by
                have := HLL.out
                change ((P.lines.take j).map newLine).length = j at this
                rw [List.length_append, this]
                rfl
              rw [hle] at hrow7
              have MM := (HMz.out.drewN 1).setLines (l := (P.lines.take j).map newLine ++ [newLine ⟨(nm : Int), sn, st⟩]) (lv := v7) T7 (by rw [hlen]; exact hrow7)
              have hfr := (HMz.out.blk.turn ((Turn.refl qy (fun _ => False) _).drewN 1) (fun h => h)).turn T7 (by omega)
              have e1 := hfr.cell 1 v.lines (by simp [machV])
              have f1 := hfr.frozen 1
              have T9 := ((Turn.refl qy (Mine M) wz).drewN 1).trans MM.2 (fun _ h => h)
              have HKN := Lib.hid (HKz.out.turn T9 (by unfold Mine; omega))
              have HXN := Lib.hid (HXz.out.turn T9 (notMine (by omega)))
              have HMN : Hid (MachAt (w7.setCell ⟨b, 1, none⟩ v7) (ext qy wz.drew.heap.size (M + 2)) M b (firstP P 0) (lineM P (j + 1)) { v with lines := v7 }) := Lib.hid (by rw [HLM.out]; exact MM.1)
              obtain ⟨sp7, cp7, rfl⟩ := hrow7.slice
              clear k1 k20 k2 hm7 T7 hrow7 hle hlen MM hfr T9 k4
              go_wp2
              go_roundw
              case rel => exact ⟨j + 1, _, _, hlt, by go_num, HKN.out, HXN.out, HMN.out⟩
              case measure => simp [intOf]; omega
            · rw [if_neg hcn] at hcopy
              go_wp2_with fail
              refine wp_region_lex (fun w' => w'.cell? ⟨b, 0, none⟩ = some (.slice (some ⟨v.mem, 0, none⟩) nm nm) ∧ w'.cell? ⟨Y, 0, none⟩ = some (.int .i64 (bn : Int)) ∧ w'.cell? ⟨Y, 2, none⟩ = some (.slice sa st.length sc)) [0, 1, 2, 3, 4, 5, 6, 7, 8, 9, 10] [11] (by kernel_rfl) (by kernel_rfl) rfl (fun _ _ hx h => ⟨hx.cell h.1, hx.cell h.2.1, hx.cell h.2.2⟩) ⟨c00, y0, y2⟩ ?_
              intro Q' hQ'
              simp only [pickOps, List.flatMap_cons, List.flatMap_nil, List.drop_succ_cons, List.drop_zero, List.take_succ_cons, List.take_zero, List.cons_append, List.nil_append, List.append_nil]
              repeat (first
                | (refine wpReads_skip (by rfl) ?_; (try simp only [Act.put, List.setIfInBounds_toArray, List.set_cons_zero, List.set_cons_succ]))
                | (refine wpReads_cons ?_ (by rfl) (by rfl) ?_ ?_; rotate_left; (intro wz hz; (try dsimp only at hz); go_simp; try with_reducible rfl); (try simp only [Act.put, List.setIfInBounds_toArray, List.set_cons_zero, List.set_cons_succ]))
                | (refine wpReads_any ?_ (by rfl) ?_ ?_; rotate_left; (intro wz; go_simp; try with_reducible rfl); (try simp only [Act.put, List.setIfInBounds_toArray, List.set_cons_zero, List.set_cons_succ])))
              refine wpReads_nil ?_
              go_wp2_with fail
              refine wp_region_lex (fun w' => w'.cell? ⟨b, 1, none⟩ = some (.slice la j lc) ∧ w'.cell? ⟨Y, 0, none⟩ = some (.int .i64 (bn : Int)) ∧ w'.cell? ⟨Y, 1, none⟩ = some (.int .i64 sn) ∧ w'.cell? ⟨Y, 2, none⟩ = some (.slice sa st.length sc)) [0, 1, 2, 3, 4, 5, 6, 7, 8, 9, 10, 11] [12, 13, 14, 15, 16, 17] (by kernel_rfl) (by kernel_rfl) rfl (fun _ _ hx h => ⟨hx.cell h.1, hx.cell h.2.1, hx.cell h.2.2.1, hx.cell h.2.2.2⟩) ⟨z1, yz0, yz1, yz2⟩ ?_
              intro Q' hQ'
              simp only [pickOps, List.flatMap_cons, List.flatMap_nil, List.drop_succ_cons, List.drop_zero, List.take_succ_cons, List.take_zero, List.cons_append, List.nil_append, List.append_nil]
              repeat (first
                | (refine wpReads_skip (by rfl) ?_; (try simp only [Act.put, List.setIfInBounds_toArray, List.set_cons_zero, List.set_cons_succ]))
                | (refine wpReads_cons ?_ (by rfl) (by rfl) ?_ ?_; rotate_left; (intro wz hz; (try dsimp only at hz); go_simp; try with_reducible rfl); (try simp only [Act.put, List.setIfInBounds_toArray, List.set_cons_zero, List.set_cons_succ]))
                | (refine wpReads_any ?_ (by rfl) ?_ ?_; rotate_left; (intro wz; go_simp; try with_reducible rfl); (try simp only [Act.put, List.setIfInBounds_toArray, List.set_cons_zero, List.set_cons_succ])))
              refine wpReads_nil ?_
              go_wp2_with (at_builtin; refine stop_here ?_)
              refine go_on ?_
              refine wpList_app rfl _ _ 65 rfl 0 78 i9 _ 4 32 Try.underlying65 HI9.out iz0 iz1 iz2 rfl (.slice la j lc) j _ rfl (HROW.out.1.alloc (w := wz.drew) _) (some ⟨wz.heap.size, 0, none⟩) 1 1 [.int .i64 (bn : Int), .int .i64 (sn : Int), .int .i64 0, .int .i64 (st.length : Int)] rfl rfl (fun h => by cases h) (news_at (w := wz.drew) (n := wz.heap.size) rfl [.int .i64 (bn : Int), .int .i64 (sn : Int), .int .i64 0, .int .i64 (st.length : Int)] 78) (by simp [Value.oneCell']) (by unfold maxLen; omega) (grow_ok (by omega)) (Nat.zero_le _) ?_
              intro v7 w7 k1 k20 _ k4
              have k2 : (wz.drew.alloc (.cells #[.int .i64 (bn : Int), .int .i64 (sn : Int), .int .i64 0, .int .i64 (st.length : Int)] 78)).grownBy w7 (Value.slice la j lc).ownBlock := k20
              have hm7 : Mods (fun g => (Value.slice la j lc).ownBlock = some g) wz.drew w7 := ((Mods.refl _ wz.drew).alloc _).grown k2 (fun g hg _ => hg)
              have T7 : Turn qy (ext qy wz.drew.heap.size (M + 2)) (fun x => x = M + 2) wz.drew w7 := Turn.of_mods qy (M + 2) hm7 (fun g _ hg => HROW.out.2 g hg)
              have hrow7 : Own w7 (ext qy wz.drew.heap.size (M + 2)) (M + 2) 78 4 v7 (j + 1) (linesV (lineM P j).lines ++ [.int .i64 (bn : Int), .int .i64 (sn : Int), .int .i64 0, .int .i64 (st.length : Int)]) := ⟨k1, fun g hg => by
                rcases k4 with k4 | k4
                · rw [k4] at hg
                  exact (ext_old (HROW.out.1.lt g hg).2).trans (HROW.out.2 g hg)
                · rw [k4] at hg
                  have e := Option.some.inj hg
                  simp at e
                  exact ext_new (by simp; omega)⟩
              have hle : linesV (lineM P j).lines ++ [.int .i64 (bn : Int), .int .i64 (sn : Int), .int .i64 0, .int .i64 (st.length : Int)] = linesV ((P.lines.take j).map newLine ++ [newLine ⟨(bn : Int), sn, st⟩]) := by
                unfold linesV
                rw [List.flatMap_append]
                simp [lineV, newLine, lineM]
              have hlen : ((P.lines.take j).map newLine ++ [newLine ⟨(bn : Int), sn, st⟩]).length = j + 1 := by
                have := HLL.out
                change ((P.lines.take j).map newLine).length = j at this
                rw [List.length_append, this]
                rfl
              rw [hle] at hrow7
              have MM := (HMz.out.drewN 1).setLines (l := (P.lines.take j).map newLine ++ [newLine ⟨(bn : Int), sn, st⟩]) (lv := v7) T7 (by rw [hlen]; exact hrow7)
              have hfr := (HMz.out.blk.turn ((Turn.refl qy (fun _ => False) _).drewN 1) (fun h => h)).turn T7 (by omega)
              have e1 := hfr.cell 1 v.lines (by simp [machV])
              have f1 := hfr.frozen 1
              have T9 := ((Turn.refl qy (Mine M) wz).drewN 1).trans MM.2 (fun _ h => h)
              have HKN := Lib.hid (HKz.out.turn T9 (by unfold Mine; omega))
              have HXN := Lib.hid (HXz.out.turn T9 (notMine (by omega)))
              have HMN : Hid (MachAt (w7.setCell ⟨b, 1, none⟩ v7) (ext qy wz.drew.heap.size (M + 2)) M b (firstP P 0) (lineM P (j + 1)) { v with lines := v7 }) := Lib.hid (by rw [HLM.out]; exact MM.1)
              obtain ⟨sp7, cp7, rfl⟩ := hrow7.slice
              clear k1 k20 k2 hm7 T7 hrow7 hle hlen MM hfr T9 k4
              go_wp2
              go_roundw
              case rel => exact ⟨j + 1, _, _, hlt, by go_num, HKN.out, HXN.out, HMN.out⟩
              case measure => simp [intOf]; omega
          · obtain rfl : j = P.lines.length := by omega
            rw [lineM_all] at HM5
            have z4 := HX5.out.cell 4 _ rfl
            have hnp := HP.out.nparts
            go_wp2_with fail
            clear z4
            go_loopw [91] (fun i wl => ∃ (k : Nat) (q : Col) (v : MVals), k ≤ P.parts.length ∧ i = .int .i64 k ∧ Kept w.heap.size q w wl ∧ Blk wl q (M + 210) w.heap.size 30 #[.int .i64 P.memory, .int .i64 P.counters, .int .i64 P.ins, .int .i64 P.outs, .slice ap P.parts.length cp, .slice al P.lines.length cl, .slice ao P.ops.length co] ∧ MachAt wl q M b (firstP P k) (partM P k) v) (fun i _ => P.parts.length - (intOf i).toNat)
            case atStart => exact ⟨0, q, v, Nat.zero_le _, rfl, HK5.out, HX5.out, HM5.out⟩
            case round =>
              clear HK5 HX5 HM5
              obtain ⟨k, q, v, hk, rfl, hK, hX, hM5⟩ := hrel
              have HK5 := Lib.hid hK
              have HX5 := Lib.hid hX
              have HM5 := Lib.hid hM5
              clear hK hX hM5
              by_cases hlt : k < P.parts.length
              · have hlti : (k : Int) < P.parts.length := by omega
                obtain ⟨b0, off, rfl, hcap, hb0, hrec⟩ := (HRP.out.below (tail_steady _ _) HK5.out.below).at (by omega)
                obtain ⟨cs, hcs, hPR, hcl⟩ := hrec k hlt
                obtain ⟨y, rfl, hst⟩ := hPR
                have c0 := hcl 0 (by omega)
                have c1 := hcl 1 (by omega)
                simp [partHd] at c0 c1
                have hcapi : (P.parts.length : Int) ≤ cp := by omega
                obtain ⟨sa, sc, hxs⟩ := Ints.slice hst
                subst hxs
                have hgood := HP.out.parts _ (List.getElem_mem hlt)
                have hfit := HF.out _ (List.getElem_mem hlt)
                have HST := Lib.hid hst
                rw [← part_get hlt] at c0 c1 hgood hfit HST
                clear hcl hcs hrec hst
                obtain ⟨tg, htg⟩ : ∃ x, (partAt P k).tag = x := ⟨_, rfl⟩
                have Tz := Turn.of_below q (M + 213) (below_alloc wr (.cells #[.int .u8 (partAt P k).tag, .slice sa (partAt P k).params.length sc] 81))
                have Zb := blk_new (w := wr) q (M + 213) #[.int .u8 (partAt P k).tag, .slice sa (partAt P k).params.length sc] 81
                have Mz := HM5.out.turn Tz (fun _ h => h.elim)
                have Xz := HX5.out.turn Tz (fun h => h)
                have Kz := HK5.out.turn Tz (fun h => h)
                have hSz := HST.out.below (Tz.below (Nat.le_refl _) (fun _ _ h => h))
                obtain ⟨pl, hpl⟩ : ∃ x, (partAt P k).params.length = x := ⟨_, rfl⟩
                have hgn := New_act (ext q wr.heap.size (M + 213)) (M + 64 + 2 * k) (M + 65 + 2 * k) (by omega) hgood hfit hSz
                have y0 := Zb.cell 0 _ rfl
                have y1 := Zb.cell 1 _ rfl
                have HGN := Lib.hid hgn
                have HGD := Lib.hid hgood
                have HMz := Lib.hid Mz
                have HXz := Lib.hid Xz
                have HKz := Lib.hid Kz
                generalize ext q wr.heap.size (M + 213) = qz at *
                clear Tz Zb Mz Xz Kz hSz hgn hgood hfit htg hpl HST
                go_wp2_with fail
                refine HGN.out.mono ?_
                rintro e w5 ⟨B, q5, rfl, T5, A5⟩
                have HM6 := Lib.hid (HMz.out.turn T5 (fun _ h => h.elim))
                have HX6 := Lib.hid (HXz.out.turn T5 (fun h => h))
                have HK6 := Lib.hid (HKz.out.turn T5 (fun h => h))
                have HA6 := Lib.hid A5
                clear HGN T5 A5 HMz HXz HKz y0 y1 c0 c1
                go_wp2_with fail
                refine (Shape_act HA6.out).mono ?_
                rintro e w6 ⟨g1, c1, g2, c2, rfl, K1, K2, hg12, hb6⟩
                have T6 := Turn.of_below q5 (M + 214) hb6
                have HM7 := Lib.hid (HM6.out.turn T6 (fun _ h => h.elim))
                have HX7 := Lib.hid (HX6.out.turn T6 (fun h => h))
                have HK7 := Lib.hid (HK6.out.turn T6 (fun h => h))
                have HA7 := Lib.hid (HA6.out.turn T6 (fun h => h) (fun h => h))
                have HK1 := Lib.hid K1
                have HIN := Lib.hid (insP_nums HGD.out)
                have HTK := Lib.hid (takes_nat HGD.out)
                generalize ext q5 _ (M + 214) = q7 at *
                obtain ⟨is, his⟩ : ∃ x, insP (partAt P k).tag (partAt P k).params = x := ⟨_, rfl⟩
                rw [his] at HK1 HIN HTK ⊢
                clear K1 K2 hg12 hb6 T6 HM6 HX6 HK6 HA6 his
                obtain ⟨n, hn⟩ : ∃ x, is.length = x := ⟨_, rfl⟩
                have hn64 := HIN.out.2
                rw [hn] at hn64 HK1 ⊢
                have HNL := Lib.hid hn
                clear hn
                go_wp2_with fail
                go_loopw [12, 113] (fun sv i wl => ∃ (t : Nat), t ≤ n ∧ i = .int .i64 t ∧ sv = .int .i64 (is.take t).sum ∧ wl = w6) (fun _ i _ => n - (intOf i).toNat)
                case atStart => exact ⟨0, Nat.zero_le _, rfl, rfl, rfl⟩
                case round =>
                  obtain ⟨t, ht, rfl, rfl, hww⟩ := hrel
                  subst hww
                  have hsb := sum_take_le is t HIN.out.1
                  by_cases htn : t < n
                  · have htni : (t : Int) < n := by omega
                    have htl : t < is.length := by have := HNL.out; omega
                    have hK1 := HK1.out
                    rw [← HNL.out] at hK1
                    obtain ⟨g1', e1, -, -, -, -, f1⟩ := own_get hK1 htl
                    obtain rfl : g1 = g1' := by simpa using e1
                    have hr := HIN.out.1 _ (List.getElem_mem htl)
                    have hts : (is.take (t + 1)).sum = (is.take t).sum + is[t] := by
                      rw [List.take_succ_eq_append_getElem htl, List.sum_append]
                      simp
                    rw [show is[t]?.getD 0 = is[t] by simp [htl]] at f1
                    obtain ⟨r, hre⟩ : ∃ x, is[t] = x := ⟨_, rfl⟩
                    rw [hre] at f1 hr hts
                    obtain ⟨s0, hs0⟩ : ∃ x, (is.take t).sum = x := ⟨_, rfl⟩
                    rw [hs0] at hts hsb ⊢
                    have ew : IntKind.i64.wrap (s0 + r) = s0 + r := IntWalk.i64_in _ (by omega)
                    clear hK1 e1 hre hs0
                    go_wp2
                    go_roundw
                    case rel => exact ⟨t + 1, htn, by go_num, by rw [hts], trivial⟩
                    case measure => simp [intOf]; omega
                  · obtain rfl : t = n := by omega
                    have hall : is.take t = is := List.take_of_length_le (by rw [HNL.out]; exact Nat.le_refl _)
                    rw [hall] at hsb ⊢
                    obtain ⟨sm, hsm⟩ : ∃ x, is.sum = x := ⟨_, rfl⟩
                    have HSM : Hid ((takesP (partAt P k) : Int) = sm) := Lib.hid (HTK.out.trans hsm)
                    rw [hsm] at hsb ⊢
                    clear hall hsm
                    have hM7 := HM7.out
                    have hfl := firstP_len (P := P) (k := k) hk
                    have hB7 : Own wr q7 (M + 7) 82 1 v.bods k (v.ptrs.map ptrV) := by
                      have := hM7.bods
                      rw [hfl] at this
                      exact this
                    have hT7 : Own wr q7 (M + 6) 3 1 v.takes k (ivs (takesL P k)) := by
                      have := hM7.takes
                      rw [hfl] at this
                      exact this
                    have HPL : Hid (v.ptrs.length = k) := Lib.hid (hM7.ptrs.trans hfl)
                    obtain ⟨ba, bc, eb⟩ := hB7.slice
                    obtain ⟨ta, tc, et⟩ := hT7.slice
                    rw [eb] at hB7
                    rw [et] at hT7
                    have HS : Hid (∀ {w' : World} {q' : Col}, MachCore w' q' M b (firstP P k) (partM P k) v → w'.cell? ⟨b, 6, none⟩ = some (.slice ba k bc) ∧ w'.cell? ⟨b, 5, none⟩ = some (.slice ta k tc)) := Lib.hid fun h => by
                      rw [← eb, ← et]
                      exact ⟨h.blk.cell 6 _ (by simp [machV]), h.blk.cell 5 _ (by simp [machV])⟩
                    have hs6 := HS.out hM7.core
                    obtain ⟨ip, hip, ip0, ip1, ip2⟩ := info_parts info_pbody
                    obtain ⟨ii, hii, ii0, ii1, ii2⟩ := info_parts info_int
                    have HIP := Lib.hid hip
                    have HII := Lib.hid hii
                    obtain ⟨qd, hqd⟩ : ∃ x, q7 = x := ⟨_, rfl⟩
                    have HC := Lib.hid (hM7.core.turn ((Turn.refl q7 (fun _ => False) wr).drewN 1) (fun _ h => h.elim))
                    have HBD := Lib.hid (hB7.turn ((Turn.refl q7 (fun _ => False) wr).drewN 1) (fun h => h))
                    have HTD := Lib.hid (hT7.turn ((Turn.refl q7 (fun _ => False) wr).drewN 1) (fun h => h))
                    have HA := Lib.hid (Act.drewN HA7.out 1)
                    have HX := Lib.hid (HX7.out.drewN 1)
                    have HK := Lib.hid (HK7.out.drewN 1)
                    rw [hqd] at HC HBD HTD HA HX HK
                    change Hid (MachCore wr.drew _ _ _ _ _ _) at HC
                    change Hid (Own wr.drew _ _ _ _ _ _ _) at HBD
                    change Hid (Own wr.drew _ _ _ _ _ _ _) at HTD
                    change Hid (Act wr.drew _ _ _ _ _ _ _ _) at HA
                    change Hid (Blk wr.drew _ _ _ _ _) at HX
                    change Hid (Kept _ _ _ wr.drew) at HK
                    clear hM7 hB7 hT7 eb et hip hii hqd hfl HM7 HA7 HX7 HK7 HK1 hsb
                    go_wp2_with fail
                    refine wp_region_drift (fun w' => w'.cell? ⟨b, 6, none⟩ = some (.slice ba k bc) ∧ w'.cell? ⟨b, 5, none⟩ = some (.slice ta k tc)) [0, 1, 2, 3, 4, 5, 6, 9, 10, 11, 12, 13] [7, 8, 14] [0, 1, 2, 3, 4, 5, 6, 9, 10, 11, 12, 13] 10 (by kernel_rfl) (by kernel_rfl) rfl hs6 ?_
                    intro Q' hQ' hQ2
                    simp only [pickOps, List.flatMap_cons, List.flatMap_nil, List.drop_succ_cons, List.drop_zero, List.take_succ_cons, List.take_zero, List.cons_append, List.nil_append, List.append_nil]
                    repeat (first
                      | (refine wpReads_skip (by rfl) ?_; (try simp only [Act.put, List.setIfInBounds_toArray, List.set_cons_zero, List.set_cons_succ]))
                      | (refine wpReads_cons ?_ (by rfl) (by rfl) ?_ ?_; rotate_left; (intro wz hz; (try dsimp only at hz); go_simp; try with_reducible rfl); (try simp only [Act.put, List.setIfInBounds_toArray, List.set_cons_zero, List.set_cons_succ]))
                      | (refine wpReads_any ?_ (by rfl) ?_ ?_; rotate_left; (intro wz; go_simp; try with_reducible rfl); (try simp only [Act.put, List.setIfInBounds_toArray, List.set_cons_zero, List.set_cons_succ])))
                    refine wpReads_nil ?_
                    clear hs6
                    obtain ⟨wd, hwd⟩ : ∃ x, wr.drew = x := ⟨_, rfl⟩
                    rw [hwd] at HC HBD HTD HA HX HK ⊢
                    clear hwd
                    --REG26
                    refine wpAnyT_two (i := 7) (k := 14) (by kernel_rfl) ?_ ?_
                    · skip
                      have T1 := Turn.of_below qd (M + 215) (below_alloc wd (.cells #[ptrV B] 82))
                      have N1 := blk_new (w := wd) qd (M + 215) #[ptrV B] 82
                      replace HC := Lib.hid (HC.out.turn T1 (fun _ h => h.elim))
                      replace HBD := Lib.hid (HBD.out.turn T1 (fun h => h))
                      replace HTD := Lib.hid (HTD.out.turn T1 (fun h => h))
                      replace HA := Lib.hid (Act.turn HA.out T1 (fun h => h) (fun h => h))
                      replace HX := Lib.hid (HX.out.turn T1 (fun h => h))
                      replace HK := Lib.hid (HK.out.turn T1 (fun h => h))
                      simp only [pickOps, List.flatMap_cons, List.flatMap_nil, List.drop_succ_cons, List.drop_zero, List.take_succ_cons, List.take_zero, List.append_nil]
                      go_wp2_with fail
                      refine ⟨by intros; exact HS.out HC.out, ?_⟩
                      obtain ⟨p8, hp8⟩ : ∃ x, wd.heap.size = x := ⟨_, rfl⟩
                      change wpAnyT _ _ _ _ _ _ _ _ _ (wd.alloc (.cells #[ptrV B] 82))
                      obtain ⟨wb1, hwb1⟩ : ∃ x, wd.alloc (.cells #[ptrV B] 82) = x := ⟨_, rfl⟩
                      rw [hwb1] at N1 HC HBD HTD HA HX HK ⊢
                      generalize ext qd wd.heap.size (M + 215) = qb1 at *
                      rw [hp8] at N1 ⊢
                      have HP8 := Lib.hid N1
                      clear T1 N1 hwb1 hp8
                      refine wpAnyT_two (i := 8) (k := 14) (by kernel_rfl) ?_ ?_
                      · skip
                        simp only [pickOps, List.flatMap_cons, List.flatMap_nil, List.drop_succ_cons, List.drop_zero, List.take_succ_cons, List.take_zero, List.append_nil]
                        go_wp2_with (at_builtin; refine stop_here ?_)
                        refine go_on ?_
                        refine wpList_app rfl _ _ 70 rfl 0 82 ip _ 1 8 Try.underlying70 HIP.out ip0 ip1 ip2 rfl (.slice ba k bc) k _ rfl HBD.out.1 (some ⟨p8, 0, none⟩) 1 1 [ptrV B] rfl rfl (fun h => by cases h) (blk_news HP8.out) (by simp [Value.oneCell', ptrV]) (by unfold maxLen; omega) (grow_ok (by omega)) (Nat.zero_le _) ?_
                        intro v8 w8 k1 k2 _ k4
                        obtain ⟨q8, T8, L8⟩ := own_grown HBD.out k1 k2 k4
                        replace HC := Lib.hid (HC.out.turn T8 (fun x hx => by rw [hx]; exact .inr ((.inr rfl))))
                        replace HTD := Lib.hid (HTD.out.turn T8 (by omega))
                        replace HA := Lib.hid (Act.turn HA.out T8 (by omega) (by omega))
                        replace HX := Lib.hid (HX.out.turn T8 (by omega))
                        replace HK := Lib.hid (HK.out.turn T8 (by omega))
                        replace HP8 := Lib.hid (HP8.out.turn T8 (by omega))
                        replace HBD := Lib.hid L8
                        obtain ⟨va, vc, rfl⟩ := L8.slice
                        clear k1 k2 k4 T8 L8
                        go_wp2
                        refine ⟨by intros; exact HS.out HC.out, ?_⟩
                        refine wpAnyT_one (i := 14) (by kernel_rfl) ?_
                        have T3 := Turn.of_below q8 (M + 216) (below_alloc w8 (.cells #[.int .i64 sm] 3))
                        have N3 := blk_new (w := w8) q8 (M + 216) #[.int .i64 sm] 3
                        replace HC := Lib.hid (HC.out.turn T3 (fun _ h => h.elim))
                        replace HBD := Lib.hid (HBD.out.turn T3 (fun h => h))
                        replace HTD := Lib.hid (HTD.out.turn T3 (fun h => h))
                        replace HA := Lib.hid (Act.turn HA.out T3 (fun h => h) (fun h => h))
                        replace HX := Lib.hid (HX.out.turn T3 (fun h => h))
                        replace HK := Lib.hid (HK.out.turn T3 (fun h => h))
                        replace HP8 := Lib.hid (HP8.out.turn T3 (fun h => h))
                        simp only [pickOps, List.flatMap_cons, List.flatMap_nil, List.drop_succ_cons, List.drop_zero, List.take_succ_cons, List.take_zero, List.append_nil]
                        go_wp2_with fail
                        refine ⟨by intros; exact HS.out HC.out, ?_⟩
                        obtain ⟨p14, hp14⟩ : ∃ x, w8.heap.size = x := ⟨_, rfl⟩
                        change wpAnyT _ _ _ _ _ _ _ _ _ (w8.alloc (.cells #[.int .i64 sm] 3))
                        obtain ⟨wb3, hwb3⟩ : ∃ x, w8.alloc (.cells #[.int .i64 sm] 3) = x := ⟨_, rfl⟩
                        rw [hwb3] at N3 HC HBD HTD HA HX HK HP8 ⊢
                        generalize ext q8 w8.heap.size (M + 216) = qb3 at *
                        rw [hp14] at N3 ⊢
                        have HP14 := Lib.hid N3
                        clear T3 N3 hwb3 hp14
                        clear hQ2
                        refine wpAnyT_list (ks := [15, 16, 17, 18, 19, 20, 21]) (fun _ _ hx h => ⟨hx.cell h.1, hx.cell h.2⟩) (by kernel_rfl) ?_
                        simp only [pickOps, List.flatMap_cons, List.flatMap_nil, List.drop_succ_cons, List.drop_zero, List.take_succ_cons, List.take_zero, List.cons_append, List.nil_append, List.append_nil]
                        go_wp2_with (at_builtin; refine stop_here ?_)
                        refine go_on ?_
                        refine wpList_app rfl _ _ 37 rfl 0 3 ii _ 1 8 Try.underlying37 HII.out ii0 ii1 ii2 rfl (.slice ta k tc) k _ rfl HTD.out.1 (some ⟨p14, 0, none⟩) 1 1 [.int .i64 sm] rfl rfl (fun h => by cases h) (blk_news HP14.out) (by simp [Value.oneCell']) (by unfold maxLen; omega) (grow_ok (by omega)) (Nat.zero_le _) ?_
                        intro v15 w15 k1 k2 _ k4
                        obtain ⟨q15, T15, L15⟩ := own_grown HTD.out k1 k2 k4
                        replace HC := Lib.hid (HC.out.turn T15 (fun x hx => by rw [hx]; exact .inr ((.inl rfl))))
                        replace HBD := Lib.hid (HBD.out.turn T15 (by omega))
                        replace HA := Lib.hid (Act.turn HA.out T15 (by omega) (by omega))
                        replace HX := Lib.hid (HX.out.turn T15 (by omega))
                        replace HK := Lib.hid (HK.out.turn T15 (by omega))
                        replace HP8 := Lib.hid (HP8.out.turn T15 (by omega))
                        replace HP14 := Lib.hid (HP14.out.turn T15 (by omega))
                        obtain ⟨ua, uc, rfl⟩ := L15.slice
                        have MM := add_part HP.out.nparts HC.out hlt HPL.out (by rw [List.map_append]; exact HBD.out) (by rw [takesL_succ hlt, HSM.out]; exact L15) HA.out
                        have HMM := Lib.hid MM.1
                        have HKK := Lib.hid (HK.out.turn MM.2 (by omega))
                        have HXX := Lib.hid (HX.out.turn MM.2 (by omega))
                        have d6 := HC.out.blk.cell 6 v.bods (by simp [machV])
                        have d5 := HC.out.blk.cell 5 v.takes (by simp [machV])
                        have e6 := HC.out.blk.frozen 6
                        have e5 := HC.out.blk.frozen 5
                        clear k1 k2 k4 T15 L15 MM
                        go_wp2
                        go_roundw
                        case rel => exact ⟨k + 1, q15, _, hlt, by go_num, HKK.out, HXX.out, HMM.out⟩
                        case measure => simp [intOf]; omega
                      · skip
                        have T2 := Turn.of_below qb1 (M + 216) (below_alloc wb1 (.cells #[.int .i64 sm] 3))
                        have N2 := blk_new (w := wb1) qb1 (M + 216) #[.int .i64 sm] 3
                        replace HC := Lib.hid (HC.out.turn T2 (fun _ h => h.elim))
                        replace HBD := Lib.hid (HBD.out.turn T2 (fun h => h))
                        replace HTD := Lib.hid (HTD.out.turn T2 (fun h => h))
                        replace HA := Lib.hid (Act.turn HA.out T2 (fun h => h) (fun h => h))
                        replace HX := Lib.hid (HX.out.turn T2 (fun h => h))
                        replace HK := Lib.hid (HK.out.turn T2 (fun h => h))
                        replace HP8 := Lib.hid (HP8.out.turn T2 (fun h => h))
                        simp only [pickOps, List.flatMap_cons, List.flatMap_nil, List.drop_succ_cons, List.drop_zero, List.take_succ_cons, List.take_zero, List.append_nil]
                        go_wp2_with fail
                        refine ⟨by intros; exact HS.out HC.out, ?_⟩
                        obtain ⟨p14, hp14⟩ : ∃ x, wb1.heap.size = x := ⟨_, rfl⟩
                        change wpAnyT _ _ _ _ _ _ _ _ _ (wb1.alloc (.cells #[.int .i64 sm] 3))
                        obtain ⟨wb2, hwb2⟩ : ∃ x, wb1.alloc (.cells #[.int .i64 sm] 3) = x := ⟨_, rfl⟩
                        rw [hwb2] at N2 HC HBD HTD HA HX HK HP8 ⊢
                        generalize ext qb1 wb1.heap.size (M + 216) = qb2 at *
                        rw [hp14] at N2 ⊢
                        have HP14 := Lib.hid N2
                        clear T2 N2 hwb2 hp14
                        refine wpAnyT_one (i := 8) (by kernel_rfl) ?_
                        simp only [pickOps, List.flatMap_cons, List.flatMap_nil, List.drop_succ_cons, List.drop_zero, List.take_succ_cons, List.take_zero, List.append_nil]
                        go_wp2_with (at_builtin; refine stop_here ?_)
                        refine go_on ?_
                        refine wpList_app rfl _ _ 70 rfl 0 82 ip _ 1 8 Try.underlying70 HIP.out ip0 ip1 ip2 rfl (.slice ba k bc) k _ rfl HBD.out.1 (some ⟨p8, 0, none⟩) 1 1 [ptrV B] rfl rfl (fun h => by cases h) (blk_news HP8.out) (by simp [Value.oneCell', ptrV]) (by unfold maxLen; omega) (grow_ok (by omega)) (Nat.zero_le _) ?_
                        intro v8 w8 k1 k2 _ k4
                        obtain ⟨q8, T8, L8⟩ := own_grown HBD.out k1 k2 k4
                        replace HC := Lib.hid (HC.out.turn T8 (fun x hx => by rw [hx]; exact .inr ((.inr rfl))))
                        replace HTD := Lib.hid (HTD.out.turn T8 (by omega))
                        replace HA := Lib.hid (Act.turn HA.out T8 (by omega) (by omega))
                        replace HX := Lib.hid (HX.out.turn T8 (by omega))
                        replace HK := Lib.hid (HK.out.turn T8 (by omega))
                        replace HP8 := Lib.hid (HP8.out.turn T8 (by omega))
                        replace HP14 := Lib.hid (HP14.out.turn T8 (by omega))
                        replace HBD := Lib.hid L8
                        obtain ⟨va, vc, rfl⟩ := L8.slice
                        clear k1 k2 k4 T8 L8
                        go_wp2
                        refine ⟨by intros; exact HS.out HC.out, ?_⟩
                        clear hQ2
                        refine wpAnyT_list (ks := [15, 16, 17, 18, 19, 20, 21]) (fun _ _ hx h => ⟨hx.cell h.1, hx.cell h.2⟩) (by kernel_rfl) ?_
                        simp only [pickOps, List.flatMap_cons, List.flatMap_nil, List.drop_succ_cons, List.drop_zero, List.take_succ_cons, List.take_zero, List.cons_append, List.nil_append, List.append_nil]
                        go_wp2_with (at_builtin; refine stop_here ?_)
                        refine go_on ?_
                        refine wpList_app rfl _ _ 37 rfl 0 3 ii _ 1 8 Try.underlying37 HII.out ii0 ii1 ii2 rfl (.slice ta k tc) k _ rfl HTD.out.1 (some ⟨p14, 0, none⟩) 1 1 [.int .i64 sm] rfl rfl (fun h => by cases h) (blk_news HP14.out) (by simp [Value.oneCell']) (by unfold maxLen; omega) (grow_ok (by omega)) (Nat.zero_le _) ?_
                        intro v15 w15 k1 k2 _ k4
                        obtain ⟨q15, T15, L15⟩ := own_grown HTD.out k1 k2 k4
                        replace HC := Lib.hid (HC.out.turn T15 (fun x hx => by rw [hx]; exact .inr ((.inl rfl))))
                        replace HBD := Lib.hid (HBD.out.turn T15 (by omega))
                        replace HA := Lib.hid (Act.turn HA.out T15 (by omega) (by omega))
                        replace HX := Lib.hid (HX.out.turn T15 (by omega))
                        replace HK := Lib.hid (HK.out.turn T15 (by omega))
                        replace HP8 := Lib.hid (HP8.out.turn T15 (by omega))
                        replace HP14 := Lib.hid (HP14.out.turn T15 (by omega))
                        obtain ⟨ua, uc, rfl⟩ := L15.slice
                        have MM := add_part HP.out.nparts HC.out hlt HPL.out (by rw [List.map_append]; exact HBD.out) (by rw [takesL_succ hlt, HSM.out]; exact L15) HA.out
                        have HMM := Lib.hid MM.1
                        have HKK := Lib.hid (HK.out.turn MM.2 (by omega))
                        have HXX := Lib.hid (HX.out.turn MM.2 (by omega))
                        have d6 := HC.out.blk.cell 6 v.bods (by simp [machV])
                        have d5 := HC.out.blk.cell 5 v.takes (by simp [machV])
                        have e6 := HC.out.blk.frozen 6
                        have e5 := HC.out.blk.frozen 5
                        clear k1 k2 k4 T15 L15 MM
                        go_wp2
                        go_roundw
                        case rel => exact ⟨k + 1, q15, _, hlt, by go_num, HKK.out, HXX.out, HMM.out⟩
                        case measure => simp [intOf]; omega
                    · skip
                      have T1 := Turn.of_below qd (M + 216) (below_alloc wd (.cells #[.int .i64 sm] 3))
                      have N1 := blk_new (w := wd) qd (M + 216) #[.int .i64 sm] 3
                      replace HC := Lib.hid (HC.out.turn T1 (fun _ h => h.elim))
                      replace HBD := Lib.hid (HBD.out.turn T1 (fun h => h))
                      replace HTD := Lib.hid (HTD.out.turn T1 (fun h => h))
                      replace HA := Lib.hid (Act.turn HA.out T1 (fun h => h) (fun h => h))
                      replace HX := Lib.hid (HX.out.turn T1 (fun h => h))
                      replace HK := Lib.hid (HK.out.turn T1 (fun h => h))
                      simp only [pickOps, List.flatMap_cons, List.flatMap_nil, List.drop_succ_cons, List.drop_zero, List.take_succ_cons, List.take_zero, List.append_nil]
                      go_wp2_with fail
                      refine ⟨by intros; exact HS.out HC.out, ?_⟩
                      obtain ⟨p14, hp14⟩ : ∃ x, wd.heap.size = x := ⟨_, rfl⟩
                      change wpAnyT _ _ _ _ _ _ _ _ _ (wd.alloc (.cells #[.int .i64 sm] 3))
                      obtain ⟨wb1, hwb1⟩ : ∃ x, wd.alloc (.cells #[.int .i64 sm] 3) = x := ⟨_, rfl⟩
                      rw [hwb1] at N1 HC HBD HTD HA HX HK ⊢
                      generalize ext qd wd.heap.size (M + 216) = qb1 at *
                      rw [hp14] at N1 ⊢
                      have HP14 := Lib.hid N1
                      clear T1 N1 hwb1 hp14
                      refine wpAnyT_one (i := 7) (by kernel_rfl) ?_
                      have T2 := Turn.of_below qb1 (M + 215) (below_alloc wb1 (.cells #[ptrV B] 82))
                      have N2 := blk_new (w := wb1) qb1 (M + 215) #[ptrV B] 82
                      replace HC := Lib.hid (HC.out.turn T2 (fun _ h => h.elim))
                      replace HBD := Lib.hid (HBD.out.turn T2 (fun h => h))
                      replace HTD := Lib.hid (HTD.out.turn T2 (fun h => h))
                      replace HA := Lib.hid (Act.turn HA.out T2 (fun h => h) (fun h => h))
                      replace HX := Lib.hid (HX.out.turn T2 (fun h => h))
                      replace HK := Lib.hid (HK.out.turn T2 (fun h => h))
                      replace HP14 := Lib.hid (HP14.out.turn T2 (fun h => h))
                      simp only [pickOps, List.flatMap_cons, List.flatMap_nil, List.drop_succ_cons, List.drop_zero, List.take_succ_cons, List.take_zero, List.append_nil]
                      go_wp2_with fail
                      refine ⟨by intros; exact HS.out HC.out, ?_⟩
                      obtain ⟨p8, hp8⟩ : ∃ x, wb1.heap.size = x := ⟨_, rfl⟩
                      change wpAnyT _ _ _ _ _ _ _ _ _ (wb1.alloc (.cells #[ptrV B] 82))
                      obtain ⟨wb2, hwb2⟩ : ∃ x, wb1.alloc (.cells #[ptrV B] 82) = x := ⟨_, rfl⟩
                      rw [hwb2] at N2 HC HBD HTD HA HX HK HP14 ⊢
                      generalize ext qb1 wb1.heap.size (M + 215) = qb2 at *
                      rw [hp8] at N2 ⊢
                      have HP8 := Lib.hid N2
                      clear T2 N2 hwb2 hp8
                      refine wpAnyT_one (i := 8) (by kernel_rfl) ?_
                      simp only [pickOps, List.flatMap_cons, List.flatMap_nil, List.drop_succ_cons, List.drop_zero, List.take_succ_cons, List.take_zero, List.append_nil]
                      go_wp2_with (at_builtin; refine stop_here ?_)
                      refine go_on ?_
                      refine wpList_app rfl _ _ 70 rfl 0 82 ip _ 1 8 Try.underlying70 HIP.out ip0 ip1 ip2 rfl (.slice ba k bc) k _ rfl HBD.out.1 (some ⟨p8, 0, none⟩) 1 1 [ptrV B] rfl rfl (fun h => by cases h) (blk_news HP8.out) (by simp [Value.oneCell', ptrV]) (by unfold maxLen; omega) (grow_ok (by omega)) (Nat.zero_le _) ?_
                      intro v8 w8 k1 k2 _ k4
                      obtain ⟨q8, T8, L8⟩ := own_grown HBD.out k1 k2 k4
                      replace HC := Lib.hid (HC.out.turn T8 (fun x hx => by rw [hx]; exact .inr ((.inr rfl))))
                      replace HTD := Lib.hid (HTD.out.turn T8 (by omega))
                      replace HA := Lib.hid (Act.turn HA.out T8 (by omega) (by omega))
                      replace HX := Lib.hid (HX.out.turn T8 (by omega))
                      replace HK := Lib.hid (HK.out.turn T8 (by omega))
                      replace HP8 := Lib.hid (HP8.out.turn T8 (by omega))
                      replace HP14 := Lib.hid (HP14.out.turn T8 (by omega))
                      replace HBD := Lib.hid L8
                      obtain ⟨va, vc, rfl⟩ := L8.slice
                      clear k1 k2 k4 T8 L8
                      go_wp2
                      refine ⟨by intros; exact HS.out HC.out, ?_⟩
                      clear hQ2
                      refine wpAnyT_list (ks := [15, 16, 17, 18, 19, 20, 21]) (fun _ _ hx h => ⟨hx.cell h.1, hx.cell h.2⟩) (by kernel_rfl) ?_
                      simp only [pickOps, List.flatMap_cons, List.flatMap_nil, List.drop_succ_cons, List.drop_zero, List.take_succ_cons, List.take_zero, List.cons_append, List.nil_append, List.append_nil]
                      go_wp2_with (at_builtin; refine stop_here ?_)
                      refine go_on ?_
                      refine wpList_app rfl _ _ 37 rfl 0 3 ii _ 1 8 Try.underlying37 HII.out ii0 ii1 ii2 rfl (.slice ta k tc) k _ rfl HTD.out.1 (some ⟨p14, 0, none⟩) 1 1 [.int .i64 sm] rfl rfl (fun h => by cases h) (blk_news HP14.out) (by simp [Value.oneCell']) (by unfold maxLen; omega) (grow_ok (by omega)) (Nat.zero_le _) ?_
                      intro v15 w15 k1 k2 _ k4
                      obtain ⟨q15, T15, L15⟩ := own_grown HTD.out k1 k2 k4
                      replace HC := Lib.hid (HC.out.turn T15 (fun x hx => by rw [hx]; exact .inr ((.inl rfl))))
                      replace HBD := Lib.hid (HBD.out.turn T15 (by omega))
                      replace HA := Lib.hid (Act.turn HA.out T15 (by omega) (by omega))
                      replace HX := Lib.hid (HX.out.turn T15 (by omega))
                      replace HK := Lib.hid (HK.out.turn T15 (by omega))
                      replace HP8 := Lib.hid (HP8.out.turn T15 (by omega))
                      replace HP14 := Lib.hid (HP14.out.turn T15 (by omega))
                      obtain ⟨ua, uc, rfl⟩ := L15.slice
                      have MM := add_part HP.out.nparts HC.out hlt HPL.out (by rw [List.map_append]; exact HBD.out) (by rw [takesL_succ hlt, HSM.out]; exact L15) HA.out
                      have HMM := Lib.hid MM.1
                      have HKK := Lib.hid (HK.out.turn MM.2 (by omega))
                      have HXX := Lib.hid (HX.out.turn MM.2 (by omega))
                      have d6 := HC.out.blk.cell 6 v.bods (by simp [machV])
                      have d5 := HC.out.blk.cell 5 v.takes (by simp [machV])
                      have e6 := HC.out.blk.frozen 6
                      have e5 := HC.out.blk.frozen 5
                      clear k1 k2 k4 T15 L15 MM
                      go_wp2
                      go_roundw
                      case rel => exact ⟨k + 1, q15, _, hlt, by go_num, HKK.out, HXX.out, HMM.out⟩
                      case measure => simp [intOf]; omega
                    --ENDREG26
              · obtain rfl : k = P.parts.length := by omega
                rw [firstP_all, partM_all] at HM5
                go_wp2
                go_ret2
                exact made_ret hM HK5.out HM5.out
end Go.Proofs.Ytnnnpippekpibaa

/- Blocks made one behind the other. No function in sight. -/
namespace Go.Proofs.Ytnnnpippekpibaa
open Go.RowKit

abbrev allocs (w : World) (os : List Obj) : World := os.foldl World.alloc w
theorem allocs_keep : ∀ (os : List Obj) (w : World) (b : Nat) (x : Obj), w.heap[b]? = some x → (allocs w os).heap[b]? = some x
  | [], _, _, _, h => h
  | o :: os, w, b, x, h => allocs_keep os (w.alloc o) b x (block_alloc h o)
theorem allocs_get : ∀ (os : List Obj) (w : World) (k : Nat) (o : Obj), os[k]? = some o → (allocs w os).heap[w.heap.size + k]? = some o
  | [], _, _, _, h => by simp at h
  | x :: os, w, 0, o, h => by
    have e : x = o := by simpa using h
    subst e
    exact allocs_keep os (w.alloc x) _ x (heap_alloc_new w x)
  | x :: os, w, k + 1, o, h => by
    have := allocs_get os (w.alloc x) k o (by simpa using h)
    rw [World.size_alloc, show w.heap.size + 1 + k = w.heap.size + (k + 1) by omega] at this
    exact this
theorem allocs_below : ∀ (os : List Obj) (w : World), Below w.heap.size w (allocs w os) ∧ w.heap.size ≤ (allocs w os).heap.size
  | [], w => ⟨Below.refl _ _, Nat.le_refl _⟩
  | o :: os, w => by
    have h := allocs_below os (w.alloc o)
    have h1 := below_alloc w o
    have h2 : w.heap.size ≤ (w.alloc o).heap.size := h1.size
    exact ⟨h1.trans (h.1.mono h2), Nat.le_trans h2 h.2⟩
theorem allocs_cell (w : World) (os : List Obj) (b i : Nat) {cs : Array Value} {t : TypeId} {v : Value} (h : os[b]? = some (.cells cs t (0, 0))) (hv : cs[i]? = some v) : (allocs w os).cell? ⟨w.heap.size + b, i, none⟩ = some v := cells_row _ _ (allocs_get os w b _ h) i v hv
theorem allocs_one (w : World) (os : List Obj) (b : Nat) {x : Int} {t : TypeId} (h : os[b]? = some (.cells #[.int .i64 x] t (0, 0))) : Has (allocs w os) (.slice (some ⟨w.heap.size + b, 0, none⟩) 1 1) (ivs [x]) :=
  .inr ⟨by simp, _, 0, 1, rfl, Nat.le_refl _, block_lt (allocs_get os w b _ h), rfl, fun k hk => by
    match k, hk with
    | 0, _ => exact allocs_cell w os b 0 h rfl⟩
end Go.Proofs.Ytnnnpippekpibaa

/- The chapter's small program. -/
namespace Go.Proofs.Ytnnnpippekpibaa
open Go.RowKit

def smallP : GProg := ⟨3, 1, 1, 1, [⟨2, [2]⟩, ⟨8, []⟩], [⟨0, 3, [7]⟩], [⟨4, 0, 1⟩, ⟨5, 0, 0⟩, ⟨6, 0, 2⟩, ⟨1, 0, 2⟩, ⟨3, 0, 1⟩, ⟨5, 1, 0⟩, ⟨7, 0, 1⟩, ⟨2, 0, 4⟩, ⟨0, 0, 0⟩]⟩
def ProgRet (w : World) (P : GProg) (e : Ending) (w' : World) : Prop := ∃ v, e = .returned v ∧ HasProg w' v P ∧ Below w.heap.size w w'
def smallO (w : World) : List Obj :=
  [.cells #[.int .i64 3, .int .i64 1, .int .i64 1, .int .i64 1, .slice (some ⟨w.heap.size + 3, 0, none⟩) 2 2, .slice (some ⟨w.heap.size + 5, 0, none⟩) 1 1, .slice (some ⟨w.heap.size + 1, 0, none⟩) 9 9] 30,
   .cells (opsV smallP.ops).toArray 43, .cells #[.int .i64 2] 3, .cells #[.int .u8 2, .slice (some ⟨w.heap.size + 2, 0, none⟩) 1 1, .int .u8 8, .slice none 0 0] 81,
   .cells #[.int .i64 7] 3, .cells #[.int .i64 0, .int .i64 3, .slice (some ⟨w.heap.size + 4, 0, none⟩) 1 1] 76]
set_option maxRecDepth 100000 in
theorem small_has (w : World) : HasProg (allocs w (smallO w)) (.agg #[.int .i64 3, .int .i64 1, .int .i64 1, .int .i64 1, .slice (some ⟨w.heap.size + 3, 0, none⟩) 2 2, .slice (some ⟨w.heap.size + 5, 0, none⟩) 1 1, .slice (some ⟨w.heap.size + 1, 0, none⟩) 9 9]) smallP := by
  refine ⟨_, _, _, rfl, ?_, ?_, ?_⟩
  · refine .inr ⟨by decide, w.heap.size + 3, 0, 2, rfl, Nat.le_refl _, block_lt (allocs_get (smallO w) w 3 _ rfl), fun k hk => ?_⟩
    match k, (show k < 2 from hk) with
    | 0, _ => exact ⟨_, rfl, ⟨_, rfl, allocs_one w (smallO w) 2 rfl⟩, fun i hi => by
        match i, hi with
        | 0, _ => exact allocs_cell w (smallO w) 3 0 rfl rfl
        | 1, _ => exact allocs_cell w (smallO w) 3 1 rfl rfl⟩
    | 1, _ => exact ⟨[.int .u8 8, .slice none 0 0], rfl, ⟨_, rfl, .inl ⟨rfl, _, _, rfl⟩⟩, fun i hi => by
        match i, hi with
        | 0, _ => exact allocs_cell w (smallO w) 3 2 rfl rfl
        | 1, _ => exact allocs_cell w (smallO w) 3 3 rfl rfl⟩
  · refine .inr ⟨by decide, w.heap.size + 5, 0, 1, rfl, Nat.le_refl _, block_lt (allocs_get (smallO w) w 5 _ rfl), fun k hk => ?_⟩
    match k, (show k < 1 from hk) with
    | 0, _ => exact ⟨_, rfl, ⟨_, rfl, allocs_one w (smallO w) 4 rfl⟩, fun i hi => by
        match i, hi with
        | 0, _ => exact allocs_cell w (smallO w) 5 0 rfl rfl
        | 1, _ => exact allocs_cell w (smallO w) 5 1 rfl rfl
        | 2, _ => exact allocs_cell w (smallO w) 5 2 rfl rfl⟩
  · refine ⟨some ⟨w.heap.size + 1, 0, none⟩, 9, rfl, (fun h => by cases h), ⟨Nat.le_refl _, fun ad e => by cases e; rfl⟩, fun ad e j u hu => ?_⟩
    obtain rfl := Option.some.inj e
    rw [Addr.add_lit, Nat.zero_add]
    exact allocs_cell w (smallO w) 1 j rfl (by simpa using hu)
set_option maxRecDepth 100000 in
theorem small_ret (w : World) : Calls Try.prog 9 #[] w (ProgRet w smallP) := by
  go_enter Try.func9, Try.ntmps9
  go_wp2
  refine bodyPost_ret_by (results_cell_row rfl _ _ _ _ _ _ _ rfl (allocs_get (smallO w) w 0 _ rfl) Try.underlying30 rfl (by kernel_rfl)) rfl ?_
  exact ⟨_, rfl, small_has w, (allocs_below (smallO w) w).1⟩

theorem small_S : cstepsE smallP = (13, 0) := by kernel_rfl
theorem small_pf : PFits smallP := by
  intro p hp x hx
  simp [smallP] at hp
  rcases hp with rfl | rfl
  · simp at hx; subst hx; unfold Fits; omega
  · simp at hx
theorem small_sf : SFits smallP := by
  intro l hl x hx
  simp [smallP] at hl
  subst hl
  simp at hx
  subst hx
  unfold Fits; omega
def aw1 : MachP := (mstep smallP (newP smallP)).2
def aw2 : MachP := feedAt aw1 0 [5, 9]
def aw3 : MachP := (mrunTo smallP 13 1 aw2).2
def aw4 : MachP := (mrunTo smallP 13 3 aw3).2
theorem aw_1 : (mstep smallP (newP smallP)).1.halt = 2 := by kernel_rfl
theorem aw_2 : (mrunTo smallP 13 1 aw2).1 = 1 := by kernel_rfl
theorem aw_3 : (outL aw3 0 = [7, 12] ∧ aw3.periods = 1) ∧ cntL aw3 = [1] ∧ firL aw3 = [1, 2] := by
  refine ⟨⟨by kernel_rfl, by kernel_rfl⟩, by kernel_rfl, by kernel_rfl⟩
theorem aw_4 : (mrunTo smallP 13 3 aw3).1 = 2 := by kernel_rfl
theorem aw_5 : outL aw4 0 = [7, 12, 12, 21] ∧ aw4.mem = [9, 0, 0] := ⟨by kernel_rfl, by kernel_rfl⟩
end Go.Proofs.Ytnnnpippekpibaa

/- The statements' awake: the small program, run. -/
namespace Go.Proofs.Ytnnnpippekpibaa
open Go.RowKit

/-- a machine at work in a call: what was there is as it was; what has a colour below 1000, or from 2000 on, stays -/
structure Work (w0 w : World) (o : Col) (M b : Nat) (P : GProg) (m : MachP) (v : MVals) : Prop where
  kept : Kept w0.heap.size o w0 w
  mach : MachAt w o M b P m v
theorem Work.below {w0 w w' : World} {o : Col} {M b : Nat} {P : GProg} {m : MachP} {v : MVals} (h : Work w0 w o M b P m v) (c : Nat) (hb : Below w.heap.size w w') : Work w0 w' (ext o w.heap.size c) M b P m v :=
  ⟨h.kept.turn (Turn.of_below o c hb) (fun h => h), h.mach.turn (Turn.of_below o c hb) (fun _ h => h.elim)⟩
theorem Work.drewN {w0 w : World} {o : Col} {M b : Nat} {P : GProg} {m : MachP} {v : MVals} (h : Work w0 w o M b P m v) (n : Nat) : Work w0 (w.drewN n) o M b P m v := ⟨h.kept.drewN n, h.mach.drewN n⟩
theorem Work.turn {w0 w w' : World} {o o' : Col} {M b : Nat} {P : GProg} {m m' : MachP} {v v' : MVals} (h : Work w0 w o M b P m v) (hM : 1 ≤ M) (T : Turn o o' (MineS M) w w') (h' : MachAt w' o' M b P m' v') : Work w0 w' o' M b P m' v' :=
  ⟨h.kept.turn T (by unfold MineS; omega), h'⟩
theorem newInts_at {w w' : World} {l : List Int} {e : Ending} (h : NewInts w l e w') : ∃ sa sc, e = .returned (.slice sa l.length sc) ∧ Has w' (.slice sa l.length sc) (ivs l) ∧ Below w.heap.size w w' := by
  obtain ⟨v, rfl, k1, hb⟩ := h
  obtain ⟨sa, sc, rfl⟩ := owns_slice k1
  exact ⟨sa, sc, rfl, (Own.made (fun _ => 0) 5 k1).vals.has, hb⟩

theorem mok_0 : MOk smallP 100 0 (newP smallP) := newP_ok small_S small_pf small_sf
theorem mok_1 : MOk smallP 100 1 aw1 := mstep_ok small_S small_pf mok_0
theorem mok_2 : MOk smallP 102 1 aw2 := mok_1.feed 0 (G := 2) (ts := [5, 9]) (by decide) (by intro x hx; simp at hx; rcases hx with rfl | rfl <;> (unfold Fits; omega))
theorem aw1_per : aw1.periods = 0 := by kernel_rfl
theorem aw2_per : aw2.periods = 0 := by kernel_rfl
theorem mok_3 : MOk smallP 102 1048577 aw3 := mrunTo_ok (s := 1) small_S small_pf mok_2 (by rw [aw2_per]; omega)
theorem aw3_per : aw3.periods = 1 := aw_3.1.2
theorem mok_4 : MOk smallP 102 2097153 aw4 := mrunTo_ok (s := 1048577) small_S small_pf mok_3 (by rw [aw3_per]; omega)
theorem rd_0 : Ready smallP (newP smallP) 12 := newP_ready small_S
theorem aw1_is : aw1 = newP smallP := by kernel_rfl
theorem rd_2 : Ready smallP aw2 12 := by
  unfold aw2
  rw [aw1_is]
  exact rd_0.feed 0 [5, 9]
theorem rd_3 : ∃ d, d < 13 ∧ Ready smallP aw3 d := by
  rcases mrun_ends small_S 1 _ (R := mrunTo smallP 13 1 aw2) rfl rd_2 (by decide) rfl with ⟨_, _, _, h⟩ | ⟨_, _, _, _, _, _, h⟩
  · exact h
  · exact h
theorem small_pl : ∀ p ∈ smallP.parts, p.params.length ≤ 17600000000000 := by
  intro p hp
  simp [smallP] at hp
  rcases hp with rfl | rfl <;> simp


set_option maxRecDepth 100000 in
set_option maxHeartbeats 2000000 in
theorem awake_yes (w : World) : Calls Try.prog 13 #[] w (Tells (.bool true) w) := by
  go_enter Try.func13, Try.ntmps13
  go_wp2_with fail
  refine (small_ret w).mono ?_
  rintro e w1 ⟨pv, rfl, hp, hb1⟩
  have K1 := (Kept.start w).turn (Turn.of_below (fun _ => 0) 5 hb1) (fun h => h)
  go_wp2_with fail
  refine (mNew_any w1 (ext (fun _ => 0) w.heap.size 5) 1000 (by omega) pv smallP hp small_pl small_pf).mono ?_
  intro e w2 H
  unfold NewRet at H
  rw [show checkC smallP = 0 by unfold checkC; rw [small_S], if_neg (by decide)] at H
  obtain ⟨b, o2, v2, rfl, T2, M2, -⟩ := H
  have HW2 : Hid (Work w w2 o2 1000 b smallP (newP smallP) v2) := Lib.hid ⟨K1.turn T2 (fun h => h), M2⟩
  clear K1 T2 M2 hp hb1
  go_wp2_with fail
  refine (Step_any HW2.out.mach (pok_of small_S) small_pf mok_0 (by omega)).mono ?_
  rintro e w3 ⟨o3, v3, cv, rfl, T3, M3, I3⟩
  have HW3 : Hid (Work w w3 o3 1000 b smallP aw1 v3) := Lib.hid (HW2.out.turn (by omega) T3 M3)
  have hh := aw_1
  obtain ⟨⟨evo, evk, evl, evc, evh⟩, hev⟩ : ∃ x, (mstep smallP (newP smallP)).1 = x := ⟨_, rfl⟩
  rw [hev] at I3 hh ⊢
  dsimp only at hh I3
  subst hh
  obtain ⟨ca, cc, rfl⟩ := I3.slice
  unfold evV
  dsimp only
  clear T3 M3 I3 HW2 hev
  -- the first event, boxed
  have T4 := Turn.of_below o3 5 (below_alloc w3 (.cells #[.int .i64 evo, .int .u8 evk, .int .i64 evl, .slice ca evc.length cc, .int .u8 2] 39))
  have F4 := blk_new (w := w3) o3 5 #[.int .i64 evo, .int .u8 evk, .int .i64 evl, .slice ca evc.length cc, .int .u8 2] 39
  have W4 := HW3.out.below 5 (below_alloc w3 (.cells #[.int .i64 evo, .int .u8 evk, .int .i64 evl, .slice ca evc.length cc, .int .u8 2] 39))
  obtain ⟨w4, hw4⟩ : ∃ x, w3.alloc (.cells #[.int .i64 evo, .int .u8 evk, .int .i64 evl, .slice ca evc.length cc, .int .u8 2] 39) = x := ⟨_, rfl⟩
  obtain ⟨X, hX⟩ : ∃ x, w3.heap.size = x := ⟨_, rfl⟩
  rw [hw4] at F4 W4
  generalize ext o3 w3.heap.size 5 = o4 at *
  rw [hX] at F4
  have hs4 : w4.heap.size = X + 1 := by rw [← hw4, ← hX]; simp
  have W5 := W4.below 5 (below_alloc w4 (.cells #[.int .i64 5, .int .i64 9] 3))
  have F5 := F4.turn (Turn.of_below o4 5 (below_alloc w4 (.cells #[.int .i64 5, .int .i64 9] 3))) (fun h => h)
  have hl5 := has_lit w4 [5, 9] 3 _ hs4.symm (by decide)
  generalize ext o4 w4.heap.size 5 = o5 at *
  have HW5 := Lib.hid W5
  have HF5 := Lib.hid F5
  have HL5 := Lib.hid hl5
  subst hw4
  clear T4 F4 W4 W5 F5 hl5 hs4 HW3
  go_wp2_with fail
  refine (Feed_any HW5.out.mach 0 HL5.out (fun r hr => by have := (mok_1.fedf r hr).1; show r.length + 2 ≤ _; omega)).mono ?_
  intro e w6 H
  unfold FeedRet at H
  rw [if_pos (show inIn aw1 0 from ⟨Int.le_refl _, by decide⟩)] at H
  obtain ⟨o6, v6, rfl, T6, M6⟩ := H
  have HW : Hid (Work w w6 o6 1000 b smallP aw2 v6) := Lib.hid (HW5.out.turn (by omega) T6 M6)
  have HF := Lib.hid (HF5.out.turn T6 (by unfold MineS; omega))
  clear T6 M6 HW5 HF5 HL5
  go_wp2_with fail
  refine (Run_any 1 HW.out.mach small_S small_pf mok_2 (by omega) (by omega) rd_2 (by decide)).mono ?_
  rintro e w7 ⟨o7, v7, rfl, T7, M7⟩
  rw [show ((aw2.periods : Int) + ((1 : Nat) : Int)) = 1 by rw [aw2_per]; rfl] at M7 ⊢
  replace HW : Hid (Work w w7 o7 1000 b smallP aw3 v7) := Lib.hid (HW.out.turn (by omega) T7 M7)
  replace HF := Lib.hid (HF.out.turn T7 (by unfold MineS; omega))
  rw [aw_2]
  clear T7 M7
  go_wp2_with fail
  refine (Out_any HW.out.mach 0 (fun r hr => by have := (mok_3.outf r hr).1; omega)).mono ?_
  intro e wn HN
  obtain ⟨sa, sc, rfl, hI, hbn⟩ := newInts_at HN
  rw [aw_3.1.1] at hI ⊢
  replace HF := Lib.hid (HF.out.turn (Turn.of_below _ 5 hbn) (fun h => h))
  replace HW := Lib.hid (HW.out.below 5 hbn)
  have hbl := below_alloc wn (.cells #[.int .i64 7, .int .i64 12] 3)
  have hL := has_lit wn [7, 12] 3 _ rfl (by decide)
  replace HF := Lib.hid (HF.out.turn (Turn.of_below _ 5 hbl) (fun h => h))
  replace HW := Lib.hid (HW.out.below 5 hbl)
  have HI2 := Lib.hid (hI.below hbl)
  have HL := Lib.hid hL
  clear HN hI hbn hbl hL
  go_wp2_with fail
  refine (sameints_yes HI2.out HL.out (by decide)).mono ?_
  rintro e _ ⟨rfl, mm, rfl⟩
  replace HF := Lib.hid (HF.out.drewN mm)
  replace HW := Lib.hid (HW.out.drewN mm)
  clear HI2 HL
  go_wp2_with fail
  refine (Periods_any HW.out.mach).mono ?_
  rintro e _ ⟨rfl, rfl⟩
  rw [aw3_per]
  go_wp2_with fail
  refine (Count_any HW.out.mach (by rw [mok_3.lines]; decide)).mono ?_
  intro e wn HN
  obtain ⟨sa, sc, rfl, hI, hbn⟩ := newInts_at HN
  rw [aw_3.2.1] at hI ⊢
  replace HF := Lib.hid (HF.out.turn (Turn.of_below _ 5 hbn) (fun h => h))
  replace HW := Lib.hid (HW.out.below 5 hbn)
  have hbl := below_alloc wn (.cells #[.int .i64 1] 3)
  have hL := has_lit wn [1] 3 _ rfl (by decide)
  replace HF := Lib.hid (HF.out.turn (Turn.of_below _ 5 hbl) (fun h => h))
  replace HW := Lib.hid (HW.out.below 5 hbl)
  have HI2 := Lib.hid (hI.below hbl)
  have HL := Lib.hid hL
  clear HN hI hbn hbl hL
  go_wp2_with fail
  refine (sameints_yes HI2.out HL.out (by decide)).mono ?_
  rintro e _ ⟨rfl, mm, rfl⟩
  replace HF := Lib.hid (HF.out.drewN mm)
  replace HW := Lib.hid (HW.out.drewN mm)
  clear HI2 HL
  go_wp2_with fail
  refine (mFired_any HW.out.mach mok_3.bods).mono ?_
  intro e wn HN
  obtain ⟨sa, sc, rfl, hI, hbn⟩ := newInts_at HN
  rw [aw_3.2.2] at hI ⊢
  replace HF := Lib.hid (HF.out.turn (Turn.of_below _ 5 hbn) (fun h => h))
  replace HW := Lib.hid (HW.out.below 5 hbn)
  have hbl := below_alloc wn (.cells #[.int .i64 1, .int .i64 2] 3)
  have hL := has_lit wn [1, 2] 3 _ rfl (by decide)
  replace HF := Lib.hid (HF.out.turn (Turn.of_below _ 5 hbl) (fun h => h))
  replace HW := Lib.hid (HW.out.below 5 hbl)
  have HI2 := Lib.hid (hI.below hbl)
  have HL := Lib.hid hL
  clear HN hI hbn hbl hL
  go_wp2_with fail
  refine (sameints_yes HI2.out HL.out (by decide)).mono ?_
  rintro e _ ⟨rfl, mm, rfl⟩
  replace HF := Lib.hid (HF.out.drewN mm)
  replace HW := Lib.hid (HW.out.drewN mm)
  clear HI2 HL
  obtain ⟨d3, hd3, hr3⟩ := rd_3
  go_wp2_with fail
  refine (Run_any 2 HW.out.mach small_S small_pf mok_3 (by omega) (by omega) hr3 hd3).mono ?_
  rintro e w9 ⟨o9, v9, rfl, T9, M9⟩
  rw [show ((aw3.periods : Int) + ((2 : Nat) : Int)) = 3 by rw [aw3_per]; rfl] at M9 ⊢
  replace HW : Hid (Work w w9 o9 1000 b smallP aw4 v9) := Lib.hid (HW.out.turn (by omega) T9 M9)
  replace HF := Lib.hid (HF.out.turn T9 (by unfold MineS; omega))
  rw [aw_4]
  clear T9 M9 hd3 hr3
  go_wp2_with fail
  refine (Out_any HW.out.mach 0 (fun r hr => by have := (mok_4.outf r hr).1; omega)).mono ?_
  intro e wn HN
  obtain ⟨sa, sc, rfl, hI, hbn⟩ := newInts_at HN
  rw [aw_5.1] at hI ⊢
  replace HF := Lib.hid (HF.out.turn (Turn.of_below _ 5 hbn) (fun h => h))
  replace HW := Lib.hid (HW.out.below 5 hbn)
  have hbl := below_alloc wn (.cells #[.int .i64 7, .int .i64 12, .int .i64 12, .int .i64 21] 3)
  have hL := has_lit wn [7, 12, 12, 21] 3 _ rfl (by decide)
  replace HF := Lib.hid (HF.out.turn (Turn.of_below _ 5 hbl) (fun h => h))
  replace HW := Lib.hid (HW.out.below 5 hbl)
  have HI2 := Lib.hid (hI.below hbl)
  have HL := Lib.hid hL
  clear HN hI hbn hbl hL
  go_wp2_with fail
  refine (sameints_yes HI2.out HL.out (by decide)).mono ?_
  rintro e _ ⟨rfl, mm, rfl⟩
  replace HF := Lib.hid (HF.out.drewN mm)
  replace HW := Lib.hid (HW.out.drewN mm)
  clear HI2 HL
  go_wp2_with fail
  refine (Memory_any HW.out.mach (by rw [mok_4.mem]; decide)).mono ?_
  intro e wn HN
  obtain ⟨sa, sc, rfl, hI, hbn⟩ := newInts_at HN
  rw [aw_5.2] at hI ⊢
  replace HF := Lib.hid (HF.out.turn (Turn.of_below _ 5 hbn) (fun h => h))
  replace HW := Lib.hid (HW.out.below 5 hbn)
  have hbl := below_alloc wn (.cells #[.int .i64 9, .int .i64 0, .int .i64 0] 3)
  have hL := has_lit wn [9, 0, 0] 3 _ rfl (by decide)
  replace HF := Lib.hid (HF.out.turn (Turn.of_below _ 5 hbl) (fun h => h))
  replace HW := Lib.hid (HW.out.below 5 hbl)
  have HI2 := Lib.hid (hI.below hbl)
  have HL := Lib.hid hL
  clear HN hI hbn hbl hL
  go_wp2_with fail
  refine (sameints_yes HI2.out HL.out (by decide)).mono ?_
  rintro e _ ⟨rfl, mm, rfl⟩
  replace HF := Lib.hid (HF.out.drewN mm)
  replace HW := Lib.hid (HW.out.drewN mm)
  clear HI2 HL
  have x4 := HF.out.cell 4 _ rfl
  go_wp2
  go_ret
  exact ⟨rfl, HW.out.kept.below⟩
end Go.Proofs.Ytnnnpippekpibaa

/- A list lent: Lent. -/

namespace Go.Proofs.Ytnnnpippekpibaa
open Go.RowKit

theorem new_cells {w w' : World} {B : Nat} {ao : Option Addr} {vs : List Value} (hb : Below B w w') (h : ∀ ad, ao = some ad → ∀ j u, vs[j]? = some u → w.cell? (ad.add j) = some u) (hB : ∀ k, k < w.heap.size → k < B := by intro k hk; exact hk) : ∀ ad, ao = some ad → ∀ j u, vs[j]? = some u → w'.cell? (ad.add j) = some u := fun ad had j u hu =>
  (hb.cell (hB _ (World.block_lt_of_cell? _ _ (h ad had j u hu)))).trans (h ad had j u hu)

set_option maxHeartbeats 800000 in
theorem lent_any (w : World) (zs : List Int) (ao : Option Addr) (zc : Nat) (hz : zs.length ≤ 17600000000000) (hnone : ao = none → zs.length = 0) (hcz : ∀ ad, ao = some ad → ∀ j u, (zs.map (Value.int .i64))[j]? = some u → w.cell? (ad.add j) = some u) :
    Calls Try.prog 36 #[.slice ao zs.length zc] w fun e w' => ∃ g cap, e = .returned (.slice (some ⟨g, 0, none⟩) zs.length cap) ∧
      w'.ownsRow w.heap.size 3 1 (.slice (some ⟨g, 0, none⟩) (zs.length + 4) cap) (zs.length + 4) ((zs ++ List.replicate 4 (-7770777)).map (Value.int .i64)) ∧ Below w.heap.size w w' := by
  obtain ⟨i0, hi, hz0, hz1, hz2⟩ := info_parts info_int
  have HZ := Lib.hid hz
  have Hnone := Lib.hid hnone
  have Hcz := Lib.hid hcz
  have hzi : (zs.length : Int) + 4 ≤ 4611686018427387904 := by omega
  clear hz hnone hcz
  go_enter Try.func36, Try.ntmps36
  obtain ⟨w1, hr, hown, hg⟩ := run_make_own (P := Try.prog) w w.heap.size 37 3 i0 _ 1 Try.underlying37 hi hz0 hz1 .i64 .i64 (zs.length + 4) (by rw [hz2]; have := HZ.out; omega) (by have := HZ.out; unfold maxLen; omega) (Nat.le_refl _)
  have hcast : ((zs.length + 4 : Nat) : Int) = (zs.length : Int) + 4 := by omega
  rw [hcast] at hr
  go_wp2_with (at_builtin; refine stop_here ?_)
  refine go_on ?_
  have hm1 : Mods (fun _ => False) w w1 := (Mods.refl (fun _ => False) w).grown hg (fun k hk _ => by simp at hk)
  have hsz1 := hm1.size
  have hcz1 : ∀ ad, ao = some ad → ∀ j u, (zs.map (Value.int .i64))[j]? = some u → w1.cell? (ad.add j) = some u := new_cells (below_mods hm1) Hcz.out
  refine wpList_app rfl _ _ 37 rfl w.heap.size 3 i0 _ 1 8 Try.underlying37 hi hz0 hz1 hz2 rfl (.slice (some ⟨w.heap.size, 0, none⟩) 0 (zs.length + 4)) 0 [] rfl hown ao zs.length zc (zs.map (Value.int .i64)) rfl (by simp) Hnone.out hcz1 (ivs_one zs) (by have := HZ.out; unfold maxLen; omega) (grow_ok (by have := HZ.out; omega)) hsz1 ?_
  intro v2 w2 g1 g20 _ g4
  have g2 : w1.grownBy w2 (Value.slice (some ⟨w.heap.size, 0, none⟩) 0 (zs.length + 4)).ownBlock := ⟨g20.os, g20.tape, g20.output, g20.size, g20.block⟩
  have hb2 : Below w.heap.size w w2 := (hm1.below (Nat.le_refl _) (fun _ _ h => h)).trans (((Mods.refl (fun k => k = w.heap.size) w1).grown g2 (fun k hk _ => (Option.some.inj hk).symm)).below hsz1 (fun k hk e => by omega))
  simp only [Nat.zero_add, List.nil_append] at g1
  have hT : ∃ v n, v2 = v ∧ n = zs.length ∧ w2.ownsRow w.heap.size 3 1 v n ((zs ++ List.replicate 0 (-7770777)).map (Value.int .i64)) := ⟨_, _, rfl, rfl, by simpa using g1⟩
  clear g20 g2 g4 hown hg hr hcast hcz1
  go_wp2_with fail
  go_loopw [3, 4] (fun v i wr => ∃ k : Nat, k ≤ 4 ∧ i = .int .i64 k ∧ wr.ownsRow w.heap.size 3 1 v (zs.length + k) ((zs ++ List.replicate k (-7770777)).map (Value.int .i64)) ∧ Below w.heap.size w wr) (fun _ i _ => 4 - (intOf i).toNat)
  case atStart => exact ⟨0, by omega, rfl, by simpa using g1, hb2⟩
  case round =>
    clear hT g1 hb2
    obtain ⟨k, hk, rfl, hrow, hbw⟩ := hrel
    have hsz := hbw.size
    obtain ⟨sv, cv, rfl⟩ := owns_slice hrow
    by_cases hlt : k < 4
    · have hki : (k : Int) < 4 := by omega
      go_wp2_with (at_builtin; refine stop_here ?_)
      refine go_on ?_
      refine wpList_app rfl _ _ 37 rfl w.heap.size 3 i0 _ 1 8 Try.underlying37 hi hz0 hz1 hz2 rfl (.slice sv (zs.length + k) cv) (zs.length + k) _ rfl (hrow.alloc (.cells #[.int .i64 (-7770777)] 3)) (some ⟨wr.heap.size, 0, none⟩) 1 1 [.int .i64 (-7770777)] rfl rfl (fun h => by cases h) (news_alloc wr [.int .i64 (-7770777)] 3) (by simp [Value.oneCell']) (by have := HZ.out; unfold maxLen; omega) (grow_ok (by have := HZ.out; omega)) (size_le_alloc hsz _) ?_
      intro v5 w5 k1 k20 _ _
      have k2 : (wr.alloc (.cells #[.int .i64 (-7770777)] 3)).grownBy w5 (Value.slice sv (zs.length + k) cv).ownBlock := ⟨k20.os, k20.tape, k20.output, k20.size, k20.block⟩
      have hb5 := hbw.trans (below_app hrow k2 hsz)
      have k3 : w5.ownsRow w.heap.size 3 1 v5 (zs.length + (k + 1)) ((zs ++ List.replicate (k + 1) (-7770777)).map (Value.int .i64)) := by
        rw [List.replicate_succ', ← List.append_assoc, List.map_append]; exact k1
      clear k1 k20 k2 hrow
      go_wp2
      go_roundw
      case rel => exact ⟨k + 1, by omega, by go_num, k3, hb5⟩
      case measure => simp [intOf]; omega
    · obtain rfl : k = 4 := by omega
      obtain ⟨_, hcap, g, hg, rfl, _⟩ := owns_cell hrow (by simp)
      have hcapi : (zs.length : Int) ≤ cv := by omega
      go_wp2
      go_ret
      exact ⟨g, cv, rfl, by simpa using hrow, hbw⟩

/-- the own list, and the marked room behind it, as they are -/
def Lends (w : World) (g n cap : Nat) (zs : List Int) : Prop :=
  n = zs.length ∧ n + 4 ≤ cap ∧ g < w.heap.size ∧ (∀ k, k < n → w.cell? ⟨g, k, none⟩ = some (.int .i64 (zs[k]?.getD 0))) ∧ ∀ k, n ≤ k → k < n + 4 → w.cell? ⟨g, k, none⟩ = some (.int .i64 (-7770777))

theorem lends_of_owns {w : World} {base g cap : Nat} {zs : List Int} (h : w.ownsRow base 3 1 (.slice (some ⟨g, 0, none⟩) (zs.length + 4) cap) (zs.length + 4) ((zs ++ List.replicate 4 (-7770777)).map (Value.int .i64))) : Lends w g zs.length cap zs := by
  obtain ⟨_, hcap, g', _, e, hc, _, hg⟩ := owns_cell h (by simp)
  cases e
  refine ⟨rfl, hcap, hg, fun k hk => hc k _ ?_, fun k h1 h2 => hc k _ ?_⟩
  · simp [List.getElem?_append_left, hk]
  · rw [List.getElem?_map, List.getElem?_append_right h1, List.getElem?_replicate, if_pos (by omega)]
    rfl

theorem Lends.below {w w' : World} {g n cap : Nat} {zs : List Int} (h : Lends w g n cap zs) (hb : Below w.heap.size w w') : Lends w' g n cap zs :=
  ⟨h.1, h.2.1, Nat.lt_of_lt_of_le h.2.2.1 hb.size, fun k hk => cell_later hb (h.2.2.2.1 k hk), fun k h1 h2 => cell_later hb (h.2.2.2.2 k h1 h2)⟩

theorem Lends.has {w : World} {g n cap c : Nat} {zs : List Int} (h : Lends w g n cap zs) (hc : n ≤ c) : Has w (.slice (some ⟨g, 0, none⟩) n c) (ivs zs) := by
  obtain ⟨rfl, _, hg, hcl, _⟩ := h
  by_cases hp : 0 < zs.length
  · exact .inr ⟨by simpa using hp, g, 0, c, by simp, by simpa using hc, hg, rfl, fun k hk => by
      have hk' : k < zs.length := by simpa using hk
      rw [ivs_get hk', Nat.zero_add]; exact hcl k hk'⟩
  · obtain rfl : zs = [] := List.eq_nil_of_length_eq_zero (by omega)
    exact .inl ⟨rfl, _, c, rfl⟩

/-- Lent, read -/
def LentRet (w : World) (zs : List Int) (e : Ending) (w' : World) : Prop := ∃ g cap, e = .returned (.slice (some ⟨g, 0, none⟩) zs.length cap) ∧ Has w' (.slice (some ⟨g, 0, none⟩) zs.length cap) (ivs zs) ∧ w.heap.size ≤ g ∧ Below w.heap.size w w'
theorem lent_has {w : World} {ao : Option Addr} {n zc : Nat} {zs : List Int} (h : Has w (.slice ao n zc) (ivs zs)) (hz : zs.length ≤ 17600000000000) : Calls Try.prog 36 #[.slice ao n zc] w (LentRet w zs) := by
  obtain ⟨h1, h2⟩ := h.news
  obtain rfl := Ints.len h
  refine (lent_any w zs ao zc hz h1 h2).mono ?_
  rintro e w' ⟨g, cap, rfl, hown, hb⟩
  have hl := lends_of_owns hown
  exact ⟨g, cap, rfl, hl.has (by have := hl.2.1; omega), (hown.lt g rfl).1, hb⟩
theorem Vals.recol {w : World} {o : Col} {g n cap d : Nat} {vs : List Value} (h : Has w (.slice (some ⟨g, 0, none⟩) n cap) vs) (ho : o g = d) : Vals w o d (.slice (some ⟨g, 0, none⟩) n cap) vs := by
  rcases h with h | ⟨hp, b, off, cap', e, hl, hb, _, hcl⟩
  · exact .inl h
  · cases e
    exact .inr ⟨hp, _, _, _, rfl, hl, hb, ho, hcl⟩
end Go.Proofs.Ytnnnpippekpibaa

/- The reference's Ints: a list of its own. -/
namespace Go.Proofs.Ytnnnpippekpibaa
open Go.RowKit

def IntsRet (w : World) (l : List Int) (e : Ending) (w' : World) : Prop := ∃ v, e = .returned v ∧ w'.ownsRow w.heap.size 3 1 v l.length (ivs l) ∧ Below w.heap.size w w'
theorem rints_any {o : Col} {c : Nat} (w : World) (ao : Option Addr) (n cap : Nat) (l : List Int) (h : Ints w o c (.slice ao n cap) l) (hn : l.length ≤ 17600000000000) : Calls Try.prog 22 #[.slice ao n cap] w (IntsRet w l) := by
  obtain ⟨i0, hi, hz0, hz1, hz2⟩ := info_parts info_int
  obtain ⟨hnone, hnews⟩ := h.news
  obtain rfl := h.len
  have HN := Lib.hid hn
  have Hnone := Lib.hid hnone
  have Hnews := Lib.hid hnews
  clear hn hnone hnews h
  go_enter Try.func22, Try.ntmps22
  go_wp2_with (at_builtin; refine stop_here ?_)
  refine go_on ?_
  refine wpList_app rfl _ _ 37 rfl w.heap.size 3 i0 _ 1 8 Try.underlying37 hi hz0 hz1 hz2 rfl (.slice none 0 0) 0 [] rfl (World.ownsRow_nil w w.heap.size 3 1) ao l.length cap (ivs l) rfl (by simp) Hnone.out (fun ad had j u hu => Hnews.out ad had j u hu) (ivs_one l) (by have := HN.out; unfold maxLen; omega) (grow_ok (by have := HN.out; omega)) (Nat.le_refl _) ?_
  intro v' w2 g1 g20 g3 g4
  have g2 : w.grownBy w2 (Value.slice none 0 0).ownBlock := g20
  have hb : Below w.heap.size w w2 := ((Mods.refl (fun _ => False) w).grown g2 (fun k hk hlt => by cases hk)).below (Nat.le_refl _) (fun _ _ h => h)
  simp only [Nat.zero_add, List.nil_append] at g1
  have G1 := Lib.hid g1
  clear g1 g20 g2 g3 g4
  obtain ⟨sv, cv, rfl⟩ := owns_slice G1.out
  go_wp2
  go_ret
  exact ⟨_, rfl, by simpa using G1.out, hb⟩
end Go.Proofs.Ytnnnpippekpibaa

/- SvmNil, walked: a machine that is none. -/
namespace Go.Proofs.Ytnnnpippekpibaa
open Go.RowKit

theorem Step_nil (w : World) : Calls Try.prog 12 #[.pointer none] w fun e w' => e = .returned (.tuple #[eZ, .int .i64 3]) ∧ Below w.heap.size w w' := by
  go_enter Try.func12, Try.ntmps12
  go_wp2
  refine bodyPost_ret_by (results_row_tmp rfl _ _ _ _ _ _ _ rfl (heap_alloc_new w _) Try.underlying39 rfl (by kernel_rfl)) rfl ?_
  exact ⟨rfl, below_alloc w _⟩
theorem Run_nil (w : World) (n : Int) : Calls Try.prog 11 #[.pointer none, .int .i64 n] w (SameW (.tuple #[.int .u8 0, .int .i64 3]) w) := by
  go_enter Try.func11, Try.ntmps11
  go_wp2
  go_ret2
  exact ⟨rfl, rfl⟩
theorem Feed_nil (w : World) (n : Int) (ao : Option Addr) (l c : Nat) : Calls Try.prog 10 #[.pointer none, .int .i64 n, .slice ao l c] w (SameW (.int .i64 3) w) := by
  go_enter Try.func10, Try.ntmps10
  go_wp2
  go_ret
  exact ⟨rfl, rfl⟩
theorem Out_nil (w : World) (n : Int) : Calls Try.prog 24 #[.pointer none, .int .i64 n] w (SameW (.slice none 0 0) w) := by
  go_enter Try.func24, Try.ntmps24
  go_wp2
  go_ret
  exact ⟨rfl, rfl⟩
theorem Counters_nil (w : World) : Calls Try.prog 20 #[.pointer none] w (SameW (.slice none 0 0) w) := by
  go_enter Try.func20, Try.ntmps20
  go_wp2
  go_ret
  exact ⟨rfl, rfl⟩
theorem Count_nil (w : World) : Calls Try.prog 25 #[.pointer none] w (SameW (.slice none 0 0) w) := by
  go_enter Try.func25, Try.ntmps25
  go_wp2
  go_ret
  exact ⟨rfl, rfl⟩
theorem Memory_nil (w : World) : Calls Try.prog 26 #[.pointer none] w (SameW (.slice none 0 0) w) := by
  go_enter Try.func26, Try.ntmps26
  go_wp2
  go_ret
  exact ⟨rfl, rfl⟩
theorem mFired_nil (w : World) : Calls Try.prog 27 #[.pointer none] w (SameW (.slice none 0 0) w) := by
  go_enter Try.func27, Try.ntmps27
  go_wp2
  go_ret
  exact ⟨rfl, rfl⟩
theorem Periods_nil (w : World) : Calls Try.prog 19 #[.pointer none] w (SameW (.int .i64 0) w) := by
  go_enter Try.func19, Try.ntmps19
  go_wp2
  go_ret
  exact ⟨rfl, rfl⟩

set_option maxRecDepth 100000 in
set_option maxHeartbeats 1000000 in
theorem nil_all {o : Col} {c : Nat} (w : World) (k : Int) (v : Value) (l : List Int) (h : Ints w o c v l) (hl : l.length ≤ 17600000000000) : Calls Try.prog 7 #[.int .i64 k, v] w (Tells (.bool true) w) := by
  obtain ⟨ao, cap, rfl⟩ := h.slice
  have H := Lib.hid h.has
  clear h
  go_enter Try.func7, Try.ntmps7
  go_wp2_with fail
  refine (Step_nil w).mono ?_
  rintro e w1 ⟨rfl, hb1⟩
  unfold eZ
  have HB1 := Lib.hid (hb1.trans ((below_alloc w1 (.cells #[.int .i64 0, .int .u8 0, .int .i64 0, .slice none 0 0, .int .u8 0] 39)).mono hb1.size))
  clear hb1
  go_wp2_with fail
  refine (Run_nil _ k).mono ?_
  rintro e _ ⟨rfl, rfl⟩
  go_wp2_with fail
  refine (rints_any _ ao _ cap l (H.out.below HB1.out) hl).mono ?_
  rintro e w2 ⟨lv, rfl, k2, hb2⟩
  obtain ⟨sa, sc, rfl⟩ := owns_slice k2
  have HB2 := Lib.hid (HB1.out.trans (hb2.mono HB1.out.size))
  clear hb2 k2
  go_wp2_with fail
  refine (Feed_nil w2 k _ _ _).mono ?_
  rintro e _ ⟨rfl, rfl⟩
  go_wp2_with fail
  refine (Out_nil w2 k).mono ?_
  rintro e _ ⟨rfl, rfl⟩
  go_wp2_with fail
  refine (Counters_nil w2).mono ?_
  rintro e _ ⟨rfl, rfl⟩
  go_wp2_with fail
  refine (Count_nil w2).mono ?_
  rintro e _ ⟨rfl, rfl⟩
  go_wp2_with fail
  refine (Memory_nil w2).mono ?_
  rintro e _ ⟨rfl, rfl⟩
  go_wp2_with fail
  refine (mFired_nil w2).mono ?_
  rintro e _ ⟨rfl, rfl⟩
  go_wp2_with fail
  refine (Periods_nil w2).mono ?_
  rintro e _ ⟨rfl, rfl⟩
  go_wp2_with fail
  refine (awake_yes w2).mono ?_
  rintro e w3 ⟨rfl, hb3⟩
  go_wp2
  go_ret
  exact ⟨rfl, HB2.out.trans (hb3.mono HB2.out.size)⟩
end Go.Proofs.Ytnnnpippekpibaa

/- SvmNames, walked. -/
namespace Go.Proofs.Ytnnnpippekpibaa
open Go.RowKit

theorem Run_bad {w : World} {b : Nat} (n : Int) (hn : n < 0 ∨ 8 < n) : Calls Try.prog 11 #[.pointer (some ⟨b, 0, none⟩), .int .i64 n] w (SameW (.tuple #[.int .u8 0, .int .i64 1]) w) := by
  by_cases h0 : n < 0
  · go_enter Try.func11, Try.ntmps11
    go_wp2
    go_ret2
    exact ⟨rfl, rfl⟩
  · have h8 : (8 : Int) < n := by omega
    go_enter Try.func11, Try.ntmps11
    go_wp2
    go_ret2
    exact ⟨rfl, rfl⟩

def name2 : GProg := { smallP with ops := [⟨4, 0, 1⟩, ⟨0, 0, 0⟩] }
def name3 : GProg := { smallP with ops := [] }
theorem name2_S : cstepsE name2 = (2, 0) := by kernel_rfl
theorem name3_S : checkC name3 = 200 := by kernel_rfl
def nm2 : MachP := feedAt (newP name2) 0 [1]
theorem nm_1 : (mrunTo name2 2 1 nm2).1 = 4 := by kernel_rfl
theorem nm_2 : (mstep smallP (newP smallP)).1.halt = 2 ∧ (mstep smallP (newP smallP)).1.line = -1 := ⟨by kernel_rfl, by kernel_rfl⟩
theorem nok_0 : MOk name2 100 0 (newP name2) := newP_ok name2_S small_pf small_sf
theorem nok_2 : MOk name2 101 0 nm2 := nok_0.feed 0 (G := 1) (ts := [1]) (by decide) (by intro x hx; simp at hx; subst hx; unfold Fits; omega)
theorem nrd_2 : Ready name2 nm2 1 := (newP_ready name2_S).feed 0 [1]
theorem nm2_per : nm2.periods = 0 := by kernel_rfl

def namesO : List Value := [.int .u8 4, .int .i64 0, .int .i64 1, .int .u8 0, .int .i64 0, .int .i64 0]
theorem name2_has {w w0 : World} {n cp cl : Nat} {ap al : Option Addr} (rp : Recs w0 2 (TailR partHd GPart.params) (.slice ap smallP.parts.length cp) smallP.parts) (rl : Recs w0 3 (TailR lineHd GLine.start) (.slice al smallP.lines.length cl) smallP.lines) (hb : Below w0.heap.size w0 w) {fr : Nat × Nat} (hz : w.heap[n]? = some (.cells namesO.toArray 43 fr)) : HasProg w (.agg #[.int .i64 smallP.memory, .int .i64 smallP.counters, .int .i64 smallP.ins, .int .i64 smallP.outs, .slice ap smallP.parts.length cp, .slice al smallP.lines.length cl, .slice (some ⟨n, 0, none⟩) 2 2]) name2 := by
  refine ⟨_, _, _, rfl, rp.below (tail_steady _ _) hb, rl.below (tail_steady _ _) hb, some ⟨n, 0, none⟩, 2, rfl, (fun h => by cases h), ⟨Nat.le_refl _, fun ad e => by cases e; rfl⟩, fun ad e j u hu => ?_⟩
  obtain rfl := Option.some.inj e
  rw [Addr.add_lit, Nat.zero_add]
  exact cells_row _ _ hz j u (by change (opsV name2.ops)[j]? = some u at hu; rw [show opsV name2.ops = namesO from rfl] at hu; exact (List.getElem?_toArray ..).trans hu)
theorem name3_has {w w0 : World} {cp cl : Nat} {ap al : Option Addr} (rp : Recs w0 2 (TailR partHd GPart.params) (.slice ap smallP.parts.length cp) smallP.parts) (rl : Recs w0 3 (TailR lineHd GLine.start) (.slice al smallP.lines.length cl) smallP.lines) (hb : Below w0.heap.size w0 w) : HasProg w (.agg #[.int .i64 smallP.memory, .int .i64 smallP.counters, .int .i64 smallP.ins, .int .i64 smallP.outs, .slice ap smallP.parts.length cp, .slice al smallP.lines.length cl, .slice none 0 0]) name3 :=
  ⟨_, _, _, rfl, rp.below (tail_steady _ _) hb, rl.below (tail_steady _ _) hb, none, 0, rfl, fun _ => rfl, ⟨Nat.le_refl _, fun ad e => by cases e⟩, fun ad e => by cases e⟩

set_option maxRecDepth 100000 in
set_option maxHeartbeats 2000000 in
theorem names_all (w : World) : Calls Try.prog 3 #[] w (Tells (.bool true) w) := by
  go_enter Try.func3, Try.ntmps3
  go_wp2_with fail
  refine (small_ret w).mono ?_
  rintro e w1 ⟨pv, rfl, hp, hb1⟩
  have K1 := (Kept.start w).turn (Turn.of_below (fun _ => 0) 5 hb1) (fun h => h)
  go_wp2_with fail
  refine (mNew_any w1 (ext (fun _ => 0) w.heap.size 5) 1000 (by omega) pv smallP hp small_pl small_pf).mono ?_
  intro e w2 H
  unfold NewRet at H
  rw [show checkC smallP = 0 by unfold checkC; rw [small_S], if_neg (by decide)] at H
  obtain ⟨b, o2, v2, rfl, T2, M2, -⟩ := H
  have HW2 : Hid (Work w w2 o2 1000 b smallP (newP smallP) v2) := Lib.hid ⟨K1.turn T2 (fun h => h), M2⟩
  clear K1 T2 M2 hp hb1
  go_wp2_with fail
  refine (Feed_any (ts := []) (n := 0) HW2.out.mach 1 (Vals.nil w2 (fun _ => 0) 0 none 0 : Ints w2 (fun _ => 0) 0 (.slice none 0 0) []) (fun r hr => by have := (mok_0.fedf r hr).1; show r.length + 0 ≤ _; omega)).mono ?_
  intro e w3 H
  unfold FeedRet at H
  rw [if_neg (show ¬ inIn (newP smallP) 1 from fun h => by have := h.2; have e : (newP smallP).fed.length = 1 := (by kernel_rfl); rw [e] at this; omega)] at H
  obtain ⟨rfl, rfl⟩ := H
  go_wp2_with fail
  refine (Run_bad 9 (by omega)).mono ?_
  rintro e _ ⟨rfl, rfl⟩
  go_wp2_with fail
  refine (Run_any 0 HW2.out.mach small_S small_pf mok_0 (by omega) (by omega) rd_0 (by decide)).mono ?_
  rintro e w4 ⟨o4, v4, rfl, T4, M4⟩
  rw [mrunTo_done (by omega)] at M4 ⊢
  dsimp only at M4 ⊢
  have HW4 : Hid (Work w w4 o4 1000 b smallP (newP smallP) v4) := Lib.hid (HW2.out.turn (by omega) T4 M4)
  clear T4 M4 HW2
  go_wp2_with fail
  refine (Step_any HW4.out.mach (pok_of small_S) small_pf mok_0 (by omega)).mono ?_
  rintro e w5 ⟨o5, v5, cv, rfl, T5, M5, I5⟩
  have HW5 : Hid (Work w w5 o5 1000 b smallP aw1 v5) := Lib.hid (HW4.out.turn (by omega) T5 M5)
  have hh := nm_2
  obtain ⟨⟨evo, evk, evl, evc, evh⟩, hev⟩ : ∃ x, (mstep smallP (newP smallP)).1 = x := ⟨_, rfl⟩
  rw [hev] at I5 hh ⊢
  dsimp only at hh I5
  obtain ⟨rfl, rfl⟩ := hh
  obtain ⟨ca, cc, rfl⟩ := I5.slice
  unfold evV
  dsimp only
  clear T5 M5 I5 HW4 hev
  -- the event, boxed
  have K6 := HW5.out.kept.turn (Turn.of_below o5 5 (below_alloc w5 (.cells #[.int .i64 evo, .int .u8 evk, .int .i64 (-1), .slice ca evc.length cc, .int .u8 2] 39))) (fun h => h)
  have F6 := blk_new (w := w5) o5 5 #[.int .i64 evo, .int .u8 evk, .int .i64 (-1), .slice ca evc.length cc, .int .u8 2] 39
  obtain ⟨w6, hw6⟩ : ∃ x, w5.alloc (.cells #[.int .i64 evo, .int .u8 evk, .int .i64 (-1), .slice ca evc.length cc, .int .u8 2] 39) = x := ⟨_, rfl⟩
  obtain ⟨X, hX⟩ : ∃ x, w5.heap.size = x := ⟨_, rfl⟩
  rw [hw6] at K6 F6
  generalize ext o5 w5.heap.size 5 = o6 at *
  rw [hX] at F6
  have HK6 := Lib.hid K6
  have HF6 := Lib.hid F6
  clear K6 F6 HW5
  go_wp2_with fail
  try rw [hw6]
  clear hw6 hX
  refine (small_ret w6).mono ?_
  rintro e w7 ⟨pv2, rfl, hp, hb7⟩
  have HK7 := Lib.hid (HK6.out.turn (Turn.of_below o6 5 hb7) (fun h => h)).below
  have F7 := HF6.out.turn (Turn.of_below o6 5 hb7) (fun h => h)
  have HF7 := Lib.hid (⟨F7.lt, F7.cell 2 _ rfl, F7.cell 4 _ rfl⟩ : X < w7.heap.size ∧ w7.cell? ⟨X, 2, none⟩ = some (.int .i64 (-1)) ∧ w7.cell? ⟨X, 4, none⟩ = some (.int .u8 2))
  clear hb7 HK6 HF6 F7 o6
  obtain ⟨vp, vl, vo, rfl, rp, rl, ro⟩ := hp
  obtain ⟨ap, cp, rfl⟩ := rp.slice
  obtain ⟨al, cl, rfl⟩ := rl.slice
  obtain ⟨ao, co, rfl⟩ := ro.slice
  clear ro
  have HR := Lib.hid (And.intro rp rl)
  clear rp rl
  -- the program, boxed
  have hb8 := below_alloc w7 (.cells #[.int .i64 smallP.memory, .int .i64 smallP.counters, .int .i64 smallP.ins, .int .i64 smallP.outs, .slice ap smallP.parts.length cp, .slice al smallP.lines.length cl, .slice ao smallP.ops.length co] 30)
  have K8 := (Kept.start w7).turn (Turn.of_below (fun _ => 0) 5 hb8) (fun h => h)
  have P8 := blk_new (w := w7) (fun _ => 0) 5 #[.int .i64 smallP.memory, .int .i64 smallP.counters, .int .i64 smallP.ins, .int .i64 smallP.outs, .slice ap smallP.parts.length cp, .slice al smallP.lines.length cl, .slice ao smallP.ops.length co] 30
  obtain ⟨w8, hw8⟩ : ∃ x, w7.alloc (.cells #[.int .i64 smallP.memory, .int .i64 smallP.counters, .int .i64 smallP.ins, .int .i64 smallP.outs, .slice ap smallP.parts.length cp, .slice al smallP.lines.length cl, .slice ao smallP.ops.length co] 30) = x := ⟨_, rfl⟩
  obtain ⟨Y, hY⟩ : ∃ x, w7.heap.size = x := ⟨_, rfl⟩
  rw [hw8] at K8 P8
  generalize ext (fun _ => 0) w7.heap.size 5 = o8 at *
  rw [hY] at P8
  have hb9 := below_alloc w8 (.cells namesO.toArray 43)
  have T9 := Turn.of_below o8 6 hb9
  have K9 := K8.turn T9 (fun h => h)
  have P9 := P8.turn T9 (fun h => h)
  have Z9 := blk_new (w := w8) o8 6 namesO.toArray 43
  obtain ⟨w9, hw9⟩ : ∃ x, w8.alloc (.cells namesO.toArray 43) = x := ⟨_, rfl⟩
  obtain ⟨Z, hZ⟩ : ∃ x, w8.heap.size = x := ⟨_, rfl⟩
  rw [hw9] at K9 P9 Z9
  generalize ext o8 w8.heap.size 6 = o9 at *
  rw [hZ] at Z9
  have f9 := P9.frozen 6
  have c9 := P9.cell 6 _ rfl
  obtain ⟨PA, TA⟩ := P9.set 6 (.slice (some ⟨Z, 0, none⟩) 2 2)
  have KA := K9.turn TA (by decide)
  have ZA := Z9.turn TA (by decide)
  have hpA := name2_has HR.out.1 HR.out.2 KA.below ZA.1
  have d0 := PA.cell 0 _ rfl
  have d1 := PA.cell 1 _ rfl
  have d2 := PA.cell 2 _ rfl
  have d3 := PA.cell 3 _ rfl
  have d4 := PA.cell 4 _ rfl
  have d5 := PA.cell 5 _ rfl
  have d6 := PA.cell 6 _ rfl
  have HPA := Lib.hid (And.intro PA KA)
  have HHA := Lib.hid hpA
  clear hb8 hb9 T9 K8 K9 P8 P9 Z9 TA PA KA ZA hpA
  unfold namesO at hw9
  have hw9' : w8.alloc (.cells #[.int .u8 4, .int .i64 0, .int .i64 1, .int .u8 0, .int .i64 0, .int .i64 0] 43) = w9 := hw9
  clear hw9
  go_wp2_with fail
  clear c9 f9 d0 d1 d2 d3 d4 d5 d6 hw8 hw9'
  generalize w9.setCell ⟨Y, 6, none⟩ (.slice (some ⟨Z, 0, none⟩) 2 2) = wA at *
  refine (mNew_any wA o9 1000 (by omega) _ name2 HHA.out small_pl small_pf).mono ?_
  intro e wB H
  unfold NewRet at H
  rw [show checkC name2 = 0 by unfold checkC; rw [name2_S], if_neg (by decide)] at H
  obtain ⟨nb, oB, vB, rfl, TB, MB, -⟩ := H
  have HWB : Hid (Work w7 wB oB 1000 nb name2 (newP name2) vB) := Lib.hid ⟨HPA.out.2.turn TB (fun h => h), MB⟩
  have HPB := Lib.hid (HPA.out.1.turn TB (fun h => h))
  clear TB MB HPA HHA
  go_wp2_with fail
  have hbl := below_alloc wB (.cells #[.int .i64 1] 3)
  have hl := has_lit wB [1] 3 _ rfl (by decide)
  have HWC := Lib.hid (HWB.out.below 5 hbl)
  have HPC := Lib.hid (HPB.out.turn (Turn.of_below oB 5 hbl) (fun h => h))
  clear hbl HWB HPB
  refine (Feed_any HWC.out.mach 0 hl (fun r hr => by have := (nok_0.fedf r hr).1; show r.length + 1 ≤ _; omega)).mono ?_
  intro e wD H
  unfold FeedRet at H
  rw [if_pos (show inIn (newP name2) 0 from ⟨Int.le_refl _, by decide⟩)] at H
  obtain ⟨oD, vD, rfl, TD, MD⟩ := H
  have HWD : Hid (Work w7 wD oD 1000 nb name2 nm2 vD) := Lib.hid (HWC.out.turn (by omega) TD MD)
  have HPD := Lib.hid (HPC.out.turn TD (by unfold MineS; omega))
  clear TD MD HWC HPC hl
  go_wp2_with fail
  refine (Run_any 1 HWD.out.mach name2_S small_pf nok_2 (by omega) (by omega) nrd_2 (by decide)).mono ?_
  rintro e wE ⟨oE, vE, rfl, TE, ME⟩
  rw [show ((nm2.periods : Int) + ((1 : Nat) : Int)) = 1 by rw [nm2_per]; rfl] at ME ⊢
  have HKE := HWD.out.kept.turn TE (by unfold MineS; omega)
  have PE := HPD.out.turn TE (by unfold MineS; omega)
  rw [nm_1]
  clear TE ME HWD HPD
  have fe := PE.frozen 6
  have ce := PE.cell 6 _ rfl
  obtain ⟨PF, TF⟩ := PE.set 6 (.slice none 0 0)
  have KF := HKE.turn TF (by decide)
  have d0 := PF.cell 0 _ rfl
  have d1 := PF.cell 1 _ rfl
  have d2 := PF.cell 2 _ rfl
  have d3 := PF.cell 3 _ rfl
  have d4 := PF.cell 4 _ rfl
  have d5 := PF.cell 5 _ rfl
  have d6 := PF.cell 6 _ rfl
  have hpF := Lib.hid (name3_has HR.out.1 HR.out.2 KF.below)
  have HF := Lib.hid KF
  clear PE HKE TF PF KF
  go_wp2_with fail
  clear fe ce d0 d1 d2 d3 d4 d5 d6
  generalize wE.setCell ⟨Y, 6, none⟩ (.slice none 0 0) = wF at *
  refine (mNew_any wF oE 1000 (by omega) _ name3 hpF.out small_pl small_pf).mono ?_
  intro e wG H
  unfold NewRet at H
  rw [name3_S, if_pos (by decide)] at H
  obtain ⟨rfl, hbG⟩ := H
  have HG := Lib.hid (HF.out.below.trans (hbG.mono HF.out.size))
  clear hbG HF hpF
  go_wp2_with fail
  refine (awake_yes wG).mono ?_
  rintro e wH ⟨rfl, hbH⟩
  have HH := Lib.hid (HG.out.trans (hbH.mono HG.out.size))
  have x2 := (HH.out.cell (p := ⟨X, 2, none⟩) HF7.out.1).trans HF7.out.2.1
  have x4 := (HH.out.cell (p := ⟨X, 4, none⟩) HF7.out.1).trans HF7.out.2.2
  clear hbH HG
  go_wp2
  go_ret
  exact ⟨rfl, HK7.out.trans (HH.out.mono HK7.out.size)⟩
end Go.Proofs.Ytnnnpippekpibaa

namespace Go.Proofs.Ytnnnpippekpibaa.svmNames
open Go.ChangeShapes Go.WideShapes Go.ChangeAt Go.RowKit
open Go.ChangeMaps (open_string shut_string)

theorem own : ownKnob Try.prog.godebug = none := by kernel_rfl
theorem laidOut : laidOutB Try.prog = true := by kernel_rfl

set_option maxRecDepth 100000 in
theorem contract (H : Type) (enc : TypeId × Value → H) (W : World) (base : Nat) (args : Array Value) (ds gs : List (DataW H)) (before : List MemPlace)
    (hval : ∀ (j : Nat) t v, Try.f3.params[j]? = some t → args[j]? = some v → Value.okWide Try.prog W .any base t v)
    (hW : DataW.Whole enc Try.prog Try.f3.params.toList Rows.svmNamesSpec.vars false W args.toList ds gs before) :
    Calls Try.prog 3 args W fun e W' => ∃ v, e = .returned v ∧ Rows.svmNamesSpec.post enc Try.prog Try.f3 false true false false W args v W' := by
  have hW' := hW
  obtain ⟨p, q, hA0, hV, rfl, hfz, hnd⟩ := hW
  have hA : DataW.TrodAll enc Try.prog W 0 (fun _ => true) true Try.f3.params.toList args.toList ds p := hA0
  rw [Try.params3] at hA hval
  obtain ⟨hargs, rfl, rfl⟩ := trodAll_nil hA
  obtain rfl : args = #[] := by cases args; simp_all
  obtain ⟨rfl, rfl⟩ := trodVars_none hV
  clear hA0
  refine (names_all W).mono fun e W' ⟨he, bel⟩ => ?_
  subst he
  exact ⟨_, rfl, _, _, _, [], _, [], hW', trodAll_mk1 (shut_bool Try.underlying4 _), trodAll_mk0, rfl, bel.frame _, fun h => by cases h⟩

set_option maxRecDepth 100000 in
theorem lifted (os : Os) (started : os.Started) (H : Type) (enc : TypeId × Value → H) :
    ReturnsInHanded {} Try.checked os 3 .any (Rows.svmNamesSpec.pre6 enc Try.prog Try.f3 Rows.svmNamesRow.domain false) (Rows.svmNamesSpec.post enc Try.prog Try.f3 false true false false) := by
  refine returnsInHanded_of_change (C := Try.checked) own started (by kernel_rfl) Try.func3
    (ChangeSpec.witness6 (enc := enc) (C := Try.checked) false ⟨#[], #[], []⟩ 8 (by kernel_rfl) (by kernel_rfl) (by kernel_rfl) (by kernel_rfl)) ?_
  intro W base args ds gs before hval hW _ _
  exact contract H enc W base args ds gs before hval hW

theorem proved : Rows.SvmNamesSaid :=
  OpenClaim.holds_of_wide 3 Try.f3 rfl rfl rfl rfl rfl rfl rfl ⟨rfl, rfl, rfl, rfl, rfl⟩ rfl rfl rfl rfl rfl (by kernel_rfl) Try.func3 (by kernel_rfl)
    (of_decide_eq_true (by kernel_rfl)) (by unfold Func.isWrapper; first | (rw [if_pos (by decide +kernel)]; kernel_rfl) | (rw [if_neg (by decide +kernel)]; exact ⟨rfl, rfl⟩))
    (fun os started H enc _ => lifted os started H enc)
end Go.Proofs.Ytnnnpippekpibaa.svmNames
