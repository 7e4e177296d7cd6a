/- grownProgram: marks behind the lists. -/
import Derived.Test.YtbmbfifempkhgaaEmitMakesZ2
import Derived.Test.YtbmbfifempkhgaaEmitMakesZ5
import Derived.Test.YtbmbfifempkhgaaEmitMakesZ1
import Derived.Test.YtbmbfifempkhgaaEmitMakesZ3
import Derived.Test.YtbmbfifempkhgaaEmitMakesZ4
namespace Go.Proofs.Ytbmbfifempkhgaa
open Go.RowKit
structure Grow3 (w : World) (o : Col) (c1 c2 c3 : Nat) (vp vl vo vp' vl' vo' : Value) (n m q k1 k2 k3 : Nat) (N N' : Int) : Prop where
 fp : RowG w o c1 108 2 0 vp' n k1 (.int .u8 N) (.int .u8 N')
 fl : RowG w o c2 87 3 0 vl' m k2 (.int .i64 N) (.int .i64 N')
 fq : RowG w o c3 61 3 1 vo' q k3 (.int .i64 N) (.int .i64 N')
 gp : ViewC w o c1 vp n 2 0 (.int .u8 N)
 gl : ViewC w o c2 vl m 3 0 (.int .i64 N)
 gq : ViewC w o c3 vo q 3 1 (.int .i64 N)
theorem Grow3.turn {w w' : World} {o o' : Col} {C : Nat → Prop} {c1 c2 c3 : Nat} {vp vl vo vp' vl' vo' : Value} {n m q k1 k2 k3 : Nat} {N N' : Int} (h : Grow3 w o c1 c2 c3 vp vl vo vp' vl' vo' n m q k1 k2 k3 N N') (T : Turn o o' C w w') (h1 : ¬ C c1) (h2 : ¬ C c2) (h3 : ¬ C c3) : Grow3 w' o' c1 c2 c3 vp vl vo vp' vl' vo' n m q k1 k2 k3 N N' :=
 ⟨h.fp.turn T h1, h.fl.turn T h2, h.fq.turn T h3, h.gp.turn T h1, h.gl.turn T h2, h.gq.turn T h3⟩
def GrownRet (w : World) (o : Col) (c1 c2 c3 : Nat) (a b c d : Int) (vp vl vo : Value) (n m q : Nat) (N N' : Int) (e : Ending) (w' : World) : Prop := ∃ o' vp' vl' vo', e = .returned (.agg #[.int .i64 a, .int .i64 b, .int .i64 c, .int .i64 d, vp', vl', vo']) ∧ Turn o o' (fun x => x = c1 ∨ x = c2 ∨ x = c3) w w' ∧ Grow3 w' o' c1 c2 c3 vp vl vo vp' vl' vo' n m q 16 16 16 N N'
theorem Turn.more {o o1 : Col} {C F : Nat → Prop} {w w1 w2 : World} (h : Turn o o1 C w w1) (m : Mods F w1 w2) (hF : ∀ k, k < w.heap.size → ¬ F k) : Turn o o1 C w w2 := ⟨h.mods.trans m (fun _ _ h => h) (fun n hn f => absurd f (hF n hn)), h.same⟩
set_option maxRecDepth 100000 in
set_option maxHeartbeats 8000000 in
theorem grown_any (w : World) (o : Col) (c1 c2 c3 : Nat) (h12 : c1 ≠ c2) (h13 : c1 ≠ c3) (h23 : c2 ≠ c3) (a b c d N N' : Int) (vp vl vo : Value) (n m q : Nat) (hP : RowK w o c1 108 2 0 vp n n (.int .u8 N)) (hL : RowK w o c2 87 3 0 vl m m (.int .i64 N)) (hO : RowK w o c3 61 3 1 vo q q (.int .i64 N)) (hN0 : 0 ≤ N') (hN1 : N' < 256) (hn : n ≤ 1500000) (hm : m ≤ 1500000) (hq : q ≤ 1500000) : Calls Try.prog 60 #[.agg #[.int .i64 a, .int .i64 b, .int .i64 c, .int .i64 d, vp, vl, vo], .int .i64 N'] w (GrownRet w o c1 c2 c3 a b c d vp vl vo n m q N N') := by
 obtain ⟨iP, hiP, hz0P, hz1P, hz2P⟩ := info_parts info_Part
 obtain ⟨iL, hiL, hz0L, hz1L, hz2L⟩ := info_parts info_Line
 obtain ⟨iO, hiO, hz0O, hz1O, hz2O⟩ := info_parts info_Op
 have hG0 : Grow3 w o c1 c2 c3 vp vl vo vp vl vo n m q 0 0 0 N N' := ⟨hP.grow, hL.grow, hO.grow, hP.done (by decide), hL.done (by decide), hO.done (by decide)⟩
 clear hP hL hO
 have hb1 := below_alloc w (.cells #[.int .i64 a, .int .i64 b, .int .i64 c, .int .i64 d, vp, vl, vo] 39)
 have T1 := Turn.of_below o (c1 + c2 + c3 + 1) hb1
 have hA : Blk _ (ext o w.heap.size (c1 + c2 + c3 + 1)) (c1 + c2 + c3 + 1) _ _ _ := ⟨heap_alloc_new w (.cells #[.int .i64 a, .int .i64 b, .int .i64 c, .int .i64 d, vp, vl, vo] 39), ext_new (Nat.le_refl _)⟩
 obtain ⟨sp, xp, rfl⟩ := hG0.fp.slice
 obtain ⟨sl, xl, rfl⟩ := hG0.fl.slice
 obtain ⟨so, xo, rfl⟩ := hG0.fq.slice
 simp only [Nat.add_zero] at hG0 hb1 T1 hA ⊢
 generalize hW1 : w.alloc (.cells #[.int .i64 a, .int .i64 b, .int .i64 c, .int .i64 d, .slice sp n xp, .slice sl m xl, .slice so q xo] 39) = W1 at *
 have hs1 : W1.heap.size = w.heap.size + 1 := by rw [← hW1]; simp
 have hb2 := below_alloc W1 (.cells progZ 39)
 have T2 := Turn.of_below (ext o w.heap.size (c1 + c2 + c3 + 1)) (c1 + c2 + c3 + 2) hb2
 have hR : Blk _ (ext (ext o w.heap.size (c1 + c2 + c3 + 1)) W1.heap.size (c1 + c2 + c3 + 2)) (c1 + c2 + c3 + 2) _ _ _ := ⟨heap_alloc_new W1 (.cells progZ 39), ext_new (Nat.le_refl _)⟩
 generalize hW2 : W1.alloc (.cells progZ 39) = W2 at *
 have hA2 := hA.turn T2 (fun h => h)
 have HG := Lib.hid ((hG0.turn T1 (fun h => h) (fun h => h) (fun h => h)).turn T2 (fun h => h) (fun h => h) (fun h => h))
 rw [hs1] at hR
 have HT := Lib.hid (T1.trans T2 (fun _ h => h))
 have HA := Lib.hid hA2
 have HR := Lib.hid hR
 have H12 := Lib.hid h12
 have H13 := Lib.hid h13
 have H23 := Lib.hid h23
 rw [hs1] at HG HT HA
 generalize ext (ext o w.heap.size (c1 + c2 + c3 + 1)) (w.heap.size + 1) (c1 + c2 + c3 + 2) = o2 at *
 have HTW := Lib.hid (HT.out.mono (D := fun x => x = c1 ∨ x = c2 ∨ x = c3) (fun _ h => h.elim))
 clear hb1 hb2 T1 T2 hA hA2 hR hG0 h12 h13 h23 HT
 go_enter Try.func60, Try.ntmps60
 go_wp2_with fail
 clear hW1 hW2
 go_loopw [5] (fun i wr => ∃ (k : Nat) (o' : Col) (vp' vl' vo' : Value), k ≤ 16 ∧ i = .int .i64 k ∧ Turn o o' (fun x => x = c1 ∨ x = c2 ∨ x = c3) w wr ∧ w.heap.size + 2 ≤ wr.heap.size ∧ Blk wr o' (c1 + c2 + c3 + 1) w.heap.size 39 #[.int .i64 a, .int .i64 b, .int .i64 c, .int .i64 d, vp', vl', vo'] ∧ Blk wr o' (c1 + c2 + c3 + 2) (w.heap.size + 1) 39 progZ ∧ Grow3 wr o' c1 c2 c3 (.slice sp n xp) (.slice sl m xl) (.slice so q xo) vp' vl' vo' n m q k k k N N') (fun i _ => 16 - (intOf i).toNat)
 case atStart => exact ⟨0, o2, _, _, _, Nat.zero_le _, rfl, HTW.out, by have := HR.out.lt; omega, HA.out, HR.out, HG.out⟩
 case round =>
  clear HA HR HG HTW
  clear o2
  obtain ⟨k, o2, vp', vl', vo', hk, rfl, hT, hsz, hA, hR, hG⟩ := hrel
  obtain ⟨sp', xp', rfl⟩ := hG.fp.slice
  obtain ⟨sl', xl', rfl⟩ := hG.fl.slice
  obtain ⟨so', xo', rfl⟩ := hG.fq.slice
  have HT := Lib.hid hT
  have HA := Lib.hid hA
  have HR := Lib.hid hR
  have HG := Lib.hid hG
  have y4 := hA.cell 4 _ rfl
  simp only [List.getElem_toArray, List.getElem_cons_succ, List.getElem_cons_zero] at y4
  clear hT hA hR hG
  by_cases hlt : k < 16
  ·
   have hki : (k : Int) < 16 := by omega
   obtain ⟨xs, h1, h2, h3⟩ := HG.out.fp
   go_wp2_with (at_builtin; refine stop_here ?_)
   refine go_on ?_
   refine wpList_app2 rfl _ _ 35 rfl 0 108 iP _ 2 32 Try.underlying35 hiP hz0P hz1P hz2P rfl (.slice sp' (n + k) xp') (n + k) _ rfl (h1.1.alloc (.cells #[.int .u8 N', .slice none 0 0] 108)) (some ⟨wr.heap.size, 0, none⟩) 1 1 [.int .u8 N', .slice none 0 0] rfl rfl (fun h => by cases h) (news_alloc wr [.int .u8 N', .slice none 0 0] 108) (by simp [Value.oneCell']) (by unfold maxLen; omega) (grow_ok (by omega)) (Nat.zero_le _) ?_
   intro v1 w1 k1 k20 _ k4
   have k2 : (wr.alloc (.cells #[.int .u8 N', .slice none 0 0] 108)).grownBy w1 (Value.slice sp' (n + k) xp').ownBlock := ⟨k20.os, k20.tape, k20.output, k20.size, k20.block⟩
   obtain ⟨G, V, T⟩ := grow_step (sz := 2) (off := 0) (u' := .int .u8 N') h1 h2 h3 HG.out.gp rfl rfl k1 k2 k4
   obtain ⟨s1, y1c, rfl⟩ := owns_slice k1
   have hA := HA.out.turn T (by omega)
   have hsz1 : wr.heap.size ≤ w1.heap.size := T.size
   have ya1 := hA.cell 4 _ rfl
   simp only [List.setIfInBounds_toArray, List.set_cons_zero, List.set_cons_succ, List.getElem_toArray, List.getElem_cons_succ, List.getElem_cons_zero] at ya1
   have fa1 := hA.frozen 4
   obtain ⟨B, T2⟩ := hA.set 4 (.slice s1 (n + k + 1) y1c)
   have HA1' := Lib.hid B
   have HR1' := Lib.hid ((HR.out.turn T (by omega)).turn T2 (by omega))
   have HG1' : Hid (Grow3 _ _ c1 c2 c3 (.slice sp n xp) (.slice sl m xl) (.slice so q xo) (.slice s1 (n + k + 1) y1c) (.slice sl' (m + k) xl') (.slice so' (q + k) xo') n m q (k + 1) k k N N') := Lib.hid ⟨G.turn T2 (by omega), (HG.out.fl.turn T (fun e => H12.out e.symm)).turn T2 (by omega), (HG.out.fq.turn T (fun e => H13.out e.symm)).turn T2 (by omega), V.turn T2 (by omega), (HG.out.gl.turn T (fun e => H12.out e.symm)).turn T2 (by omega), (HG.out.gq.turn T (fun e => H13.out e.symm)).turn T2 (by omega)⟩
   have HT1' := Lib.hid ((HT.out.trans T (fun _ h => .inl h)).more ((Mods.refl (fun k => k = w.heap.size) w1).setCell (p := ⟨w.heap.size, 4, none⟩) (fun _ => rfl) (.slice s1 (n + k + 1) y1c)) (fun k hk e => by omega))
   have hz1' : w.heap.size + 2 ≤ (w1.setCell ⟨w.heap.size, 4, none⟩ (.slice s1 (n + k + 1) y1c)).heap.size := by rw [size_setCell']; omega
   clear G V T T2 B hA k1 k20 k2 k4 h1 h2 h3 HT HA HR HG hsz1 y4
   generalize ext o2 wr.heap.size c1 = o1' at *
   have HT1 := HT1'
   have HA1 := HA1'
   have HR1 := HR1'
   have HG1 := HG1'
   have hz1 := hz1'
   clear HT1' HA1' HR1' HG1' hz1'
   obtain ⟨xs, h1, h2, h3⟩ := HG1.out.fl
   have y := HA1.out.cell 5 _ rfl
   simp only [List.setIfInBounds_toArray, List.set_cons_zero, List.set_cons_succ, List.getElem_toArray, List.getElem_cons_succ, List.getElem_cons_zero] at y
   go_wp2_with (at_builtin; refine stop_here ?_)
   refine go_on ?_
   clear ya1 fa1
   obtain ⟨x2, hx2⟩ : ∃ x, w1.setCell ⟨w.heap.size, 4, none⟩ (.slice s1 (n + k + 1) y1c) = x := ⟨_, rfl⟩
   have hs2 : w1.heap.size = x2.heap.size := by rw [← hx2, size_setCell']
   rw [hx2] at HT1 HA1 HR1 HG1 hz1 h1
   rw [hx2, hs2]
   clear hx2 hs2
   refine wpList_app2 rfl _ _ 36 rfl 0 87 iL _ 3 40 Try.underlying36 hiL hz0L hz1L hz2L rfl (.slice sl' (m + k) xl') (m + k) _ rfl (h1.1.alloc (.cells #[.int .i64 N', .int .i64 0, .slice none 0 0] 87)) (some ⟨x2.heap.size, 0, none⟩) 1 1 [.int .i64 N', .int .i64 0, .slice none 0 0] rfl rfl (fun h => by cases h) (news_alloc x2 [.int .i64 N', .int .i64 0, .slice none 0 0] 87) (by simp [Value.oneCell']) (by unfold maxLen; omega) (grow_ok (by omega)) (Nat.zero_le _) ?_
   intro v2 w2 k1 k20 _ k4
   have k2 : (x2.alloc (.cells #[.int .i64 N', .int .i64 0, .slice none 0 0] 87)).grownBy w2 (Value.slice sl' (m + k) xl').ownBlock := ⟨k20.os, k20.tape, k20.output, k20.size, k20.block⟩
   obtain ⟨G, V, T⟩ := grow_step (sz := 3) (off := 0) (u' := .int .i64 N') h1 h2 h3 HG1.out.gl rfl rfl k1 k2 k4
   obtain ⟨s2, y2c, rfl⟩ := owns_slice k1
   have hA := HA1.out.turn T (by omega)
   have hsz2 : x2.heap.size ≤ w2.heap.size := T.size
   have ya2 := hA.cell 5 _ rfl
   simp only [List.setIfInBounds_toArray, List.set_cons_zero, List.set_cons_succ, List.getElem_toArray, List.getElem_cons_succ, List.getElem_cons_zero] at ya2
   have fa2 := hA.frozen 5
   obtain ⟨B, T2⟩ := hA.set 5 (.slice s2 (m + k + 1) y2c)
   have HA2' := Lib.hid B
   have HR2' := Lib.hid ((HR1.out.turn T (by omega)).turn T2 (by omega))
   have HG2' : Hid (Grow3 _ _ c1 c2 c3 (.slice sp n xp) (.slice sl m xl) (.slice so q xo) (.slice s1 (n + k + 1) y1c) (.slice s2 (m + k + 1) y2c) (.slice so' (q + k) xo') n m q (k + 1) (k + 1) k N N') := Lib.hid ⟨(HG1.out.fp.turn T H12.out).turn T2 (by omega), G.turn T2 (by omega), (HG1.out.fq.turn T (fun e => H23.out e.symm)).turn T2 (by omega), (HG1.out.gp.turn T H12.out).turn T2 (by omega), V.turn T2 (by omega), (HG1.out.gq.turn T (fun e => H23.out e.symm)).turn T2 (by omega)⟩
   have HT2' := Lib.hid ((HT1.out.trans T (fun _ h => .inr (.inl h))).more ((Mods.refl (fun k => k = w.heap.size) w2).setCell (p := ⟨w.heap.size, 5, none⟩) (fun _ => rfl) (.slice s2 (m + k + 1) y2c)) (fun k hk e => by omega))
   have hz2' : w.heap.size + 2 ≤ (w2.setCell ⟨w.heap.size, 5, none⟩ (.slice s2 (m + k + 1) y2c)).heap.size := by rw [size_setCell']; omega
   clear G V T T2 B hA k1 k20 k2 k4 h1 h2 h3 HT1 HA1 HR1 HG1 hsz2 y
   generalize ext o1' x2.heap.size c2 = o2' at *
   have HT2 := HT2'
   have HA2 := HA2'
   have HR2 := HR2'
   have HG2 := HG2'
   have hz2 := hz2'
   clear HT2' HA2' HR2' HG2' hz2'
   obtain ⟨xs, h1, h2, h3⟩ := HG2.out.fq
   have y := HA2.out.cell 6 _ rfl
   simp only [List.setIfInBounds_toArray, List.set_cons_zero, List.set_cons_succ, List.getElem_toArray, List.getElem_cons_succ, List.getElem_cons_zero] at y
   go_wp2_with (at_builtin; refine stop_here ?_)
   refine go_on ?_
   clear ya2 fa2
   obtain ⟨x3, hx3⟩ : ∃ x, w2.setCell ⟨w.heap.size, 5, none⟩ (.slice s2 (m + k + 1) y2c) = x := ⟨_, rfl⟩
   have hs3 : w2.heap.size = x3.heap.size := by rw [← hx3, size_setCell']
   rw [hx3] at HT2 HA2 HR2 HG2 hz2 h1
   rw [hx3, hs3]
   clear hx3 hs3
   refine wpList_app2 rfl _ _ 37 rfl 0 61 iO _ 3 24 Try.underlying37 hiO hz0O hz1O hz2O rfl (.slice so' (q + k) xo') (q + k) _ rfl (h1.1.alloc (.cells #[.int .u8 0, .int .i64 N', .int .i64 0] 61)) (some ⟨x3.heap.size, 0, none⟩) 1 1 [.int .u8 0, .int .i64 N', .int .i64 0] rfl rfl (fun h => by cases h) (news_alloc x3 [.int .u8 0, .int .i64 N', .int .i64 0] 61) (by simp [Value.oneCell']) (by unfold maxLen; omega) (grow_ok (by omega)) (Nat.zero_le _) ?_
   intro v3 w3 k1 k20 _ k4
   have k2 : (x3.alloc (.cells #[.int .u8 0, .int .i64 N', .int .i64 0] 61)).grownBy w3 (Value.slice so' (q + k) xo').ownBlock := ⟨k20.os, k20.tape, k20.output, k20.size, k20.block⟩
   obtain ⟨G, V, T⟩ := grow_step (sz := 3) (off := 1) (u' := .int .i64 N') h1 h2 h3 HG2.out.gq rfl rfl k1 k2 k4
   obtain ⟨s3, y3c, rfl⟩ := owns_slice k1
   have hA := HA2.out.turn T (by omega)
   have hsz3 : x3.heap.size ≤ w3.heap.size := T.size
   have ya3 := hA.cell 6 _ rfl
   simp only [List.setIfInBounds_toArray, List.set_cons_zero, List.set_cons_succ, List.getElem_toArray, List.getElem_cons_succ, List.getElem_cons_zero] at ya3
   have fa3 := hA.frozen 6
   obtain ⟨B, T2⟩ := hA.set 6 (.slice s3 (q + k + 1) y3c)
   have HA3' := Lib.hid B
   have HR3' := Lib.hid ((HR2.out.turn T (by omega)).turn T2 (by omega))
   have HG3' : Hid (Grow3 _ _ c1 c2 c3 (.slice sp n xp) (.slice sl m xl) (.slice so q xo) (.slice s1 (n + k + 1) y1c) (.slice s2 (m + k + 1) y2c) (.slice s3 (q + k + 1) y3c) n m q (k + 1) (k + 1) (k + 1) N N') := Lib.hid ⟨(HG2.out.fp.turn T H13.out).turn T2 (by omega), (HG2.out.fl.turn T H23.out).turn T2 (by omega), G.turn T2 (by omega), (HG2.out.gp.turn T H13.out).turn T2 (by omega), (HG2.out.gl.turn T H23.out).turn T2 (by omega), V.turn T2 (by omega)⟩
   have HT3' := Lib.hid ((HT2.out.trans T (fun _ h => .inr (.inr h))).more ((Mods.refl (fun k => k = w.heap.size) w3).setCell (p := ⟨w.heap.size, 6, none⟩) (fun _ => rfl) (.slice s3 (q + k + 1) y3c)) (fun k hk e => by omega))
   have hz3' : w.heap.size + 2 ≤ (w3.setCell ⟨w.heap.size, 6, none⟩ (.slice s3 (q + k + 1) y3c)).heap.size := by rw [size_setCell']; omega
   clear G V T T2 B hA k1 k20 k2 k4 h1 h2 h3 HT2 HA2 HR2 HG2 hsz3 y
   generalize ext o2' x3.heap.size c3 = o3' at *
   have HT3 := HT3'
   have HA3 := HA3'
   have HR3 := HR3'
   have HG3 := HG3'
   have hz3 := hz3'
   clear HT3' HA3' HR3' HG3' hz3'
   go_wp2
   go_roundw
   case rel => exact ⟨k + 1, _, _, _, _, hlt, by go_num, HT3.out, hz3, HA3.out, HR3.out, HG3.out⟩
   case measure => simp [intOf]; omega
  ·
   obtain rfl : k = 16 := by omega
   have y5 := HA.out.cell 5 _ rfl
   have y6 := HA.out.cell 6 _ rfl
   have y0 := HA.out.cell 0 _ rfl
   have y1 := HA.out.cell 1 _ rfl
   have y2 := HA.out.cell 2 _ rfl
   have y3 := HA.out.cell 3 _ rfl
   simp only [List.getElem_toArray, List.getElem_cons_succ, List.getElem_cons_zero] at y0 y1 y2 y3 y5 y6
   have z0 := HR.out.cell 0 _ rfl
   have z1 := HR.out.cell 1 _ rfl
   have z2 := HR.out.cell 2 _ rfl
   have z3 := HR.out.cell 3 _ rfl
   have z4 := HR.out.cell 4 _ rfl
   have z5 := HR.out.cell 5 _ rfl
   have z6 := HR.out.cell 6 _ rfl
   have f0 := HR.out.frozen 0
   have f1 := HR.out.frozen 1
   have f2 := HR.out.frozen 2
   have f3 := HR.out.frozen 3
   have f4 := HR.out.frozen 4
   have f5 := HR.out.frozen 5
   have f6 := HR.out.frozen 6
   go_wp2
   clear y0 y1 y2 y3 y4 y5 y6 z0 z1 z2 z3 z4 z5 z6 f0 f1 f2 f3 f4 f5 f6
   refine bodyPost_ret_by (results_cell_row rfl _ _ _ _ _ _ _ rfl (prog_set HR.out.1 _ _ _ _ _ _ _) Try.underlying39 rfl (by kernel_rfl)) rfl ?_
   have mm := prog_mods wr (w.heap.size + 1) (.int .i64 a) (.int .i64 b) (.int .i64 c) (.int .i64 d) (.slice sp' (n + 16) xp') (.slice sl' (m + 16) xl') (.slice so' (q + 16) xo')
   have T : Turn o2 o2 (fun x => x = c1 + c2 + c3 + 2) wr _ := ⟨mm.mono (fun k _ e => by subst e; exact HR.out.2), fun _ _ => rfl⟩
   exact ⟨o2, _, _, _, rfl, HT.out.more mm (fun k hk e => by omega), HG.out.turn T (by omega) (by omega) (by omega)⟩
end Go.Proofs.Ytbmbfifempkhgaa

/- beyond: what stands behind. -/
namespace Go.Proofs.Ytbmbfifempkhgaa
open Go.RowKit
def BeyondRet (w : World) (gp gl gq n m q xp xl xq : Nat) (e : Ending) (w' : World) : Prop := e = .returned (.agg #[.int .i64 0, .int .i64 0, .int .i64 0, .int .i64 0, .slice (some ⟨gp, n * 2, none⟩) 16 (xp - n), .slice (some ⟨gl, m * 3, none⟩) 16 (xl - m), .slice (some ⟨gq, q * 3, none⟩) 16 (xq - q)]) ∧ Below w.heap.size w w'
set_option maxRecDepth 100000 in
set_option maxHeartbeats 2000000 in
theorem beyond_any (w : World) (a b c d a' b' c' d' : Int) (gp gl gq n m q xp xl xq : Nat) (sp sl so : Option Addr) (yp yl yq : Nat) (hp : n + 16 ≤ xp) (hl : m + 16 ≤ xl) (hq : q + 16 ≤ xq) (hn : n ≤ 1500000) (hm : m ≤ 1500000) (hk : q ≤ 1500000) : Calls Try.prog 62 #[.agg #[.int .i64 a, .int .i64 b, .int .i64 c, .int .i64 d, .slice (some ⟨gp, 0, none⟩) (n + 16) xp, .slice (some ⟨gl, 0, none⟩) (m + 16) xl, .slice (some ⟨gq, 0, none⟩) (q + 16) xq], .agg #[.int .i64 a', .int .i64 b', .int .i64 c', .int .i64 d', .slice sp n yp, .slice sl m yl, .slice so q yq]] w (BeyondRet w gp gl gq n m q xp xl xq) := by
 have hb1 := below_alloc w (.cells #[.int .i64 a, .int .i64 b, .int .i64 c, .int .i64 d, .slice (some ⟨gp, 0, none⟩) (n + 16) xp, .slice (some ⟨gl, 0, none⟩) (m + 16) xl, .slice (some ⟨gq, 0, none⟩) (q + 16) xq] 39)
 have hA := heap_alloc_new w (.cells #[.int .i64 a, .int .i64 b, .int .i64 c, .int .i64 d, .slice (some ⟨gp, 0, none⟩) (n + 16) xp, .slice (some ⟨gl, 0, none⟩) (m + 16) xl, .slice (some ⟨gq, 0, none⟩) (q + 16) xq] 39)
 generalize hW1 : w.alloc (.cells #[.int .i64 a, .int .i64 b, .int .i64 c, .int .i64 d, .slice (some ⟨gp, 0, none⟩) (n + 16) xp, .slice (some ⟨gl, 0, none⟩) (m + 16) xl, .slice (some ⟨gq, 0, none⟩) (q + 16) xq] 39) = W1 at *
 have hs1 : W1.heap.size = w.heap.size + 1 := by rw [← hW1]; simp
 have hb2 := below_alloc W1 (.cells #[.int .i64 a', .int .i64 b', .int .i64 c', .int .i64 d', .slice sp n yp, .slice sl m yl, .slice so q yq] 39)
 have hB := heap_alloc_new W1 (.cells #[.int .i64 a', .int .i64 b', .int .i64 c', .int .i64 d', .slice sp n yp, .slice sl m yl, .slice so q yq] 39)
 have hA2 := block_alloc hA (.cells #[.int .i64 a', .int .i64 b', .int .i64 c', .int .i64 d', .slice sp n yp, .slice sl m yl, .slice so q yq] 39)
 generalize hW2 : W1.alloc (.cells #[.int .i64 a', .int .i64 b', .int .i64 c', .int .i64 d', .slice sp n yp, .slice sl m yl, .slice so q yq] 39) = W2 at *
 have hs2 : W2.heap.size = w.heap.size + 2 := by rw [← hW2, World.size_alloc, hs1]
 have hb3 := below_alloc W2 (.cells progZ 39)
 have hR := heap_alloc_new W2 (.cells progZ 39)
 have hA3 := block_alloc hA2 (.cells progZ 39)
 have hB3 := block_alloc hB (.cells progZ 39)
 generalize hW3 : W2.alloc (.cells progZ 39) = W3 at *
 rw [hs1] at hB3
 rw [hs2] at hR
 have hs3 : W3.heap.size = w.heap.size + 3 := by rw [← hW3, World.size_alloc, hs2]
 have HB := Lib.hid (Below.then (Below.then hb1 hb2) hb3)
 have HR := Lib.hid hR
 have y4 := cells_row _ _ hA3 4 _ rfl
 have y5 := cells_row _ _ hA3 5 _ rfl
 have y6 := cells_row _ _ hA3 6 _ rfl
 have z4 := cells_row _ _ hB3 4 _ rfl
 have z5 := cells_row _ _ hB3 5 _ rfl
 have z6 := cells_row _ _ hB3 6 _ rfl
 have r0 := cells_row _ _ hR 0 _ rfl
 have r1 := cells_row _ _ hR 1 _ rfl
 have r2 := cells_row _ _ hR 2 _ rfl
 have r3 := cells_row _ _ hR 3 _ rfl
 have r4 := cells_row _ _ hR 4 _ rfl
 have r5 := cells_row _ _ hR 5 _ rfl
 have r6 := cells_row _ _ hR 6 _ rfl
 have f0 := frozen_of_block hR 0
 have f1 := frozen_of_block hR 1
 have f2 := frozen_of_block hR 2
 have f3 := frozen_of_block hR 3
 have f4 := frozen_of_block hR 4
 have f5 := frozen_of_block hR 5
 have f6 := frozen_of_block hR 6
 simp only [List.getElem_toArray, List.getElem_cons_succ, List.getElem_cons_zero] at y4 y5 y6 z4 z5 z6 r0 r1 r2 r3 r4 r5 r6
 have hpi : (n : Int) + 16 ≤ xp := by omega
 have hli : (m : Int) + 16 ≤ xl := by omega
 have hqi : (q : Int) + 16 ≤ xq := by omega
 have hni : (n : Int) ≤ 1500000 := by omega
 have hmi : (m : Int) ≤ 1500000 := by omega
 have hki : (q : Int) ≤ 1500000 := by omega
 have g1 : (n : Int) ≤ (n : Int) + 16 := by omega
 have g2 : (m : Int) ≤ (m : Int) + 16 := by omega
 have g3 : (q : Int) ≤ (q : Int) + 16 := by omega
 have e1 : ¬ xp = n := by omega
 have e2 : ¬ xl = m := by omega
 have e3 : ¬ xq = q := by omega
 clear hb1 hb2 hb3 hA hB hA2 hA3 hB3 hR
 go_enter Try.func62, Try.ntmps62
 go_wp2_with fail
 clear hW1 hW2 hW3
 refine wp_region_lex (fun w' => w'.cell? ⟨w.heap.size, 4, none⟩ = some (.slice (some ⟨gp, 0, none⟩) (n + 16) xp) ∧ w'.cell? ⟨w.heap.size, 5, none⟩ = some (.slice (some ⟨gl, 0, none⟩) (m + 16) xl) ∧ w'.cell? ⟨w.heap.size, 6, none⟩ = some (.slice (some ⟨gq, 0, none⟩) (q + 16) xq) ∧ w'.cell? ⟨w.heap.size + 1, 4, none⟩ = some (.slice sp n yp) ∧ w'.cell? ⟨w.heap.size + 1, 5, none⟩ = some (.slice sl m yl) ∧ w'.cell? ⟨w.heap.size + 1, 6, none⟩ = some (.slice so q yq)) [0, 1, 2, 3, 4, 5, 6, 7, 8, 9, 10, 11, 12, 13, 14, 15, 16, 17, 18] [19] (by kernel_rfl) (by kernel_rfl) rfl (fun _ _ hx h => ⟨hx.cell h.1, hx.cell h.2.1, hx.cell h.2.2.1, hx.cell h.2.2.2.1, hx.cell h.2.2.2.2.1, hx.cell h.2.2.2.2.2⟩) ⟨y4, y5, y6, z4, z5, z6⟩ ?_
 intro Q' hQ'
 simp only [pickOps, List.flatMap_cons, List.flatMap_nil, List.drop_succ_cons, List.drop_zero, List.take_succ_cons, List.take_zero, List.cons_append, List.nil_append, List.append_nil]
 repeat (first
  | (refine wpReads_skip (by rfl) ?_; (try simp only [Act.put, List.setIfInBounds_toArray, List.set_cons_zero, List.set_cons_succ]))
  | (refine wpReads_cons ?_ (by rfl) (by rfl) ?_ ?_; rotate_left; (intro wz hz; (try dsimp only at hz); go_simp; try with_reducible rfl); (try simp only [Act.put, List.setIfInBounds_toArray, List.set_cons_zero, List.set_cons_succ]))
  | (refine wpReads_any ?_ (by rfl) ?_ ?_; rotate_left; (intro wz; go_simp; try with_reducible rfl); (try simp only [Act.put, List.setIfInBounds_toArray, List.set_cons_zero, List.set_cons_succ])))
 refine wpReads_nil ?_
 go_wp2
 clear y4 y5 y6 z4 z5 z6 r0 r1 r2 r3 r4 r5 r6 f0 f1 f2 f3 f4 f5 f6
 have hs := prog_set HR.out (.int .i64 0) (.int .i64 0) (.int .i64 0) (.int .i64 0) (.slice (some ⟨gp, n * 2, none⟩) 16 (xp - n)) (.slice (some ⟨gl, m * 3, none⟩) 16 (xl - m)) (.slice (some ⟨gq, q * 3, none⟩) 16 (xq - q))
 have mm := prog_mods W3 (w.heap.size + 2) (.int .i64 0) (.int .i64 0) (.int .i64 0) (.int .i64 0) (.slice (some ⟨gp, n * 2, none⟩) 16 (xp - n)) (.slice (some ⟨gl, m * 3, none⟩) 16 (xl - m)) (.slice (some ⟨gq, q * 3, none⟩) 16 (xq - q))
 obtain ⟨W4, hW4⟩ : ∃ x, (((((((W3.setCell ⟨w.heap.size + 2, 0, none⟩ (.int .i64 0)).setCell ⟨w.heap.size + 2, 1, none⟩ (.int .i64 0)).setCell ⟨w.heap.size + 2, 2, none⟩ (.int .i64 0)).setCell ⟨w.heap.size + 2, 3, none⟩ (.int .i64 0)).setCell ⟨w.heap.size + 2, 4, none⟩ (.slice (some ⟨gp, n * 2, none⟩) 16 (xp - n))).setCell ⟨w.heap.size + 2, 5, none⟩ (.slice (some ⟨gl, m * 3, none⟩) 16 (xl - m))).setCell ⟨w.heap.size + 2, 6, none⟩ (.slice (some ⟨gq, q * 3, none⟩) 16 (xq - q))) = x := ⟨_, rfl⟩
 have hW5 : setProg W3 (w.heap.size + 2) (.int .i64 0) (.int .i64 0) (.int .i64 0) (.int .i64 0) (.slice (some ⟨gp, n * 2, none⟩) 16 (xp - n)) (.slice (some ⟨gl, m * 3, none⟩) 16 (xl - m)) (.slice (some ⟨gq, q * 3, none⟩) 16 (xq - q)) = W4 := hW4
 rw [hW5] at hs mm
 rw [hW4]
 clear hW4 hW5
 refine bodyPost_ret_by (results_cell_row rfl _ W4.drew _ _ _ _ _ rfl hs Try.underlying39 rfl (by kernel_rfl)) rfl ?_
 exact ⟨rfl, below_dr (n := 1) (HB.out.trans (mm.below (B := w.heap.size) (by omega) (fun k hk e => by omega)))⟩
end Go.Proofs.Ytbmbfifempkhgaa

/- within: the lists within a program. -/
namespace Go.Proofs.Ytbmbfifempkhgaa
open Go.RowKit
theorem info_intsS : (Try.prog.info? 52).map (fun i => (i.zero, i.size, i.bytes)) = some (some (.slice none 0 0), 1, 24) := by kernel_rfl
def SliceRow {α : Type} (hd : α → List Value) (w : World) (sz : Nat) (v : Value) (ps : List (α × Value)) : Prop := ∃ ao cap, v = .slice ao ps.length cap ∧ ps.length ≤ cap ∧ (0 < ps.length → ∃ g, ao = some ⟨g, 0, none⟩ ∧ ∀ k, k < ps.length → ∃ a n c, (ps[k]?.map Prod.snd).getD undef = .slice a n c ∧ w.cell? ⟨g, k * sz + (sz - 1), none⟩ = some (.slice a n c))
def WithinRet (w : World) (vs : List Value) (e : Ending) (w' : World) : Prop := ∃ v, e = .returned v ∧ w'.ownsRow w.heap.size 52 1 v vs.length vs ∧ Below w.heap.size w w'
theorem snd_take {α : Type} {ps : List (α × Value)} {i : Nat} {x : Value} (hi : i < ps.length) (h : (ps[i]?.map Prod.snd).getD undef = x) : (ps.map Prod.snd).take (i + 1) = (ps.map Prod.snd).take i ++ [x] := by
 rw [List.take_succ_eq_append_getElem (by simpa using hi)]
 rw [List.getElem?_eq_getElem hi] at h
 simp at h
 rw [List.getElem_map, h]
set_option maxRecDepth 100000 in
set_option maxHeartbeats 2000000 in
theorem kwithin_any {α β : Type} {hp : α → List Value} {hl : β → List Value} (w : World) (a b c d : Int) (vp vl vo : Value) (ps : List (α × Value)) (ls : List (β × Value)) (hP : SliceRow hp w 2 vp ps) (hL : SliceRow hl w 3 vl ls) (hn : ps.length ≤ 2000000) (hm : ls.length ≤ 2000000) : Calls Try.prog 57 #[.agg #[.int .i64 a, .int .i64 b, .int .i64 c, .int .i64 d, vp, vl, vo]] w (WithinRet w (ps.map Prod.snd ++ ls.map Prod.snd)) := by
 have hb1 := below_alloc w (.cells #[.int .i64 a, .int .i64 b, .int .i64 c, .int .i64 d, vp, vl, vo] 39)
 have hA := heap_alloc_new w (.cells #[.int .i64 a, .int .i64 b, .int .i64 c, .int .i64 d, vp, vl, vo] 39)
 obtain ⟨ap, cp, rfl, hcp, gP⟩ := hP
 obtain ⟨al, cl, rfl, hcl, gL⟩ := hL
 generalize hW1 : w.alloc (.cells #[.int .i64 a, .int .i64 b, .int .i64 c, .int .i64 d, .slice ap ps.length cp, .slice al ls.length cl, vo] 39) = W1 at *
 have y4 := cells_row _ _ hA 4 _ rfl
 have y5 := cells_row _ _ hA 5 _ rfl
 simp only [List.getElem_toArray, List.getElem_cons_succ, List.getElem_cons_zero] at y4 y5
 have hs1 : w.heap.size ≤ W1.heap.size := hb1.size
 have HP := Lib.hid gP
 have HL := Lib.hid gL
 have HB1 := Lib.hid hb1
 have HY4 := Lib.hid y4
 have HY5 := Lib.hid y5
 obtain ⟨n, hnn⟩ : ∃ x, ps.length = x := ⟨_, rfl⟩
 obtain ⟨m, hmm⟩ : ∃ x, ls.length = x := ⟨_, rfl⟩
 have HNN := Lib.hid hnn
 have HMM := Lib.hid hmm
 rw [hnn] at hcp hn HY4
 rw [hmm] at hcl hm HY5
 have hni : (n : Int) ≤ 2000000 := by omega
 have hmi : (m : Int) ≤ 2000000 := by omega
 have hcpi : (n : Int) ≤ cp := by omega
 have hcli : (m : Int) ≤ cl := by omega
 rw [hnn, hmm] at hW1
 clear gP gL hb1 hA y4 y5
 obtain ⟨i0, hi, hz0, hz1, hz2⟩ := info_parts info_intsS
 rw [hnn, hmm]
 clear hnn hmm
 go_enter Try.func57, Try.ntmps57
 go_wp2_with fail
 clear hW1
 go_loopw [3, 4] (fun v i wr => ∃ j : Nat, j ≤ n ∧ i = .int .i64 j ∧ Below w.heap.size w wr ∧ wr.ownsRow W1.heap.size 52 1 v j ((ps.map Prod.snd).take j) ∧ Below W1.heap.size W1 wr) (fun _ i _ => n - (intOf i).toNat)
 case atStart => exact ⟨0, Nat.zero_le _, rfl, HB1.out, World.ownsRow_nil _ _ _ _, Below.refl _ _⟩
 case round =>
  obtain ⟨j, hj, rfl, hB, hR, hB1⟩ := hrel
  obtain ⟨sv, cv, rfl⟩ := owns_slice hR
  have HB := Lib.hid hB
  have HR := Lib.hid hR
  have HBW := Lib.hid hB1
  clear hB hR hB1
  have y := cell_later HBW.out HY4.out
  by_cases hlt : j < n
  ·
   obtain ⟨g, rfl, hc⟩ := HP.out (by have := HNN.out; omega)
   obtain ⟨xa, xn, xc, hx, c0⟩ := hc j (by have := HNN.out; omega)
   replace c0 := cell_later HB.out c0
   have HTK := Lib.hid (snd_take (by have := HNN.out; omega) hx)
   have hlti : (j : Int) < n := by omega
   have hsz := HBW.out.size
   clear hc hx
   go_wp2_with (at_builtin; refine stop_here ?_)
   refine go_on ?_
   refine wpList_app rfl _ _ 114 rfl W1.heap.size 52 i0 _ 1 24 Try.underlying114 hi hz0 hz1 hz2 rfl (.slice sv j cv) j _ rfl (HR.out.alloc (.cells #[.slice xa xn xc] 52)) (some ⟨wr.heap.size, 0, none⟩) 1 1 [.slice xa xn xc] rfl rfl (fun h => by cases h) (news_alloc wr [.slice xa xn xc] 52) (by simp [Value.oneCell']) (by unfold maxLen; omega) (grow_ok (by omega)) (size_le_alloc hsz _) ?_
   intro v5 w5 k1 k20 _ _
   have k2 : (wr.alloc (.cells #[.slice xa xn xc] 52)).grownBy w5 (Value.slice sv j cv).ownBlock := ⟨k20.os, k20.tape, k20.output, k20.size, k20.block⟩
   have HB5 := Lib.hid (HB.out.trans ((below_app HR.out k2 hsz).mono hs1))
   have HBW5 := Lib.hid (HBW.out.trans (below_app HR.out k2 hsz))
   have HR5 : Hid (w5.ownsRow W1.heap.size 52 1 v5 (j + 1) ((ps.map Prod.snd).take (j + 1))) := Lib.hid (by rw [HTK.out]; exact k1)
   clear k1 k20 k2 HR HB HBW c0 y
   go_wp2
   go_roundw
   case rel => exact ⟨j + 1, hlt, by go_num, HB5.out, HR5.out, HBW5.out⟩
   case measure => simp [intOf]; omega
  ·
   obtain rfl : n = j := by omega
   clear hj hlt
   have hR := HR.out
   rw [List.take_of_length_le (by rw [List.length_map]; have := HNN.out; omega)] at hR
   have HR2 := Lib.hid hR
   clear hR HR
   go_wp2_with fail
   go_loopw [3, 5] (fun v i wl => ∃ j : Nat, j ≤ m ∧ i = .int .i64 j ∧ Below w.heap.size w wl ∧ wl.ownsRow W1.heap.size 52 1 v (n + j) (ps.map Prod.snd ++ (ls.map Prod.snd).take j) ∧ Below W1.heap.size W1 wl) (fun _ i _ => m - (intOf i).toNat)
   case atStart => exact ⟨0, Nat.zero_le _, rfl, HB.out, by simpa using HR2.out, HBW.out⟩
   case round =>
    clear HB HR2 HBW y
    obtain ⟨j, hj, rfl, hB, hR, hB1⟩ := hrel
    obtain ⟨sv, cv, rfl⟩ := owns_slice hR
    have HB := Lib.hid hB
    have HR := Lib.hid hR
    have HBW := Lib.hid hB1
    clear hB hR hB1
    have y := cell_later HBW.out HY5.out
    by_cases hlt : j < m
    ·
     obtain ⟨g, rfl, hc⟩ := HL.out (by have := HMM.out; omega)
     obtain ⟨xa, xn, xc, hx, c0⟩ := hc j (by have := HMM.out; omega)
     replace c0 := cell_later HB.out c0
     have HTK := Lib.hid (snd_take (by have := HMM.out; omega) hx)
     have hlti : (j : Int) < m := by omega
     have hsz := HBW.out.size
     clear hc hx
     go_wp2_with (at_builtin; refine stop_here ?_)
     refine go_on ?_
     refine wpList_app rfl _ _ 114 rfl W1.heap.size 52 i0 _ 1 24 Try.underlying114 hi hz0 hz1 hz2 rfl (.slice sv (n + j) cv) (n + j) _ rfl (HR.out.alloc (.cells #[.slice xa xn xc] 52)) (some ⟨wr.heap.size, 0, none⟩) 1 1 [.slice xa xn xc] rfl rfl (fun h => by cases h) (news_alloc wr [.slice xa xn xc] 52) (by simp [Value.oneCell']) (by unfold maxLen; omega) (grow_ok (by omega)) (size_le_alloc hsz _) ?_
     intro v5 w5 k1 k20 _ _
     have k2 : (wr.alloc (.cells #[.slice xa xn xc] 52)).grownBy w5 (Value.slice sv (n + j) cv).ownBlock := ⟨k20.os, k20.tape, k20.output, k20.size, k20.block⟩
     have HB5 := Lib.hid (HB.out.trans ((below_app HR.out k2 hsz).mono hs1))
     have HBW5 := Lib.hid (HBW.out.trans (below_app HR.out k2 hsz))
     have HR5 : Hid (w5.ownsRow W1.heap.size 52 1 v5 (n + (j + 1)) (ps.map Prod.snd ++ (ls.map Prod.snd).take (j + 1))) := Lib.hid (by rw [HTK.out, ← List.append_assoc]; exact k1)
     clear k1 k20 k2 HR HB HBW c0 y
     go_wp2
     go_roundw
     case rel => exact ⟨j + 1, hlt, by go_num, HB5.out, HR5.out, HBW5.out⟩
     case measure => simp [intOf]; omega
    ·
     obtain rfl : m = j := by omega
     clear hj hlt
     have hR := HR.out
     rw [List.take_of_length_le (by rw [List.length_map]; have := HMM.out; omega)] at hR
     have HR2 := Lib.hid hR
     have hlen : n + m = (ps.map Prod.snd ++ ls.map Prod.snd).length := by have := HNN.out; have := HMM.out; simp; omega
     have HLEN := Lib.hid hlen
     clear hR HR hlen
     go_wp2
     go_ret
     refine ⟨_, rfl, ?_, HB.out⟩
     rw [← HLEN.out]
     exact owns_base HR2.out (fun k hk => Nat.le_trans hs1 (HR2.out.lt k hk).1)
end Go.Proofs.Ytbmbfifempkhgaa

/- Two programs of their owners' own, side by side: one colouring for both. No function in sight. -/
namespace Go.Proofs.Ytbmbfifempkhgaa
open Go.RowKit
structure RowsD (w : World) (o : Col) (c : Nat) (rs : List (Value × List Int)) : Prop where
 own : ∀ x ∈ rs, Own w o c 3 1 x.1 x.2.length (ivs x.2)
 dis : ∀ (i j B : Nat) (x y : Value × List Int), i < j → rs[i]? = some x → rs[j]? = some y → x.1.ownBlock = some B → y.1.ownBlock ≠ some B
def rowsOf {α : Type} (tl : α → List Int) (ps : List (α × Value)) : List (Value × List Int) := ps.map fun x => (x.2, tl x.1)
theorem rowsOf_fst {α : Type} (tl : α → List Int) (ps : List (α × Value)) : (rowsOf tl ps).map Prod.fst = ps.map Prod.snd := by simp [rowsOf, Function.comp_def]
section
variable {w w' w1 w2 : World} {o o' oA oB : Col} {C : Nat → Prop} {c d : Nat} {rs rs' : List (Value × List Int)}
theorem RowsD.turn (h : RowsD w o c rs) (T : Turn o o' C w w') (hc : ¬ C c) : RowsD w' o' c rs := ⟨fun x hx => (h.own x hx).turn T hc, h.dis⟩
theorem RowsD.append (h : RowsD w o c rs) (h' : RowsD w o c rs') (hd : ∀ x ∈ rs, ∀ y ∈ rs', ∀ B, x.1.ownBlock = some B → y.1.ownBlock ≠ some B) : RowsD w o c (rs ++ rs') := by
 refine ⟨fun x hx => (List.mem_append.1 hx).elim (h.own x) (h'.own x), fun i j B x y hij hx hy hb => ?_⟩
 by_cases hj : j < rs.length
 ·
  rw [List.getElem?_append_left hj] at hy
  rw [List.getElem?_append_left (by omega)] at hx
  exact h.dis i j B x y hij hx hy hb
 ·
  rw [List.getElem?_append_right (by omega)] at hy
  by_cases hi : i < rs.length
  ·
   rw [List.getElem?_append_left hi] at hx
   exact hd x (List.mem_of_getElem? hx) y (List.mem_of_getElem? hy) B hb
  ·
   rw [List.getElem?_append_right (by omega)] at hx
   exact h'.dis _ _ B x y (by omega) hx hy hb
theorem Own.lift {e sz n : Nat} {v : Value} {xs : List Value} (h : Own w1 oA c e sz v n xs) (hb : Below w1.heap.size w1 w) (ho : ∀ k, k < w1.heap.size → oA k = c → o k = d) : Own w o d e sz v n xs :=
 ⟨owns_kept h.1 (Mods.of_below hb (fun _ => False)) (fun _ _ f => f), fun k hk => ho k (h.1.lt k hk).2 (h.2 k hk)⟩
theorem TailO.lift {α : Type} {hd : α → List Value} {tl : α → List Int} {c' d' ty sz : Nat} {v : Value} {ps : List (α × Value)} (h : TailO hd tl w1 oA c d ty sz v ps) (hb : Below w1.heap.size w1 w) (ho : ∀ k, k < w1.heap.size → oA k = c → o k = c') (ho2 : ∀ k, k < w1.heap.size → oA k = d → o k = d') :
  Own w o c' ty sz v ps.length (tailV hd ps) ∧ RowsD w o d' (rowsOf tl ps) := by
 refine ⟨h.tail.own.lift hb ho, fun x hx => ?_, fun i j B x y hij hx hy hB => ?_⟩
 ·
  obtain ⟨y, hy, rfl⟩ := List.mem_map.1 hx
  exact (h.rows y hy).lift hb ho2
 ·
  rw [rowsOf, List.getElem?_map] at hx hy
  obtain ⟨x', hx', rfl⟩ := Option.map_eq_some_iff.1 hx
  obtain ⟨y', hy', rfl⟩ := Option.map_eq_some_iff.1 hy
  exact h.dis i j B x' y' hij hx' hy' hB
theorem TailO.where {α : Type} {hd : α → List Value} {tl : α → List Int} {ty sz : Nat} {v : Value} {ps : List (α × Value)} (h : TailO hd tl w1 oA c d ty sz v ps) {x : Value × List Int} (hx : x ∈ rowsOf tl ps) {B : Nat} (hB : x.1.ownBlock = some B) : B < w1.heap.size ∧ oA B = d := by
 obtain ⟨y, hy, rfl⟩ := List.mem_map.1 hx
 exact ⟨((h.rows y hy).1.lt B hB).2, (h.rows y hy).2 B hB⟩
end
def mapA (c : Nat) : Nat := if c = 7 then 5 else if c = 4 ∨ c = 5 ∨ c = 6 ∨ c = 8 then c else 0
def mapB (c : Nat) : Nat := if c = 5 ∨ c = 7 then 5 else if c = 4 ∨ c = 6 ∨ c = 8 then c + 10 else 0
def bothC (s1 s2 : Nat) (oA oB : Col) : Col := fun k => if k < s1 then mapA (oA k) else if k < s2 then mapB (oB k) else 0
def ProgC (x : Nat) : Prop := x = 4 ∨ x = 5 ∨ x = 6 ∨ x = 8 ∨ x = 14 ∨ x = 16 ∨ x = 18
structure TwoProg (w : World) (o : Col) (vp vl vo vp' vl' vo' : Value) (ps ps' : List (GPart × Value)) (ls ls' : List (GLine × Value)) (os os' : List GOp) : Prop where
 p : Own w o 4 108 2 vp ps.length (tailV partHd ps)
 l : Own w o 6 87 3 vl ls.length (tailV lineHd ls)
 q : Own w o 8 61 3 vo os.length (opsV os)
 p' : Own w o 14 108 2 vp' ps'.length (tailV partHd ps')
 l' : Own w o 16 87 3 vl' ls'.length (tailV lineHd ls')
 q' : Own w o 18 61 3 vo' os'.length (opsV os')
 rows : RowsD w o 5 ((rowsOf GPart.params ps ++ rowsOf GLine.start ls) ++ (rowsOf GPart.params ps' ++ rowsOf GLine.start ls'))
theorem TwoProg.turn {w w' : World} {o o' : Col} {C : Nat → Prop} {vp vl vo vp' vl' vo' : Value} {ps ps' : List (GPart × Value)} {ls ls' : List (GLine × Value)} {os os' : List GOp} (h : TwoProg w o vp vl vo vp' vl' vo' ps ps' ls ls' os os') (T : Turn o o' C w w') (hC : ∀ x, ProgC x → ¬ C x) : TwoProg w' o' vp vl vo vp' vl' vo' ps ps' ls ls' os os' :=
 ⟨h.p.turn T (hC _ (by unfold ProgC; omega)), h.l.turn T (hC _ (by unfold ProgC; omega)), h.q.turn T (hC _ (by unfold ProgC; omega)), h.p'.turn T (hC _ (by unfold ProgC; omega)), h.l'.turn T (hC _ (by unfold ProgC; omega)), h.q'.turn T (hC _ (by unfold ProgC; omega)), h.rows.turn T (hC _ (by unfold ProgC; omega))⟩
theorem two_progs {w1 w2 w : World} {BA : Nat} {vA vB : Value} {P Q : GProg} (hA : OwnProg w1 BA vA P) (hB : OwnProg w2 w1.heap.size vB Q) (h12 : Below w1.heap.size w1 w2) (h2 : Below w2.heap.size w2 w) :
  ∃ (o : Col) (vp vl vo vp' vl' vo' : Value) (ps ps' : List (GPart × Value)) (ls ls' : List (GLine × Value)), vA = .agg #[.int .i64 P.memory, .int .i64 P.counters, .int .i64 P.ins, .int .i64 P.outs, vp, vl, vo] ∧ vB = .agg #[.int .i64 Q.memory, .int .i64 Q.counters, .int .i64 Q.ins, .int .i64 Q.outs, vp', vl', vo'] ∧ ps.map Prod.fst = P.parts ∧ ls.map Prod.fst = P.lines ∧ ps'.map Prod.fst = Q.parts ∧ ls'.map Prod.fst = Q.lines ∧
   TwoProg w o vp vl vo vp' vl' vo' ps ps' ls ls' P.ops Q.ops ∧ ∀ k, k < BA → k < w1.heap.size → ¬ ProgC (o k) := by
 obtain ⟨oA, vp, vl, vo, ps, ls, a0, a1, a2, a3, a4, a5, a6⟩ := hA
 obtain ⟨oB, vp', vl', vo', ps', ls', b0, b1, b2, b3, b4, b5, b6⟩ := hB
 have hs : w1.heap.size ≤ w2.heap.size := h12.size
 have hA1 : Below w1.heap.size w1 w := h12.trans (h2.mono hs)
 have mA : ∀ {c d : Nat}, mapA c = d → ∀ k, k < w1.heap.size → oA k = c → bothC w1.heap.size w2.heap.size oA oB k = d := fun e k hk hc => by
  unfold bothC
  rw [if_pos hk, hc, e]
 have mB : ∀ {c d : Nat}, c ≠ 0 → mapB c = d → ∀ k, k < w2.heap.size → oB k = c → bothC w1.heap.size w2.heap.size oA oB k = d := fun h0 e k hk hc => by
  have hn : ¬ k < w1.heap.size := fun hk1 => h0 (hc.symm.trans (b6 k hk1))
  unfold bothC
  rw [if_neg hn, if_pos hk, hc, e]
 obtain ⟨p1, p2⟩ := a1.lift (o := bothC w1.heap.size w2.heap.size oA oB) (c' := 4) (d' := 5) hA1 (mA (by decide)) (mA (by decide))
 obtain ⟨l1, l2⟩ := a3.lift (o := bothC w1.heap.size w2.heap.size oA oB) (c' := 6) (d' := 5) hA1 (mA (by decide)) (mA (by decide))
 obtain ⟨p3, p4⟩ := b1.lift (o := bothC w1.heap.size w2.heap.size oA oB) (c' := 14) (d' := 5) h2 (mB (by decide) (by decide)) (mB (by decide) (by decide))
 obtain ⟨l3, l4⟩ := b3.lift (o := bothC w1.heap.size w2.heap.size oA oB) (c' := 16) (d' := 5) h2 (mB (by decide) (by decide)) (mB (by decide) (by decide))
 have q1 := a5.lift (o := bothC w1.heap.size w2.heap.size oA oB) (d := 8) hA1 (mA (by decide))
 have q3 := b5.lift (o := bothC w1.heap.size w2.heap.size oA oB) (d := 18) h2 (mB (by decide) (by decide))
 refine ⟨bothC w1.heap.size w2.heap.size oA oB, vp, vl, vo, vp', vl', vo', ps, ps', ls, ls', a0, b0, a2, a4, b2, b4, ⟨p1, l1, q1, p3, l3, q3, ?_⟩, fun k hk hk1 => ?_⟩
 ·
  have hx : ∀ x ∈ rowsOf GPart.params ps ++ rowsOf GLine.start ls, ∀ B, x.1.ownBlock = some B → B < w1.heap.size := fun x hx B hB => by
   rcases List.mem_append.1 hx with hx | hx
   ·
    exact (a1.where hx hB).1
   ·
    exact (a3.where hx hB).1
  have hy : ∀ x ∈ rowsOf GPart.params ps' ++ rowsOf GLine.start ls', ∀ B, x.1.ownBlock = some B → ¬ B < w1.heap.size := fun x hx B hB hlt => by
   have h0 := b6 B hlt
   rcases List.mem_append.1 hx with hx | hx
   ·
    have := (b1.where hx hB).2; omega
   ·
    have := (b3.where hx hB).2; omega
  refine (p2.append l2 (fun x hx y hy B hB hB2 => ?_)).append (p4.append l4 (fun x hx y hy B hB hB2 => ?_)) (fun x hx' y hy' B hB hB2 => hy y hy' B hB2 (hx x hx' B hB))
  ·
   have h1 := (a1.where hx hB).2
   have h2 := (a3.where hy hB2).2
   omega
  ·
   have h1 := (b1.where hx hB).2
   have h2 := (b3.where hy hB2).2
   omega
 ·
  unfold bothC
  rw [if_pos hk1, a6 k hk]
  unfold ProgC mapA
  simp
theorem slice_row {α : Type} {hd : α → List Value} {w : World} {o : Col} {c ty sz : Nat} {v : Value} {ps : List (α × Value)} (hsz : ∀ a, (hd a).length + 1 = sz) (h : Own w o c ty sz v ps.length (tailV hd ps)) (hr : ∀ x ∈ ps, ∃ a n k, x.2 = .slice a n k) : SliceRow hd w sz v ps := by
 obtain ⟨ao, cap, rfl⟩ := h.slice
 rcases h.1.2 with ⟨e0, h0⟩ | ⟨g, cap', cur, e0, _, hg, hnc, _⟩
 ·
  refine ⟨ao, cap, rfl, by omega, fun hp => by omega⟩
 ·
  have e1 := Value.slice.inj e0
  obtain ⟨rfl, -, rfl⟩ := e1
  refine ⟨_, _, rfl, hnc, fun hp => ⟨g, rfl, fun k hk => ?_⟩⟩
  obtain ⟨a, n, q, e1⟩ := hr _ (List.getElem_mem hk)
  refine ⟨a, n, q, by rw [List.getElem?_eq_getElem hk]; simpa using e1, ?_⟩
  have hs : 0 < sz := by have := hsz (ps[k]).1; omega
  have h3 := tailV_get hsz ps k (sz - 1) hk (by omega)
  have hl := hsz (ps[k]).1
  rw [List.getElem?_append_right (by omega), show sz - 1 - (hd (ps[k]).1).length = 0 by omega, List.getElem?_cons_zero, e1] at h3
  have := h.1.cells (g := g) rfl _ _ h3
  rwa [Addr.add_lit, Nat.zero_add] at this
theorem outs_of {w : World} {o : Col} {c : Nat} {ov : Value} {rs : List (Value × List Int)} (h : RowsD w o c rs) (ho : Own w o c 52 1 ov (rs.map Prod.fst).length (rs.map Prod.fst)) (hd : ∀ x ∈ rs, ∀ B, x.1.ownBlock = some B → ov.ownBlock ≠ some B) : Outs w o c ov (rs.map Prod.snd) := by
 have at1 : ∀ k, k < (rs.map Prod.snd).length → ∃ x, rs[k]? = some x ∧ (rs.map Prod.fst)[k]?.getD undef = x.1 ∧ (rs.map Prod.snd)[k]?.getD [] = x.2 := fun k hk => by
  have hk' : k < rs.length := by simpa using hk
  exact ⟨rs[k], List.getElem?_eq_getElem hk', by simp [hk'], by simp [hk']⟩
 refine ⟨rs.map Prod.fst, by simp, ho, fun k hk => ?_, fun i j B hij hj hB => ?_, fun i B hi hB => ?_⟩
 ·
  obtain ⟨x, h1, h2, h3⟩ := at1 k hk
  rw [h2, h3]
  exact h.own x (List.mem_of_getElem? h1)
 ·
  obtain ⟨x, h1, h2, _⟩ := at1 i (by omega)
  obtain ⟨y, h4, h5, _⟩ := at1 j hj
  rw [h2] at hB
  rw [h5]
  exact h.dis i j B x y hij h1 h4 hB
 ·
  obtain ⟨x, h1, h2, _⟩ := at1 i hi
  rw [h2] at hB
  exact hd x (List.mem_of_getElem? h1) B hB
end Go.Proofs.Ytbmbfifempkhgaa

/- Apart, walked: it answers true. -/
namespace Go.Proofs.Ytbmbfifempkhgaa
open Go.RowKit
theorem outs_open {w : World} {o : Col} {c : Nat} {ov : Value} {xss : List (List Int)} (h : Outs w o c ov xss) (hl : ∀ l ∈ xss, l.length ≤ 17600000000000) :
  ∃ (vs : List Value) (ns : List Nat) (o' : Col), vs.length = xss.length ∧ (∀ j : Nat, ns[j]?.getD 0 ≤ 17600000000000) ∧ Own w o' 1 52 1 ov vs.length vs ∧ Ap1 w o' vs ns 0 0 ∧ ∀ k, k < w.heap.size → o' k = 2 ∨ 10 ≤ o' k → o k = c := by
 obtain ⟨vs, h1, h2, h3, h4, h5⟩ := h
 refine ⟨vs, xss.map List.length, rowCol ov vs, h1, fun j => ?_, ⟨h2.1, fun k hk => by simp [rowCol, hk]⟩, fun j hj => ?_, fun k hk h10 => ?_⟩
 ·
  by_cases hj : j < xss.length
  ·
   simpa [hj] using hl _ (List.getElem_mem hj)
  ·
   simp [show xss.length ≤ j by omega]
 ·
  have hj' : j < xss.length := by omega
  have e : (xss.map List.length)[j]?.getD 0 = (xss[j]?.getD []).length := by simp [hj']
  refine ⟨xss[j]?.getD [], e.symm, fun hlt => absurd hlt (Nat.not_lt_zero _), fun _ => by simp [rowV], ?_⟩
  rw [e]
  exact ⟨(h3 j hj').1, fun b hb => rowCol_row hj hb (h5 j b hj' hb) (fun i j B hij hj => h4 i j B hij (by omega))⟩
 ·
  have h10 : 10 ≤ rowCol ov vs k := by
   rcases h10 with h | h
   ·
    exfalso
    unfold rowCol at h
    repeat' (split at h)
    all_goals omega
   ·
    exact h
  obtain ⟨i, hi, hb⟩ := rowCol_is h10
  exact (h3 i (by omega)).2 k hb
theorem made_nils (n : Nat) : (madeCells (Value.cells (.slice none 0 0)) (n * 1)).toList = List.replicate n (.slice none 0 0) := by
 rw [Nat.mul_one]
 simp [madeCells, Value.cells, Nat.mod_one, List.map_const']
set_option maxRecDepth 100000 in
set_option maxHeartbeats 8000000 in
theorem apart_yes {w : World} {o : Col} {c : Nat} {ov : Value} {xss : List (List Int)} (h : Outs w o c ov xss) (hm : xss.length ≤ 5864062014805) (hl : ∀ l ∈ xss, l.length ≤ 17600000000000) :
  Calls Try.prog 58 #[ov] w fun e w' => e = .returned (.bool true) ∧ Mods (fun k => o k = c) w w' := by
 obtain ⟨vs, ns, o', hvs, hns, OV, A1, hoc⟩ := outs_open h hl
 obtain ⟨i0, hi, hz0, hz1, hz2⟩ := info_parts info_int
 obtain ⟨j0, ji, jz0, jz1, jz2⟩ := info_parts info_ints
 rw [← hvs] at hm
 have HM := Lib.hid hm
 have HNS := Lib.hid hns
 have HOC := Lib.hid hoc
 have hmi : (vs.length : Int) ≤ 5864062014805 := by omega
 clear h hl hm hvs hns hoc
 obtain ⟨w1, hr, hown, hg⟩ := run_make_full (P := Try.prog) w w.heap.size 114 52 j0 _ 1 (by kernel_rfl) ji jz0 jz1 .i64 .i64 vs.length (by rw [jz2]; have := HM.out; omega) (by have := HM.out; unfold maxLen; omega) (Nat.le_refl _)
 obtain ⟨oa, oc, rfl⟩ := OV.slice
 go_enter Try.func58, Try.ntmps58
 go_wp2_with fail
 obtain ⟨L, hLe⟩ : ∃ L, L = w.heap.size := ⟨_, rfl⟩
 have T1 : Turn o' (ext o' w.heap.size 2) (fun _ => False) w w1 := Turn.of_mods o' 2 ((Mods.refl (fun _ => False) w).grown hg (fun k hk _ => by cases hk)) (fun _ _ h => h)
 have OV1 := OV.turn T1 (fun h => h)
 have A11 := A1.turn T1 (fun _ h => h)
 rw [made_nils] at hown
 have L1 : Lo1 w1 (ext o' w.heap.size 2) w.heap.size vs 0 := ⟨List.replicate vs.length (.slice none 0 0), by simp, fun j hj => absurd hj (Nat.not_lt_zero _), owns_base hown (fun _ _ => Nat.zero_le _), fun k hk => ext_new (by rw [← Option.some.inj hk]; exact Nat.le_refl _)⟩
 rw [← hLe] at L1 T1 OV1 A11 ⊢
 have HT1 := Lib.hid T1
 have HL1 := Lib.hid L1
 have HOV1 := Lib.hid OV1
 have HA1 := Lib.hid A11
 clear OV A1 hown hg hr T1 OV1 A11 L1 hLe
 generalize ext o' L 2 = o1 at *
 go_loopw [4, 5] (fun i _ wr => ∃ n : Nat, n ≤ vs.length ∧ i = .int .i64 n ∧ Own wr o1 1 52 1 (.slice oa vs.length oc) vs.length vs ∧ Ap1 wr o1 vs ns n 0 ∧ Lo1 wr o1 L vs n ∧ Turn o1 o1 (fun x => x = 2 ∨ 10 ≤ x) w1 wr) (fun i _ _ => vs.length - (intOf i).toNat)
 case atStart => exact ⟨0, Nat.zero_le _, rfl, HOV1.out, HA1.out, HL1.out, Turn.refl _ _ _⟩
 case round =>
  clear HL1 HOV1 HA1
  obtain ⟨i, hi1, rfl, OV, A1, L1, T⟩ := hrel
  by_cases hlt : i < vs.length
  ·
   have OV0 := OV
   obtain ⟨_, hcp, gA, _, rfl, hcA, _, _⟩ := owns_cell OV.1 (by omega)
   have cA := hcA i (vs[i]?.getD undef) (by simp [hlt])
   have hlti : (i : Int) < vs.length := by omega
   have hcpi : (vs.length : Int) ≤ oc := by omega
   obtain ⟨zs, hz1, _, _, hz4⟩ := A1 i hlt
   obtain ⟨ga, gc, hge⟩ := hz4.slice
   have hnb := HNS.out i
   have HGE := Lib.hid hge
   obtain ⟨n, hn⟩ : ∃ n, ns[i]?.getD 0 = n := ⟨_, rfl⟩
   rw [hn] at HGE hnb
   rw [hge, hn] at cA
   have HNE := Lib.hid hn
   have HOV := Lib.hid OV0
   have HA := Lib.hid A1
   have HL := Lib.hid L1
   have HT := Lib.hid T
   have hnbi : (n : Int) ≤ 17600000000000 := by omega
   clear OV OV0 A1 L1 T hz1 hz4 hge hn hcA
   go_wp2_with fail
   go_loopw [5] (fun kk wq => ∃ k : Nat, k ≤ n ∧ kk = .int .i64 k ∧ Own wq o1 1 52 1 (.slice (some ⟨gA, 0, none⟩) vs.length oc) vs.length vs ∧ Ap1 wq o1 vs ns i k ∧ Lo1 wq o1 L vs i ∧ Turn o1 o1 (fun x => x = 2 ∨ 10 ≤ x) w1 wq) (fun kk _ => n - (intOf kk).toNat)
   case atStart => exact ⟨0, Nat.zero_le _, rfl, HOV.out, HA.out, HL.out, HT.out⟩
   case round =>
    clear cA HOV HA HL HT
    obtain ⟨k, hk, rfl, OV, A1, L1, T⟩ := hrel
    obtain ⟨_, _, gA', _, e, hcA, _, _⟩ := owns_cell OV.1 (by omega)
    cases e
    have cA := hcA i (vs[i]?.getD undef) (by simp [hlt])
    rw [HGE.out] at cA
    obtain ⟨ls, hls, _, hLo⟩ := L1
    obtain ⟨_, _, gL, _, e, hcL, hfL, _⟩ := owns_cell hLo.1 (by omega)
    cases e
    have cL := hcL i (ls[i]?.getD undef) (by simp [show i < ls.length by omega])
    have fL := hfL i
    by_cases hkn : k < n
    ·
     obtain ⟨zs, hz1, _, _, hz4⟩ := A1 i hlt
     rw [HGE.out, HNE.out] at hz4
     rw [HNE.out] at hz1
     obtain ⟨_, hgc, g, _, rfl, hcg, hfg, _⟩ := owns_cell hz4.1 (by rw [ivs_len]; omega)
     have cg := hcg k (iv (zs[k]?.getD 0)) (by simp [show k < zs.length by omega])
     have fg := hfg k
     have hkni : (k : Int) < n := by omega
     have hgci : (n : Int) ≤ gc := by omega
     have HOV := Lib.hid OV
     have HA := Lib.hid A1
     have HL := Lib.hid (show Lo1 wr o1 L vs i from ⟨ls, hls, ‹_›, hLo⟩)
     have HT := Lib.hid T
     clear OV A1 T hz4 hz1 hcg hfg hcA hcL hfL hLo
     generalize zs[k]?.getD 0 = z at *
     go_wp2
     go_roundw
     case rel =>
      obtain ⟨S1, S2⟩ := HA.out.step hlt HGE.out HNE.out hkn
      exact ⟨k + 1, by omega, by go_num, HOV.out.turn S2 (by show ¬ 1 = 10 + i; omega), S1, HL.out.turn S2 (by show ¬ 2 = 10 + i; omega), HT.out.trans S2 (fun x hx => .inr (by omega))⟩
     case measure => simp [intOf]; omega
    ·
     obtain rfl : k = n := by omega
     have hkni : ¬ (k : Int) < k := by omega
     have HOV := Lib.hid OV
     have HA := Lib.hid (A1.next HNE.out)
     have HL := Lib.hid (Lo1.step (show Lo1 wr o1 L vs i from ⟨ls, hls, ‹_›, hLo⟩) hlt)
     have HT := Lib.hid T
     clear OV A1 T hcA hcL hfL hLo
     generalize ls[i]?.getD undef = lv at *
     go_wp2
     go_roundw
     case rel =>
      obtain ⟨S1, S2⟩ := HL.out
      rw [HGE.out] at S1 S2
      exact ⟨i + 1, by omega, by go_num, HOV.out.turn S2 (by decide), HA.out.turn S2 (fun j h => by omega), S1, HT.out.trans S2 (fun x hx => .inl hx)⟩
     case measure => simp [intOf]; omega
  ·
   obtain rfl : i = vs.length := by omega
   have HOV := Lib.hid OV
   have HAP := Lib.hid (A1.done L1)
   have HT := Lib.hid T
   clear OV A1 L1 T
   go_wp2_with fail
   go_loopw [6, 7] (fun i _ wr => ∃ n : Nat, n ≤ vs.length ∧ i = .int .i64 n ∧ ∃ o2, Own wr o2 1 52 1 (.slice oa vs.length oc) vs.length vs ∧ Ap2 wr o2 L vs ns n 0 ∧ Turn o1 o2 (fun x => x = 2 ∨ 10 ≤ x) w1 wr) (fun i _ _ => vs.length - (intOf i).toNat)
   case atStart => exact ⟨0, Nat.zero_le _, rfl, o1, HOV.out, HAP.out, HT.out⟩
   case round =>
    clear HOV HAP HT
    obtain ⟨i, hi1, rfl, o2, OV, A2, T⟩ := hrel
    by_cases hlt : i < vs.length
    ·
     have hlti : (i : Int) < vs.length := by omega
     have HOV := Lib.hid OV
     have HA := Lib.hid A2
     have HT := Lib.hid T
     clear OV A2 T
     go_wp2_with fail
     go_loopw [7] (fun kk wq => ∃ k : Nat, k ≤ 16 ∧ kk = .int .i64 k ∧ ∃ o2, Own wq o2 1 52 1 (.slice oa vs.length oc) vs.length vs ∧ Ap2 wq o2 L vs ns i k ∧ Turn o1 o2 (fun x => x = 2 ∨ 10 ≤ x) w1 wq) (fun kk _ => 16 - (intOf kk).toNat)
     case atStart => exact ⟨0, Nat.zero_le _, rfl, o2, HOV.out, HA.out, HT.out⟩
     case round =>
      clear HOV HA HT
      clear o2
      obtain ⟨k, hk, rfl, o2, OV, A2, T⟩ := hrel
      by_cases hk16 : k < 16
      ·
       have hki : (k : Int) < 16 := by omega
       obtain ⟨h1, ls, h2, h3, h4⟩ := A2
       obtain ⟨_, _, gL, _, e, hcL, hfL, _⟩ := owns_cell h3.1 (by omega)
       cases e
       have cL := hcL i (ls[i]?.getD undef) (by simp [show i < ls.length by omega])
       have fL := hfL i
       have hrow := (h4 i hlt).1
       rw [show grew i k i = k by simp [grew]] at hrow
       obtain ⟨sl, cl, hle⟩ := owns_slice hrow
       rw [hle] at hrow cL
       have hnb := HNS.out i
       have HST := Lib.hid (fun (w2 : World) (v' : Value) (tmp : Obj) => Ap2.step (w := wr) (w2 := w2) (v' := v') (tmp := tmp) h1 h2 h3 h4 hlt)
       have HLE := Lib.hid hle
       have HOV := Lib.hid OV
       have HT := Lib.hid T
       clear h1 h3 h4 OV T hcL hfL hle
       obtain ⟨n, hn⟩ : ∃ n, ns[i]?.getD 0 = n := ⟨_, rfl⟩
       rw [hn] at hrow cL hnb HST HLE
       clear hn
       go_wp2_with (at_builtin; refine stop_here ?_)
       refine go_on ?_
       rw [HLE.out] at HST
       refine wpList_app2 rfl _ _ 52 rfl 0 3 i0 _ 1 8 Try.underlying52 hi hz0 hz1 hz2 rfl (.slice sl (n + k) cl) (n + k) _ rfl (hrow.alloc (.cells #[.int .i64 (-(i : Int) * 1000003 - k - 1)] 3)) (some ⟨wr.heap.size, 0, none⟩) 1 1 [.int .i64 (-(i : Int) * 1000003 - k - 1)] rfl rfl (fun h => by cases h) (news_alloc wr [.int .i64 (-(i : Int) * 1000003 - k - 1)] 3) (by simp [Value.oneCell']) (by unfold maxLen; omega) (grow_ok (by omega)) (Nat.zero_le _) ?_
       intro v' w2 g1 g20 _ g4
       have g2 : (wr.alloc (.cells #[.int .i64 (-(i : Int) * 1000003 - k - 1)] 3)).grownBy w2 (Value.slice sl (n + k) cl).ownBlock := ⟨g20.os, g20.tape, g20.output, g20.size, g20.block⟩
       obtain ⟨S1, S2, S3⟩ := HST.out w2 v' _ g1 g2 g4
       have HS2 := Lib.hid S2
       have HS3 := Lib.hid S3
       obtain ⟨_, _, gL, _, e, hcL, hfL, _⟩ := owns_cell S1.1 (by omega)
       cases e
       have cL2 := hcL i (ls[i]?.getD undef) (by simp [show i < ls.length by omega])
       rw [HLE.out] at cL2
       have fL2 := hfL i
       obtain ⟨s', c', rfl⟩ := owns_slice g1
       clear g1 g20 g2 g4 S1 S2 S3 hcL hfL hrow HST cL fL
       go_wp2
       go_roundw
       case rel => exact ⟨k + 1, by omega, by go_num, _, HOV.out.turn HS3.out (by intro h; omega), HS2.out, HT.out.trans HS3.out (fun x hx => by omega)⟩
       case measure => simp [intOf]; omega
      ·
       obtain rfl : k = 16 := by omega
       have HOV := Lib.hid OV
       have HA := Lib.hid A2.next
       have HT := Lib.hid T
       clear OV A2 T
       go_wp2
       go_roundw
       case rel => exact ⟨i + 1, by omega, by go_num, o2, HOV.out, HA.out, HT.out⟩
       case measure => simp [intOf]; omega
    ·
     obtain rfl : i = vs.length := by omega
     have hmods : Mods (fun k => o k = c) w wr := HT1.out.mods.trans T.mods (fun _ _ h => h.elim) (fun k hk h => HOC.out k hk (by rw [← HT1.out.same k hk]; exact h))
     have HMO := Lib.hid hmods
     have HOV := Lib.hid OV
     have HA := Lib.hid A2
     clear hmods OV A2 T HT1
     obtain ⟨W, hW⟩ : ∃ W, W = wr := ⟨_, rfl⟩
     rw [← hW] at HMO HOV HA ⊢
     clear hW
     go_wp2_with fail
     go_loopw [8, 9, 10] (fun i _ _ wq => ∃ n : Nat, n ≤ vs.length ∧ i = .int .i64 n ∧ ∃ m, wq = W.drewN m) (fun i _ _ _ => vs.length - (intOf i).toNat)
     case atStart => exact ⟨0, Nat.zero_le _, rfl, 0, rfl⟩
     case round =>
      obtain ⟨i, hi1, rfl, m, rfl⟩ := hrel
      by_cases hlt : i < vs.length
      ·
       obtain ⟨_, hcp, gA, _, rfl, hcA, _, _⟩ := owns_cell HOV.out.1 (by omega)
       have cA := hcA i (vs[i]?.getD undef) (by simp [hlt])
       have hlti : (i : Int) < vs.length := by omega
       have hcpi : (vs.length : Int) ≤ oc := by omega
       obtain ⟨h1, ls, h2, h3, h4⟩ := HA.out
       obtain ⟨_, _, gL, _, e, hcL, hfL, _⟩ := owns_cell h3.1 (by omega)
       cases e
       have cL := hcL i (ls[i]?.getD undef) (by simp [show i < ls.length by omega])
       have hrow := (h4 i hlt).1
       rw [show grew vs.length 0 i = 16 by simp [grew, hlt]] at hrow
       obtain ⟨sl, cl, hle⟩ := owns_slice hrow
       rw [hle] at hrow cL
       obtain ⟨ga, gc, hve, hgc, hcg⟩ := h1 i hlt
       rw [rowV_len] at hve hgc hcg
       rw [hve] at cA
       have hnb := HNS.out i
       obtain ⟨n, hn⟩ : ∃ n, ns[i]?.getD 0 = n := ⟨_, rfl⟩
       rw [hn] at hrow cL hnb cA hgc hcg
       obtain ⟨_, hcl, gl, _, rfl, hcells, _⟩ := owns_cell hrow (by simp [rowV_len, apM_len])
       have hV : ∀ k, k < n → W.cell? ⟨gl, k, none⟩ = some (.int .i64 ((i : Int) * 1000003 + k)) := fun k hk => hcells k _ (by
        rw [List.getElem?_map, List.getElem?_append_left (by rw [rowV_len]; exact hk), rowV_get i n k hk]; rfl)
       have hM : ∀ k, k < 16 → W.cell? ⟨gl, n + k, none⟩ = some (.int .i64 (-(i : Int) * 1000003 - k - 1)) := fun k hk => hcells (n + k) _ (by
        rw [List.getElem?_map, List.getElem?_append_right (by rw [rowV_len]; omega), rowV_len, Nat.add_sub_cancel_left, apM_get i 16 k hk]; rfl)
       have HV := Lib.hid hV
       have HMM := Lib.hid hM
       have HCG := Lib.hid hcg
       have hnbi : (n : Int) ≤ 17600000000000 := by omega
       have hcli : (n : Int) + 16 ≤ cl := by omega
       have hgci : (n : Int) ≤ gc := by omega
       clear hV hM hcg h1 h3 h4 hcA hcL hfL hcells hrow hle hve hn
       go_wp2_with fail
       go_loopw [9] (fun kk wq => ∃ k : Nat, k ≤ n ∧ kk = .int .i64 k ∧ ∃ m, wq = W.drewN m) (fun kk _ => n - (intOf kk).toNat)
       case atStart => exact ⟨0, Nat.zero_le _, rfl, _, rfl⟩
       case round =>
        obtain ⟨k, hk, rfl, m, rfl⟩ := hrel
        by_cases hkn : k < n
        ·
         obtain ⟨g, rfl, _, _, hcc⟩ := HCG.out (by omega)
         have c1 := hcc k hkn
         rw [show (rowV i n)[k]?.getD 0 = (i : Int) * 1000003 + k by rw [rowV_get i n k hkn]; rfl] at c1
         have c2 := HV.out k hkn
         have hkni : (k : Int) < n := by omega
         have hkn2 : (k : Int) < (n : Int) + 16 := by omega
         clear hcc
         go_wp2
         go_roundw
         case rel => exact ⟨k + 1, by omega, by go_num, _, rfl⟩
         case measure => simp [intOf]; omega
        ·
         obtain rfl : k = n := by omega
         have hkni : ¬ (k : Int) < k := by omega
         go_wp2_with fail
         go_loopw [10] (fun kk wq => ∃ j : Nat, j ≤ 16 ∧ kk = .int .i64 j ∧ ∃ m, wq = W.drewN m) (fun kk _ => 16 - (intOf kk).toNat)
         case atStart => exact ⟨0, by omega, rfl, _, rfl⟩
         case round =>
          obtain ⟨j, hj, rfl, m, rfl⟩ := hrel
          by_cases hj16 : j < 16
          ·
           have c3 := HMM.out j hj16
           have hki : (j : Int) < 16 := by omega
           have hki2 : (k : Int) + j < (k : Int) + 16 := by omega
           have hki3 : (0 : Int) ≤ (k : Int) + j := by omega
           go_wp2
           go_quiet (fail)
           go_wp2
           go_roundw
           case rel => exact ⟨j + 1, by omega, by go_num, _, rfl⟩
           case measure => simp [intOf]; omega
          ·
           obtain rfl : j = 16 := by omega
           go_wp2
           go_roundw
           case rel => exact ⟨i + 1, by omega, by go_num, _, rfl⟩
           case measure => simp [intOf]; omega
      ·
       obtain rfl : i = vs.length := by omega
       go_wp2
       go_ret
       exact ⟨rfl, mods_dr HMO.out⟩
end Go.Proofs.Ytbmbfifempkhgaa

/- ApartPrograms: two programs of their owners' own share no memory. -/
namespace Go.Proofs.Ytbmbfifempkhgaa
open Go.RowKit
theorem info_intss1 : (Try.prog.info? 52).map (fun i => (i.zero, i.size, i.bytes)) = some (some (.slice none 0 0), 1, 24) := by kernel_rfl
theorem slices_of {α : Type} {tl : α → List Int} {w : World} {o : Col} {c : Nat} {ps : List (α × Value)} {rs : List (Value × List Int)} (h : RowsD w o c rs) (hs : ∀ x ∈ rowsOf tl ps, x ∈ rs) : ∀ x ∈ ps, ∃ a n k, x.2 = .slice a n k := fun x hx => by
 obtain ⟨a, k, e⟩ := (h.own _ (hs (x.2, tl x.1) (List.mem_map.2 ⟨x, hx, rfl⟩))).slice
 exact ⟨a, _, k, e⟩
theorem slices_one {α : Type} {ps : List (α × Value)} (h : ∀ x ∈ ps, ∃ a n k, x.2 = .slice a n k) : ∀ u ∈ ps.map Prod.snd, u.oneCell' = true := fun u hu => by
 obtain ⟨x, hx, rfl⟩ := List.mem_map.1 hu
 obtain ⟨a, n, k, e⟩ := h x hx
 rw [e]; rfl
theorem ones_app {l m : List Value} (h : ∀ u ∈ l, u.oneCell' = true) (h' : ∀ u ∈ m, u.oneCell' = true) : ∀ u ∈ l ++ m, u.oneCell' = true := fun u hu => (List.mem_append.1 hu).elim (h u) (h' u)
theorem row_news {w : World} {base e n cap : Nat} {ao : Option Addr} {vs : List Value} (h : w.ownsRow base e 1 (.slice ao n cap) vs.length vs) : n = vs.length ∧ (ao = none → vs.length = 0) ∧ ∀ ad, ao = some ad → ∀ j u, vs[j]? = some u → w.cell? (ad.add j) = some u := by
 have ho : Own w (fun _ => 0) 0 e 1 (.slice ao n cap) vs.length vs := ⟨owns_base h (fun _ _ => Nat.zero_le _), fun _ _ => rfl⟩
 have hv := ho.vals
 obtain rfl := hv.len
 exact ⟨rfl, hv.news⟩
theorem Turn.recolT {o o1 o2 : Col} {C : Nat → Prop} {w w1 : World} (h : Turn o o1 C w w1) (ho : ∀ k, k < w.heap.size → o2 k = o1 k) : Turn o o2 C w w1 := ⟨h.mods, fun k hk => (ho k hk).trans (h.same k hk)⟩
def ApartRet (w : World) (o : Col) (e : Ending) (w' : World) : Prop := e = .returned (.bool true) ∧ ∃ o', Turn o o' ProgC w w'
set_option maxRecDepth 100000 in
set_option maxHeartbeats 8000000 in
theorem apartprog_any (w : World) (o : Col) (p0 p1 p2 p3 q0 q1 q2 q3 : Int) (vp vl vo vp' vl' vo' : Value) (ps ps' : List (GPart × Value)) (ls ls' : List (GLine × Value)) (os os' : List GOp) (h : TwoProg w o vp vl vo vp' vl' vo' ps ps' ls ls' os os') (b1 : ps.length ≤ 1048576) (b2 : ls.length ≤ 1048576) (b3 : os.length ≤ 1048576) (b4 : ps'.length ≤ 1048576) (b5 : ls'.length ≤ 1048576) (b6 : os'.length ≤ 1048576)
  (hx : ∀ x ∈ (rowsOf GPart.params ps ++ rowsOf GLine.start ls) ++ (rowsOf GPart.params ps' ++ rowsOf GLine.start ls'), x.2.length ≤ 17600000000000) :
  Calls Try.prog 20 #[.agg #[.int .i64 p0, .int .i64 p1, .int .i64 p2, .int .i64 p3, vp, vl, vo], .agg #[.int .i64 q0, .int .i64 q1, .int .i64 q2, .int .i64 q3, vp', vl', vo']] w (ApartRet w o) := by
 obtain ⟨j0, ji, jz0, jz1, jz2⟩ := info_parts info_intss1
 have hb1 := below_alloc w (.cells #[.int .i64 p0, .int .i64 p1, .int .i64 p2, .int .i64 p3, vp, vl, vo] 39)
 have T1 := Turn.of_below o 1 hb1
 have hA : Blk _ (ext o w.heap.size 1) 1 _ _ _ := ⟨heap_alloc_new w (.cells #[.int .i64 p0, .int .i64 p1, .int .i64 p2, .int .i64 p3, vp, vl, vo] 39), ext_new (Nat.le_refl _)⟩
 obtain ⟨ap, xp, rfl⟩ := h.p.slice
 obtain ⟨al, xl, rfl⟩ := h.l.slice
 obtain ⟨ao, xo, rfl⟩ := h.q.slice
 obtain ⟨ap', xp', rfl⟩ := h.p'.slice
 obtain ⟨al', xl', rfl⟩ := h.l'.slice
 obtain ⟨ao', xo', rfl⟩ := h.q'.slice
 generalize hW1 : w.alloc (.cells #[.int .i64 p0, .int .i64 p1, .int .i64 p2, .int .i64 p3, .slice ap ps.length xp, .slice al ls.length xl, .slice ao os.length xo] 39) = W1 at *
 have hs1 : W1.heap.size = w.heap.size + 1 := by rw [← hW1]; simp
 have T2 := Turn.of_below (ext o w.heap.size 1) 1 (below_alloc W1 (.cells #[.int .i64 q0, .int .i64 q1, .int .i64 q2, .int .i64 q3, .slice ap' ps'.length xp', .slice al' ls'.length xl', .slice ao' os'.length xo'] 39))
 have hB : Blk _ (ext (ext o w.heap.size 1) W1.heap.size 1) 1 _ _ _ := ⟨heap_alloc_new W1 (.cells #[.int .i64 q0, .int .i64 q1, .int .i64 q2, .int .i64 q3, .slice ap' ps'.length xp', .slice al' ls'.length xl', .slice ao' os'.length xo'] 39), ext_new (Nat.le_refl _)⟩
 generalize hW2 : W1.alloc (.cells #[.int .i64 q0, .int .i64 q1, .int .i64 q2, .int .i64 q3, .slice ap' ps'.length xp', .slice al' ls'.length xl', .slice ao' os'.length xo'] 39) = W2 at *
 have hs2 : W2.heap.size = w.heap.size + 2 := by rw [← hW2, World.size_alloc, hs1]
 have HT := Lib.hid (T1.trans T2 (fun _ h => h))
 have HA := Lib.hid (hA.turn T2 (fun h => h))
 have HB := Lib.hid hB
 have HTP := Lib.hid ((h.turn T1 (fun _ _ h => h)).turn T2 (fun _ _ h => h))
 rw [hs1] at HB HT HA HTP
 generalize ext (ext o w.heap.size 1) (w.heap.size + 1) 1 = o2 at *
 have HX := Lib.hid hx
 have HRL := Lib.hid (fun x hx B (hB : x.1.ownBlock = some B) => ((h.rows.own x hx).1.lt B hB).2)
 have HS := Lib.hid (slices_of (tl := GPart.params) (ps := ps) HTP.out.rows (fun x hx => by simp [hx]))
 have HS2 := Lib.hid (slices_of (tl := GLine.start) (ps := ls) HTP.out.rows (fun x hx => by simp [hx]))
 have HS3 := Lib.hid (slices_of (tl := GPart.params) (ps := ps') HTP.out.rows (fun x hx => by simp [hx]))
 have HS4 := Lib.hid (slices_of (tl := GLine.start) (ps := ls') HTP.out.rows (fun x hx => by simp [hx]))
 clear hb1 T1 hA T2 hB h hx
 have y0 := HA.out.cell 0 _ rfl
 have y1 := HA.out.cell 1 _ rfl
 have y2 := HA.out.cell 2 _ rfl
 have y3 := HA.out.cell 3 _ rfl
 have y4 := HA.out.cell 4 _ rfl
 have y5 := HA.out.cell 5 _ rfl
 have y6 := HA.out.cell 6 _ rfl
 simp only [List.getElem_toArray, List.getElem_cons_succ, List.getElem_cons_zero] at y0 y1 y2 y3 y4 y5 y6
 go_enter Try.func20, Try.ntmps20
 go_wp2_with fail
 refine (kwithin_any (hp := partHd) (hl := lineHd) W2 p0 p1 p2 p3 _ _ _ ps ls (slice_row (fun _ => rfl) HTP.out.p HS.out) (slice_row (fun _ => rfl) HTP.out.l HS2.out) (by omega) (by omega)).mono ?_
 rintro e W3 ⟨ra, rfl, hra, hb3⟩
 obtain ⟨sr, cr, rfl⟩ := owns_slice hra
 obtain ⟨-, hnone, hnews⟩ := row_news hra
 have hvl : (ps.map Prod.snd ++ ls.map Prod.snd).length ≤ 2097152 := by simp; omega
 have hone := ones_app (slices_one HS.out) (slices_one HS2.out)
 have hone' := ones_app (slices_one HS3.out) (slices_one HS4.out)
 have hvl' : (ps'.map Prod.snd ++ ls'.map Prod.snd).length ≤ 2097152 := by simp; omega
 obtain ⟨V, hV⟩ : ∃ x, ps.map Prod.snd ++ ls.map Prod.snd = x := ⟨_, rfl⟩
 obtain ⟨V', hV'⟩ : ∃ x, ps'.map Prod.snd ++ ls'.map Prod.snd = x := ⟨_, rfl⟩
 rw [hV] at hra hnone hnews hvl hone ⊢
 rw [hV'] at hvl' hone'
 have HV := Lib.hid hV
 have HV' := Lib.hid hV'
 have Hnone := Lib.hid hnone
 have Hnews := Lib.hid hnews
 have Hone := Lib.hid hone
 have Hone' := Lib.hid hone'
 have T3 := Turn.of_below o2 2 hb3
 have HT3 := Lib.hid (HT.out.trans T3 (fun _ h => h))
 have HA3 := Lib.hid (HA.out.turn T3 (fun h => h))
 have HB3 := Lib.hid (HB.out.turn T3 (fun h => h))
 have HTP3 := Lib.hid (HTP.out.turn T3 (fun _ _ h => h))
 have hs3 : w.heap.size ≤ W3.heap.size := HT3.out.size
 clear hra hb3 hV hV' hone hone' hnone hnews T3 HT HA HB HTP hW1 hW2 hs1 hs2 y0 y1 y2 y3 y4 y5 y6
 generalize ext o2 W2.heap.size 2 = o3 at *
 clear o2
 go_wp2_with (at_builtin; refine stop_here ?_)
 refine go_on ?_
 refine wpList_app rfl _ _ 114 rfl W3.heap.size 52 j0 _ 1 24 Try.underlying114 ji jz0 jz1 jz2 rfl (.slice none 0 0) 0 [] rfl (World.ownsRow_nil W3 W3.heap.size 52 1) sr V.length cr V rfl (by simp) Hnone.out Hnews.out Hone.out (by unfold maxLen; omega) (grow_ok (by omega)) (Nat.le_refl _) ?_
 intro v4 W4 k1 k20 _ _
 have k3 : W4.ownsRow W3.heap.size 52 1 v4 V.length V := by simpa using k1
 have hb4 : Below W3.heap.size W3 W4 := below_mods ((Mods.refl _ W3).grown k20 (fun b hb _ => by simp [Value.ownBlock] at hb))
 obtain ⟨s4, c4, rfl⟩ := owns_slice k3
 have T4 := Turn.of_below o3 3 hb4
 have HT4 := Lib.hid (HT3.out.trans T4 (fun _ h => h))
 have HA4 := Lib.hid (HA3.out.turn T4 (fun h => h))
 have HB4 := Lib.hid (HB3.out.turn T4 (fun h => h))
 have HTP4 := Lib.hid (HTP3.out.turn T4 (fun _ _ h => h))
 have HN4 : Hid (Own W4 (ext o3 W3.heap.size 3) 3 52 1 (.slice s4 V.length c4) V.length V ∧ ∀ k, (Value.slice s4 V.length c4).ownBlock = some k → W3.heap.size ≤ k) := Lib.hid ⟨⟨owns_base k3 (fun _ _ => Nat.zero_le _), fun k hk => ext_new (k3.lt k hk).1⟩, fun k hk => (k3.lt k hk).1⟩
 have hs4 : W3.heap.size ≤ W4.heap.size := hb4.size
 clear k1 k20 k3 hb4 T4 HT3 HA3 HB3 HTP3 Hnone Hnews
 generalize ext o3 W3.heap.size 3 = o4 at *
 clear o3
 have z0 := HB4.out.cell 0 _ rfl
 have z1 := HB4.out.cell 1 _ rfl
 have z2 := HB4.out.cell 2 _ rfl
 have z3 := HB4.out.cell 3 _ rfl
 have z4 := HB4.out.cell 4 _ rfl
 have z5 := HB4.out.cell 5 _ rfl
 have z6 := HB4.out.cell 6 _ rfl
 simp only [List.getElem_toArray, List.getElem_cons_succ, List.getElem_cons_zero] at z0 z1 z2 z3 z4 z5 z6
 go_wp2_with fail
 refine (kwithin_any (hp := partHd) (hl := lineHd) W4 q0 q1 q2 q3 _ _ _ ps' ls' (slice_row (fun _ => rfl) HTP4.out.p' HS3.out) (slice_row (fun _ => rfl) HTP4.out.l' HS4.out) (by omega) (by omega)).mono ?_
 rintro e W5 ⟨rb, rfl, hrb, hb5⟩
 obtain ⟨sb, cb, rfl⟩ := owns_slice hrb
 obtain ⟨-, hnone, hnews⟩ := row_news hrb
 rw [HV'.out] at hrb hnone hnews ⊢
 have Hnone := Lib.hid hnone
 have Hnews := Lib.hid hnews
 have T5 := Turn.of_below o4 2 hb5
 have HT5 := Lib.hid (HT4.out.trans T5 (fun _ h => h))
 have HA5 := Lib.hid (HA4.out.turn T5 (fun h => h))
 have HB5 := Lib.hid (HB4.out.turn T5 (fun h => h))
 have HTP5 := Lib.hid (HTP4.out.turn T5 (fun _ _ h => h))
 have HN5 := Lib.hid (HN4.out.1.turn T5 (fun h => h))
 have HNB := Lib.hid HN4.out.2
 have hs5 : W4.heap.size ≤ W5.heap.size := hb5.size
 clear hrb hb5 hnone hnews T5 HT4 HA4 HB4 HTP4 HN4 z0 z1 z2 z3 z4 z5 z6
 generalize ext o4 W4.heap.size 2 = o5 at *
 clear o4
 go_wp2_with (at_builtin; refine stop_here ?_)
 refine go_on ?_
 refine wpList_app rfl _ _ 114 rfl W3.heap.size 52 j0 _ 1 24 Try.underlying114 ji jz0 jz1 jz2 rfl (.slice s4 V.length c4) V.length V rfl (owns_base HN5.out.1 (fun k hk => HNB.out k hk)) sb V'.length cb V' rfl (by simp) Hnone.out Hnews.out Hone'.out (by unfold maxLen; omega) (grow_ok (by omega)) (by omega) ?_
 intro v6 W6 k1 k20 _ k4
 obtain ⟨s6, c6, rfl⟩ := owns_slice k1
 have m6 : Mods (fun b => (Value.slice s4 V.length c4).ownBlock = some b) W5 W6 := (Mods.refl _ W5).grown k20 (fun b hb _ => hb)
 have T6 : Turn o5 (ext o5 W5.heap.size 3) (fun x => x = 3) W5 W6 := Turn.of_mods o5 3 m6 (fun b _ hb => HN5.out.2 b hb)
 have HT6 : Hid (Turn o (ext o5 W5.heap.size 3) (fun _ => False) w W6) := Lib.hid ((HT5.out.more m6 (fun k hk e => by have := HNB.out k e; omega)).recolT (fun k hk => ext_old (by omega)))
 have HA6 := Lib.hid (HA5.out.turn T6 (by decide))
 have HB6 := Lib.hid (HB5.out.turn T6 (by decide))
 have HTP6 := Lib.hid (HTP5.out.turn T6 (fun x hx e => by subst e; unfold ProgC at hx; omega))
 have HK6 := Lib.hid k1
 have HN6 : Hid (∀ k, (Value.slice s6 (V.length + V'.length) c6).ownBlock = some k → ext o5 W5.heap.size 3 k = 3 ∧ W3.heap.size ≤ k) := Lib.hid fun k hk => ⟨by
  rcases k4 with k4 | k4
  ·
   rw [k4] at hk
   exact (ext_old (HN5.out.1.lt k hk).2).trans (HN5.out.2 k hk)
  ·
   rw [k4] at hk
   exact ext_new (by have := Option.some.inj hk; omega), (k1.lt k hk).1⟩
 have hs6 : W5.heap.size ≤ W6.heap.size := m6.size
 clear k1 k20 k4 m6 T6 HT5 HA5 HB5 HTP5 HN5 HNB Hnone Hnews Hone Hone'
 generalize ext o5 W5.heap.size 3 = o6 at *
 clear o5
 have HOU : Hid (Outs W6 (fun k => if (Value.slice s6 (V.length + V'.length) c6).ownBlock = some k then 5 else o6 k) 5 (.slice s6 (V.length + V'.length) c6) (((rowsOf GPart.params ps ++ rowsOf GLine.start ls) ++ (rowsOf GPart.params ps' ++ rowsOf GLine.start ls')).map Prod.snd)) := by
  have hf : ((rowsOf GPart.params ps ++ rowsOf GLine.start ls) ++ (rowsOf GPart.params ps' ++ rowsOf GLine.start ls')).map Prod.fst = V ++ V' := by
   rw [List.map_append, List.map_append, List.map_append, rowsOf_fst, rowsOf_fst, rowsOf_fst, rowsOf_fst, HV.out, HV'.out]
  refine Lib.hid (outs_of ⟨fun x hx => ⟨(HTP6.out.rows.own x hx).1, fun k hk => ?_⟩, HTP6.out.rows.dis⟩ ?_ (fun x hx B hB hB2 => ?_))
  ·
   show (if _ then 5 else o6 k) = 5
   split
   ·
    rfl
   ·
    exact (HTP6.out.rows.own x hx).2 k hk
  ·
   rw [hf, List.length_append]
   exact ⟨owns_base HK6.out (fun _ _ => Nat.zero_le _), fun k hk => if_pos hk⟩
  ·
   have h1 := HRL.out x hx B hB
   have h2 := (HN6.out B hB2).2
   omega
 have HLEN : Hid ((((rowsOf GPart.params ps ++ rowsOf GLine.start ls) ++ (rowsOf GPart.params ps' ++ rowsOf GLine.start ls')).map Prod.snd).length ≤ 5864062014805) := Lib.hid (by simp [rowsOf]; omega)
 have HXL : Hid (∀ l ∈ ((rowsOf GPart.params ps ++ rowsOf GLine.start ls) ++ (rowsOf GPart.params ps' ++ rowsOf GLine.start ls')).map Prod.snd, l.length ≤ 17600000000000) := Lib.hid (fun l hl => by
  obtain ⟨x, hx, rfl⟩ := List.mem_map.1 hl
  exact HX.out x hx)
 clear HK6
 go_wp2_with fail
 refine (apart_yes HOU.out HLEN.out HXL.out).mono ?_
 rintro e W7 ⟨rfl, m7⟩
 have hcol : ∀ k, (if (Value.slice s6 (V.length + V'.length) c6).ownBlock = some k then 5 else o6 k) = 5 → (o6 k = 3 ∧ W3.heap.size ≤ k) ∨ o6 k = 5 := fun k hk => by
  split at hk
  ·
   rename_i he
   exact .inl (HN6.out k he)
  ·
   exact .inr hk
 have T7 : Turn o6 (ext o6 W6.heap.size 0) (fun x => x = 3 ∨ x = 5) W6 W7 := Turn.of_mods o6 0 m7 (fun k _ hk => (hcol k hk).imp And.left id)
 have HT7 : Hid (Turn o (ext o6 W6.heap.size 0) ProgC w W7) := Lib.hid ⟨HT6.out.mods.trans m7 (fun _ _ h => h.elim) (fun k hk h => by
  rcases hcol k h with h1 | h1
  ·
   omega
  ·
   rw [HT6.out.same k hk] at h1
   exact .inr (.inl h1)), fun k hk => (ext_old (by omega)).trans (HT6.out.same k hk)⟩
 have HA7 := Lib.hid (HA6.out.turn T7 (by decide))
 have HB7 := Lib.hid (HB6.out.turn T7 (by decide))
 have P7 := Lib.hid (HTP6.out.p.turn T7 (by decide))
 have L7 := Lib.hid (HTP6.out.l.turn T7 (by decide))
 have Q7 := Lib.hid (HTP6.out.q.turn T7 (by decide))
 have P7' := Lib.hid (HTP6.out.p'.turn T7 (by decide))
 have L7' := Lib.hid (HTP6.out.l'.turn T7 (by decide))
 have Q7' := Lib.hid (HTP6.out.q'.turn T7 (by decide))
 have hs7 : W6.heap.size ≤ W7.heap.size := m7.size
 clear m7 T7 hcol HT6 HA6 HB6 HTP6 HOU HLEN HXL HN6 HRL HX HS HS2 HS3 HS4 HV HV'
 generalize ext o6 W6.heap.size 0 = o7 at *
 clear o6
 have y0 := HA7.out.cell 0 _ rfl
 have y1 := HA7.out.cell 1 _ rfl
 have y2 := HA7.out.cell 2 _ rfl
 have y3 := HA7.out.cell 3 _ rfl
 have y4 := HA7.out.cell 4 _ rfl
 have y5 := HA7.out.cell 5 _ rfl
 have y6 := HA7.out.cell 6 _ rfl
 simp only [List.getElem_toArray, List.getElem_cons_succ, List.getElem_cons_zero] at y0 y1 y2 y3 y4 y5 y6
 go_wp2_with fail
 refine (writeprog_any W7 o7 4 6 8 (by decide) (by decide) (by decide) p0 p1 p2 p3 77 _ _ _ _ _ _ _ _ _ P7.out L7.out Q7.out (by decide) (by decide) (by omega) (by omega) (by omega)).mono ?_
 rintro e W8 ⟨rfl, o8, T8, p8, l8, q8⟩
 have HT8 := Lib.hid (HT7.out.trans T8 (fun x hx => by unfold ProgC; omega))
 have HA8 := Lib.hid (HA7.out.turn T8 (by decide))
 have HB8 := Lib.hid (HB7.out.turn T8 (by decide))
 have P8 := Lib.hid p8
 have L8 := Lib.hid l8
 have Q8 := Lib.hid q8
 have P8' := Lib.hid (P7'.out.turn T8 (by decide))
 have L8' := Lib.hid (L7'.out.turn T8 (by decide))
 have Q8' := Lib.hid (Q7'.out.turn T8 (by decide))
 clear T8 p8 l8 q8 HT7 HA7 HB7 P7 L7 Q7 P7' L7' Q7' y0 y1 y2 y3 y4 y5 y6
 have z0 := HB8.out.cell 0 _ rfl
 have z1 := HB8.out.cell 1 _ rfl
 have z2 := HB8.out.cell 2 _ rfl
 have z3 := HB8.out.cell 3 _ rfl
 have z4 := HB8.out.cell 4 _ rfl
 have z5 := HB8.out.cell 5 _ rfl
 have z6 := HB8.out.cell 6 _ rfl
 simp only [List.getElem_toArray, List.getElem_cons_succ, List.getElem_cons_zero] at z0 z1 z2 z3 z4 z5 z6
 go_wp2_with fail
 refine (writeprog_any W8 o8 14 16 18 (by decide) (by decide) (by decide) q0 q1 q2 q3 78 _ _ _ _ _ _ _ _ _ P8'.out L8'.out Q8'.out (by decide) (by decide) (by omega) (by omega) (by omega)).mono ?_
 rintro e W9 ⟨rfl, o9, T9, p9, l9, q9⟩
 have HT9 := Lib.hid (HT8.out.trans T9 (fun x hx => by unfold ProgC; omega))
 have HA9 := Lib.hid (HA8.out.turn T9 (by decide))
 have HB9 := Lib.hid (HB8.out.turn T9 (by decide))
 have P9 := Lib.hid (P8.out.turn T9 (by decide))
 have L9 := Lib.hid (L8.out.turn T9 (by decide))
 have Q9 := Lib.hid (Q8.out.turn T9 (by decide))
 have P9' := Lib.hid p9
 have L9' := Lib.hid l9
 have Q9' := Lib.hid q9
 clear T9 p9 l9 q9 HT8 HA8 HB8 P8 L8 Q8 P8' L8' Q8' z0 z1 z2 z3 z4 z5 z6
 have y0 := HA9.out.cell 0 _ rfl
 have y1 := HA9.out.cell 1 _ rfl
 have y2 := HA9.out.cell 2 _ rfl
 have y3 := HA9.out.cell 3 _ rfl
 have y4 := HA9.out.cell 4 _ rfl
 have y5 := HA9.out.cell 5 _ rfl
 have y6 := HA9.out.cell 6 _ rfl
 simp only [List.getElem_toArray, List.getElem_cons_succ, List.getElem_cons_zero] at y0 y1 y2 y3 y4 y5 y6
 go_wp2_with fail
 refine (grown_any W9 o9 4 6 8 (by decide) (by decide) (by decide) p0 p1 p2 p3 77 79 _ _ _ _ _ _ P9.out L9.out Q9.out (by decide) (by decide) (by omega) (by omega) (by omega)).mono ?_
 rintro e WA ⟨oA, cp, cl, cq, rfl, TA, gA⟩
 have HTA := Lib.hid (HT9.out.trans TA (fun x hx => by unfold ProgC; omega))
 have HAA := Lib.hid (HA9.out.turn TA (by decide))
 have HBA := Lib.hid (HB9.out.turn TA (by decide))
 have PA' := Lib.hid (P9'.out.turn TA (by decide))
 have LA' := Lib.hid (L9'.out.turn TA (by decide))
 have QA' := Lib.hid (Q9'.out.turn TA (by decide))
 have GA := Lib.hid gA
 obtain ⟨aP, xP, rfl⟩ := gA.fp.slice
 obtain ⟨aL, xL, rfl⟩ := gA.fl.slice
 obtain ⟨aQ, xQ, rfl⟩ := gA.fq.slice
 clear TA gA HT9 HA9 HB9 P9 L9 Q9 P9' L9' Q9' y0 y1 y2 y3 y4 y5 y6
 have hbC := below_alloc WA (.cells #[.int .i64 p0, .int .i64 p1, .int .i64 p2, .int .i64 p3, .slice aP (ps.length + 16) xP, .slice aL (ls.length + 16) xL, .slice aQ (os.length + 16) xQ] 39)
 have TC := Turn.of_below oA 1 hbC
 have HCC : Hid (Blk _ (ext oA WA.heap.size 1) 1 _ _ _) := Lib.hid ⟨heap_alloc_new WA (.cells #[.int .i64 p0, .int .i64 p1, .int .i64 p2, .int .i64 p3, .slice aP (ps.length + 16) xP, .slice aL (ls.length + 16) xL, .slice aQ (os.length + 16) xQ] 39), ext_new (Nat.le_refl _)⟩
 have HTC := Lib.hid (HTA.out.trans TC (fun _ h => h.elim))
 have HAC := Lib.hid (HAA.out.turn TC (fun h => h))
 have HBC := Lib.hid (HBA.out.turn TC (fun h => h))
 have PC' := Lib.hid (PA'.out.turn TC (fun h => h))
 have LC' := Lib.hid (LA'.out.turn TC (fun h => h))
 have QC' := Lib.hid (QA'.out.turn TC (fun h => h))
 have GC := Lib.hid (GA.out.turn TC (fun h => h) (fun h => h) (fun h => h))
 clear hbC TC HTA HAA HBA PA' LA' QA' GA
 have z0 := HBC.out.cell 0 _ rfl
 have z1 := HBC.out.cell 1 _ rfl
 have z2 := HBC.out.cell 2 _ rfl
 have z3 := HBC.out.cell 3 _ rfl
 have z4 := HBC.out.cell 4 _ rfl
 have z5 := HBC.out.cell 5 _ rfl
 have z6 := HBC.out.cell 6 _ rfl
 simp only [List.getElem_toArray, List.getElem_cons_succ, List.getElem_cons_zero] at z0 z1 z2 z3 z4 z5 z6
 go_wp2_with fail
 obtain ⟨WC, hWC⟩ : ∃ x, WA.alloc (.cells #[.int .i64 p0, .int .i64 p1, .int .i64 p2, .int .i64 p3, .slice aP (ps.length + 16) xP, .slice aL (ls.length + 16) xL, .slice aQ (os.length + 16) xQ] 39) = x := ⟨_, rfl⟩
 obtain ⟨CB, hCB⟩ : ∃ x, WA.heap.size = x := ⟨_, rfl⟩
 rw [hWC] at HTC HAC HBC PC' LC' QC' GC HCC
 rw [hWC]
 rw [hCB] at HTC HAC HBC PC' LC' QC' GC HCC
 rw [hCB]
 generalize ext oA CB 1 = oC at *
 clear hWC hCB z0 z1 z2 z3 z4 z5 z6
 refine (grown_any WC oC 14 16 18 (by decide) (by decide) (by decide) q0 q1 q2 q3 78 80 _ _ _ _ _ _ PC'.out LC'.out QC'.out (by decide) (by decide) (by omega) (by omega) (by omega)).mono ?_
 rintro e WD ⟨oD, dp, dl, dq, rfl, TD, gD⟩
 have HTD := Lib.hid (HTC.out.trans TD (fun x hx => by unfold ProgC; omega))
 have HAD := Lib.hid (HAC.out.turn TD (by decide))
 have HBD := Lib.hid (HBC.out.turn TD (by decide))
 have HCD := Lib.hid (HCC.out.turn TD (by decide))
 have GAD := Lib.hid (GC.out.turn TD (by decide) (by decide) (by decide))
 have GBD := Lib.hid gD
 obtain ⟨aP', xP', rfl⟩ := gD.fp.slice
 obtain ⟨aL', xL', rfl⟩ := gD.fl.slice
 obtain ⟨aQ', xQ', rfl⟩ := gD.fq.slice
 clear TD gD HTC HAC HBC HCC PC' LC' QC' GC
 have hbE := below_alloc WD (.cells #[.int .i64 q0, .int .i64 q1, .int .i64 q2, .int .i64 q3, .slice aP' (ps'.length + 16) xP', .slice aL' (ls'.length + 16) xL', .slice aQ' (os'.length + 16) xQ'] 39)
 have TE := Turn.of_below oD 1 hbE
 have HDE : Hid (Blk _ (ext oD WD.heap.size 1) 1 _ _ _) := Lib.hid ⟨heap_alloc_new WD (.cells #[.int .i64 q0, .int .i64 q1, .int .i64 q2, .int .i64 q3, .slice aP' (ps'.length + 16) xP', .slice aL' (ls'.length + 16) xL', .slice aQ' (os'.length + 16) xQ'] 39), ext_new (Nat.le_refl _)⟩
 have HTE := Lib.hid (HTD.out.trans TE (fun _ h => h.elim))
 have HAE := Lib.hid (HAD.out.turn TE (fun h => h))
 have HBE := Lib.hid (HBD.out.turn TE (fun h => h))
 have HCE := Lib.hid (HCD.out.turn TE (fun h => h))
 have GAE := Lib.hid (GAD.out.turn TE (fun h => h) (fun h => h) (fun h => h))
 have GBE := Lib.hid (GBD.out.turn TE (fun h => h) (fun h => h) (fun h => h))
 clear hbE TE HTD HAD HBD HCD GAD GBD
 have y0 := HAE.out.cell 0 _ rfl
 have y1 := HAE.out.cell 1 _ rfl
 have y2 := HAE.out.cell 2 _ rfl
 have y3 := HAE.out.cell 3 _ rfl
 have y4 := HAE.out.cell 4 _ rfl
 have y5 := HAE.out.cell 5 _ rfl
 have y6 := HAE.out.cell 6 _ rfl
 simp only [List.getElem_toArray, List.getElem_cons_succ, List.getElem_cons_zero] at y0 y1 y2 y3 y4 y5 y6
 go_wp2_with fail
 obtain ⟨WE, hWE⟩ : ∃ x, WD.alloc (.cells #[.int .i64 q0, .int .i64 q1, .int .i64 q2, .int .i64 q3, .slice aP' (ps'.length + 16) xP', .slice aL' (ls'.length + 16) xL', .slice aQ' (os'.length + 16) xQ'] 39) = x := ⟨_, rfl⟩
 obtain ⟨DB, hDB⟩ : ∃ x, WD.heap.size = x := ⟨_, rfl⟩
 rw [hWE] at HTE HAE HBE HCE GAE GBE HDE
 rw [hWE]
 rw [hDB] at HTE HAE HBE HCE GAE GBE HDE
 rw [hDB]
 generalize ext oD DB 1 = oE at *
 clear hWE hDB y0 y1 y2 y3 y4 y5 y6
 refine (written_yes WE p0 p1 p2 p3 77 _ _ _ _ _ _ GAE.out.gp.view GAE.out.gl.view GAE.out.gq.view (by decide) (by decide) (by omega) (by omega) (by omega)).mono ?_
 rintro e WF ⟨rfl, hbF⟩
 have TF := Turn.of_below oE 2 hbF
 have HTF := Lib.hid (HTE.out.trans TF (fun _ h => h.elim))
 have HAF := Lib.hid (HAE.out.turn TF (fun h => h))
 have HBF := Lib.hid (HBE.out.turn TF (fun h => h))
 have HCF := Lib.hid (HCE.out.turn TF (fun h => h))
 have HDF := Lib.hid (HDE.out.turn TF (fun h => h))
 have GAF := Lib.hid (GAE.out.turn TF (fun h => h) (fun h => h) (fun h => h))
 have GBF := Lib.hid (GBE.out.turn TF (fun h => h) (fun h => h) (fun h => h))
 clear TF hbF HTE HAE HBE HCE HDE GAE GBE
 have z0 := HBF.out.cell 0 _ rfl
 have z1 := HBF.out.cell 1 _ rfl
 have z2 := HBF.out.cell 2 _ rfl
 have z3 := HBF.out.cell 3 _ rfl
 have z4 := HBF.out.cell 4 _ rfl
 have z5 := HBF.out.cell 5 _ rfl
 have z6 := HBF.out.cell 6 _ rfl
 simp only [List.getElem_toArray, List.getElem_cons_succ, List.getElem_cons_zero] at z0 z1 z2 z3 z4 z5 z6
 go_wp2_with fail
 refine (written_yes WF q0 q1 q2 q3 78 _ _ _ _ _ _ GBF.out.gp.view GBF.out.gl.view GBF.out.gq.view (by decide) (by decide) (by omega) (by omega) (by omega)).mono ?_
 rintro e WG ⟨rfl, hbG⟩
 have TG := Turn.of_below (ext oE WE.heap.size 2) 2 hbG
 have HTG := Lib.hid (HTF.out.trans TG (fun _ h => h.elim))
 have HAG := Lib.hid (HAF.out.turn TG (fun h => h))
 have HBG := Lib.hid (HBF.out.turn TG (fun h => h))
 have HCG := Lib.hid (HCF.out.turn TG (fun h => h))
 have HDG := Lib.hid (HDF.out.turn TG (fun h => h))
 have GAG := Lib.hid (GAF.out.turn TG (fun h => h) (fun h => h) (fun h => h))
 have GBG := Lib.hid (GBF.out.turn TG (fun h => h) (fun h => h) (fun h => h))
 clear TG hbG HTF HAF HBF HCF HDF GAF GBF z0 z1 z2 z3 z4 z5 z6
 obtain ⟨-, hcP, gP, rfl, hvP⟩ := GAG.out.fp.tail (by decide) (by decide)
 obtain ⟨-, hcL, gL, rfl, hvL⟩ := GAG.out.fl.tail (by decide) (by decide)
 obtain ⟨-, hcQ, gQ, rfl, hvQ⟩ := GAG.out.fq.tail (by decide) (by decide)
 obtain ⟨-, hcP', gP', rfl, hvP'⟩ := GBG.out.fp.tail (by decide) (by decide)
 obtain ⟨-, hcL', gL', rfl, hvL'⟩ := GBG.out.fl.tail (by decide) (by decide)
 obtain ⟨-, hcQ', gQ', rfl, hvQ'⟩ := GBG.out.fq.tail (by decide) (by decide)
 have VP := Lib.hid hvP
 have VL := Lib.hid hvL
 have VQ := Lib.hid hvQ
 have VP' := Lib.hid hvP'
 have VL' := Lib.hid hvL'
 have VQ' := Lib.hid hvQ'
 clear hvP hvL hvQ hvP' hvL' hvQ' GAG GBG
 generalize ext (ext oE WE.heap.size 2) WF.heap.size 2 = oG at *
 have y0 := HAG.out.cell 0 _ rfl
 have y1 := HAG.out.cell 1 _ rfl
 have y2 := HAG.out.cell 2 _ rfl
 have y3 := HAG.out.cell 3 _ rfl
 have y4 := HAG.out.cell 4 _ rfl
 have y5 := HAG.out.cell 5 _ rfl
 have y6 := HAG.out.cell 6 _ rfl
 simp only [List.getElem_toArray, List.getElem_cons_succ, List.getElem_cons_zero] at y0 y1 y2 y3 y4 y5 y6
 have z0 := HCG.out.cell 0 _ rfl
 have z1 := HCG.out.cell 1 _ rfl
 have z2 := HCG.out.cell 2 _ rfl
 have z3 := HCG.out.cell 3 _ rfl
 have z4 := HCG.out.cell 4 _ rfl
 have z5 := HCG.out.cell 5 _ rfl
 have z6 := HCG.out.cell 6 _ rfl
 simp only [List.getElem_toArray, List.getElem_cons_succ, List.getElem_cons_zero] at z0 z1 z2 z3 z4 z5 z6
 go_wp2_with fail
 refine (beyond_any WG p0 p1 p2 p3 p0 p1 p2 p3 gP gL gQ _ _ _ xP xL xQ _ _ _ _ _ _ hcP hcL hcQ (by omega) (by omega) (by omega)).mono ?_
 rintro e WH ⟨rfl, hbH⟩
 clear y0 y1 y2 y3 y4 y5 y6 z0 z1 z2 z3 z4 z5 z6
 go_wp2_with fail
 refine (written_yes WH 0 0 0 0 79 _ _ _ _ _ _ (VP.out.below hbH) (VL.out.below hbH) (VQ.out.below hbH) (by decide) (by decide) (by omega) (by omega) (by omega)).mono ?_
 rintro e WI ⟨rfl, hbI⟩
 have hbI2 : Below WG.heap.size WG WI := Below.then hbH hbI
 have TI := Turn.of_below oG 2 hbI2
 have HTI := Lib.hid (HTG.out.trans TI (fun _ h => h.elim))
 have HBI := Lib.hid (HBG.out.turn TI (fun h => h))
 have HDI := Lib.hid (HDG.out.turn TI (fun h => h))
 replace VP' := Lib.hid (VP'.out.below hbI2)
 replace VL' := Lib.hid (VL'.out.below hbI2)
 replace VQ' := Lib.hid (VQ'.out.below hbI2)
 clear hbH hbI hbI2 TI HTG HAG HBG HCG HDG VP VL VQ
 have y0 := HBI.out.cell 0 _ rfl
 have y1 := HBI.out.cell 1 _ rfl
 have y2 := HBI.out.cell 2 _ rfl
 have y3 := HBI.out.cell 3 _ rfl
 have y4 := HBI.out.cell 4 _ rfl
 have y5 := HBI.out.cell 5 _ rfl
 have y6 := HBI.out.cell 6 _ rfl
 simp only [List.getElem_toArray, List.getElem_cons_succ, List.getElem_cons_zero] at y0 y1 y2 y3 y4 y5 y6
 have z0 := HDI.out.cell 0 _ rfl
 have z1 := HDI.out.cell 1 _ rfl
 have z2 := HDI.out.cell 2 _ rfl
 have z3 := HDI.out.cell 3 _ rfl
 have z4 := HDI.out.cell 4 _ rfl
 have z5 := HDI.out.cell 5 _ rfl
 have z6 := HDI.out.cell 6 _ rfl
 simp only [List.getElem_toArray, List.getElem_cons_succ, List.getElem_cons_zero] at z0 z1 z2 z3 z4 z5 z6
 go_wp2_with fail
 refine (beyond_any WI q0 q1 q2 q3 q0 q1 q2 q3 gP' gL' gQ' _ _ _ xP' xL' xQ' _ _ _ _ _ _ hcP' hcL' hcQ' (by omega) (by omega) (by omega)).mono ?_
 rintro e WJ ⟨rfl, hbJ⟩
 clear y0 y1 y2 y3 y4 y5 y6 z0 z1 z2 z3 z4 z5 z6
 go_wp2_with fail
 refine (written_yes WJ 0 0 0 0 80 _ _ _ _ _ _ (VP'.out.below hbJ) (VL'.out.below hbJ) (VQ'.out.below hbJ) (by decide) (by decide) (by omega) (by omega) (by omega)).mono ?_
 rintro e WK ⟨rfl, hbK⟩
 have TK := Turn.of_below (ext oG WG.heap.size 2) 2 (Below.then hbJ hbK)
 have HTK := Lib.hid (HTI.out.trans TK (fun _ h => h.elim))
 clear hbJ hbK TK HTI HBI HDI VP' VL' VQ'
 go_wp2
 go_ret
 exact ⟨rfl, _, HTK.out⟩
end Go.Proofs.Ytbmbfifempkhgaa

/- code's within, capped. -/
namespace Go.Proofs.Ytbmbfifempkhgaa
open Go.RowKit
def capI (n : Int) : Int := if 131073 < n then 131073 else n
theorem HasRow.opAt {w : World} {ao : Option Addr} {n cap : Nat} {l : List GOp} (h : HasRow w (.slice ao n cap) l) {j : Nat} {y : GOp} (hy : l[j]? = some y) : n ≤ cap ∧ j < n ∧ ∃ b off, ao = some ⟨b, off, none⟩ ∧ w.cell? ⟨b, off + j * 3, none⟩ = some (.int .u8 y.kind) ∧ w.cell? ⟨b, off + j * 3 + 1, none⟩ = some (.int .i64 y.a) ∧ w.cell? ⟨b, off + j * 3 + 2, none⟩ = some (.int .i64 y.b) := by
 obtain ⟨hj, rfl⟩ := List.getElem?_eq_some_iff.1 hy
 obtain ⟨h1, h2, b, off, h3, h4⟩ := h.at hj
 exact ⟨h2, by omega, b, off, h3, h4 j hj⟩
end Go.Proofs.Ytbmbfifempkhgaa

/- code's sound. -/
namespace Go.Proofs.Ytbmbfifempkhgaa
open Go.RowKit
structure Sized (P : GProg) : Prop where
 cnt : 0 ≤ P.counters ∧ P.counters ≤ 100000
 ins : 0 ≤ P.ins ∧ P.ins ≤ 100000
 outs : 0 ≤ P.outs ∧ P.outs ≤ 100000
 parts : P.parts.length ≤ 100000
 lines : P.lines.length ≤ 100000
 ops : P.ops.length ≤ 131072
end Go.Proofs.Ytbmbfifempkhgaa

/- code's walk, plainly; its stack in memory. No function in sight. -/
namespace Go.Proofs.Ytbmbfifempkhgaa
open Go.RowKit
abbrev CSt := Int × List (Nat × Int)
def opP (P : GProg) (p : Nat) : GOp := P.ops[p]?.getD ⟨0, 0, 0⟩
structure StOk (P : GProg) (i : Nat) (st : CSt) : Prop where
 bot : 0 ≤ st.1 ∧ st.1 ≤ 131073
 frames : ∀ f ∈ st.2, f.1 < i ∧ 1 ≤ (opP P f.1).b ∧ (opP P f.1).b ≤ 2048 ∧ 0 ≤ f.2 ∧ f.2 ≤ 131073
 len : st.2.length ≤ i
theorem StOk.later {P : GProg} {i : Nat} {st : CSt} (h : StOk P i st) : StOk P (i + 1) st := ⟨h.bot, fun f hf => by have := h.frames f hf; exact ⟨by omega, this.2⟩, by have := h.len; omega⟩
end Go.Proofs.Ytbmbfifempkhgaa

/- code's walk. -/
namespace Go.Proofs.Ytbmbfifempkhgaa
open Go.RowKit
end Go.Proofs.Ytbmbfifempkhgaa

/- code's Steps, Check. -/
namespace Go.Proofs.Ytbmbfifempkhgaa
open Go.RowKit
end Go.Proofs.Ytbmbfifempkhgaa

/- What a firing's operations are on: the plain law of EmitPorts. No function in sight. -/
namespace Go.Proofs.Ytbmbfifempkhgaa
open Go.RowKit
def opAt (m : List (List GOp)) (k i : Nat) : Option GOp := (rowM m k)[i]?
theorem opAt_put (m : List (List GOp)) (a p : Nat) (kd x : Int) (k i : Nat) {y0 : GOp} (h0 : opAt m k i = some y0) : opAt (putM m a p kd x) k i = some (if a = k ∧ p = i then ⟨kd, x, y0.b⟩ else y0) := by
 unfold opAt putM at *
 by_cases ha : a = k
 ·
  subst ha
  have hal : a < m.length := by
   rcases Nat.lt_or_ge a m.length with h | h
   ·
    exact h
   ·
    rw [rowM, List.getElem?_eq_none h] at h0; cases h0
  have e : rowM (m.set a (putL (rowM m a) p kd x)) a = putL (rowM m a) p kd x := by unfold rowM; rw [List.getElem?_set_self hal]; rfl
  rw [e, putL]
  by_cases hp : p = i
  ·
   subst hp
   have hil : p < (rowM m a).length := (List.getElem?_eq_some_iff.1 h0).1
   rw [List.getElem?_set_self hil, if_pos ⟨rfl, rfl⟩, bAt, h0]
  ·
   rw [List.getElem?_set_ne hp, h0, if_neg (fun h => hp h.2)]
 ·
  have e : rowM (m.set a (putL (rowM m a) p kd x)) k = rowM m k := by unfold rowM; rw [List.getElem?_set_ne ha]
  rw [e, h0, if_neg (fun h => ha h.1)]
theorem opAt_all {f : Nat → Option (Int × Int)} {kd : Int} {m : List (List GOp)} {k i : Nat} {y0 : GOp} (h0 : opAt m k i = some y0) : ∀ n, (∀ t, t < n → ∀ a p, f t = some (a, p) → 0 ≤ a ∧ 0 ≤ p) →
  ∃ y, opAt (putAll f kd m n) k i = some y ∧ y.b = y0.b ∧ ((y = y0 ∧ ∀ t, t < n → f t ≠ some ((k : Int), (i : Int))) ∨ (y.kind = kd ∧ ∃ t, t < n ∧ y.a = t ∧ f t = some ((k : Int), (i : Int))))
 | 0, _ => ⟨y0, h0, rfl, .inl ⟨rfl, fun t h => by omega⟩⟩
 | n + 1, hf => by
  obtain ⟨y, h1, h2, h3⟩ := opAt_all (f := f) (kd := kd) h0 n (fun t ht => hf t (by omega))
  cases hft : f n with
  | none =>
   refine ⟨y, by rw [putAll, hft]; exact h1, h2, ?_⟩
   rcases h3 with ⟨h3, h4⟩ | ⟨h3, t, ht, h4⟩
   ·
    refine .inl ⟨h3, fun t ht => ?_⟩
    by_cases e : t = n
    ·
     subst e; rw [hft]; simp
    ·
     exact h4 t (by omega)
   ·
    exact .inr ⟨h3, t, by omega, h4⟩
  | some ap =>
   obtain ⟨a, p⟩ := ap
   obtain ⟨ha, hp⟩ := hf n (by omega) a p hft
   rw [putAll_succ hft]
   have h5 := opAt_put (putAll f kd m n) a.toNat p.toNat kd n k i h1
   by_cases hit : a.toNat = k ∧ p.toNat = i
   ·
    rw [if_pos hit] at h5
    refine ⟨_, h5, h2, .inr ⟨rfl, n, by omega, rfl, ?_⟩⟩
    rw [hft]
    have e1 : a = (k : Int) := by omega
    have e2 : p = (i : Int) := by omega
    rw [e1, e2]
   ·
    rw [if_neg hit] at h5
    refine ⟨y, h5, h2, ?_⟩
    rcases h3 with ⟨h3, h4⟩ | ⟨h3, t, ht, h4⟩
    ·
     refine .inl ⟨h3, fun t ht e => ?_⟩
     by_cases e2 : t = n
     ·
      subst e2
      rw [hft] at e
      have e3 := Option.some.inj e
      simp only [Prod.mk.injEq] at e3
      exact hit ⟨by omega, by omega⟩
     ·
      exact h4 t (by omega) e
    ·
     exact .inr ⟨h3, t, by omega, h4⟩
def markAt (side : List (List Bool)) (k i : Nat) : Prop := (side1 side (k : Int))[i]? = some true
theorem mark_take {side : List (List Bool)} {a p : Int} {k i : Nat} (h : markAt (takeS side a p) k i) : (a.toNat = k ∧ p.toNat = i) ∨ markAt side k i := by
 unfold markAt takeS side1 at *
 rw [Int.toNat_natCast] at *
 by_cases ha : a.toNat = k
 ·
  subst ha
  by_cases hal : a.toNat < side.length
  ·
   rw [List.getElem?_set_self hal, Option.getD_some] at h
   by_cases hp : p.toNat = i
   ·
    exact .inl ⟨rfl, hp⟩
   ·
    rw [List.getElem?_set_ne hp] at h
    exact .inr h
  ·
   have e : (side.set a.toNat ((side[a.toNat]?.getD []).set p.toNat true))[a.toNat]? = none := List.getElem?_eq_none (by simpa using Nat.le_of_not_lt hal)
   rw [e] at h
   simp at h
 ·
  rw [List.getElem?_set_ne ha] at h
  exact .inr h
theorem mark_edges : ∀ (l : List GEdge) (c : Chk) (k i : Nat), (markAt (edgesC c l).ins k i → (∃ e ∈ l, e.dst.toNat = k ∧ e.dport.toNat = i) ∨ markAt c.ins k i) ∧ (markAt (edgesC c l).outs k i → (∃ e ∈ l, e.src.toNat = k ∧ e.sport.toNat = i) ∨ markAt c.outs k i)
 | [], _, _, _ => ⟨fun h => .inr h, fun h => .inr h⟩
 | x :: l, c, k, i => by
  obtain ⟨h1, h2⟩ := mark_edges l (edgeC c x) k i
  constructor
  ·
   intro h
   rcases h1 h with ⟨e, he, h⟩ | h
   ·
    exact .inl ⟨e, List.mem_cons_of_mem _ he, h⟩
   ·
    rcases mark_take h with h | h
    ·
     exact .inl ⟨x, List.mem_cons_self, h⟩
    ·
     exact .inr h
  ·
   intro h
   rcases h2 h with ⟨e, he, h⟩ | h
   ·
    exact .inl ⟨e, List.mem_cons_of_mem _ he, h⟩
   ·
    rcases mark_take h with h | h
    ·
     exact .inl ⟨x, List.mem_cons_self, h⟩
    ·
     exact .inr h
theorem mark_ports : ∀ (l : List GPort) (side : List (List Bool)) (k i : Nat), markAt (portsS side l) k i → (∃ e ∈ l, e.actor.toNat = k ∧ e.port.toNat = i) ∨ markAt side k i
 | [], _, _, _, h => .inr h
 | x :: l, side, k, i, h => by
  rcases mark_ports l (takeS side x.actor x.port) k i h with ⟨e, he, h⟩ | h
  ·
   exact .inl ⟨e, List.mem_cons_of_mem _ he, h⟩
  ·
   rcases mark_take h with h | h
   ·
    exact .inl ⟨x, List.mem_cons_self, h⟩
   ·
    exact .inr h
theorem actorsC_marks : ∀ (l : List GActor) (c : Chk), (actorsC c l).ins = c.ins ++ l.map (fun a => List.replicate (insP a.tag a.params).length false) ∧ (actorsC c l).outs = c.outs ++ l.map (fun a => List.replicate (outsP a.tag a.params).length false)
 | [], _ => by simp [actorsC]
 | x :: l, c => by
  have := actorsC_marks l (actorC c x)
  simp only [actorsC, List.foldl_cons] at this ⊢
  rw [this.1, this.2]
  simp [actorC]
theorem mark_none {f : GActor → Nat} {l : List GActor} {k i : Nat} : ¬ markAt (l.map fun a => List.replicate (f a) false) k i := by
 unfold markAt side1
 rw [Int.toNat_natCast, List.getElem?_map]
 cases l[k]? with
 | none => simp
 | some a =>
  simp only [Option.map_some, Option.getD_some, List.getElem?_replicate]
  split <;> simp
theorem open_mark {ins outs : List (List Bool)} (h : openE ins outs = 0) {k i : Nat} : (k < ins.length → i < (side1 ins k).length → markAt ins k i) ∧ (k < outs.length → i < (side1 outs k).length → markAt outs k i) := by
 unfold openE at h
 split at h
 ·
  rename_i h1
  simp only [Bool.and_eq_true, List.all_eq_true] at h1
  have key : ∀ side : List (List Bool), (∀ x ∈ side, ∀ y ∈ x, id y = true) → k < side.length → i < (side1 side k).length → markAt side k i := fun side hs hk hi => by
   unfold markAt side1 at *
   rw [Int.toNat_natCast] at *
   rw [List.getElem?_eq_getElem hk, Option.getD_some] at *
   rw [List.getElem?_eq_getElem hi]
   exact congrArg some (hs _ (List.getElem_mem hk) _ (List.getElem_mem hi))
  exact ⟨key ins h1.1, key outs h1.2⟩
 ·
  cases h
def RightIn (g : GGraph) (k i : Nat) (y : GOp) : Prop := (y.kind = 3 ∧ ∃ t, ∃ h : t < g.edges.length, y.a = t ∧ g.edges[t].dst = k ∧ g.edges[t].dport = i) ∨ (y.kind = 4 ∧ ∃ t, ∃ h : t < g.ins.length, y.a = t ∧ g.ins[t].actor = k ∧ g.ins[t].port = i)
def RightOut (g : GGraph) (k i : Nat) (y : GOp) : Prop := (y.kind = 6 ∧ ∃ t, ∃ h : t < g.edges.length, y.a = t ∧ g.edges[t].src = k ∧ g.edges[t].sport = i) ∨ (y.kind = 7 ∧ ∃ t, ∃ h : t < g.outs.length, y.a = t ∧ g.outs[t].actor = k ∧ g.outs[t].port = i)
theorem edge_at {g : GGraph} {t : Nat} {f : GEdge → Int × Int} {a p : Int} (h : (match g.edges[t]? with | some e => some (f e) | none => none) = some (a, p)) : ∃ h : t < g.edges.length, f g.edges[t] = (a, p) := by
 by_cases ht : t < g.edges.length
 ·
  rw [List.getElem?_eq_getElem ht] at h
  exact ⟨ht, Option.some.inj h⟩
 ·
  rw [List.getElem?_eq_none (by omega)] at h; cases h
theorem port_at {l : List GPort} {t : Nat} {a p : Int} (h : pAt l t = some (a, p)) : ∃ h : t < l.length, l[t].actor = a ∧ l[t].port = p := by
 unfold pAt at h
 by_cases ht : t < l.length
 ·
  rw [List.getElem?_eq_getElem ht] at h
  have := Option.some.inj h
  simp only [Prod.mk.injEq] at this
  exact ⟨ht, this⟩
 ·
  rw [List.getElem?_eq_none (by omega)] at h; cases h
theorem right_in {g : GGraph} (hc : checkE g = 0) (hf : FirOk g) {k i : Nat} (hk : k < g.actors.length) {r : Int} (hr : (insP g.actors[k].tag g.actors[k].params)[i]? = some r) : ∃ y, opAt (matI2 g) k i = some y ∧ y.b = r ∧ RightIn g k i y := by
 have e0 : insF g k = rateL (insP g.actors[k].tag g.actors[k].params) := by unfold insF; rw [List.getElem?_eq_getElem hk]
 have h0 : opAt (matI0 g) k i = some ⟨0, 0, r⟩ := by
  unfold opAt
  rw [matI0, rowJ_row _ _ _ hk, if_pos hk, e0, rateL, List.getElem?_map, hr]; rfl
 obtain ⟨y1, a1, a2, a3⟩ := opAt_all (f := eDst g) (kd := 3) h0 g.edges.length (fun t ht a p e => by
  unfold eDst at e
  obtain ⟨ht, e2⟩ := edge_at (f := fun e => (e.dst, e.dport)) e
  simp only [Prod.mk.injEq] at e2
  have := hf.dst _ (List.getElem_mem ht)
  unfold InAt at this
  omega)
 obtain ⟨y2, b1, b2, b3⟩ := opAt_all (f := pAt g.ins) (kd := 4) a1 g.ins.length (fun t ht a p e => by
  obtain ⟨ht, e2, e3⟩ := port_at e
  have := hf.pin _ (List.getElem_mem ht)
  unfold InAt at this
  omega)
 refine ⟨y2, b1, by rw [b2, a2], ?_⟩
 rcases b3 with ⟨rfl, b4⟩ | ⟨b4, t, ht, b5, b6⟩
 ·
  rcases a3 with ⟨rfl, a4⟩ | ⟨a4, t, ht, a5, a6⟩
  ·
   exfalso
   obtain ⟨_, _, _, _, _, ho⟩ := checkE_parts hc
   have hl : lensB (portsS (chk2 g).ins g.ins) = g.actors.map (fun a => (insP a.tag a.params).length) := by
    have : ∀ (l : List GPort) (s : List (List Bool)), lensB (portsS s l) = lensB s := fun l => by
     induction l with
     | nil => intro s; rfl
     | cons x l ih => intro s; rw [portsS, List.foldl_cons, ← portsS, ih, takeS_lens]
    rw [this, chk2, (edgesC_lens _ _).1, chk1, (actorsC_lens _ _).1]; simp [chk0, lensB]
   have hlen : k < (portsS (chk2 g).ins g.ins).length := by
    have := congrArg List.length hl
    rw [lensB, List.length_map, List.length_map] at this
    omega
   have hil : i < (side1 (portsS (chk2 g).ins g.ins) (k : Int)).length := by
    rw [side1_len, hl, Int.toNat_natCast, List.getElem?_map, List.getElem?_eq_getElem hk]
    exact (List.getElem?_eq_some_iff.1 hr).1
   rcases mark_ports _ _ _ _ ((open_mark ho).1 hlen hil) with ⟨e, he, e1, e2⟩ | h
   ·
    obtain ⟨t, ht, rfl⟩ := List.mem_iff_getElem.1 he
    have hp := hf.pin _ (List.getElem_mem ht)
    unfold InAt at hp
    refine b4 t ht ?_
    unfold pAt
    rw [List.getElem?_eq_getElem ht]
    have e3 : g.ins[t].actor = (k : Int) := by omega
    have e4 : g.ins[t].port = (i : Int) := by omega
    simp only [e3, e4]
   ·
    rcases (mark_edges _ _ _ _).1 h with ⟨e, he, e1, e2⟩ | h
    ·
     obtain ⟨t, ht, rfl⟩ := List.mem_iff_getElem.1 he
     have hp := hf.dst _ (List.getElem_mem ht)
     unfold InAt at hp
     refine a4 t ht ?_
     unfold eDst
     rw [List.getElem?_eq_getElem ht]
     have e3 : g.edges[t].dst = (k : Int) := by omega
     have e4 : g.edges[t].dport = (i : Int) := by omega
     simp only [e3, e4]
    ·
     rw [chk1, (actorsC_marks _ _).1, chk0, List.nil_append] at h
     exact mark_none h
  ·
   left
   unfold eDst at a6
   obtain ⟨ht, e2⟩ := edge_at (f := fun e => (e.dst, e.dport)) a6
   simp only [Prod.mk.injEq] at e2
   exact ⟨a4, t, ht, a5, e2⟩
 ·
  right
  obtain ⟨ht, e2⟩ := port_at b6
  exact ⟨b4, t, ht, b5, e2⟩
theorem right_out {g : GGraph} (hc : checkE g = 0) (hf : FirOk g) {k i : Nat} (hk : k < g.actors.length) {r : Int} (hr : (outsP g.actors[k].tag g.actors[k].params)[i]? = some r) : ∃ y, opAt (matO2 g) k i = some y ∧ y.b = r ∧ RightOut g k i y := by
 have e0 : outsF g k = rateL (outsP g.actors[k].tag g.actors[k].params) := by unfold outsF; rw [List.getElem?_eq_getElem hk]
 have h0 : opAt (matO0 g) k i = some ⟨0, 0, r⟩ := by
  unfold opAt
  rw [matO0, rowJ_row _ _ _ hk, if_pos hk, e0, rateL, List.getElem?_map, hr]; rfl
 obtain ⟨y1, a1, a2, a3⟩ := opAt_all (f := eSrc g) (kd := 6) h0 g.edges.length (fun t ht a p e => by
  unfold eSrc at e
  obtain ⟨ht, e2⟩ := edge_at (f := fun e => (e.src, e.sport)) e
  simp only [Prod.mk.injEq] at e2
  have := hf.src _ (List.getElem_mem ht)
  unfold OutAt at this
  omega)
 obtain ⟨y2, b1, b2, b3⟩ := opAt_all (f := pAt g.outs) (kd := 7) a1 g.outs.length (fun t ht a p e => by
  obtain ⟨ht, e2, e3⟩ := port_at e
  have := hf.pout _ (List.getElem_mem ht)
  unfold OutAt at this
  omega)
 refine ⟨y2, b1, by rw [b2, a2], ?_⟩
 rcases b3 with ⟨rfl, b4⟩ | ⟨b4, t, ht, b5, b6⟩
 ·
  rcases a3 with ⟨rfl, a4⟩ | ⟨a4, t, ht, a5, a6⟩
  ·
   exfalso
   obtain ⟨_, _, _, _, _, ho⟩ := checkE_parts hc
   have hl : lensB (portsS (chk2 g).outs g.outs) = g.actors.map (fun a => (outsP a.tag a.params).length) := by
    have : ∀ (l : List GPort) (s : List (List Bool)), lensB (portsS s l) = lensB s := fun l => by
     induction l with
     | nil => intro s; rfl
     | cons x l ih => intro s; rw [portsS, List.foldl_cons, ← portsS, ih, takeS_lens]
    rw [this, chk2, (edgesC_lens _ _).2, chk1, (actorsC_lens _ _).2]; simp [chk0, lensB]
   have hlen : k < (portsS (chk2 g).outs g.outs).length := by
    have := congrArg List.length hl
    rw [lensB, List.length_map, List.length_map] at this
    omega
   have hil : i < (side1 (portsS (chk2 g).outs g.outs) (k : Int)).length := by
    rw [side1_len, hl, Int.toNat_natCast, List.getElem?_map, List.getElem?_eq_getElem hk]
    exact (List.getElem?_eq_some_iff.1 hr).1
   rcases mark_ports _ _ _ _ ((open_mark ho).2 hlen hil) with ⟨e, he, e1, e2⟩ | h
   ·
    obtain ⟨t, ht, rfl⟩ := List.mem_iff_getElem.1 he
    have hp := hf.pout _ (List.getElem_mem ht)
    unfold OutAt at hp
    refine b4 t ht ?_
    unfold pAt
    rw [List.getElem?_eq_getElem ht]
    have e3 : g.outs[t].actor = (k : Int) := by omega
    have e4 : g.outs[t].port = (i : Int) := by omega
    simp only [e3, e4]
   ·
    rcases (mark_edges _ _ _ _).2 h with ⟨e, he, e1, e2⟩ | h
    ·
     obtain ⟨t, ht, rfl⟩ := List.mem_iff_getElem.1 he
     have hp := hf.src _ (List.getElem_mem ht)
     unfold OutAt at hp
     refine a4 t ht ?_
     unfold eSrc
     rw [List.getElem?_eq_getElem ht]
     have e3 : g.edges[t].src = (k : Int) := by omega
     have e4 : g.edges[t].sport = (i : Int) := by omega
     simp only [e3, e4]
    ·
     rw [chk1, (actorsC_marks _ _).2, chk0, List.nil_append] at h
     exact mark_none h
  ·
   left
   unfold eSrc at a6
   obtain ⟨ht, e2⟩ := edge_at (f := fun e => (e.src, e.sport)) a6
   simp only [Prod.mk.injEq] at e2
   exact ⟨a4, t, ht, a5, e2⟩
 ·
  right
  obtain ⟨ht, e2⟩ := port_at b6
  exact ⟨b4, t, ht, b5, e2⟩
end Go.Proofs.Ytbmbfifempkhgaa

/- HeavyLoops. -/
namespace Go.Proofs.Ytbmbfifempkhgaa
open Go.RowKit
def wloopP : Nest → Nat → Nat → Nat
 | .nil, _, n => n
 | .cons _ _ b r, d, n => if 65536 < n then n else wloopP r d (if 60 < d + 1 then 65537 else wloopP b (d + 1) (n + 1))
def weightP (l : Nest) (d n : Nat) : Nat := if 60 < d then 65537 else wloopP l d n
theorem wloopP_cons (t nd : Int) (b r : Nest) (d n : Nat) : wloopP (.cons t nd b r) d n = if 65536 < n then n else wloopP r d (weightP b (d + 1) (n + 1)) := by rw [wloopP, weightP]
theorem wloopP_le : ∀ (l : Nest) (d n : Nat), n ≤ 65537 → wloopP l d n ≤ 65537
 | .nil, _, _, h => h
 | .cons t nd b r, d, n, h => by
  rw [wloopP]
  split
  ·
   exact h
  ·
   refine wloopP_le r d _ ?_
   split
   ·
    exact Nat.le_refl _
   ·
    exact wloopP_le b (d + 1) (n + 1) (by omega)
theorem weightP_le (l : Nest) (d n : Nat) (h : n ≤ 65537) : weightP l d n ≤ 65537 := by
 unfold weightP
 split
 ·
  exact Nat.le_refl _
 ·
  exact wloopP_le l d n h
def nodesN : Nest → Nat
 | .nil => 0
 | .cons _ _ b r => 1 + nodesN b + nodesN r
theorem wloopP_nodes : ∀ (l : Nest) (d n : Nat), wloopP l d n ≤ 65536 → n + nodesN l ≤ wloopP l d n
 | .nil, _, n, _ => by simp [wloopP, nodesN]
 | .cons t nd b r, d, n, h => by
  rw [wloopP] at h ⊢
  by_cases hn : 65536 < n
  ·
   rw [if_pos hn] at h; omega
  ·
   rw [if_neg hn] at h ⊢
   by_cases hd : 60 < d + 1
   ·
    rw [if_pos hd] at h ⊢
    have := wloopP_nodes r d _ h
    omega
   ·
    rw [if_neg hd] at h ⊢
    have h1 := wloopP_nodes r d _ h
    have h2 := wloopP_nodes b (d + 1) (n + 1) (by omega)
    rw [nodesN]
    omega
theorem weight_nodes {l : Nest} (h : weightP l 0 0 ≤ 65536) : nodesN l ≤ 65536 := by
 unfold weightP at h
 rw [if_neg (by omega)] at h
 have := wloopP_nodes l 0 0 h
 omega
theorem nodesN_items : ∀ l : Nest, l.items.length ≤ nodesN l
 | .nil => Nat.le_refl _
 | .cons _ _ b r => by
  have := nodesN_items r
  simp only [Nest.items, List.length_cons, nodesN]
  omega
theorem nodesN_at : ∀ {l : Nest}, ∀ x ∈ l.items, nodesN x.2.2 ≤ nodesN l
 | .nil, x, hx => by simp [Nest.items] at hx
 | .cons _ _ _ r, x, hx => by
  simp only [Nest.items, List.mem_cons] at hx
  rcases hx with rfl | hx
  ·
   simp only [nodesN]; omega
  ·
   have := nodesN_at (l := r) x hx
   rw [nodesN]; omega
def WeightOk (D : Nat) : Prop := ∀ (w : World) (v : Value) (l : Nest) (d n : Nat), HasNestD D w v l → NSized l → d ≤ 61 → n ≤ 65537 → Calls Try.prog 75 #[v, .int .i64 d, .int .i64 n] w (Tells (.int .i64 (weightP l d n : Nat)) w)
set_option maxRecDepth 100000 in
theorem weight_zero : WeightOk 0 := by
 intro w v l d n hv hs hd hn
 obtain ⟨rfl, ao, cap, rfl⟩ := hv
 clear hs
 obtain ⟨r, hr⟩ : ∃ r, weightP .nil d n = r := ⟨_, rfl⟩
 rw [hr]
 have HR := Lib.hid hr
 clear hr
 by_cases h60 : 60 < d
 ·
  have hi : (60 : Int) < d := by omega
  have e := HR.out
  rw [weightP, if_pos h60] at e
  subst e
  go_enter Try.func75, Try.ntmps75
  go_wp2
  go_ret
  exact ⟨rfl, Below.refl _ _⟩
 ·
  have hi : ¬ (60 : Int) < d := by omega
  have e := HR.out
  rw [weightP, if_neg h60, wloopP] at e
  subst e
  go_enter Try.func75, Try.ntmps75
  go_wp2_with fail
  go_loopw [2, 7] (fun x i wr => i = .int .i64 0 ∧ x = .int .i64 n ∧ wr = w) (fun _ _ _ => 0)
  case atStart => exact ⟨rfl, rfl, rfl⟩
  case round =>
   obtain ⟨rfl, rfl, rfl⟩ := hrel
   go_wp2
   go_ret
   exact ⟨rfl, Below.refl _ _⟩
set_option maxRecDepth 100000 in
set_option maxHeartbeats 1000000 in
theorem weight_succ {D : Nat} (hw : WeightOk D) : WeightOk (D + 1) := by
 intro w v l d n hv hs hd hn
 have hv' : Recs w 3 (fun w x cs => ∃ y, cs = [.int .i64 x.1, .int .i64 x.2.1, y] ∧ HasNestD D w y x.2.2) v l.items := hv
 obtain ⟨ao, cap, rfl⟩ := hv'.slice
 obtain ⟨r, hr⟩ : ∃ r, weightP l d n = r := ⟨_, rfl⟩
 rw [hr]
 have HR := Lib.hid hr
 have HV := Lib.hid hv'
 have HS := Lib.hid hs
 have HL := Lib.hid (nsized_len hs)
 have HW := Lib.hid hw
 clear hr hv hv' hs hw
 by_cases h60 : 60 < d
 ·
  have hi : (60 : Int) < d := by omega
  have e := HR.out
  rw [weightP, if_pos h60] at e
  subst e
  go_enter Try.func75, Try.ntmps75
  go_wp2
  go_ret
  exact ⟨rfl, Below.refl _ _⟩
 ·
  have hi : ¬ (60 : Int) < d := by omega
  have HE : Hid (wloopP (l.drop 0) d n = r) := Lib.hid (by rw [drop_zero, ← HR.out, weightP, if_neg h60])
  have hd1 : IntKind.i64.wrap ((d : Int) + 1) = ((d + 1 : Nat) : Int) := by rw [IntWalk.i64_in _ (by omega)]; omega
  clear HR
  go_enter Try.func75, Try.ntmps75
  go_wp2_with fail
  go_loopw [2, 7] (fun x i wr => ∃ (j m : Nat), j ≤ l.items.length ∧ i = .int .i64 j ∧ x = .int .i64 m ∧ m ≤ 65537 ∧ Below w.heap.size w wr ∧ wloopP (l.drop j) d m = r) (fun _ i _ => l.items.length - (intOf i).toNat)
  case atStart => exact ⟨0, n, Nat.zero_le _, rfl, rfl, hn, Below.refl _ _, HE.out⟩
  case round =>
   clear HE
   obtain ⟨j, m, hj, rfl, rfl, hm, hb, hE⟩ := hrel
   have HB := Lib.hid hb
   have HE := Lib.hid hE
   clear hb hE
   by_cases hlt : j < l.items.length
   ·
    have hlti : (j : Int) < l.items.length := by omega
    have hEc := HE.out
    rw [drop_items l j hlt, wloopP_cons] at hEc
    by_cases hbig : 65536 < m
    ·
     rw [if_pos hbig] at hEc
     subst hEc
     have hbi : ¬ (m : Int) ≤ 65536 := by omega
     go_wp2
     go_ret
     exact ⟨rfl, HB.out⟩
    ·
     rw [if_neg hbig] at hEc
     have hbi : (m : Int) ≤ 65536 := by omega
     obtain ⟨b0, off, rfl, hcap, hb0, hrec⟩ := HV.out.at (by omega)
     obtain ⟨cs, hcs, hPR, hcl⟩ := hrec j hlt
     obtain ⟨y, rfl, hy⟩ := hPR
     have c2 := cell_later HB.out (hcl 2 (by omega))
     simp at c2
     have hcapi : (l.items.length : Int) ≤ cap := by omega
     have HEC := Lib.hid hEc
     have HY := Lib.hid hy
     have HSb := Lib.hid (nsized_at HS.out _ (List.getElem_mem hlt))
     have hm1 : IntKind.i64.wrap ((m : Int) + 1) = ((m + 1 : Nat) : Int) := by rw [IntWalk.i64_in _ (by omega)]; omega
     clear hcl hcs hrec hEc hy HE
     generalize (l.items[j]).2.2 = b at *
     go_wp2_with fail
     refine (HW.out wr _ b (d + 1) (m + 1) (nestD_below D HY.out HB.out) HSb.out (by omega) (by omega)).mono ?_
     rintro e w4 ⟨rfl, hb4⟩
     have HB4 := Lib.hid (HB.out.trans (hb4.mono HB.out.size))
     have HLE := Lib.hid (weightP_le b (d + 1) (m + 1) (by omega))
     clear hb4 c2
     obtain ⟨z, hz⟩ : ∃ x, weightP b (d + 1) (m + 1) = x := ⟨_, rfl⟩
     rw [hz] at HEC HLE ⊢
     clear hz
     have hll := HL.out
     go_wp2
     go_roundw
     case rel => exact ⟨j + 1, z, hlt, by go_num, rfl, HLE.out, HB4.out, HEC.out⟩
     case measure => simp [intOf]; omega
   ·
    obtain rfl : j = l.items.length := by omega
    have e := HE.out
    rw [drop_end, wloopP] at e
    subst e
    go_wp2
    go_ret
    exact ⟨rfl, HB.out⟩
theorem weight_any : ∀ D, WeightOk D
 | 0 => weight_zero
 | D + 1 => weight_succ (weight_any D)
set_option maxRecDepth 100000 in
theorem heavyloops_any (D : Nat) (w : World) (v : Value) (l : Nest) (hv : HasNestD D w v l) (hs : NSized l) : Calls Try.prog 36 #[v] w (Tells (.bool (decide (65536 < weightP l 0 0))) w) := by
 have HV := Lib.hid hv
 have HS := Lib.hid hs
 obtain ⟨B, hB⟩ : ∃ B, decide (65536 < weightP l 0 0) = B := ⟨_, rfl⟩
 rw [hB]
 have HBB := Lib.hid hB
 clear hv hs hB
 go_enter Try.func36, Try.ntmps36
 go_wp2_with fail
 refine (weight_any D w v l 0 0 HV.out HS.out (by omega) (by omega)).mono ?_
 rintro e w4 ⟨rfl, hb4⟩
 have HB := Lib.hid hb4
 clear hb4
 obtain ⟨z, hz⟩ : ∃ x, weightP l 0 0 = x := ⟨_, rfl⟩
 have hB := HBB.out
 rw [hz] at hB ⊢
 clear hz HBB
 by_cases h : 65536 < z
 ·
  have hi : (65536 : Int) < z := by omega
  rw [decide_eq_true h] at hB
  subst hB
  go_wp2
  go_ret
  exact ⟨rfl, HB.out⟩
 ·
  have hi : ¬ (65536 : Int) < z := by omega
  have hi2 : decide ((65536 : Int) < z) = false := decide_eq_false hi
  rw [decide_eq_false h] at hB
  subst hB
  clear h
  go_wp2
  go_ret
  exact ⟨rfl, HB.out⟩
end Go.Proofs.Ytbmbfifempkhgaa

/- nest's measure. -/
namespace Go.Proofs.Ytbmbfifempkhgaa
open Go.RowKit
end Go.Proofs.Ytbmbfifempkhgaa

/- nest.Measure. -/
namespace Go.Proofs.Ytbmbfifempkhgaa
open Go.RowKit
end Go.Proofs.Ytbmbfifempkhgaa

/- The program that is made is sound, plainly. No function in sight. -/
namespace Go.Proofs.Ytbmbfifempkhgaa
open Go.RowKit
def rowL (F : List (List GOp)) : Nest → Nat → Nat → List GOp
 | .nil, _, _ => []
 | .cons t nd b r, op, i =>
  (if 1 < t then ⟨1, op, t⟩ :: ((if b.isNil then rowM F nd.toNat else rowL F b (op + 1) (i + 1)) ++ [⟨2, op, ((i + 1 : Nat) : Int)⟩]) else if b.isNil then rowM F nd.toNat else rowL F b op i) ++
  rowL F r op (i + (if 1 < t then ⟨1, op, t⟩ :: ((if b.isNil then rowM F nd.toNat else rowL F b (op + 1) (i + 1)) ++ [⟨2, op, ((i + 1 : Nat) : Int)⟩]) else if b.isNil then rowM F nd.toNat else rowL F b op i).length)
def inLw (F : List (List GOp)) (nd : Int) (b : Nest) (op i : Nat) : List GOp := if b.isNil then rowM F nd.toNat else rowL F b op i
def oneL (F : List (List GOp)) (t nd : Int) (b : Nest) (op i : Nat) : List GOp := if 1 < t then ⟨1, op, t⟩ :: (inLw F nd b (op + 1) (i + 1) ++ [⟨2, op, ((i + 1 : Nat) : Int)⟩]) else inLw F nd b op i
theorem rowL_cons {F : List (List GOp)} {t nd : Int} {b r : Nest} {op i : Nat} : rowL F (.cons t nd b r) op i = oneL F t nd b op i ++ rowL F r op (i + (oneL F t nd b op i).length) := by
 rw [rowL, oneL, inLw, inLw]
theorem rowP_ops {F : List (List GOp)} : ∀ (l : Nest) (op : Nat) (s : List GOp × Nat), (rowP F l op s).1 = s.1 ++ rowL F l op s.1.length
 | .nil, _, s => by simp [rowP, rowL]
 | .cons t nd b r, op, s => by
  rw [rowP_cons, rowP_ops r, rowL_cons]
  have h : (stepP F t nd b op s).1 = s.1 ++ oneL F t nd b op s.1.length := by
   unfold stepP oneL inLw
   by_cases h1 : 1 < t
   ·
    rw [if_pos h1, if_pos h1]
    by_cases h2 : b.isNil = true
    ·
     rw [if_pos h2, if_pos h2]
     simp [closeP, leafP, openP]
    ·
     rw [if_neg h2, if_neg h2]
     simp only [closeP]
     rw [rowP_ops b]
     simp [openP]
   ·
    rw [if_neg h1, if_neg h1]
    by_cases h2 : b.isNil = true
    ·
     rw [if_pos h2, if_pos h2]
     simp [leafP]
    ·
     rw [if_neg h2, if_neg h2]
     exact rowP_ops b op s
  rw [h, List.append_assoc, List.length_append]
def stN (F : List (List GOp)) : Nest → Nat
 | .nil => 0
 | .cons t nd b r => (if 1 < t then 1 + t.toNat * ((if b.isNil then (rowM F nd.toNat).length else stN F b) + 1) else if b.isNil then (rowM F nd.toNat).length else stN F b) + stN F r
def inN (F : List (List GOp)) (nd : Int) (b : Nest) : Nat := if b.isNil then (rowM F nd.toNat).length else stN F b
def oneN (F : List (List GOp)) (t nd : Int) (b : Nest) : Nat := if 1 < t then 1 + t.toNat * (inN F nd b + 1) else inN F nd b
theorem stN_cons {F : List (List GOp)} {t nd : Int} {b r : Nest} : stN F (.cons t nd b r) = oneN F t nd b + stN F r := by rw [stN, oneN, inN]
theorem rowL_len {F : List (List GOp)} : ∀ (l : Nest) (op i : Nat), (rowL F l op i).length ≤ stN F l
 | .nil, _, _ => Nat.le_refl _
 | .cons t nd b r, op, i => by
  rw [rowL_cons, stN_cons, List.length_append]
  have hr := rowL_len (F := F) r op (i + (oneL F t nd b op i).length)
  have hi : ∀ o j, (inLw F nd b o j).length ≤ inN F nd b := fun o j => by
   unfold inLw inN
   split
   ·
    exact Nat.le_refl _
   ·
    exact rowL_len b o j
  have ho : (oneL F t nd b op i).length ≤ oneN F t nd b := by
   unfold oneL oneN
   split
   ·
    rename_i h1
    simp only [List.length_cons, List.length_append, List.length_nil]
    have := hi (op + 1) (i + 1)
    have h2 : 2 * (inN F nd b + 1) ≤ t.toNat * (inN F nd b + 1) := Nat.mul_le_mul_right _ (by omega)
    omega
   ·
    exact hi op i
  omega
def totN : Nest → Nat
 | .nil => 0
 | .cons t _ b r => t.toNat * (if b.isNil then 1 else totN b) + totN r
def GoodT : Nest → Prop
 | .nil => True
 | .cons t _ b r => 1 ≤ t ∧ t ≤ 2048 ∧ GoodT b ∧ GoodT r
theorem total_true : ∀ (l : Nest) (s : Int), TimesOk l → 0 ≤ s → totalP l s ≤ 2048 → GoodT l ∧ totalP l s = s + totN l
 | .nil, s, _, _, _ => by simp [GoodT, totalP, totN]
 | .cons t nd b r, s, ht, hs, h => by
  obtain ⟨t1, tb, tr⟩ := ht
  rw [totalP_cons t nd b r s _ rfl] at h ⊢
  by_cases h1 : 2048 < t ∨ 2048 < (if b.isNil then (1 : Int) else totalP b 0)
  ·
   rw [if_pos h1] at h; omega
  ·
   rw [if_neg h1] at h ⊢
   have hn : GoodT b ∧ (if b.isNil then (1 : Int) else totalP b 0) = ((if b.isNil then 1 else totN b : Nat) : Int) := by
    by_cases hb : b.isNil = true
    ·
     rw [if_pos hb, if_pos hb]
     refine ⟨?_, rfl⟩
     cases b with | nil => trivial | cons _ _ _ _ => cases hb
    ·
     rw [if_neg hb, if_neg hb]
     have h3 := total_true b 0 tb (by omega) (by rw [if_neg hb] at h1; omega)
     exact ⟨h3.1, by rw [h3.2]; omega⟩
   rw [hn.2] at h ⊢
   rw [totN]
   generalize (if b.isNil then 1 else totN b) = n at *
   have hm : ((n : Int) * t) = ((t.toNat * n : Nat) : Int) := by
    rw [Int.natCast_mul, Int.toNat_of_nonneg (by omega), Int.mul_comm]
   rw [hm] at h ⊢
   by_cases h2 : 2048 < s + ((t.toNat * n : Nat) : Int)
   ·
    rw [if_pos h2] at h; omega
   ·
    rw [if_neg h2] at h ⊢
    have h3 := total_true r _ tr (by omega) h
    exact ⟨⟨t1, by omega, hn.1, h3.1⟩, by rw [h3.2]; omega⟩
theorem stN_le {F : List (List GOp)} (hF : ∀ k, (rowM F k).length ≤ 33) : ∀ (l : Nest), GoodT l → stN F l ≤ 36 * totN l ∧ (l.isNil = false → stN F l + 3 ≤ 36 * totN l)
 | .nil, _ => by simp [stN, totN, Nest.isNil]
 | .cons t nd b r, h => by
  obtain ⟨t1, -, gb, gr⟩ := h
  have hr := (stN_le hF r gr).1
  rw [stN_cons, totN]
  have hi : inN F nd b + 3 ≤ 36 * (if b.isNil then 1 else totN b) := by
   unfold inN
   by_cases hb : b.isNil = true
   ·
    rw [if_pos hb, if_pos hb]
    have := hF nd.toNat
    omega
   ·
    rw [if_neg hb, if_neg hb]
    exact (stN_le hF b gb).2 (by simpa using hb)
  generalize (if b.isNil then 1 else totN b) = n at *
  have ho : oneN F t nd b + 3 ≤ 36 * (t.toNat * n) := by
   unfold oneN
   by_cases h1 : 1 < t
   ·
    rw [if_pos h1]
    have e1 : t.toNat * (inN F nd b + 1) + t.toNat * 2 ≤ t.toNat * (36 * n) := by
     rw [← Nat.mul_add]
     exact Nat.mul_le_mul_left _ (by omega)
    have e2 : t.toNat * (36 * n) = 36 * (t.toNat * n) := by rw [Nat.mul_left_comm]
    omega
   ·
    rw [if_neg h1]
    have : t.toNat = 1 := by omega
    rw [this]
    omega
  refine ⟨by omega, fun _ => by omega⟩
theorem make_facts {g : GGraph} {p : GPlan} {l : Nest} (h : makeE g p l = 0) : checkE g = 0 ∧ nestCheckE l = 0 ∧ strangeP l g.actors.length = false ∧ fitsP g p = true := by
 unfold makeE at h
 split at h
 ·
  rename_i h1; exact absurd h h1
 split at h
 ·
  rename_i h1; exact absurd h h1
 split at h
 ·
  cases h
 split at h
 ·
  rename_i h1 h2 h3 h4
  exact ⟨Decidable.not_not.1 h1, Decidable.not_not.1 h2, by simpa using h3, h4⟩
 ·
  cases h
theorem nest_total {l : Nest} (h : nestCheckE l = 0) : GoodT l ∧ totN l ≤ 2048 := by
 unfold nestCheckE at h
 split at h
 ·
  rename_i h1; exact absurd h h1
 ·
  rename_i h1
  split at h
  ·
   cases h
  ·
   rename_i h2
   have ht := times_of l 0 0 (Decidable.not_not.1 h1)
   obtain ⟨a, b⟩ := total_true l 0 ht (by omega) (by omega)
   exact ⟨a, by omega⟩
theorem make_ops2 (g : GGraph) (p : GPlan) (l : Nest) : (makeG g p l).ops = rowL (firP g) l 0 0 ++ [⟨0, 0, 0⟩] := by
 show (rowP (firP g) l 0 ([], 0)).1 ++ _ = _
 rw [rowP_ops]; rfl
end Go.Proofs.Ytbmbfifempkhgaa

/- HeavyGraph. -/
namespace Go.Proofs.Ytbmbfifempkhgaa
open Go.RowKit
def pSum (l : List GActor) : Nat := (l.map fun a => a.params.length).sum
def eSum (l : List GEdge) : Nat := (l.map fun a => a.start.length).sum
theorem pSum_take {l : List GActor} {j : Nat} (h : j < l.length) : pSum (l.take (j + 1)) = pSum (l.take j) + l[j].params.length := by
 rw [pSum, pSum, List.take_succ_eq_append_getElem h, List.map_append, List.sum_append]; simp
theorem eSum_take {l : List GEdge} {j : Nat} (h : j < l.length) : eSum (l.take (j + 1)) = eSum (l.take j) + l[j].start.length := by
 rw [eSum, eSum, List.take_succ_eq_append_getElem h, List.map_append, List.sum_append]; simp
def headN (g : GGraph) : Nat := g.actors.length + g.edges.length + g.ins.length + g.outs.length
structure Great (g : GGraph) : Prop where
 actors : g.actors.length ≤ 17600000000000
 edges : g.edges.length ≤ 17600000000000
 ins : g.ins.length ≤ 17600000000000
 outs : g.outs.length ≤ 17600000000000
 params : ∀ a ∈ g.actors, a.params.length ≤ 17600000000000
 starts : ∀ e ∈ g.edges, e.start.length ≤ 17600000000000
def HeavyRet (w : World) (g : GGraph) (e : Ending) (w' : World) : Prop := ∃ b, e = .returned (.bool b) ∧ (b = false → headN g + pSum g.actors + eSum g.edges ≤ 1048576) ∧ Below w.heap.size w w'
set_option maxRecDepth 100000 in
set_option maxHeartbeats 1000000 in
theorem heavy_graph (w : World) (vg : Value) (g : GGraph) (hg : HasGraph w vg g) (hgr : Great g) : Calls Try.prog 21 #[vg] w (HeavyRet w g) := by
 obtain ⟨va, ve, vi, vo, rfl, ra, re, ri, ro⟩ := hg.shape
 obtain ⟨aa, ac, rfl⟩ := ra.slice
 obtain ⟨ae, ec, rfl⟩ := re.slice
 obtain ⟨ai, ic, rfl⟩ := ri.slice
 obtain ⟨ao, oc, rfl⟩ := ro.slice
 have hb1 := below_alloc w (.cells #[.string g.name, .slice aa g.actors.length ac, .slice ae g.edges.length ec, .slice ai g.ins.length ic, .slice ao g.outs.length oc] 26)
 have hG := heap_alloc_new w (.cells #[.string g.name, .slice aa g.actors.length ac, .slice ae g.edges.length ec, .slice ai g.ins.length ic, .slice ao g.outs.length oc] 26)
 generalize hW : w.alloc (.cells #[.string g.name, .slice aa g.actors.length ac, .slice ae g.edges.length ec, .slice ai g.ins.length ic, .slice ao g.outs.length oc] 26) = W at *
 have y1 := cells_row _ _ hG 1 _ rfl
 have y2 := cells_row _ _ hG 2 _ rfl
 have y3 := cells_row _ _ hG 3 _ rfl
 have y4 := cells_row _ _ hG 4 _ rfl
 have RA := Lib.hid (ra.below actor_steady hb1)
 have RE := Lib.hid (re.below edge_steady hb1)
 have HB := Lib.hid hb1
 have GR := Lib.hid hgr
 have s1 := hgr.actors
 have s2 := hgr.edges
 have s3 := hgr.ins
 have s4 := hgr.outs
 obtain ⟨A, hA⟩ : ∃ x, headN g = x := ⟨_, rfl⟩
 have hA2 : A = g.actors.length + g.edges.length + g.ins.length + g.outs.length := hA.symm
 have HA := Lib.hid hA
 have e1 : IntKind.i64.wrap ((g.actors.length : Int) + g.edges.length) = (g.actors.length : Int) + g.edges.length := IntWalk.i64_in _ (by omega)
 have e2 : IntKind.i64.wrap ((g.actors.length : Int) + g.edges.length + g.ins.length) = (g.actors.length : Int) + g.edges.length + g.ins.length := IntWalk.i64_in _ (by omega)
 have e3 : IntKind.i64.wrap ((g.actors.length : Int) + g.edges.length + g.ins.length + g.outs.length) = (A : Int) := by rw [IntWalk.i64_in _ (by omega)]; omega
 clear ra re ri ro hgr hg hG hb1 hA
 go_enter Try.func21, Try.ntmps21
 go_wp2_with fail
 clear e1 e2 e3 y3 y4 hW
 obtain ⟨n, hn⟩ : ∃ x, g.actors.length = x := ⟨_, rfl⟩
 have HN := Lib.hid hn
 rw [hn] at s1 hA2 y1 y2 RA ⊢
 clear hn
 obtain ⟨m, hm⟩ : ∃ x, g.edges.length = x := ⟨_, rfl⟩
 have HM := Lib.hid hm
 rw [hm] at s2 hA2 y1 y2 RE ⊢
 clear hm
 go_loopw [3, 4] (fun x i wr => ∃ (k : Nat), k ≤ n ∧ i = .int .i64 k ∧ x = .int .i64 ((A + pSum (g.actors.take k) : Nat) : Int) ∧ A + pSum (g.actors.take k) ≤ 100000000000000 ∧ wr = W) (fun _ i _ => n - (intOf i).toNat)
 case atStart => exact ⟨0, Nat.zero_le _, rfl, by simp [pSum]; omega, by simp [pSum]; omega, rfl⟩
 case round =>
  obtain ⟨k, hk, rfl, rfl, hle, hWW⟩ := hrel
  obtain rfl := hWW.symm
  by_cases hgo : k < n ∧ A + pSum (g.actors.take k) ≤ 1048576
  ·
   obtain ⟨hlt, hsm⟩ := hgo
   have hlti : (k : Int) < n := by omega
   have hlt2 : k < g.actors.length := by have := HN.out; omega
   have hsmi : ((A + pSum (g.actors.take k) : Nat) : Int) ≤ 1048576 := by omega
   obtain ⟨b0, off, rfl, hcap, hb0, hrec⟩ := RA.out.at (by omega)
   obtain ⟨cs, hcs, hPR, hcl⟩ := hrec k hlt2
   obtain ⟨xs, rfl, hst⟩ := hPR
   have c2 := hcl 2 (by omega)
   simp at c2
   obtain ⟨sa, sc, hxs⟩ := Ints.slice hst
   subst hxs
   have hcapi : (n : Int) ≤ ac := by have := HN.out; omega
   have hpk := GR.out.params _ (List.getElem_mem hlt2)
   have hT := pSum_take hlt2
   have hwr : IntKind.i64.wrap (((A + pSum (g.actors.take k) : Nat) : Int) + (g.actors[k].params.length : Int)) = ((A + pSum (g.actors.take (k + 1)) : Nat) : Int) := by rw [IntWalk.i64_in _ (by omega)]; omega
   obtain ⟨N, hN⟩ : ∃ x, A + pSum (g.actors.take k) = x := ⟨_, rfl⟩
   obtain ⟨N2, hN2⟩ : ∃ x, A + pSum (g.actors.take (k + 1)) = x := ⟨_, rfl⟩
   have hle2 : N2 ≤ 100000000000000 := by omega
   have HN2 := Lib.hid hN2
   rw [hN, hN2] at hwr
   rw [hN] at hsmi ⊢
   clear hcl hcs hrec hst hpk hT hN hN2 hle hsm
   generalize g.actors[k].params.length = z at *
   have hwr := Lib.hid hwr
   go_wp2_with fail
   go_roundw
   case rel => exact ⟨k + 1, hlt, by go_num, by rw [HN2.out], by rw [HN2.out]; exact hle2, by trivial⟩
   case measure => simp [intOf]; omega
  ·
   obtain ⟨N, hN⟩ : ∃ x, A + pSum (g.actors.take k) = x := ⟨_, rfl⟩
   have HE : Hid (N ≤ 1048576 → N = A + pSum g.actors) := Lib.hid fun h => by
    have : k = n := by omega
    rw [← hN, List.take_of_length_le (by have := HN.out; omega)]
   rw [hN] at hle ⊢
   have hgo2 : k < n → ¬ N ≤ 1048576 := fun h h2 => hgo ⟨h, by omega⟩
   clear hN hgo RA
   by_cases hlt : k < n
   ·
    have hlti : (k : Int) < n := by omega
    have hsmi : ¬ (N : Int) ≤ 1048576 := by have := hgo2 hlt; omega
    clear hgo2 hlt
    go_wp2_with fail
    go_loopw [3, 5] (fun x i wr => ∃ (k : Nat), k ≤ m ∧ i = .int .i64 k ∧ x = .int .i64 ((N + eSum (g.edges.take k) : Nat) : Int) ∧ N + eSum (g.edges.take k) ≤ 300000000000000 ∧ wr = W) (fun _ i _ => m - (intOf i).toNat)
    case atStart => exact ⟨0, Nat.zero_le _, rfl, by simp [eSum], by simp [eSum]; omega, rfl⟩
    case round =>
     obtain ⟨k, hk, rfl, rfl, hle, hWW⟩ := hrel
     obtain rfl := hWW.symm
     by_cases hgo : k < m ∧ N + eSum (g.edges.take k) ≤ 1048576
     ·
      obtain ⟨hlt, hsm⟩ := hgo
      have hlti : (k : Int) < m := by omega
      have hlt2 : k < g.edges.length := by have := HM.out; omega
      have hsmi : ((N + eSum (g.edges.take k) : Nat) : Int) ≤ 1048576 := by omega
      obtain ⟨b0, off, rfl, hcap, hb0, hrec⟩ := RE.out.at (by omega)
      obtain ⟨cs, hcs, hPR, hcl⟩ := hrec k hlt2
      obtain ⟨xs, rfl, hst⟩ := hPR
      have c4 := hcl 4 (by omega)
      simp at c4
      obtain ⟨sa, sc, hxs⟩ := Ints.slice hst
      subst hxs
      have hcapi : (m : Int) ≤ ec := by have := HM.out; omega
      have hpk := GR.out.starts _ (List.getElem_mem hlt2)
      have hT := eSum_take hlt2
      have hwr : IntKind.i64.wrap (((N + eSum (g.edges.take k) : Nat) : Int) + (g.edges[k].start.length : Int)) = ((N + eSum (g.edges.take (k + 1)) : Nat) : Int) := by rw [IntWalk.i64_in _ (by omega)]; omega
      obtain ⟨N1, hN⟩ : ∃ x, N + eSum (g.edges.take k) = x := ⟨_, rfl⟩
      obtain ⟨N2, hN2⟩ : ∃ x, N + eSum (g.edges.take (k + 1)) = x := ⟨_, rfl⟩
      have hle2 : N2 ≤ 300000000000000 := by omega
      have HN2 := Lib.hid hN2
      rw [hN, hN2] at hwr
      rw [hN] at hsmi ⊢
      clear hcl hcs hrec hst hpk hT hN hN2 hle hsm
      generalize g.edges[k].start.length = z at *
      have hwr := Lib.hid hwr
      go_wp2_with fail
      go_roundw
      case rel => exact ⟨k + 1, hlt, by go_num, by rw [HN2.out], by rw [HN2.out]; exact hle2, by trivial⟩
      case measure => simp [intOf]; omega
     ·
      obtain ⟨N1, hN⟩ : ∃ x, N + eSum (g.edges.take k) = x := ⟨_, rfl⟩
      have HE2 : Hid (N1 ≤ 1048576 → N1 = A + pSum g.actors + eSum g.edges) := Lib.hid fun h => by
       have e1 : k = m := by omega
       have e2 := HE.out (by omega)
       rw [← hN, e2, List.take_of_length_le (by have := HM.out; omega)]
      rw [hN] at hle ⊢
      have hgo2 : k < m → ¬ N1 ≤ 1048576 := fun h h2 => hgo ⟨h, by omega⟩
      clear hN hgo RE
      by_cases hbig : N1 ≤ 1048576
      ·
       have hlti : ¬ (k : Int) < m := by have : ¬ k < m := fun h => hgo2 h hbig; omega
       have hbi : ¬ (1048576 : Int) < N1 := by omega
       have HBG := Lib.hid hbig
       clear hgo2 hbig
       go_wp2
       go_ret
       exact ⟨_, rfl, fun _ => by rw [HA.out, ← HE2.out HBG.out]; exact HBG.out, HB.out⟩
      ·
       have hbi : (1048576 : Int) < N1 := by omega
       have hsm2 : ¬ (N1 : Int) ≤ 1048576 := by omega
       clear hgo2 hbig
       by_cases hlt : k < m
       ·
        have hlti : (k : Int) < m := by omega
        clear hlt
        go_wp2
        go_ret
        exact ⟨_, rfl, (fun h => by cases h), HB.out⟩
       ·
        have hlti : ¬ (k : Int) < m := by omega
        clear hlt
        go_wp2
        go_ret
        exact ⟨_, rfl, (fun h => by cases h), HB.out⟩
   ·
    have hlti : ¬ (k : Int) < n := by omega
    clear hgo2 hlt
    go_wp2_with fail
    go_loopw [3, 5] (fun x i wr => ∃ (k : Nat), k ≤ m ∧ i = .int .i64 k ∧ x = .int .i64 ((N + eSum (g.edges.take k) : Nat) : Int) ∧ N + eSum (g.edges.take k) ≤ 300000000000000 ∧ wr = W) (fun _ i _ => m - (intOf i).toNat)
    case atStart => exact ⟨0, Nat.zero_le _, rfl, by simp [eSum], by simp [eSum]; omega, rfl⟩
    case round =>
     obtain ⟨k, hk, rfl, rfl, hle, hWW⟩ := hrel
     obtain rfl := hWW.symm
     by_cases hgo : k < m ∧ N + eSum (g.edges.take k) ≤ 1048576
     ·
      obtain ⟨hlt, hsm⟩ := hgo
      have hlti : (k : Int) < m := by omega
      have hlt2 : k < g.edges.length := by have := HM.out; omega
      have hsmi : ((N + eSum (g.edges.take k) : Nat) : Int) ≤ 1048576 := by omega
      obtain ⟨b0, off, rfl, hcap, hb0, hrec⟩ := RE.out.at (by omega)
      obtain ⟨cs, hcs, hPR, hcl⟩ := hrec k hlt2
      obtain ⟨xs, rfl, hst⟩ := hPR
      have c4 := hcl 4 (by omega)
      simp at c4
      obtain ⟨sa, sc, hxs⟩ := Ints.slice hst
      subst hxs
      have hcapi : (m : Int) ≤ ec := by have := HM.out; omega
      have hpk := GR.out.starts _ (List.getElem_mem hlt2)
      have hT := eSum_take hlt2
      have hwr : IntKind.i64.wrap (((N + eSum (g.edges.take k) : Nat) : Int) + (g.edges[k].start.length : Int)) = ((N + eSum (g.edges.take (k + 1)) : Nat) : Int) := by rw [IntWalk.i64_in _ (by omega)]; omega
      obtain ⟨N1, hN⟩ : ∃ x, N + eSum (g.edges.take k) = x := ⟨_, rfl⟩
      obtain ⟨N2, hN2⟩ : ∃ x, N + eSum (g.edges.take (k + 1)) = x := ⟨_, rfl⟩
      have hle2 : N2 ≤ 300000000000000 := by omega
      have HN2 := Lib.hid hN2
      rw [hN, hN2] at hwr
      rw [hN] at hsmi ⊢
      clear hcl hcs hrec hst hpk hT hN hN2 hle hsm
      generalize g.edges[k].start.length = z at *
      have hwr := Lib.hid hwr
      go_wp2_with fail
      go_roundw
      case rel => exact ⟨k + 1, hlt, by go_num, by rw [HN2.out], by rw [HN2.out]; exact hle2, by trivial⟩
      case measure => simp [intOf]; omega
     ·
      obtain ⟨N1, hN⟩ : ∃ x, N + eSum (g.edges.take k) = x := ⟨_, rfl⟩
      have HE2 : Hid (N1 ≤ 1048576 → N1 = A + pSum g.actors + eSum g.edges) := Lib.hid fun h => by
       have e1 : k = m := by omega
       have e2 := HE.out (by omega)
       rw [← hN, e2, List.take_of_length_le (by have := HM.out; omega)]
      rw [hN] at hle ⊢
      have hgo2 : k < m → ¬ N1 ≤ 1048576 := fun h h2 => hgo ⟨h, by omega⟩
      clear hN hgo RE
      by_cases hbig : N1 ≤ 1048576
      ·
       have hlti : ¬ (k : Int) < m := by have : ¬ k < m := fun h => hgo2 h hbig; omega
       have hbi : ¬ (1048576 : Int) < N1 := by omega
       have HBG := Lib.hid hbig
       clear hgo2 hbig
       go_wp2
       go_ret
       exact ⟨_, rfl, fun _ => by rw [HA.out, ← HE2.out HBG.out]; exact HBG.out, HB.out⟩
      ·
       have hbi : (1048576 : Int) < N1 := by omega
       have hsm2 : ¬ (N1 : Int) ≤ 1048576 := by omega
       clear hgo2 hbig
       by_cases hlt : k < m
       ·
        have hlti : (k : Int) < m := by omega
        clear hlt
        go_wp2
        go_ret
        exact ⟨_, rfl, (fun h => by cases h), HB.out⟩
       ·
        have hlti : ¬ (k : Int) < m := by omega
        clear hlt
        go_wp2
        go_ret
        exact ⟨_, rfl, (fun h => by cases h), HB.out⟩
end Go.Proofs.Ytbmbfifempkhgaa

/- Two programs just made share no memory; how great they are. -/
namespace Go.Proofs.Ytbmbfifempkhgaa
open Go.RowKit
theorem OwnProg.mono {w : World} {B B' : Nat} {v : Value} {P : GProg} (h : OwnProg w B v P) (hb : B' ≤ B) : OwnProg w B' v P := by
 obtain ⟨o, vp, vl, vo, ps, ls, h0, h1, h2, h3, h4, h5, h6⟩ := h
 exact ⟨o, vp, vl, vo, ps, ls, h0, h1, h2, h3, h4, h5, fun k hk => h6 k (by omega)⟩
theorem OwnProg.shape {w : World} {B : Nat} {v : Value} {P : GProg} (h : OwnProg w B v P) : ∃ ap cp al cl ao co, v = .agg #[.int .i64 P.memory, .int .i64 P.counters, .int .i64 P.ins, .int .i64 P.outs, .slice ap P.parts.length cp, .slice al P.lines.length cl, .slice ao P.ops.length co] := by
 obtain ⟨o, vp, vl, vo, ps, ls, rfl, h1, h2, h3, h4, h5, h6⟩ := h
 obtain ⟨ap, cp, rfl⟩ := h1.tail.own.slice
 obtain ⟨al, cl, rfl⟩ := h3.tail.own.slice
 obtain ⟨ao, co, rfl⟩ := h5.slice
 have e1 : ps.length = P.parts.length := by rw [← h2, List.length_map]
 have e2 : ls.length = P.lines.length := by rw [← h4, List.length_map]
 exact ⟨ap, cp, al, cl, ao, co, by rw [e1, e2]⟩
theorem HasProg.shape {w : World} {v : Value} {P : GProg} (h : HasProg w v P) : ∃ ap cp al cl ao co, v = .agg #[.int .i64 P.memory, .int .i64 P.counters, .int .i64 P.ins, .int .i64 P.outs, .slice ap P.parts.length cp, .slice al P.lines.length cl, .slice ao P.ops.length co] := by
 obtain ⟨vp, vl, vo, rfl, h1, h2, h3⟩ := h
 obtain ⟨ap, cp, rfl⟩ := h1.slice
 obtain ⟨al, cl, rfl⟩ := h2.slice
 obtain ⟨ao, co, rfl, _⟩ := h3
 exact ⟨ap, cp, al, cl, ao, co, rfl⟩
structure SmallP (P : GProg) : Prop where
 parts : P.parts.length ≤ 1048576
 lines : P.lines.length ≤ 1048576
 ops : P.ops.length ≤ 1048576
 params : ∀ x ∈ P.parts, x.params.length ≤ 17600000000000
 starts : ∀ x ∈ P.lines, x.start.length ≤ 17600000000000
theorem made_small {g : GGraph} {p : GPlan} {l : Nest} (hs : GSized g) (hn : headN g ≤ 1048576) (hps : ∀ a ∈ g.actors, a.params.length ≤ 17600000000000) (hes : ∀ e ∈ g.edges, e.start.length ≤ 17600000000000) : SmallP (makeP g p l) := by
 unfold makeP
 split
 ·
  rename_i h
  have h1 := rowL_len (F := firP g) l 0 0
  have h2 := (stN_le (firP_row (firOk_of (make_facts h).1 hs)) l (nest_total (make_facts h).2.1).1).1
  have h3 := (nest_total (make_facts h).2.1).2
  unfold headN at hn
  refine ⟨?_, ?_, ?_, fun x hx => ?_, fun x hx => ?_⟩
  ·
   show (partsP g.actors).length ≤ _
   simp [partsP]; omega
  ·
   show (linesP p.regions g.edges).length ≤ _
   simp [linesP]; omega
  ·
   rw [make_ops2, List.length_append]
   simp only [List.length_cons, List.length_nil]
   omega
  ·
   have hx' : x ∈ partsP g.actors := hx
   simp only [partsP, List.mem_map] at hx'
   obtain ⟨a, ha, rfl⟩ := hx'
   exact hps a ha
  ·
   have hx' : x ∈ linesP p.regions g.edges := hx
   simp only [linesP, List.mem_map] at hx'
   obtain ⟨a, ha, rfl⟩ := hx'
   exact hes _ (List.of_mem_zip ha).2
 ·
  exact ⟨Nat.zero_le _, Nat.zero_le _, Nat.zero_le _, (fun _ h => by cases h), fun _ h => by cases h⟩
theorem apart_two {w1 w2 w : World} {BA : Nat} {vA vB : Value} {P Q : GProg} (hA : OwnProg w1 BA vA P) (hBA : BA ≤ w1.heap.size) (hB : OwnProg w2 w1.heap.size vB Q) (h12 : Below w1.heap.size w1 w2) (h2 : Below w2.heap.size w2 w) (sP : SmallP P) (sQ : SmallP Q) :
  Calls Try.prog 20 #[vA, vB] w (fun e w' => e = .returned (.bool true) ∧ Below BA w w') := by
 obtain ⟨o, vp, vl, vo, vp', vl', vo', ps, ps', ls, ls', rfl, rfl, e1, e2, e3, e4, ht, ho⟩ := two_progs hA hB h12 h2
 have l1 : ps.length = P.parts.length := by rw [← e1, List.length_map]
 have l2 : ls.length = P.lines.length := by rw [← e2, List.length_map]
 have l3 : ps'.length = Q.parts.length := by rw [← e3, List.length_map]
 have l4 : ls'.length = Q.lines.length := by rw [← e4, List.length_map]
 refine (apartprog_any w o _ _ _ _ _ _ _ _ vp vl vo vp' vl' vo' ps ps' ls ls' P.ops Q.ops ht (by have := sP.parts; omega) (by have := sP.lines; omega) sP.ops (by have := sQ.parts; omega) (by have := sQ.lines; omega) sQ.ops (fun x hx => ?_)).mono ?_
 ·
  rcases List.mem_append.1 hx with hx | hx <;> rcases List.mem_append.1 hx with hx | hx
  ·
   obtain ⟨y, hy, rfl⟩ := List.mem_map.1 hx
   exact sP.params _ (by rw [← e1]; exact List.mem_map_of_mem hy)
  ·
   obtain ⟨y, hy, rfl⟩ := List.mem_map.1 hx
   exact sP.starts _ (by rw [← e2]; exact List.mem_map_of_mem hy)
  ·
   obtain ⟨y, hy, rfl⟩ := List.mem_map.1 hx
   exact sQ.params _ (by rw [← e3]; exact List.mem_map_of_mem hy)
  ·
   obtain ⟨y, hy, rfl⟩ := List.mem_map.1 hx
   exact sQ.starts _ (by rw [← e4]; exact List.mem_map_of_mem hy)
 ·
  rintro e w' ⟨rfl, o', T⟩
  have hs : w1.heap.size ≤ w.heap.size := Nat.le_trans h12.size h2.size
  exact ⟨rfl, T.mods.below (by omega) (fun k hk => ho k hk (by omega))⟩
end Go.Proofs.Ytbmbfifempkhgaa
