/- The reference's filter. -/
import Derived.Test.YtknmiiajeafjpaaRefA
import Derived.Test.YtknmiiajeafjpaaLens
namespace Go.Proofs.Ytknmiiajeafjpaa
open Go.RowKit


/-- as 'done_fin', where what is kept is new -/
theorem done_fin2 {w W W' : World} {o : Col} {c : Nat} {t n : Int} {vp vi vo vk vk' ov : Value} {keep' : List Int} {outs : List (List Int)} (hb : Below w.heap.size w W) (hM : Mods (fun k => k = w.heap.size + 1) W W')
    (hk : Ints W (colN w.heap.size) 2 vk' keep') (ho : LLc W (colN w.heap.size) 2 ov outs) :
    DoneRef w o c t vp vi vo vk n (some (outs, keep')) (.returned (.tuple #[.agg #[.int .u8 t, vp, vi, vo, vk', .int .i64 n], ov, .int .i64 0])) W' := by
  have hB : Below w.heap.size w W' := hb.trans (hM.below hb.size (fun k hk e => by omega))
  have T : Turn (colN w.heap.size) (colN w.heap.size) (fun x => x = 0) W W' := ⟨hM.mono (fun k _ e => by simp [e]), fun _ _ => rfl⟩
  have hc : ∀ k, k < W'.heap.size → colN w.heap.size k = 2 → ext o w.heap.size c k = c := fun k hk e => by
    have : ¬ k < w.heap.size := fun h => by
      have : k < w.heap.size + 2 := by omega
      simp [this] at e
    exact ext_new (by omega)
  exact ⟨ov, vk', rfl, (hk.turn T (by decide)).recol hc, (ho.turn T (by decide)).recol hc, hB⟩

theorem ints_take {w : World} {o : Col} {c n cap k : Nat} {sa : Option Addr} {l : List Int} (h : Ints w o c (.slice sa n cap) l) (hk : k ≤ l.length) : Ints w o c (.slice sa k cap) (l.take k) := by
  by_cases hp : 0 < k
  · obtain ⟨g, off, rfl, hn, hc, hb, ho, hcl⟩ := h.at (by omega)
    have hl : (l.take k).length = k := by rw [List.length_take]; omega
    refine .inr ⟨by rw [ivs_len, hl]; exact hp, g, off, cap, by rw [ivs_len, hl], by rw [ivs_len, hl]; omega, hb, ho, fun j hj => ?_⟩
    rw [ivs_len, hl] at hj
    rw [hcl j (by omega), ivs_get (by omega), List.getElem?_take_of_lt hj]
  · obtain rfl : k = 0 := by omega
    exact .inl ⟨by simp, _, _, rfl⟩
theorem take_cons_fits (x : Int) (keep : List Int) : ((x :: keep).take keep.length).length = keep.length := by simp

set_option maxRecDepth 100000 in
set_option maxHeartbeats 2000000 in
theorem rfilter_any (w : World) (o : Col) (c : Nat) (a1 a2 a3 a4 : Option Addr) (n1 n2 n3 n4 c1 c2 c3 c4 : Nat) (n x : Int) (ps keep : List Int)
    (hk : Has w (.slice a4 n4 c4) (ivs keep)) (hp : Has w (.slice a1 n1 c1) (ivs ps)) (hl : ps.length = keep.length + 1) (hl16 : ps.length ≤ 16) (hfp : ∀ z ∈ ps, Fits z) (hfk : ∀ z ∈ keep, Fits z) (hx : Fits x) :
    Calls Try.prog 51 #[.agg #[.int .u8 1, .slice a1 n1 c1, .slice a2 n2 c2, .slice a3 n3 c3, .slice a4 n4 c4, .int .i64 n], .int .i64 x] w (DoneRef w o c 1 (.slice a1 n1 c1) (.slice a2 n2 c2) (.slice a3 n3 c3) (.slice a4 n4 c4) n ((dotP 0 ps (x :: keep)).map fun y => ([[y]], (x :: keep).take keep.length))) := by
  obtain ⟨i0, hi, hz0, hz1, hz2⟩ := info_parts info_int
  obtain rfl : n1 = ps.length := by have := hp.len; simpa using this
  obtain rfl : n4 = keep.length := by have := hk.len; simpa using this
  obtain ⟨A, hA⟩ : ∃ A, A = Obj.cells #[.int .u8 1, .slice a1 ps.length c1, .slice a2 n2 c2, .slice a3 n3 c3, .slice a4 keep.length c4, .int .i64 n] 48 := ⟨_, rfl⟩
  obtain ⟨B, hB⟩ : ∃ B, B = Obj.cells #[.int .u8 0, .slice none 0 0, .slice none 0 0, .slice none 0 0, .slice none 0 0, .int .i64 0] 48 := ⟨_, rfl⟩
  have hbW : Below w.heap.size w ((w.alloc A).alloc B) := (below_alloc w _).alloc (by simp) _
  have HB0 := Lib.hid (heap_alloc_new (w.alloc A) B)
  have HA0 := Lib.hid (block_alloc (heap_alloc_new w A) B)
  have HKW := Lib.hid (hk.below hbW)
  have HPW := Lib.hid (hp.below hbW)
  have HBW := Lib.hid hbW
  obtain ⟨W, hW⟩ : ∃ W, W = (w.alloc A).alloc B := ⟨_, rfl⟩
  have hsz : W.heap.size = w.heap.size + 1 + 1 := by rw [hW]; simp
  rw [← hW] at HB0 HA0 HKW HPW HBW
  rw [World.size_alloc] at HB0
  subst hA hB
  have HW := Lib.hid hW
  have HSZ := Lib.hid hsz
  have HL := Lib.hid hl
  have HL16 := Lib.hid hl16
  have HFP := Lib.hid hfp
  have HFK := Lib.hid hfk
  have HX := Lib.hid hx
  have hkl : (keep.length : Int) ≤ 16 := by omega
  clear hk hp hbW hW hsz hl hl16 hfp hfk hx
  go_enter Try.func51, Try.ntmps51
  go_wp2_with (at_builtin; refine stop_here ?_)
  rw [← HW.out]
  refine go_on ?_
  have hsz0 : w.heap.size + 1 + 1 = W.heap.size := HSZ.out.symm
  refine wpList_app rfl _ _ 22 rfl W.heap.size 3 i0 _ 1 8 Try.underlying22 hi hz0 hz1 hz2 rfl (.slice none 0 0) 0 [] rfl (World.ownsRow_nil _ _ _ _) (some ⟨W.heap.size, 0, none⟩) 1 1 [.int .i64 x] (by rw [← hsz0]; rfl) rfl (fun h => by cases h) (news_alloc W [.int .i64 x] 3) (by simp [Value.oneCell']) (by unfold maxLen; omega) (grow_ok (by omega)) (by simp) ?_
  intro v2 w2 g1 g20 _ g4
  clear hsz0
  have g2 : (W.alloc (.cells #[.int .i64 x] 3)).grownBy w2 (Value.slice none 0 0).ownBlock := ⟨g20.os, g20.tape, g20.output, g20.size, g20.block⟩
  have hb2 : Below W.heap.size W w2 := below_app (World.ownsRow_nil W W.heap.size 3 1) g2 (Nat.le_refl _)
  simp only [Nat.zero_add, List.nil_append] at g1
  obtain ⟨s2, k2, rfl⟩ := owns_slice g1
  have hA2 := block_mods HA0.out (Mods.of_below hb2 (fun _ => False)) (fun h => h)
  have t4 := cells_row _ _ hA2 4 (.slice a4 keep.length c4) rfl
  obtain ⟨hnone, hnews⟩ := (HKW.out.below hb2).news
  have Hnone := Lib.hid hnone
  have Hnews := Lib.hid hnews
  have HB2 := Lib.hid hb2
  have sz2 := hb2.size
  clear hnone hnews hA2 g20 g2 g4 hb2
  go_wp2_with (at_builtin; refine stop_here ?_)
  refine go_on ?_
  refine wpList_app rfl _ _ 22 rfl W.heap.size 3 i0 _ 1 8 Try.underlying22 hi hz0 hz1 hz2 rfl (.slice s2 1 k2) 1 _ rfl g1 a4 keep.length c4 (ivs keep) rfl (by simp) (by simpa using Hnone.out) Hnews.out (ivs_one keep) (by unfold maxLen; omega) (grow_ok (by omega)) sz2 ?_
  intro v3 w3 g1' g20 _ _
  have hb3 : Below W.heap.size W w3 := HB2.out.trans (((Mods.refl (fun k => (Value.slice s2 1 k2).ownBlock = some k) w2).grown g20 (fun k hk _ => hk)).below sz2 (fun k hk e => by have := (g1.lt k e).1; omega))
  have hown : w3.ownsRow W.heap.size 3 1 v3 (x :: keep).length (ivs (x :: keep)) := by
    have e : 1 + keep.length = (x :: keep).length := by simp; omega
    rw [← e]; exact g1'
  obtain ⟨s3, k3, rfl⟩ := owns_slice hown
  have hA3 := block_mods HA0.out (Mods.of_below hb3 (fun _ => False)) (fun h => h)
  have hBB := block_mods HB0.out (Mods.of_below hb3 (fun _ => False)) (fun h => h)
  have s0 := cells_row _ _ hA3 0 (.int .u8 1) rfl
  have s1 := cells_row _ _ hA3 1 (.slice a1 ps.length c1) rfl
  have s2' := cells_row _ _ hA3 2 (.slice a2 n2 c2) rfl
  have s3' := cells_row _ _ hA3 3 (.slice a3 n3 c3) rfl
  have s4 := cells_row _ _ hA3 4 (.slice a4 keep.length c4) rfl
  have s5 := cells_row _ _ hA3 5 (.int .i64 n) rfl
  have f4 := frozen_of_block hA3 4
  have q0 := cells_row _ _ hBB 0 _ rfl
  have q1 := cells_row _ _ hBB 1 _ rfl
  have q2 := cells_row _ _ hBB 2 _ rfl
  have q3 := cells_row _ _ hBB 3 _ rfl
  have q4 := cells_row _ _ hBB 4 _ rfl
  have q5 := cells_row _ _ hBB 5 _ rfl
  have r0 := frozen_of_block hBB 0
  have r1 := frozen_of_block hBB 1
  have r2 := frozen_of_block hBB 2
  have r3 := frozen_of_block hBB 3
  have r4 := frozen_of_block hBB 4
  have r5 := frozen_of_block hBB 5
  have hcap : (x :: keep).length ≤ k3 := (owns_cell hown (by simp)).2.1
  have hcapi : (keep.length : Int) + 1 ≤ k3 := by simp at hcap; omega
  have hlen1 : ((x :: keep).length : Int) = keep.length + 1 := by simp
  have HOWN := Lib.hid hown
  have HB3 := Lib.hid hb3
  have HBB := Lib.hid hBB
  have HA3 := Lib.hid hA3
  have HP3 := Lib.hid (HPW.out.below hb3)
  have HFXK : Hid (∀ z ∈ x :: keep, Fits z) := Lib.hid (fun z hz => by
    rcases List.mem_cons.1 hz with rfl | hz
    · exact HX.out
    · exact HFK.out z hz)
  clear g1 g1' g20 t4 hown hb3 hBB hA3 hcap sz2
  go_wp2_with fail
  refine (rlaid_any w3 a1 s3 _ _ c1 k3 ps (x :: keep) HP3.out (Own.made (fun _ => 0) 2 HOWN.out).vals (by have := HL.out; simp; omega) (by have := HL16.out; omega) HFP.out HFXK.out).mono ?_
  rintro e w4 ⟨rfl, q, rfl⟩
  rcases hd : dotP 0 ps (x :: keep) with _ | y
  · have HD := Lib.hid hd
    clear hd
    have e0 : optB none = .tuple #[.int .i64 0, .bool false] := rfl
    rw [e0]
    clear e0
    go_wp2
    have hBB := HBB.out
    have hK := block_setCell (block_setCell (block_setCell (block_setCell (block_setCell (block_setCell hBB 0 (.int .u8 1)) 1 (.slice a1 ps.length c1)) 2 (.slice a2 n2 c2)) 3 (.slice a3 n3 c3)) 4 (.slice a4 keep.length c4)) 5 (.int .i64 n)
    refine bodyPost_ret_by (results_row_tmp2 rfl _ _ _ _ _ _ _ rfl hK Try.underlying48 rfl (by kernel_rfl)) rfl ?_
    rewrite [HD.out]
    exact ⟨rfl, ((Mods.of_below (HBW.out.trans (HB3.out.mono HBW.out.size)) (fun k => k = w.heap.size + 1)).trans (mods6 ((Mods.refl (fun k => k = w.heap.size + 1) w3).drewN q) rfl) (fun _ _ h => h) (fun _ _ h => h)).below (Nat.le_refl _) (fun k hk e => by omega)⟩
  · have HD := Lib.hid hd
    clear hd
    have e0 : optB (some y) = .tuple #[.int .i64 y, .bool true] := rfl
    rw [e0]
    clear e0 q0 q1 q2 q3 q4 q5 r0 r1 r2 r3 r4 r5
    have hB4 : (w3.drewN q).heap[w.heap.size + 1]? = some _ := HBB.out
    have hBB := block_alloc (block_alloc (block_setCell_ne (a := ⟨w.heap.size, 4, none⟩) hB4 (show w.heap.size + 1 ≠ w.heap.size by omega) (.slice s3 keep.length k3)) (.cells #[.int .i64 y] 3)) (.cells #[.slice (some ⟨w3.heap.size, 0, none⟩) 1 1] 22)
    have q0 := cells_row _ _ hBB 0 _ rfl
    have q1 := cells_row _ _ hBB 1 _ rfl
    have q2 := cells_row _ _ hBB 2 _ rfl
    have q3 := cells_row _ _ hBB 3 _ rfl
    have q4 := cells_row _ _ hBB 4 _ rfl
    have q5 := cells_row _ _ hBB 5 _ rfl
    have r0 := frozen_of_block hBB 0
    have r1 := frozen_of_block hBB 1
    have r2 := frozen_of_block hBB 2
    have r3 := frozen_of_block hBB 3
    have r4 := frozen_of_block hBB 4
    have r5 := frozen_of_block hBB 5
    have HB5 := Lib.hid hBB
    clear hBB hB4
    go_wp2
    have hBB := HB5.out
    have hK := block_setCell (block_setCell (block_setCell (block_setCell (block_setCell (block_setCell hBB 0 (.int .u8 1)) 1 (.slice a1 ps.length c1)) 2 (.slice a2 n2 c2)) 3 (.slice a3 n3 c3)) 4 (.slice s3 keep.length k3)) 5 (.int .i64 n)
    refine bodyPost_ret_by (results_row_tmp2 rfl _ _ _ _ _ _ _ rfl hK Try.underlying48 rfl (by kernel_rfl)) rfl ?_
    rewrite [HD.out]
    have hsz := HSZ.out
    have hs3 : w.heap.size + 2 ≤ w3.heap.size := by have := HB3.out.size; omega
    have hM4 : Turn (colN w.heap.size) (colN w.heap.size) (fun x => x = 0) w3 ((w3.drewN q).setCell ⟨w.heap.size, 4, none⟩ (.slice s3 keep.length k3)) := ⟨((Mods.refl (fun k => colN w.heap.size k = 0) w3).drewN q).setCell (p := ⟨w.heap.size, 4, none⟩) (fun _ => by simp) _, fun _ _ => rfl⟩
    have hS := ((Own.made (fun _ => 0) 2 HOWN.out).vals.recol (o' := colN w.heap.size) (d := 2) (fun k _ e => colN_new (by
      rcases Nat.lt_or_ge k W.heap.size with h | h
      · rw [ext_old h] at e; cases e
      · omega)))
    have hS1 : Ints w3 (colN w.heap.size) 2 (.slice s3 keep.length k3) ((x :: keep).take keep.length) := ints_take hS (Nat.le_succ _)
    have hS2 := hS1.turn hM4 (by decide)
    have hbw : Below w.heap.size w ((w3.drewN q).setCell ⟨w.heap.size, 4, none⟩ (.slice s3 keep.length k3)) := (below_n (HBW.out.trans (HB3.out.mono HBW.out.size)) q).setCell (Nat.le_refl _) _
    have hI := ints_lit (w := (w3.drewN q).setCell ⟨w.heap.size, 4, none⟩ (.slice s3 keep.length k3)) (o := colN w.heap.size) (c := 2) (n := w3.heap.size) [y] 3 (by simp) (colN_new hs3) 1 rfl
    have hL := llc_lit (n := w3.heap.size + 1) 22 (by simp) (colN_new (by omega)) hI
    have hT2 : Turn (colN w.heap.size) (colN w.heap.size) (fun _ => False) ((w3.drewN q).setCell ⟨w.heap.size, 4, none⟩ (.slice s3 keep.length k3)) ((((w3.drewN q).setCell ⟨w.heap.size, 4, none⟩ (.slice s3 keep.length k3)).alloc (.cells #[.int .i64 y] 3)).alloc (.cells #[.slice (some ⟨w3.heap.size, 0, none⟩) 1 1] 22)) := ⟨((Mods.refl _ _).alloc _).alloc _, fun _ _ => rfl⟩
    exact done_fin2 ((hbw.alloc hbw.size _).alloc (Nat.le_trans hbw.size (by simp)) _) (mods6 (Mods.refl _ _) rfl) (hS2.turn hT2 (fun h => h)) hL
end Go.Proofs.Ytknmiiajeafjpaa

/- The reference's reckoned. -/
namespace Go.Proofs.Ytknmiiajeafjpaa
open Go.RowKit

theorem size6 (w : World) (B : Nat) (a' b' c' d' e' f' : Value) : ((((((w.setCell ⟨B, 0, none⟩ a').setCell ⟨B, 1, none⟩ b').setCell ⟨B, 2, none⟩ c').setCell ⟨B, 3, none⟩ d').setCell ⟨B, 4, none⟩ e').setCell ⟨B, 5, none⟩ f').heap.size = w.heap.size := by simp [size_setCell']
theorem good_end {w W : World} {o : Col} {c : Nat} {t n z : Int} {vp vi vo vk : Value} {keep : List Int} (hk : Ints w o c vk keep) (hb : Below w.heap.size w W) (hs : W.heap.size = w.heap.size + 1 + 1) :
    DoneRef w o c t vp vi vo vk n (some ([[z]], keep)) (.returned (.tuple #[.agg #[.int .u8 t, vp, vi, vo, vk, .int .i64 n], .slice (some ⟨w.heap.size + 1 + 1 + 1, 0, none⟩) 1 1, .int .i64 0])) ((W.alloc (.cells #[.int .i64 z] 3)).alloc (.cells #[.slice (some ⟨w.heap.size + 1 + 1, 0, none⟩) 1 1] 22)) := by
  refine done_fin hk ((hb.alloc hb.size _).alloc (Nat.le_trans hb.size (by simp)) _) (Mods.refl _ _) (llc_lit 22 (by simp [hs]) (colN_new (by omega)) (ints_lit [z] 3 hs.symm (colN_new (by omega)) 1 rfl))
theorem below6 {w0 w : World} {N B : Nat} {a' b' c' d' e' f' : Value} (h : Below N w0 w) (hB : N ≤ B) : Below N w0 ((((((w.setCell ⟨B, 0, none⟩ a').setCell ⟨B, 1, none⟩ b').setCell ⟨B, 2, none⟩ c').setCell ⟨B, 3, none⟩ d').setCell ⟨B, 4, none⟩ e').setCell ⟨B, 5, none⟩ f') :=
  (((((h.setCell hB _).setCell hB _).setCell hB _).setCell hB _).setCell hB _).setCell hB _
theorem heap_drewN {w : World} {b : Nat} {x : Option Obj} (h : w.heap[b]? = x) (q : Nat) : (w.drewN q).heap[b]? = x := h
theorem wrap_neg {x : Int} (fx : Fits x) (h : ¬ x = -9223372036854775808) : wrap64 (-x) = -x := by
  unfold Fits at fx
  exact IntWalk.wrap64_in _ (by omega)


theorem quot_two {w : World} {insv : Value} {x y : Int} (h : LL w insv [[x], [y]]) : ∃ bi oi ic ba oa ca bb ob cb : Nat, insv = .slice (some ⟨bi, oi, none⟩) 2 ic ∧ (2 : Int) ≤ ic ∧ (1 : Int) ≤ ca ∧ (1 : Int) ≤ cb ∧ w.cell? ⟨bi, oi, none⟩ = some (.slice (some ⟨ba, oa, none⟩) 1 ca) ∧
    w.cell? ⟨bi, oi + 1, none⟩ = some (.slice (some ⟨bb, ob, none⟩) 1 cb) ∧ w.cell? ⟨ba, oa, none⟩ = some (.int .i64 x) ∧ w.cell? ⟨bb, ob, none⟩ = some (.int .i64 y) := by
  obtain ⟨ia, ic, rfl⟩ := h.slice
  obtain ⟨bi, oi, rfl, hci, hrow⟩ := h.at (by simp)
  obtain ⟨aa, ca, hr0, hh0⟩ := hrow 0 (by simp)
  obtain ⟨ab, cb, hr1, hh1⟩ := hrow 1 (by simp)
  simp at hr0 hh0 hr1 hh1 hci
  obtain ⟨ba, oa, rfl, -, hca, -, -, hx0⟩ := Vals.at hh0 (by simp)
  obtain ⟨bb, ob, rfl, -, hcb, -, -, hx1⟩ := Vals.at hh1 (by simp)
  have h0 := hx0 0 (by simp)
  have h1 := hx1 0 (by simp)
  simp at h0 h1
  exact ⟨bi, oi, ic, ba, oa, ca, bb, ob, cb, rfl, by omega, by omega, by omega, hr0, hr1, h0, h1⟩

set_option maxRecDepth 100000 in
set_option maxHeartbeats 2000000 in
theorem rreck_7 (w : World) (o : Col) (c : Nat) (a1 a2 a3 a4 : Option Addr) (n1 n2 n3 n4 c1 c2 c3 c4 : Nat) (insv : Value) (n x y : Int) (keep : List Int) (hk : Ints w o c (.slice a4 n4 c4) keep) (hins : LL w insv [[x], [y]]) (fx : Fits x) (fy : Fits y) :
    Calls Try.prog 54 #[.agg #[.int .u8 7, .slice a1 n1 c1, .slice a2 n2 c2, .slice a3 n3 c3, .slice a4 n4 c4, .int .i64 n], insv] w (DoneRef w o c 7 (.slice a1 n1 c1) (.slice a2 n2 c2) (.slice a3 n3 c3) (.slice a4 n4 c4) n ((quotP x y).map fun z => ([[z]], keep))) := by
  have HK := Lib.hid hk
  obtain ⟨bi, oi, ic, ba, oa, ca', bb, ob, cb, rfl, hic, hca, hcb, h0, h1, h2, h3⟩ := quot_two hins
  obtain ⟨A, hA⟩ : ∃ A, A = Obj.cells #[.int .u8 7, .slice a1 n1 c1, .slice a2 n2 c2, .slice a3 n3 c3, .slice a4 n4 c4, .int .i64 n] 48 := ⟨_, rfl⟩
  obtain ⟨B, hB⟩ : ∃ B, B = Obj.cells #[.int .u8 0, .slice none 0 0, .slice none 0 0, .slice none 0 0, .slice none 0 0, .int .i64 0] 48 := ⟨_, rfl⟩
  have p0 := ca (o := B) (ca (o := A) h0)
  have p1 := ca (o := B) (ca (o := A) h1)
  have p2 := ca (o := B) (ca (o := A) h2)
  have p3 := ca (o := B) (ca (o := A) h3)
  subst hA hB
  have hK := heap_alloc_new (w.alloc (.cells #[.int .u8 7, .slice a1 n1 c1, .slice a2 n2 c2, .slice a3 n3 c3, .slice a4 n4 c4, .int .i64 n] 48)) (.cells #[.int .u8 7, .slice a1 n1 c1, .slice a2 n2 c2, .slice a3 n3 c3, .slice a4 n4 c4, .int .i64 n] 48)
  rw [World.size_alloc] at hK
  have hB0 := heap_alloc_new (w.alloc (.cells #[.int .u8 7, .slice a1 n1 c1, .slice a2 n2 c2, .slice a3 n3 c3, .slice a4 n4 c4, .int .i64 n] 48)) (.cells #[.int .u8 0, .slice none 0 0, .slice none 0 0, .slice none 0 0, .slice none 0 0, .int .i64 0] 48)
  rw [World.size_alloc] at hB0
  have HB0 := Lib.hid (heap_drewN hB0)
  clear hB0
  have HBW := Lib.hid (show Below w.heap.size w ((w.alloc (.cells #[.int .u8 7, .slice a1 n1 c1, .slice a2 n2 c2, .slice a3 n3 c3, .slice a4 n4 c4, .int .i64 n] 48)).alloc (.cells #[.int .u8 0, .slice none 0 0, .slice none 0 0, .slice none 0 0, .slice none 0 0, .int .i64 0] 48)) from (below_alloc w _).alloc (by simp) _)
  clear hk hins h0 h1 h2 h3
  by_cases hy : y = 0
  · subst hy
    have HP : Hid (Option.map (fun z => ([[z]], keep)) (quotP x 0) = none) := Lib.hid rfl
    have HKK := Lib.hid hK
    clear hK fx fy
    go_enter Try.func54, Try.ntmps54
    go_wp2
    have hK := HKK.out
    refine bodyPost_ret_by (results_row_tmp2 rfl _ _ _ _ _ _ _ rfl hK Try.underlying48 rfl (by kernel_rfl)) rfl ?_
    rewrite [HP.out]
    exact ⟨rfl, below_n (((Below.refl _ _).alloc (by simp) _).alloc (by simp) _) 0⟩
  · by_cases hm : y = -1
    · subst hm
      by_cases hx : x = -9223372036854775808
      · subst hx
        have HP : Hid (Option.map (fun z => ([[z]], keep)) (quotP (-9223372036854775808) (-1)) = none) := Lib.hid (by rw [show quotP (-9223372036854775808) (-1) = none by decide]; rfl)
        have HKK := Lib.hid hK
        clear hK fx fy hy
        go_enter Try.func54, Try.ntmps54
        go_wp2
        have hK := HKK.out
        refine bodyPost_ret_by (results_row_tmp2 rfl _ _ _ _ _ _ _ rfl hK Try.underlying48 rfl (by kernel_rfl)) rfl ?_
        rewrite [HP.out]
        exact ⟨rfl, below_n (((Below.refl _ _).alloc (by simp) _).alloc (by simp) _) 0⟩
      · have hv : quotP x (-1) = some (0 - x) := by
          have : Fits (0 - x) := by unfold Fits at fx ⊢; omega
          unfold quotP
          rw [if_neg (by decide), if_pos rfl, if_pos this]
        have HP : Hid (Option.map (fun z => ([[z]], keep)) (quotP x (-1)) = some ([[-x]], keep)) := Lib.hid (by rw [hv, Int.zero_sub]; rfl)
        have hq : x.tdiv (-1) = -x := by simp
        have hw := wrap_neg fx hx
        have hb1 : (x == -9223372036854775808) = false := beq_eq_false_iff_ne.2 hx
        have HKK := Lib.hid hK
        clear hK fy hy hv
        go_enter Try.func54, Try.ntmps54
        go_wp2
        go_quiet (fail)
        go_wp2
        have hBB := HB0.out nq
        have hK := block_setCell (block_setCell (block_setCell (block_setCell (block_setCell (block_setCell hBB 0 (.int .u8 7)) 1 (.slice a1 n1 c1)) 2 (.slice a2 n2 c2)) 3 (.slice a3 n3 c3)) 4 (.slice a4 n4 c4)) 5 (.int .i64 n)
        have hK2 := block_alloc (block_alloc hK (.cells #[.int .i64 (-x)] 3)) (.cells #[.slice (some ⟨w.heap.size + 1 + 1, 0, none⟩) 1 1] 22)
        refine bodyPost_ret_by (results_row_tmp2 rfl _ _ _ _ _ _ _ rfl hK2 Try.underlying48 rfl (by kernel_rfl)) rfl ?_
        rewrite [HP.out]
        exact good_end HK.out (below6 (below_n HBW.out nq) (Nat.le_succ w.heap.size)) ((size6 _ _ _ _ _ _ _ _).trans (by simp))
    · have hv : quotP x y = some (x.tdiv y) := by simp [quotP, hy, hm]
      have HP : Hid (Option.map (fun z => ([[z]], keep)) (quotP x y) = some ([[x.tdiv y]], keep)) := Lib.hid (by rw [hv]; rfl)
      have hw := tdiv_wrap fx hy hm
      have hb0 : (y == 0) = false := beq_eq_false_iff_ne.2 hy
      have hb1 : (y == -1) = false := beq_eq_false_iff_ne.2 hm
      have HKK := Lib.hid hK
      clear hK hv
      by_cases hx : x = -9223372036854775808
      · have hb2 : (x == -9223372036854775808) = true := beq_iff_eq.2 hx
        clear hx fx
        go_enter Try.func54, Try.ntmps54
        go_wp2
        go_quiet (fail)
        go_wp2
        have hBB := HB0.out nq
        have hK := block_setCell (block_setCell (block_setCell (block_setCell (block_setCell (block_setCell hBB 0 (.int .u8 7)) 1 (.slice a1 n1 c1)) 2 (.slice a2 n2 c2)) 3 (.slice a3 n3 c3)) 4 (.slice a4 n4 c4)) 5 (.int .i64 n)
        have hK2 := block_alloc (block_alloc hK (.cells #[.int .i64 (x.tdiv y)] 3)) (.cells #[.slice (some ⟨w.heap.size + 1 + 1, 0, none⟩) 1 1] 22)
        refine bodyPost_ret_by (results_row_tmp2 rfl _ _ _ _ _ _ _ rfl hK2 Try.underlying48 rfl (by kernel_rfl)) rfl ?_
        rewrite [HP.out]
        exact good_end HK.out (below6 (below_n HBW.out nq) (Nat.le_succ w.heap.size)) ((size6 _ _ _ _ _ _ _ _).trans (by simp))
      · have hb2 : (x == -9223372036854775808) = false := beq_eq_false_iff_ne.2 hx
        go_enter Try.func54, Try.ntmps54
        go_wp2
        go_quiet (fail)
        go_wp2
        have hBB := HB0.out nq
        have hK := block_setCell (block_setCell (block_setCell (block_setCell (block_setCell (block_setCell hBB 0 (.int .u8 7)) 1 (.slice a1 n1 c1)) 2 (.slice a2 n2 c2)) 3 (.slice a3 n3 c3)) 4 (.slice a4 n4 c4)) 5 (.int .i64 n)
        have hK2 := block_alloc (block_alloc hK (.cells #[.int .i64 (x.tdiv y)] 3)) (.cells #[.slice (some ⟨w.heap.size + 1 + 1, 0, none⟩) 1 1] 22)
        refine bodyPost_ret_by (results_row_tmp2 rfl _ _ _ _ _ _ _ rfl hK2 Try.underlying48 rfl (by kernel_rfl)) rfl ?_
        rewrite [HP.out]
        exact good_end HK.out (below6 (below_n HBW.out nq) (Nat.le_succ w.heap.size)) ((size6 _ _ _ _ _ _ _ _).trans (by simp))

/-- where what is kept is new -/
theorem good_end2 {w X : World} {o : Col} {c : Nat} {t n z z' : Int} {vp vi vo vk : Value} (hb : Below w.heap.size w X) (hs : X.heap.size = w.heap.size + 1 + 1) :
    DoneRef w o c t vp vi vo vk n (some ([[z]], [z'])) (.returned (.tuple #[.agg #[.int .u8 t, vp, vi, vo, .slice (some ⟨w.heap.size + 1 + 1, 0, none⟩) 1 1, .int .i64 n], .slice (some ⟨w.heap.size + 1 + 1 + 1 + 1, 0, none⟩) 1 1, .int .i64 0])) (((X.alloc (.cells #[.int .i64 z'] 3)).alloc (.cells #[.int .i64 z] 3)).alloc (.cells #[.slice (some ⟨w.heap.size + 1 + 1 + 1, 0, none⟩) 1 1] 22)) := by
  have hk := ints_lit (w := X) (o := colN w.heap.size) (c := 2) [z'] 3 hs.symm (colN_new (by omega)) 1 rfl
  have hb1 : Below w.heap.size w (X.alloc (.cells #[.int .i64 z'] 3)) := hb.alloc hb.size _
  have hs1 : (X.alloc (.cells #[.int .i64 z'] 3)).heap.size = w.heap.size + 1 + 1 + 1 := by simp [hs]
  refine done_fin2 ((hb1.alloc hb1.size _).alloc (Nat.le_trans hb1.size (by simp)) _) (Mods.refl _ _) (hk.turn (⟨((Mods.refl _ _).alloc _).alloc _, fun _ _ => rfl⟩ : Turn (colN w.heap.size) (colN w.heap.size) (fun _ => False) _ _) (fun h => h)) (llc_lit 22 (by simp [hs]) (colN_new (by omega)) (ints_lit [z] 3 hs1.symm (colN_new (by omega)) 1 rfl))


set_option maxRecDepth 100000 in
set_option maxHeartbeats 2000000 in
theorem rreck_8 (w : World) (o : Col) (c : Nat) (a1 a2 a3 a4 : Option Addr) (n1 n2 n3 n4 c1 c2 c3 c4 : Nat) (insv : Value) (n x acc : Int) (hk : Ints w o c (.slice a4 n4 c4) [acc]) (hins : LL w insv [[x]]) (fx : Fits x) (fa : Fits acc) :
    Calls Try.prog 54 #[.agg #[.int .u8 8, .slice a1 n1 c1, .slice a2 n2 c2, .slice a3 n3 c3, .slice a4 n4 c4, .int .i64 n], insv] w (DoneRef w o c 8 (.slice a1 n1 c1) (.slice a2 n2 c2) (.slice a3 n3 c3) (.slice a4 n4 c4) n (if Fits (acc + x) then some ([[acc + x]], [acc + x]) else none)) := by
  have HK := Lib.hid hk
  obtain ⟨b4, o4, rfl, hn4, hc4, -, -, hkc⟩ := Vals.at hk (by simp)
  have k0 := hkc 0 (by simp)
  simp at k0 hn4
  subst hn4
  have hc4i : (1 : Int) ≤ c4 := by omega
  obtain ⟨ia, ic, rfl⟩ := hins.slice
  obtain ⟨bi, oi, rfl, hci, hrow⟩ := hins.at (by simp)
  obtain ⟨a0, c0, hr0, hh0⟩ := hrow 0 (by simp)
  simp only [List.length_cons, List.length_nil, List.getElem?_cons_zero, Option.getD_some, Nat.add_zero, Nat.zero_add] at hr0 hh0 hci ⊢
  obtain ⟨b0, o0, rfl, -, hc0, -, -, hx0⟩ := Vals.at hh0 (by simp)
  have hx1 := hx0 0 (by simp)
  simp at hx1
  have hci1 : (1 : Int) ≤ ic := by omega
  have hc01 : (1 : Int) ≤ c0 := by omega
  obtain ⟨A, hA⟩ : ∃ A, A = Obj.cells #[.int .u8 8, .slice a1 n1 c1, .slice a2 n2 c2, .slice a3 n3 c3, .slice (some ⟨b4, o4, none⟩) 1 c4, .int .i64 n] 48 := ⟨_, rfl⟩
  obtain ⟨B, hB⟩ : ∃ B, B = Obj.cells #[.int .u8 0, .slice none 0 0, .slice none 0 0, .slice none 0 0, .slice none 0 0, .int .i64 0] 48 := ⟨_, rfl⟩
  have p0 := ca (o := B) (ca (o := A) hr0)
  have p1 := ca (o := B) (ca (o := A) hx1)
  have p2 := ca (o := B) (ca (o := A) k0)
  have HB0 := Lib.hid (heap_drewN (show ((w.alloc A).alloc B).heap[w.heap.size + 1]? = some B by have := heap_alloc_new (w.alloc A) B; rwa [World.size_alloc] at this))
  have HBW := Lib.hid (show Below w.heap.size w ((w.alloc A).alloc B) from (below_alloc w _).alloc (by simp) _)
  subst hA hB
  have HFX := Lib.hid fx
  have HFA := Lib.hid fa
  clear hk hkc hins hrow hr0 hh0 hx0 hx1 k0 fx fa
  by_cases hf : Fits (acc + x)
  · have HP : Hid ((if Fits (acc + x) then some ([[acc + x]], [acc + x]) else none) = some ([[acc + x]], [acc + x])) := Lib.hid (if_pos hf)
    have HF := Lib.hid hf
    clear hf
    go_enter Try.func54, Try.ntmps54
    go_wp2
    go_quiet ((go_at_call 56; exact Calls.quiet_of_same ((rplus_yes _ acc x HFA.out HFX.out HF.out).mono fun e w' ⟨h1, h2⟩ => ⟨h1, h2.symm⟩)))
    go_wp2
    have hBB := block_setCell_ne (a := ⟨w.heap.size, 4, none⟩) (HB0.out nq) (show w.heap.size + 1 ≠ w.heap.size by omega) (.slice (some ⟨w.heap.size + 1 + 1, 0, none⟩) 1 1)
    have hK := block_setCell (block_setCell (block_setCell (block_setCell (block_setCell (block_setCell hBB 0 (.int .u8 8)) 1 (.slice a1 n1 c1)) 2 (.slice a2 n2 c2)) 3 (.slice a3 n3 c3)) 4 (.slice (some ⟨w.heap.size + 1 + 1, 0, none⟩) 1 1)) 5 (.int .i64 n)
    have hK2 := block_alloc (block_alloc (block_alloc hK (.cells #[.int .i64 (acc + x)] 3)) (.cells #[.int .i64 (acc + x)] 3)) (.cells #[.slice (some ⟨w.heap.size + 1 + 1 + 1, 0, none⟩) 1 1] 22)
    refine bodyPost_ret_by (results_row_tmp2 rfl _ _ _ _ _ _ _ rfl hK2 Try.underlying48 rfl (by kernel_rfl)) rfl ?_
    first | rewrite [HP.out] | skip
    exact good_end2 (below6 ((below_n HBW.out nq).setCell (Nat.le_refl _) _) (Nat.le_succ w.heap.size)) ((size6 _ _ _ _ _ _ _ _).trans (by simp [size_setCell']))
  · have HP : Hid ((if Fits (acc + x) then some ([[acc + x]], [acc + x]) else none) = none) := Lib.hid (if_neg hf)
    have HF := Lib.hid hf
    clear hf
    go_enter Try.func54, Try.ntmps54
    go_wp2
    go_quiet ((go_at_call 56; exact Calls.quiet_of_same ((rplus_no _ acc x HFA.out HFX.out HF.out).mono fun e w' ⟨h1, h2⟩ => ⟨h1, h2.symm⟩)))
    go_wp2
    have hBB := HB0.out nq
    have hK := block_setCell (block_setCell (block_setCell (block_setCell (block_setCell (block_setCell hBB 0 (.int .u8 8)) 1 (.slice a1 n1 c1)) 2 (.slice a2 n2 c2)) 3 (.slice a3 n3 c3)) 4 (.slice (some ⟨b4, o4, none⟩) 1 c4)) 5 (.int .i64 n)
    refine bodyPost_ret_by (results_row_tmp2 rfl _ _ _ _ _ _ _ rfl hK Try.underlying48 rfl (by kernel_rfl)) rfl ?_
    first | rewrite [HP.out] | skip
    exact ⟨rfl, below6 (below_n HBW.out nq) (Nat.le_succ w.heap.size)⟩
end Go.Proofs.Ytknmiiajeafjpaa

/- The reference's reckoned: tick, add. -/
namespace Go.Proofs.Ytknmiiajeafjpaa
open Go.RowKit


set_option maxRecDepth 100000 in
set_option maxHeartbeats 2000000 in
theorem rreck_10 (w : World) (o : Col) (c : Nat) (a1 a2 a3 a4 : Option Addr) (n1 n2 n3 n4 c1 c2 c3 c4 : Nat) (insv : Value) (n p x acc : Int) (hk : Ints w o c (.slice a4 n4 c4) [acc]) (hp : Has w (.slice a1 n1 c1) (ivs [p, x])) (fx : Fits x) (fa : Fits acc) :
    Calls Try.prog 54 #[.agg #[.int .u8 10, .slice a1 n1 c1, .slice a2 n2 c2, .slice a3 n3 c3, .slice a4 n4 c4, .int .i64 n], insv] w (DoneRef w o c 10 (.slice a1 n1 c1) (.slice a2 n2 c2) (.slice a3 n3 c3) (.slice a4 n4 c4) n (if Fits (acc + x) then some ([[acc]], [acc + x]) else none)) := by
  have HK := Lib.hid hk
  obtain ⟨b4, o4, rfl, hn4, hc4, -, -, hkc⟩ := Vals.at hk (by simp)
  have k0 := hkc 0 (by simp)
  simp at k0 hn4
  subst hn4
  have hc4i : (1 : Int) ≤ c4 := by omega
  obtain ⟨pb, po, rfl, hn1, hc1, -, -, hpc⟩ := Vals.at hp (by simp)
  have hp1 := hpc 1 (by simp)
  simp at hp1 hn1
  subst hn1
  have hc1i : (2 : Int) ≤ c1 := by omega
  obtain ⟨A, hA⟩ : ∃ A, A = Obj.cells #[.int .u8 10, .slice (some ⟨pb, po, none⟩) 2 c1, .slice a2 n2 c2, .slice a3 n3 c3, .slice (some ⟨b4, o4, none⟩) 1 c4, .int .i64 n] 48 := ⟨_, rfl⟩
  obtain ⟨B, hB⟩ : ∃ B, B = Obj.cells #[.int .u8 0, .slice none 0 0, .slice none 0 0, .slice none 0 0, .slice none 0 0, .int .i64 0] 48 := ⟨_, rfl⟩
  have p0 := ca (o := B) (ca (o := A) hp1)
  have p2 := ca (o := B) (ca (o := A) k0)
  subst hA hB
  have HFX := Lib.hid fx
  have HFA := Lib.hid fa
  clear hk hkc hp hpc hp1 k0 fx fa
  by_cases hf : Fits (acc + x)
  · have HP : Hid ((if Fits (acc + x) then some ([[acc]], [acc + x]) else none) = some ([[acc]], [acc + x])) := Lib.hid (if_pos hf)
    have HF := Lib.hid hf
    clear hf
    go_enter Try.func54, Try.ntmps54
    go_wp2_with fail
    refine (rplus_yes _ acc x HFA.out HFX.out HF.out).mono ?_
    rintro e w1 ⟨rfl, rfl⟩
    go_wp2
    have hK := heap_alloc_new (w.alloc (.cells #[.int .u8 10, .slice (some ⟨pb, po, none⟩) 2 c1, .slice a2 n2 c2, .slice a3 n3 c3, .slice (some ⟨w.heap.size + 1 + 1, 0, none⟩) 1 1, .int .i64 n] 48)) (.cells #[.int .u8 10, .slice (some ⟨pb, po, none⟩) 2 c1, .slice a2 n2 c2, .slice a3 n3 c3, .slice (some ⟨w.heap.size + 1 + 1, 0, none⟩) 1 1, .int .i64 n] 48)
    rw [World.size_alloc] at hK
    have hK2 := block_alloc (block_alloc (block_alloc hK (.cells #[.int .i64 (acc + x)] 3)) (.cells #[.int .i64 acc] 3)) (.cells #[.slice (some ⟨w.heap.size + 1 + 1 + 1, 0, none⟩) 1 1] 22)
    refine bodyPost_ret_by (results_row_tmp2 rfl _ _ _ _ _ _ _ rfl hK2 Try.underlying48 rfl (by kernel_rfl)) rfl ?_
    first | rewrite [HP.out] | skip
    exact good_end2 ((below_alloc w _).alloc (by simp) _) (by simp)
  · have HP : Hid ((if Fits (acc + x) then some ([[acc]], [acc + x]) else none) = none) := Lib.hid (if_neg hf)
    have HF := Lib.hid hf
    clear hf
    go_enter Try.func54, Try.ntmps54
    go_wp2_with fail
    refine (rplus_no _ acc x HFA.out HFX.out HF.out).mono ?_
    rintro e w1 ⟨rfl, rfl⟩
    go_wp2
    have hK := heap_alloc_new (w.alloc (.cells #[.int .u8 10, .slice (some ⟨pb, po, none⟩) 2 c1, .slice a2 n2 c2, .slice a3 n3 c3, .slice (some ⟨b4, o4, none⟩) 1 c4, .int .i64 n] 48)) (.cells #[.int .u8 10, .slice (some ⟨pb, po, none⟩) 2 c1, .slice a2 n2 c2, .slice a3 n3 c3, .slice (some ⟨b4, o4, none⟩) 1 c4, .int .i64 n] 48)
    rw [World.size_alloc] at hK
    refine bodyPost_ret_by (results_row_tmp2 rfl _ _ _ _ _ _ _ rfl hK Try.underlying48 rfl (by kernel_rfl)) rfl ?_
    first | rewrite [HP.out] | skip
    exact ⟨rfl, (below_alloc w _).alloc (by simp) _⟩

theorem firsts_get {xss : List (List Int)} {k : Nat} (h : k < (firsts xss).length) : (firsts xss)[k] = (xss[k]?.getD [])[0]?.getD 0 := by
  have hk : k < xss.length := by simpa [firsts, atP] using h
  simp [firsts, atP, hk]
theorem firsts_len (xss : List (List Int)) : (firsts xss).length = xss.length := by simp [firsts, atP]

set_option maxRecDepth 100000 in
set_option maxHeartbeats 2000000 in
theorem rreck_6 (w : World) (o : Col) (c : Nat) (a1 a2 a3 a4 : Option Addr) (n1 n2 n3 n4 c1 c2 c3 c4 : Nat) (insv : Value) (n : Int) (keep : List Int) (xss : List (List Int)) (hk : Ints w o c (.slice a4 n4 c4) keep) (hins : LL w insv xss) (hr : ∀ l ∈ xss, l.length = 1) (hl : xss.length ≤ 16) (hf : ∀ l ∈ xss, ∀ x ∈ l, Fits x) :
    Calls Try.prog 54 #[.agg #[.int .u8 6, .slice a1 n1 c1, .slice a2 n2 c2, .slice a3 n3 c3, .slice a4 n4 c4, .int .i64 n], insv] w (DoneRef w o c 6 (.slice a1 n1 c1) (.slice a2 n2 c2) (.slice a3 n3 c3) (.slice a4 n4 c4) n ((sumP 0 (firsts xss)).map fun y => ([[y]], keep))) := by
  have HK := Lib.hid hk
  obtain ⟨ia, ic, rfl⟩ := hins.slice
  obtain ⟨A, hA⟩ : ∃ A, A = Obj.cells #[.int .u8 6, .slice a1 n1 c1, .slice a2 n2 c2, .slice a3 n3 c3, .slice a4 n4 c4, .int .i64 n] 48 := ⟨_, rfl⟩
  obtain ⟨B, hB⟩ : ∃ B, B = Obj.cells #[.int .u8 0, .slice none 0 0, .slice none 0 0, .slice none 0 0, .slice none 0 0, .int .i64 0] 48 := ⟨_, rfl⟩
  have HI := Lib.hid (hins.below (show Below w.heap.size w ((w.alloc A).alloc B) from (below_alloc w _).alloc (by simp) _))
  subst hA hB
  have HR := Lib.hid hr
  have HF := Lib.hid hf
  have hli : (xss.length : Int) ≤ 16 := by omega
  have f0 : Fits 0 := by unfold Fits; omega
  have hK := heap_alloc_new (w.alloc (.cells #[.int .u8 6, .slice a1 n1 c1, .slice a2 n2 c2, .slice a3 n3 c3, .slice a4 n4 c4, .int .i64 n] 48)) (.cells #[.int .u8 6, .slice a1 n1 c1, .slice a2 n2 c2, .slice a3 n3 c3, .slice a4 n4 c4, .int .i64 n] 48)
  rw [World.size_alloc] at hK
  have HKK := Lib.hid hK
  clear hk hins hr hf hK
  go_enter Try.func54, Try.ntmps54
  go_wp2_with fail
  go_loopw [7, 8, 9] (fun g s i wr => wr = (w.alloc (.cells #[.int .u8 6, .slice a1 n1 c1, .slice a2 n2 c2, .slice a3 n3 c3, .slice a4 n4 c4, .int .i64 n] 48)).alloc (.cells #[.int .u8 0, .slice none 0 0, .slice none 0 0, .slice none 0 0, .slice none 0 0, .int .i64 0] 48) ∧ ∃ (k : Nat) (acc : Int), k ≤ xss.length ∧ i = .int .i64 k ∧ ((g = .bool true ∧ s = .int .i64 acc ∧ Fits acc ∧ sumP 0 (firsts xss) = sumP acc ((firsts xss).drop k)) ∨ (g = .bool false ∧ s = .int .i64 0 ∧ sumP 0 (firsts xss) = none))) (fun _ _ i _ => xss.length - (intOf i).toNat)
  case atStart => exact ⟨rfl, 0, 0, Nat.zero_le _, rfl, .inl ⟨rfl, rfl, f0, by simp⟩⟩
  case round =>
    obtain ⟨rfl, k, acc, hk, rfl, h⟩ := hrel
    rcases h with ⟨rfl, rfl, fa, hs⟩ | ⟨rfl, rfl, hs⟩
    · have HFA := Lib.hid fa
      have HS := Lib.hid hs
      clear fa hs
      by_cases hlt : k < xss.length
      · have hlti : (k : Int) < xss.length := by omega
        obtain ⟨bi, oi, rfl, hci, hrow⟩ := HI.out.at (by omega)
        obtain ⟨a0, c0, hr0, hh0⟩ := hrow k hlt
        have hm : (xss[k]?.getD []) ∈ xss := by simp [hlt]
        have hrl := HR.out _ hm
        rw [hrl] at hr0 hh0
        obtain ⟨b0, o0, rfl, -, hc0, -, -, hx0⟩ := Vals.at hh0 (by rw [ivs_len]; omega)
        have hx1 := hx0 0 (by rw [ivs_len]; omega)
        rw [ivs_get (by omega), Nat.add_zero] at hx1
        have hci1 : (xss.length : Int) ≤ ic := by omega
        have hc01 : (1 : Int) ≤ c0 := by omega
        have hfl : k < (firsts xss).length := by rw [firsts_len]; exact hlt
        have hst := sumP_step (acc := acc) hfl
        rw [firsts_get hfl] at hst
        have hfx := HF.out _ hm ((xss[k]?.getD [])[0]?.getD 0) (by
          have : 0 < (xss[k]?.getD []).length := by omega
          simp [this])
        have HST := Lib.hid hst
        have HFX := Lib.hid hfx
        clear hst hfx hrow hh0 hx0 hm hrl hfl
        generalize (xss[k]?.getD [])[0]?.getD 0 = x at *
        go_wp2_with fail
        by_cases hf2 : Fits (acc + x)
        · refine (rplus_yes _ acc x HFA.out HFX.out hf2).mono ?_
          rintro e w1 ⟨rfl, rfl⟩
          have Hf2 := Lib.hid hf2
          clear hf2
          go_wp2
          go_roundw
          case rel => exact ⟨by first | rfl | trivial, k + 1, acc + x, by omega, by go_num, .inl ⟨rfl, rfl, Hf2.out, by rw [HS.out, HST.out, if_pos Hf2.out]⟩⟩
          case measure => simp [intOf]; omega
        · refine (rplus_no _ acc x HFA.out HFX.out hf2).mono ?_
          rintro e w1 ⟨rfl, rfl⟩
          have Hf2 := Lib.hid hf2
          clear hf2
          go_wp2
          go_roundw
          case rel => exact ⟨by first | rfl | trivial, k + 1, 0, by omega, by go_num, .inr ⟨rfl, rfl, by rw [HS.out, HST.out, if_neg Hf2.out]⟩⟩
          case measure => simp [intOf]; omega
      · obtain rfl : k = xss.length := by omega
        have HP : Hid (Option.map (fun y => ([[y]], keep)) (sumP 0 (firsts xss)) = some ([[acc]], keep)) := Lib.hid (by
          rw [HS.out, List.drop_of_length_le (by rw [firsts_len]; exact Nat.le_refl _)]; rfl)
        go_wp2
        have hK2 := block_alloc (block_alloc HKK.out (.cells #[.int .i64 acc] 3)) (.cells #[.slice (some ⟨w.heap.size + 1 + 1, 0, none⟩) 1 1] 22)
        refine bodyPost_ret_by (results_row_tmp2 rfl _ _ _ _ _ _ _ rfl hK2 Try.underlying48 rfl (by kernel_rfl)) rfl ?_
        rewrite [HP.out]
        exact good_end HK.out ((below_alloc w _).alloc (by simp) _) (by simp)
    · have HP : Hid (Option.map (fun y => ([[y]], keep)) (sumP 0 (firsts xss)) = none) := Lib.hid (by rw [hs]; rfl)
      clear hs
      by_cases hlt : k < xss.length
      · have hlti : (k : Int) < xss.length := by omega
        go_wp2
        refine bodyPost_ret_by (results_row_tmp2 rfl _ _ _ _ _ _ _ rfl HKK.out Try.underlying48 rfl (by kernel_rfl)) rfl ?_
        rewrite [HP.out]
        exact ⟨rfl, (below_alloc w _).alloc (by simp) _⟩
      · obtain rfl : k = xss.length := by omega
        go_wp2
        refine bodyPost_ret_by (results_row_tmp2 rfl _ _ _ _ _ _ _ rfl HKK.out Try.underlying48 rfl (by kernel_rfl)) rfl ?_
        rewrite [HP.out]
        exact ⟨rfl, (below_alloc w _).alloc (by simp) _⟩
end Go.Proofs.Ytknmiiajeafjpaa

/- The reference's done, whole. -/
namespace Go.Proofs.Ytknmiiajeafjpaa
open Go.RowKit


/-- what an inner call answered, put into the result's block -/
theorem done_wrap {w W w3 w4 : World} {o : Col} {c : Nat} {t n : Int} {vp vi vo vk vk' ov : Value} {keep' : List Int} {outs : List (List Int)} (hbW : Below w.heap.size w W) (hWs : W.heap.size = w.heap.size + 2) (hb3 : Below W.heap.size W w3)
    (hk : Ints w3 (ext (ext o w.heap.size (c + 1)) W.heap.size c) c vk' keep') (ho : LLc w3 (ext (ext o w.heap.size (c + 1)) W.heap.size c) c ov outs) (hM : Mods (fun k => k = w.heap.size + 1) w3 w4) :
    DoneRef w o c t vp vi vo vk n (some (outs, keep')) (.returned (.tuple #[.agg #[.int .u8 t, vp, vi, vo, vk', .int .i64 n], ov, .int .i64 0])) w4 := by
  have hb := hbW.trans (hb3.mono hbW.size)
  have hB : Below w.heap.size w w4 := hb.trans (hM.below hb.size (fun k hk e => by omega))
  have T : Turn (ext (ext o w.heap.size (c + 1)) W.heap.size c) (ext (ext o w.heap.size (c + 1)) W.heap.size c) (fun x => x = c + 1) w3 w4 := ⟨hM.mono (fun k _ e => by
    subst e
    rw [ext_old (by omega), ext_new (by omega)]), fun _ _ => rfl⟩
  have hc : ∀ k, k < w4.heap.size → ext (ext o w.heap.size (c + 1)) W.heap.size c k = c → ext o w.heap.size c k = c := fun k _ e => by
    by_cases h : k < w.heap.size
    · rw [ext_old (by omega), ext_old h] at e
      rw [ext_old h]; exact e
    · exact ext_new (by omega)
  exact ⟨ov, vk', rfl, (hk.turn T (by omega)).recol hc, (ho.turn T (by omega)).recol hc, hB⟩
theorem done_wrap_no {w W w3 w4 : World} {o : Col} {c : Nat} {t n : Int} {vp vi vo vk : Value} (hbW : Below w.heap.size w W) (hb3 : Below W.heap.size W w3) (hM : Mods (fun k => k = w.heap.size + 1) w3 w4) :
    DoneRef w o c t vp vi vo vk n none (.returned (.tuple #[.agg #[.int .u8 t, vp, vi, vo, vk, .int .i64 n], .slice none 0 0, .int .i64 70])) w4 := by
  have hb := hbW.trans (hb3.mono hbW.size)
  exact ⟨rfl, hb.trans (hM.below hb.size (fun k hk e => by omega))⟩

set_option maxRecDepth 100000 in
set_option maxHeartbeats 2000000 in
theorem rdone_gen_6 (w : World) (o : Col) (c : Nat) (a1 a2 a3 a4 : Option Addr) (n1 n2 n3 n4 c1 c2 c3 c4 : Nat) (ia : Option Addr) (il ic : Nat) (n : Int) (r : Option (List (List Int) × List Int))
    (hc : ∀ W, Below w.heap.size w W → Calls Try.prog 54 #[.agg #[.int .u8 6, .slice a1 n1 c1, .slice a2 n2 c2, .slice a3 n3 c3, .slice a4 n4 c4, .int .i64 n], .slice ia il ic] W (DoneRef W (ext o w.heap.size (c + 1)) c 6 (.slice a1 n1 c1) (.slice a2 n2 c2) (.slice a3 n3 c3) (.slice a4 n4 c4) n r)) :
    Calls Try.prog 48 #[.agg #[.int .u8 6, .slice a1 n1 c1, .slice a2 n2 c2, .slice a3 n3 c3, .slice a4 n4 c4, .int .i64 n], .slice ia il ic] w (DoneRef w o c 6 (.slice a1 n1 c1) (.slice a2 n2 c2) (.slice a3 n3 c3) (.slice a4 n4 c4) n r) := by
  have HC := Lib.hid hc
  clear hc
  obtain ⟨A, hA⟩ : ∃ A, A = Obj.cells #[.int .u8 6, .slice a1 n1 c1, .slice a2 n2 c2, .slice a3 n3 c3, .slice a4 n4 c4, .int .i64 n] 48 := ⟨_, rfl⟩
  obtain ⟨B, hB⟩ : ∃ B, B = Obj.cells #[.int .u8 0, .slice none 0 0, .slice none 0 0, .slice none 0 0, .slice none 0 0, .int .i64 0] 48 := ⟨_, rfl⟩
  have hbW : Below w.heap.size w ((w.alloc A).alloc B) := (below_alloc w _).alloc (by simp) _
  have hB0 := heap_alloc_new (w.alloc A) B
  rw [World.size_alloc] at hB0
  subst hA hB
  have HBW := Lib.hid hbW
  have HB0 := Lib.hid hB0
  clear hbW hB0
  rcases r with _ | ⟨outs, keep'⟩
  · go_enter Try.func48, Try.ntmps48
    go_wp2_with fail
    refine (HC.out _ HBW.out).mono ?_
    rintro e w3 ⟨rfl, hb3⟩
    have hBB := block_mods HB0.out (Mods.of_below hb3 (fun _ => False)) (fun h => h)
    have q0 := cells_row _ _ hBB 0 _ rfl
    have q1 := cells_row _ _ hBB 1 _ rfl
    have q2 := cells_row _ _ hBB 2 _ rfl
    have q3 := cells_row _ _ hBB 3 _ rfl
    have q4 := cells_row _ _ hBB 4 _ rfl
    have q5 := cells_row _ _ hBB 5 _ rfl
    have r0 := frozen_of_block hBB 0
    have r1 := frozen_of_block hBB 1
    have r2 := frozen_of_block hBB 2
    have r3 := frozen_of_block hBB 3
    have r4 := frozen_of_block hBB 4
    have r5 := frozen_of_block hBB 5
    have HB3 := Lib.hid hb3
    have HBB := Lib.hid hBB
    clear hb3 hBB
    go_wp2
    have hBB := HBB.out
    have hK := block_setCell (block_setCell (block_setCell (block_setCell (block_setCell (block_setCell hBB 0 (.int .u8 6)) 1 (.slice a1 n1 c1)) 2 (.slice a2 n2 c2)) 3 (.slice a3 n3 c3)) 4 (.slice a4 n4 c4)) 5 (.int .i64 n)
    refine bodyPost_ret_by (results_row_tmp2 rfl _ _ _ _ _ _ _ rfl hK Try.underlying48 rfl (by kernel_rfl)) rfl ?_
    exact done_wrap_no HBW.out HB3.out (mods6 (Mods.refl _ _) rfl)
  · go_enter Try.func48, Try.ntmps48
    go_wp2_with fail
    refine (HC.out _ HBW.out).mono ?_
    rintro e w3 ⟨ov, vk', rfl, hk', ho, hb3⟩
    obtain ⟨ak, ck, rfl⟩ := hk'.slice
    obtain ⟨ao, co, rfl⟩ := ho.ll.slice
    have hBB := block_mods HB0.out (Mods.of_below hb3 (fun _ => False)) (fun h => h)
    have q0 := cells_row _ _ hBB 0 _ rfl
    have q1 := cells_row _ _ hBB 1 _ rfl
    have q2 := cells_row _ _ hBB 2 _ rfl
    have q3 := cells_row _ _ hBB 3 _ rfl
    have q4 := cells_row _ _ hBB 4 _ rfl
    have q5 := cells_row _ _ hBB 5 _ rfl
    have r0 := frozen_of_block hBB 0
    have r1 := frozen_of_block hBB 1
    have r2 := frozen_of_block hBB 2
    have r3 := frozen_of_block hBB 3
    have r4 := frozen_of_block hBB 4
    have r5 := frozen_of_block hBB 5
    have HB3 := Lib.hid hb3
    have HBB := Lib.hid hBB
    have HKP := Lib.hid hk'
    have HO := Lib.hid ho
    clear hb3 hBB hk' ho
    go_wp2
    have hBB := HBB.out
    have hK := block_setCell (block_setCell (block_setCell (block_setCell (block_setCell (block_setCell hBB 0 (.int .u8 6)) 1 (.slice a1 n1 c1)) 2 (.slice a2 n2 c2)) 3 (.slice a3 n3 c3)) 4 (.slice ak keep'.length ck)) 5 (.int .i64 n)
    refine bodyPost_ret_by (results_row_tmp2 rfl _ _ _ _ _ _ _ rfl hK Try.underlying48 rfl (by kernel_rfl)) rfl ?_
    exact done_wrap HBW.out (by simp) HB3.out HKP.out HO.out (mods6 (Mods.refl _ _) rfl)

set_option maxRecDepth 100000 in
set_option maxHeartbeats 2000000 in
theorem rdone_gen_7 (w : World) (o : Col) (c : Nat) (a1 a2 a3 a4 : Option Addr) (n1 n2 n3 n4 c1 c2 c3 c4 : Nat) (ia : Option Addr) (il ic : Nat) (n : Int) (r : Option (List (List Int) × List Int))
    (hc : ∀ W, Below w.heap.size w W → Calls Try.prog 54 #[.agg #[.int .u8 7, .slice a1 n1 c1, .slice a2 n2 c2, .slice a3 n3 c3, .slice a4 n4 c4, .int .i64 n], .slice ia il ic] W (DoneRef W (ext o w.heap.size (c + 1)) c 7 (.slice a1 n1 c1) (.slice a2 n2 c2) (.slice a3 n3 c3) (.slice a4 n4 c4) n r)) :
    Calls Try.prog 48 #[.agg #[.int .u8 7, .slice a1 n1 c1, .slice a2 n2 c2, .slice a3 n3 c3, .slice a4 n4 c4, .int .i64 n], .slice ia il ic] w (DoneRef w o c 7 (.slice a1 n1 c1) (.slice a2 n2 c2) (.slice a3 n3 c3) (.slice a4 n4 c4) n r) := by
  have HC := Lib.hid hc
  clear hc
  obtain ⟨A, hA⟩ : ∃ A, A = Obj.cells #[.int .u8 7, .slice a1 n1 c1, .slice a2 n2 c2, .slice a3 n3 c3, .slice a4 n4 c4, .int .i64 n] 48 := ⟨_, rfl⟩
  obtain ⟨B, hB⟩ : ∃ B, B = Obj.cells #[.int .u8 0, .slice none 0 0, .slice none 0 0, .slice none 0 0, .slice none 0 0, .int .i64 0] 48 := ⟨_, rfl⟩
  have hbW : Below w.heap.size w ((w.alloc A).alloc B) := (below_alloc w _).alloc (by simp) _
  have hB0 := heap_alloc_new (w.alloc A) B
  rw [World.size_alloc] at hB0
  subst hA hB
  have HBW := Lib.hid hbW
  have HB0 := Lib.hid hB0
  clear hbW hB0
  rcases r with _ | ⟨outs, keep'⟩
  · go_enter Try.func48, Try.ntmps48
    go_wp2_with fail
    refine (HC.out _ HBW.out).mono ?_
    rintro e w3 ⟨rfl, hb3⟩
    have hBB := block_mods HB0.out (Mods.of_below hb3 (fun _ => False)) (fun h => h)
    have q0 := cells_row _ _ hBB 0 _ rfl
    have q1 := cells_row _ _ hBB 1 _ rfl
    have q2 := cells_row _ _ hBB 2 _ rfl
    have q3 := cells_row _ _ hBB 3 _ rfl
    have q4 := cells_row _ _ hBB 4 _ rfl
    have q5 := cells_row _ _ hBB 5 _ rfl
    have r0 := frozen_of_block hBB 0
    have r1 := frozen_of_block hBB 1
    have r2 := frozen_of_block hBB 2
    have r3 := frozen_of_block hBB 3
    have r4 := frozen_of_block hBB 4
    have r5 := frozen_of_block hBB 5
    have HB3 := Lib.hid hb3
    have HBB := Lib.hid hBB
    clear hb3 hBB
    go_wp2
    have hBB := HBB.out
    have hK := block_setCell (block_setCell (block_setCell (block_setCell (block_setCell (block_setCell hBB 0 (.int .u8 7)) 1 (.slice a1 n1 c1)) 2 (.slice a2 n2 c2)) 3 (.slice a3 n3 c3)) 4 (.slice a4 n4 c4)) 5 (.int .i64 n)
    refine bodyPost_ret_by (results_row_tmp2 rfl _ _ _ _ _ _ _ rfl hK Try.underlying48 rfl (by kernel_rfl)) rfl ?_
    exact done_wrap_no HBW.out HB3.out (mods6 (Mods.refl _ _) rfl)
  · go_enter Try.func48, Try.ntmps48
    go_wp2_with fail
    refine (HC.out _ HBW.out).mono ?_
    rintro e w3 ⟨ov, vk', rfl, hk', ho, hb3⟩
    obtain ⟨ak, ck, rfl⟩ := hk'.slice
    obtain ⟨ao, co, rfl⟩ := ho.ll.slice
    have hBB := block_mods HB0.out (Mods.of_below hb3 (fun _ => False)) (fun h => h)
    have q0 := cells_row _ _ hBB 0 _ rfl
    have q1 := cells_row _ _ hBB 1 _ rfl
    have q2 := cells_row _ _ hBB 2 _ rfl
    have q3 := cells_row _ _ hBB 3 _ rfl
    have q4 := cells_row _ _ hBB 4 _ rfl
    have q5 := cells_row _ _ hBB 5 _ rfl
    have r0 := frozen_of_block hBB 0
    have r1 := frozen_of_block hBB 1
    have r2 := frozen_of_block hBB 2
    have r3 := frozen_of_block hBB 3
    have r4 := frozen_of_block hBB 4
    have r5 := frozen_of_block hBB 5
    have HB3 := Lib.hid hb3
    have HBB := Lib.hid hBB
    have HKP := Lib.hid hk'
    have HO := Lib.hid ho
    clear hb3 hBB hk' ho
    go_wp2
    have hBB := HBB.out
    have hK := block_setCell (block_setCell (block_setCell (block_setCell (block_setCell (block_setCell hBB 0 (.int .u8 7)) 1 (.slice a1 n1 c1)) 2 (.slice a2 n2 c2)) 3 (.slice a3 n3 c3)) 4 (.slice ak keep'.length ck)) 5 (.int .i64 n)
    refine bodyPost_ret_by (results_row_tmp2 rfl _ _ _ _ _ _ _ rfl hK Try.underlying48 rfl (by kernel_rfl)) rfl ?_
    exact done_wrap HBW.out (by simp) HB3.out HKP.out HO.out (mods6 (Mods.refl _ _) rfl)

set_option maxRecDepth 100000 in
set_option maxHeartbeats 2000000 in
theorem rdone_gen_8 (w : World) (o : Col) (c : Nat) (a1 a2 a3 a4 : Option Addr) (n1 n2 n3 n4 c1 c2 c3 c4 : Nat) (ia : Option Addr) (il ic : Nat) (n : Int) (r : Option (List (List Int) × List Int))
    (hc : ∀ W, Below w.heap.size w W → Calls Try.prog 54 #[.agg #[.int .u8 8, .slice a1 n1 c1, .slice a2 n2 c2, .slice a3 n3 c3, .slice a4 n4 c4, .int .i64 n], .slice ia il ic] W (DoneRef W (ext o w.heap.size (c + 1)) c 8 (.slice a1 n1 c1) (.slice a2 n2 c2) (.slice a3 n3 c3) (.slice a4 n4 c4) n r)) :
    Calls Try.prog 48 #[.agg #[.int .u8 8, .slice a1 n1 c1, .slice a2 n2 c2, .slice a3 n3 c3, .slice a4 n4 c4, .int .i64 n], .slice ia il ic] w (DoneRef w o c 8 (.slice a1 n1 c1) (.slice a2 n2 c2) (.slice a3 n3 c3) (.slice a4 n4 c4) n r) := by
  have HC := Lib.hid hc
  clear hc
  obtain ⟨A, hA⟩ : ∃ A, A = Obj.cells #[.int .u8 8, .slice a1 n1 c1, .slice a2 n2 c2, .slice a3 n3 c3, .slice a4 n4 c4, .int .i64 n] 48 := ⟨_, rfl⟩
  obtain ⟨B, hB⟩ : ∃ B, B = Obj.cells #[.int .u8 0, .slice none 0 0, .slice none 0 0, .slice none 0 0, .slice none 0 0, .int .i64 0] 48 := ⟨_, rfl⟩
  have hbW : Below w.heap.size w ((w.alloc A).alloc B) := (below_alloc w _).alloc (by simp) _
  have hB0 := heap_alloc_new (w.alloc A) B
  rw [World.size_alloc] at hB0
  subst hA hB
  have HBW := Lib.hid hbW
  have HB0 := Lib.hid hB0
  clear hbW hB0
  rcases r with _ | ⟨outs, keep'⟩
  · go_enter Try.func48, Try.ntmps48
    go_wp2_with fail
    refine (HC.out _ HBW.out).mono ?_
    rintro e w3 ⟨rfl, hb3⟩
    have hBB := block_mods HB0.out (Mods.of_below hb3 (fun _ => False)) (fun h => h)
    have q0 := cells_row _ _ hBB 0 _ rfl
    have q1 := cells_row _ _ hBB 1 _ rfl
    have q2 := cells_row _ _ hBB 2 _ rfl
    have q3 := cells_row _ _ hBB 3 _ rfl
    have q4 := cells_row _ _ hBB 4 _ rfl
    have q5 := cells_row _ _ hBB 5 _ rfl
    have r0 := frozen_of_block hBB 0
    have r1 := frozen_of_block hBB 1
    have r2 := frozen_of_block hBB 2
    have r3 := frozen_of_block hBB 3
    have r4 := frozen_of_block hBB 4
    have r5 := frozen_of_block hBB 5
    have HB3 := Lib.hid hb3
    have HBB := Lib.hid hBB
    clear hb3 hBB
    go_wp2
    have hBB := HBB.out
    have hK := block_setCell (block_setCell (block_setCell (block_setCell (block_setCell (block_setCell hBB 0 (.int .u8 8)) 1 (.slice a1 n1 c1)) 2 (.slice a2 n2 c2)) 3 (.slice a3 n3 c3)) 4 (.slice a4 n4 c4)) 5 (.int .i64 n)
    refine bodyPost_ret_by (results_row_tmp2 rfl _ _ _ _ _ _ _ rfl hK Try.underlying48 rfl (by kernel_rfl)) rfl ?_
    exact done_wrap_no HBW.out HB3.out (mods6 (Mods.refl _ _) rfl)
  · go_enter Try.func48, Try.ntmps48
    go_wp2_with fail
    refine (HC.out _ HBW.out).mono ?_
    rintro e w3 ⟨ov, vk', rfl, hk', ho, hb3⟩
    obtain ⟨ak, ck, rfl⟩ := hk'.slice
    obtain ⟨ao, co, rfl⟩ := ho.ll.slice
    have hBB := block_mods HB0.out (Mods.of_below hb3 (fun _ => False)) (fun h => h)
    have q0 := cells_row _ _ hBB 0 _ rfl
    have q1 := cells_row _ _ hBB 1 _ rfl
    have q2 := cells_row _ _ hBB 2 _ rfl
    have q3 := cells_row _ _ hBB 3 _ rfl
    have q4 := cells_row _ _ hBB 4 _ rfl
    have q5 := cells_row _ _ hBB 5 _ rfl
    have r0 := frozen_of_block hBB 0
    have r1 := frozen_of_block hBB 1
    have r2 := frozen_of_block hBB 2
    have r3 := frozen_of_block hBB 3
    have r4 := frozen_of_block hBB 4
    have r5 := frozen_of_block hBB 5
    have HB3 := Lib.hid hb3
    have HBB := Lib.hid hBB
    have HKP := Lib.hid hk'
    have HO := Lib.hid ho
    clear hb3 hBB hk' ho
    go_wp2
    have hBB := HBB.out
    have hK := block_setCell (block_setCell (block_setCell (block_setCell (block_setCell (block_setCell hBB 0 (.int .u8 8)) 1 (.slice a1 n1 c1)) 2 (.slice a2 n2 c2)) 3 (.slice a3 n3 c3)) 4 (.slice ak keep'.length ck)) 5 (.int .i64 n)
    refine bodyPost_ret_by (results_row_tmp2 rfl _ _ _ _ _ _ _ rfl hK Try.underlying48 rfl (by kernel_rfl)) rfl ?_
    exact done_wrap HBW.out (by simp) HB3.out HKP.out HO.out (mods6 (Mods.refl _ _) rfl)

set_option maxRecDepth 100000 in
set_option maxHeartbeats 2000000 in
theorem rdone_gen_10 (w : World) (o : Col) (c : Nat) (a1 a2 a3 a4 : Option Addr) (n1 n2 n3 n4 c1 c2 c3 c4 : Nat) (ia : Option Addr) (il ic : Nat) (n : Int) (r : Option (List (List Int) × List Int))
    (hc : ∀ W, Below w.heap.size w W → Calls Try.prog 54 #[.agg #[.int .u8 10, .slice a1 n1 c1, .slice a2 n2 c2, .slice a3 n3 c3, .slice a4 n4 c4, .int .i64 n], .slice ia il ic] W (DoneRef W (ext o w.heap.size (c + 1)) c 10 (.slice a1 n1 c1) (.slice a2 n2 c2) (.slice a3 n3 c3) (.slice a4 n4 c4) n r)) :
    Calls Try.prog 48 #[.agg #[.int .u8 10, .slice a1 n1 c1, .slice a2 n2 c2, .slice a3 n3 c3, .slice a4 n4 c4, .int .i64 n], .slice ia il ic] w (DoneRef w o c 10 (.slice a1 n1 c1) (.slice a2 n2 c2) (.slice a3 n3 c3) (.slice a4 n4 c4) n r) := by
  have HC := Lib.hid hc
  clear hc
  obtain ⟨A, hA⟩ : ∃ A, A = Obj.cells #[.int .u8 10, .slice a1 n1 c1, .slice a2 n2 c2, .slice a3 n3 c3, .slice a4 n4 c4, .int .i64 n] 48 := ⟨_, rfl⟩
  obtain ⟨B, hB⟩ : ∃ B, B = Obj.cells #[.int .u8 0, .slice none 0 0, .slice none 0 0, .slice none 0 0, .slice none 0 0, .int .i64 0] 48 := ⟨_, rfl⟩
  have hbW : Below w.heap.size w ((w.alloc A).alloc B) := (below_alloc w _).alloc (by simp) _
  have hB0 := heap_alloc_new (w.alloc A) B
  rw [World.size_alloc] at hB0
  subst hA hB
  have HBW := Lib.hid hbW
  have HB0 := Lib.hid hB0
  clear hbW hB0
  rcases r with _ | ⟨outs, keep'⟩
  · go_enter Try.func48, Try.ntmps48
    go_wp2_with fail
    refine (HC.out _ HBW.out).mono ?_
    rintro e w3 ⟨rfl, hb3⟩
    have hBB := block_mods HB0.out (Mods.of_below hb3 (fun _ => False)) (fun h => h)
    have q0 := cells_row _ _ hBB 0 _ rfl
    have q1 := cells_row _ _ hBB 1 _ rfl
    have q2 := cells_row _ _ hBB 2 _ rfl
    have q3 := cells_row _ _ hBB 3 _ rfl
    have q4 := cells_row _ _ hBB 4 _ rfl
    have q5 := cells_row _ _ hBB 5 _ rfl
    have r0 := frozen_of_block hBB 0
    have r1 := frozen_of_block hBB 1
    have r2 := frozen_of_block hBB 2
    have r3 := frozen_of_block hBB 3
    have r4 := frozen_of_block hBB 4
    have r5 := frozen_of_block hBB 5
    have HB3 := Lib.hid hb3
    have HBB := Lib.hid hBB
    clear hb3 hBB
    go_wp2
    have hBB := HBB.out
    have hK := block_setCell (block_setCell (block_setCell (block_setCell (block_setCell (block_setCell hBB 0 (.int .u8 10)) 1 (.slice a1 n1 c1)) 2 (.slice a2 n2 c2)) 3 (.slice a3 n3 c3)) 4 (.slice a4 n4 c4)) 5 (.int .i64 n)
    refine bodyPost_ret_by (results_row_tmp2 rfl _ _ _ _ _ _ _ rfl hK Try.underlying48 rfl (by kernel_rfl)) rfl ?_
    exact done_wrap_no HBW.out HB3.out (mods6 (Mods.refl _ _) rfl)
  · go_enter Try.func48, Try.ntmps48
    go_wp2_with fail
    refine (HC.out _ HBW.out).mono ?_
    rintro e w3 ⟨ov, vk', rfl, hk', ho, hb3⟩
    obtain ⟨ak, ck, rfl⟩ := hk'.slice
    obtain ⟨ao, co, rfl⟩ := ho.ll.slice
    have hBB := block_mods HB0.out (Mods.of_below hb3 (fun _ => False)) (fun h => h)
    have q0 := cells_row _ _ hBB 0 _ rfl
    have q1 := cells_row _ _ hBB 1 _ rfl
    have q2 := cells_row _ _ hBB 2 _ rfl
    have q3 := cells_row _ _ hBB 3 _ rfl
    have q4 := cells_row _ _ hBB 4 _ rfl
    have q5 := cells_row _ _ hBB 5 _ rfl
    have r0 := frozen_of_block hBB 0
    have r1 := frozen_of_block hBB 1
    have r2 := frozen_of_block hBB 2
    have r3 := frozen_of_block hBB 3
    have r4 := frozen_of_block hBB 4
    have r5 := frozen_of_block hBB 5
    have HB3 := Lib.hid hb3
    have HBB := Lib.hid hBB
    have HKP := Lib.hid hk'
    have HO := Lib.hid ho
    clear hb3 hBB hk' ho
    go_wp2
    have hBB := HBB.out
    have hK := block_setCell (block_setCell (block_setCell (block_setCell (block_setCell (block_setCell hBB 0 (.int .u8 10)) 1 (.slice a1 n1 c1)) 2 (.slice a2 n2 c2)) 3 (.slice a3 n3 c3)) 4 (.slice ak keep'.length ck)) 5 (.int .i64 n)
    refine bodyPost_ret_by (results_row_tmp2 rfl _ _ _ _ _ _ _ rfl hK Try.underlying48 rfl (by kernel_rfl)) rfl ?_
    exact done_wrap HBW.out (by simp) HB3.out HKP.out HO.out (mods6 (Mods.refl _ _) rfl)

end Go.Proofs.Ytknmiiajeafjpaa

/- The reference's done: a filter. -/
namespace Go.Proofs.Ytknmiiajeafjpaa
open Go.RowKit


theorem below_drew' {N : Nat} {w w' : World} (h : Below N w.drew w') : Below N w w' := ⟨h.os, h.tape, h.output, h.size, h.block⟩

set_option maxRecDepth 100000 in
set_option maxHeartbeats 2000000 in
theorem rdone_1 (w : World) (o : Col) (c : Nat) (a1 a2 a3 a4 : Option Addr) (n1 n2 n3 n4 c1 c2 c3 c4 : Nat) (insv : Value) (n x : Int) (ps keep : List Int)
    (hk : Has w (.slice a4 n4 c4) (ivs keep)) (hp : Has w (.slice a1 n1 c1) (ivs ps)) (hl : ps.length = keep.length + 1) (hl16 : ps.length ≤ 16) (hfp : ∀ z ∈ ps, Fits z) (hfk : ∀ z ∈ keep, Fits z) (hx : Fits x) (hins : LL w insv [[x]]) :
    Calls Try.prog 48 #[.agg #[.int .u8 1, .slice a1 n1 c1, .slice a2 n2 c2, .slice a3 n3 c3, .slice a4 n4 c4, .int .i64 n], insv] w (DoneRef w o c 1 (.slice a1 n1 c1) (.slice a2 n2 c2) (.slice a3 n3 c3) (.slice a4 n4 c4) n ((dotP 0 ps (x :: keep)).map fun y => ([[y]], (x :: keep).take keep.length))) := by
  obtain ⟨ia, ic, rfl⟩ := hins.slice
  obtain ⟨bi, oi, rfl, hci, hrow⟩ := hins.at (by simp)
  obtain ⟨a0, c0, hr0, hh0⟩ := hrow 0 (by simp)
  simp only [List.length_cons, List.length_nil, List.getElem?_cons_zero, Option.getD_some, Nat.add_zero, Nat.zero_add] at hr0 hh0 hci ⊢
  obtain ⟨b0, o0, rfl, -, hc0, -, -, hx0⟩ := Vals.at hh0 (by simp)
  have hx1 := hx0 0 (by simp)
  simp at hx1
  have hbi : bi < w.heap.size := World.block_lt_of_cell? _ _ hr0
  have hbo : b0 < w.heap.size := World.block_lt_of_cell? _ _ hx1
  have hci1 : (1 : Int) ≤ ic := by omega
  have hc01 : (1 : Int) ≤ c0 := by omega
  obtain ⟨r, hr⟩ : ∃ r, (dotP 0 ps (x :: keep)).map (fun y => ([[y]], (x :: keep).take keep.length)) = r := ⟨_, rfl⟩
  have HC := Lib.hid (fun (W : World) (hbW : Below w.heap.size w W) => rfilter_any W (ext o w.heap.size (c + 1)) c a1 a2 a3 a4 n1 n2 n3 n4 c1 c2 c3 c4 n x ps keep (hk.below hbW) (hp.below hbW) hl hl16 hfp hfk hx)
  rw [hr] at HC ⊢
  have S0 := six_new w (.int .u8 1) (.slice a1 n1 c1) (.slice a2 n2 c2) (.slice a3 n3 c3) (.slice a4 n4 c4) (.int .i64 n) 48
  obtain ⟨A, hA⟩ : ∃ A, A = Obj.cells #[.int .u8 1, .slice a1 n1 c1, .slice a2 n2 c2, .slice a3 n3 c3, .slice a4 n4 c4, .int .i64 n] 48 := ⟨_, rfl⟩
  obtain ⟨B, hB⟩ : ∃ B, B = Obj.cells #[.int .u8 0, .slice none 0 0, .slice none 0 0, .slice none 0 0, .slice none 0 0, .int .i64 0] 48 := ⟨_, rfl⟩
  have hbW : Below w.heap.size w ((w.alloc A).alloc B) := (below_alloc w _).alloc (by simp) _
  have hB0 := heap_alloc_new (w.alloc A) B
  rw [World.size_alloc] at hB0
  have H0 := Lib.hid (cell_later hbW hr0)
  have H1 := Lib.hid (cell_later hbW hx1)
  rw [← hA] at S0
  have HS := Lib.hid (S0.alloc B)
  subst hA hB
  have HBW := Lib.hid hbW
  have HB0 := Lib.hid hB0
  clear hbW hB0 hr hk hp hl hl16 hfp hfk hx hins hrow hr0 hh0 hx0 hx1 S0
  rcases r with _ | ⟨outs, keep'⟩
  · go_enter Try.func48, Try.ntmps48
    go_wp2_with fail
    refine wp_region_mid (fun w' => Six w' w.heap.size (.int .u8 1) (.slice a1 n1 c1) (.slice a2 n2 c2) (.slice a3 n3 c3) (.slice a4 n4 c4) (.int .i64 n) ∧ w'.cell? ⟨bi, oi, none⟩ = some (.slice (some ⟨b0, o0, none⟩) 1 c0) ∧ w'.cell? ⟨b0, o0, none⟩ = some (.int .i64 x)) [0, 1, 2, 3, 4, 5] 6 [7, 8, 9] [6, 10] 3 (by kernel_rfl) (by kernel_rfl) rfl ⟨HS.out, H0.out, H1.out⟩ ?_
    intro Q' hQ'
    simp only [pickOps, List.flatMap_cons, List.flatMap_nil, List.drop_succ_cons, List.drop_zero, List.take_succ_cons, List.take_zero, List.cons_append, List.nil_append, List.append_nil]
    repeat (first
      | (refine wpReads_skip (by rfl) ?_; (try simp only [Act.put, List.setIfInBounds_toArray, List.set_cons_zero, List.set_cons_succ]))
      | (refine wpReads_cons ?_ (by rfl) (by rfl) ?_ ?_; rotate_left; (intro wz hz; (try dsimp only at hz); go_simp; try with_reducible rfl); (try simp only [Act.put, List.setIfInBounds_toArray, List.set_cons_zero, List.set_cons_succ]))
      | (refine wpReads_any ?_ (by rfl) ?_ ?_; rotate_left; (intro wz; go_simp; try with_reducible rfl); (try simp only [Act.put, List.setIfInBounds_toArray, List.set_cons_zero, List.set_cons_succ])))
    refine wpReads_nil ?_
    go_wp2_with fail
    refine (HC.out _ (below_drew HBW.out)).mono ?_
    rintro e w3 ⟨rfl, hb3⟩
    have hb3' := below_drew' hb3
    have hBB := block_mods HB0.out (Mods.of_below hb3' (fun _ => False)) (fun h => h)
    have q0 := cells_row _ _ hBB 0 _ rfl
    have q1 := cells_row _ _ hBB 1 _ rfl
    have q2 := cells_row _ _ hBB 2 _ rfl
    have q3 := cells_row _ _ hBB 3 _ rfl
    have q4 := cells_row _ _ hBB 4 _ rfl
    have q5 := cells_row _ _ hBB 5 _ rfl
    have r0 := frozen_of_block hBB 0
    have r1 := frozen_of_block hBB 1
    have r2 := frozen_of_block hBB 2
    have r3 := frozen_of_block hBB 3
    have r4 := frozen_of_block hBB 4
    have r5 := frozen_of_block hBB 5
    have HB3 := Lib.hid hb3'
    have HBB := Lib.hid hBB
    have HBD := Lib.hid hb3
    clear hb3 hb3' hBB
    go_wp2
    refine ⟨⟨HS.out.below HB3.out, cell_later HB3.out H0.out, cell_later HB3.out H1.out⟩, ?_⟩
    repeat (first
      | (refine wpReads_skip (by rfl) ?_; (try simp only [Act.put, List.setIfInBounds_toArray, List.set_cons_zero, List.set_cons_succ]))
      | (refine wpReads_cons ?_ (by rfl) (by rfl) ?_ ?_; rotate_left; (intro wz hz; (try dsimp only at hz); go_simp; try with_reducible rfl); (try simp only [Act.put, List.setIfInBounds_toArray, List.set_cons_zero, List.set_cons_succ]))
      | (refine wpReads_any ?_ (by rfl) ?_ ?_; rotate_left; (intro wz; go_simp; try with_reducible rfl); (try simp only [Act.put, List.setIfInBounds_toArray, List.set_cons_zero, List.set_cons_succ])))
    refine wpReads_nil ?_
    refine wpAnyT_one (i := 10) (by kernel_rfl) ?_
    simp only [pickOps, List.flatMap_cons, List.flatMap_nil, List.drop_succ_cons, List.drop_zero, List.take_succ_cons, List.take_zero, List.cons_append, List.nil_append, List.append_nil]
    go_wp2
    refine ⟨fun _ hS => keep3 hS (by omega) (by show bi ≠ _; omega) (by show b0 ≠ _; omega), ?_⟩
    refine wpAnyT_list (ks := [11, 12]) (fun _ _ hx h => ⟨h.1.ext hx, hx.cell h.2.1, hx.cell h.2.2⟩) (by kernel_rfl) ?_
    simp only [pickOps, List.flatMap_cons, List.flatMap_nil, List.drop_succ_cons, List.drop_zero, List.take_succ_cons, List.take_zero, List.cons_append, List.nil_append, List.append_nil]
    go_wp2
    have hBB := HBB.out
    have hK := block_setCell (block_setCell (block_setCell (block_setCell (block_setCell (block_setCell hBB 0 (.int .u8 1)) 1 (.slice a1 n1 c1)) 2 (.slice a2 n2 c2)) 3 (.slice a3 n3 c3)) 4 (.slice a4 n4 c4)) 5 (.int .i64 n)
    refine bodyPost_ret_by (results_row_tmp2 rfl _ _ _ _ _ _ _ rfl hK Try.underlying48 rfl (by kernel_rfl)) rfl ?_
    exact done_wrap_no (below_drew HBW.out) HBD.out (mods6 (Mods.refl _ _) rfl)
  · go_enter Try.func48, Try.ntmps48
    go_wp2_with fail
    refine wp_region_mid (fun w' => Six w' w.heap.size (.int .u8 1) (.slice a1 n1 c1) (.slice a2 n2 c2) (.slice a3 n3 c3) (.slice a4 n4 c4) (.int .i64 n) ∧ w'.cell? ⟨bi, oi, none⟩ = some (.slice (some ⟨b0, o0, none⟩) 1 c0) ∧ w'.cell? ⟨b0, o0, none⟩ = some (.int .i64 x)) [0, 1, 2, 3, 4, 5] 6 [7, 8, 9] [6, 10] 3 (by kernel_rfl) (by kernel_rfl) rfl ⟨HS.out, H0.out, H1.out⟩ ?_
    intro Q' hQ'
    simp only [pickOps, List.flatMap_cons, List.flatMap_nil, List.drop_succ_cons, List.drop_zero, List.take_succ_cons, List.take_zero, List.cons_append, List.nil_append, List.append_nil]
    repeat (first
      | (refine wpReads_skip (by rfl) ?_; (try simp only [Act.put, List.setIfInBounds_toArray, List.set_cons_zero, List.set_cons_succ]))
      | (refine wpReads_cons ?_ (by rfl) (by rfl) ?_ ?_; rotate_left; (intro wz hz; (try dsimp only at hz); go_simp; try with_reducible rfl); (try simp only [Act.put, List.setIfInBounds_toArray, List.set_cons_zero, List.set_cons_succ]))
      | (refine wpReads_any ?_ (by rfl) ?_ ?_; rotate_left; (intro wz; go_simp; try with_reducible rfl); (try simp only [Act.put, List.setIfInBounds_toArray, List.set_cons_zero, List.set_cons_succ])))
    refine wpReads_nil ?_
    go_wp2_with fail
    refine (HC.out _ (below_drew HBW.out)).mono ?_
    rintro e w3 ⟨ov, vk', rfl, hk', ho, hb3⟩
    obtain ⟨ak, ck, rfl⟩ := hk'.slice
    obtain ⟨ao, co, rfl⟩ := ho.ll.slice
    have hb3' := below_drew' hb3
    have hBB := block_mods HB0.out (Mods.of_below hb3' (fun _ => False)) (fun h => h)
    have q0 := cells_row _ _ hBB 0 _ rfl
    have q1 := cells_row _ _ hBB 1 _ rfl
    have q2 := cells_row _ _ hBB 2 _ rfl
    have q3 := cells_row _ _ hBB 3 _ rfl
    have q4 := cells_row _ _ hBB 4 _ rfl
    have q5 := cells_row _ _ hBB 5 _ rfl
    have r0 := frozen_of_block hBB 0
    have r1 := frozen_of_block hBB 1
    have r2 := frozen_of_block hBB 2
    have r3 := frozen_of_block hBB 3
    have r4 := frozen_of_block hBB 4
    have r5 := frozen_of_block hBB 5
    have HB3 := Lib.hid hb3'
    have HBB := Lib.hid hBB
    have HBD := Lib.hid hb3
    have HKP := Lib.hid hk'
    have HO := Lib.hid ho
    clear hb3 hb3' hBB hk' ho
    go_wp2
    refine ⟨⟨HS.out.below HB3.out, cell_later HB3.out H0.out, cell_later HB3.out H1.out⟩, ?_⟩
    repeat (first
      | (refine wpReads_skip (by rfl) ?_; (try simp only [Act.put, List.setIfInBounds_toArray, List.set_cons_zero, List.set_cons_succ]))
      | (refine wpReads_cons ?_ (by rfl) (by rfl) ?_ ?_; rotate_left; (intro wz hz; (try dsimp only at hz); go_simp; try with_reducible rfl); (try simp only [Act.put, List.setIfInBounds_toArray, List.set_cons_zero, List.set_cons_succ]))
      | (refine wpReads_any ?_ (by rfl) ?_ ?_; rotate_left; (intro wz; go_simp; try with_reducible rfl); (try simp only [Act.put, List.setIfInBounds_toArray, List.set_cons_zero, List.set_cons_succ])))
    refine wpReads_nil ?_
    refine wpAnyT_one (i := 10) (by kernel_rfl) ?_
    simp only [pickOps, List.flatMap_cons, List.flatMap_nil, List.drop_succ_cons, List.drop_zero, List.take_succ_cons, List.take_zero, List.cons_append, List.nil_append, List.append_nil]
    go_wp2
    refine ⟨fun _ hS => keep3 hS (by omega) (by show bi ≠ _; omega) (by show b0 ≠ _; omega), ?_⟩
    refine wpAnyT_list (ks := [11, 12]) (fun _ _ hx h => ⟨h.1.ext hx, hx.cell h.2.1, hx.cell h.2.2⟩) (by kernel_rfl) ?_
    simp only [pickOps, List.flatMap_cons, List.flatMap_nil, List.drop_succ_cons, List.drop_zero, List.take_succ_cons, List.take_zero, List.cons_append, List.nil_append, List.append_nil]
    go_wp2
    have hBB := HBB.out
    have hK := block_setCell (block_setCell (block_setCell (block_setCell (block_setCell (block_setCell hBB 0 (.int .u8 1)) 1 (.slice a1 n1 c1)) 2 (.slice a2 n2 c2)) 3 (.slice a3 n3 c3)) 4 (.slice ak keep'.length ck)) 5 (.int .i64 n)
    refine bodyPost_ret_by (results_row_tmp2 rfl _ _ _ _ _ _ _ rfl hK Try.underlying48 rfl (by kernel_rfl)) rfl ?_
    exact done_wrap (below_drew HBW.out) (by simp) HBD.out HKP.out HO.out (mods6 (Mods.refl _ _) rfl)
end Go.Proofs.Ytknmiiajeafjpaa

/- The reference's Fire. -/
namespace Go.Proofs.Ytknmiiajeafjpaa
open Go.RowKit

/-- what holds of an actor's plain data -/
structure Kp (t : Int) (ps keep : List Int) : Prop where
  good : goodP t ps
  fitp : ∀ x ∈ ps, Fits x
  fitk : ∀ x ∈ keep, Fits x
  taps : t = 1 → ps.length = keep.length + 1
  keep1 : t = 8 ∨ t = 10 → keep.length = 1

theorem Act.kp {w : World} {o : Col} {c d b : Nat} {t : Int} {ps keep : List Int} {n : Int} (h : Act w o c d b t ps keep n) : Kp t ps keep := by
  obtain ⟨K, vi, vo, vt, vs, h⟩ := h
  exact ⟨h.good, h.fitp, h.fitk, fun e => (h.taps e).2.2, h.keep1⟩
theorem Act.fitn {w : World} {o : Col} {c d b : Nat} {t : Int} {ps keep : List Int} {n : Int} (h : Act w o c d b t ps keep n) : Fits n := by
  obtain ⟨K, vi, vo, vt, vs, h⟩ := h
  exact h.fitn

theorem ps_one {ps : List Int} (h : ps.length = 1) : ps = [hd ps] := one_num (by omega)
theorem ps_two {ps : List Int} (h : ps.length = 2) : ps = [hd ps, hd1 ps] := by
  match ps, h with
  | [x, y], _ => rfl

set_option maxHeartbeats 1000000 in
theorem rdone_any {w : World} {o : Col} {c : Nat} {t n : Int} {vp vi vo vk insv : Value} {ps keep : List Int} {xss : List (List Int)} {li lo : List Int} (hK : Kp t ps keep) (hp : Has w vp (ivs ps)) (hvi : Has w vi (ivs li)) (hvo : Has w vo (ivs lo)) (hk : Ints w o c vk keep) (hins : LL w insv xss)
    (hlen : xss.map (fun l => (l.length : Int)) = insP t ps) (hf : ∀ l ∈ xss, ∀ x ∈ l, Fits x) :
    Calls Try.prog 48 #[.agg #[.int .u8 t, vp, vi, vo, vk, .int .i64 n], insv] w (DoneRef w o c t vp vi vo vk n (reckP t ps keep xss)) := by
  obtain ⟨a1, c1, rfl⟩ := hp.slice
  obtain ⟨a2, c2, rfl⟩ := hvi.slice
  obtain ⟨a3, c3, rfl⟩ := hvo.slice
  obtain ⟨a4, c4, rfl⟩ := hk.slice
  obtain ⟨ia, ic, rfl⟩ := hins.slice
  have hg := hK.good
  rcases goodP_cases hg with rfl | rfl | rfl | rfl | rfl | rfl | rfl | rfl | rfl | rfl | rfl
  · obtain ⟨l, rfl, hl⟩ := one_row hlen
    obtain ⟨x, rfl⟩ : ∃ x, l = [x] := ⟨_, one_num hl⟩
    have hg1 : 1 ≤ ps.length ∧ ps.length ≤ 16 := by unfold goodP at hg; omega
    exact rdone_1 w o c a1 a2 a3 a4 _ _ _ _ c1 c2 c3 c4 _ n x ps keep hk.has hp (hK.taps rfl) hg1.2 hK.fitp hK.fitk (hf [x] (by simp) x (by simp)) hins
  · have h1 : oneP ps 64 := by simpa [goodP] using hg
    obtain ⟨l, rfl, hl⟩ := one_row hlen
    obtain ⟨x, rfl⟩ : ∃ x, l = [x] := ⟨_, one_num hl⟩
    obtain ⟨u, hu⟩ : ∃ u : Nat, hd ps = u := ⟨(hd ps).toNat, by have := h1.2; omega⟩
    have hu2 := h1.2
    rw [hu] at hu2
    have hps := ps_one h1.1
    rw [hu] at hps
    have e : reckP 2 ps keep [[x]] = some ([x :: List.replicate (u - 1) 0], keep) := by
      show some ([x :: List.replicate ((hd ps).toNat - 1) 0], keep) = _
      rw [hu, Int.toNat_natCast]
    rw [e]
    exact rdone_2 w o c a1 a2 a3 a4 _ _ _ _ c1 c2 c3 c4 _ n x u keep hk (by rw [hps] at hp ⊢; exact hp) hins (by omega) (by omega)
  · obtain ⟨l, rfl, hl⟩ := one_row hlen
    have h1 : oneP ps 64 := by simpa [goodP] using hg
    exact rdone_3 w o c a1 a2 a3 a4 _ _ _ _ c1 c2 c3 c4 _ n l keep hk hins (by have := h1.2; omega)
  · have h1 : pairP ps := by simpa [goodP] using hg
    obtain ⟨h2, h3, h4, h5⟩ := h1
    obtain ⟨u, hu⟩ : ∃ u : Nat, hd ps = u := ⟨(hd ps).toNat, by omega⟩
    obtain ⟨m, hm⟩ : ∃ u : Nat, hd1 ps = u := ⟨(hd1 ps).toNat, by omega⟩
    have hps := ps_two h2
    rw [hu, hm] at hps
    have hlen' : xss.map (fun l => (l.length : Int)) = List.replicate u (m : Int) := by rw [hlen]; simp [insP, hu, hm]
    have hxl : xss.length = u := by have := congrArg List.length hlen'; simpa using this
    have hall : ∀ l ∈ xss, l.length = m := fun l hl => by
      have : (l.length : Int) ∈ xss.map (fun l => (l.length : Int)) := List.mem_map.2 ⟨l, hl, rfl⟩
      rw [hlen'] at this
      have := (List.mem_replicate.1 this).2
      omega
    have e : reckP 4 ps keep xss = some ([weaveP xss m], keep) := by
      show some ([weaveP xss (hd1 ps).toNat], keep) = _
      rw [hm, Int.toNat_natCast]
    rw [e]
    exact rdone_4 w o c a1 a2 a3 a4 _ _ _ _ c1 c2 c3 c4 _ n u m keep xss hk (by rw [hps] at hp ⊢; exact hp) hins (by omega) (by omega) hxl hall
  · have h1 : pairP ps := by simpa [goodP] using hg
    obtain ⟨h2, h3, h4, h5⟩ := h1
    obtain ⟨u, hu⟩ : ∃ u : Nat, hd ps = u := ⟨(hd ps).toNat, by omega⟩
    obtain ⟨m, hm⟩ : ∃ u : Nat, hd1 ps = u := ⟨(hd1 ps).toNat, by omega⟩
    obtain ⟨l, rfl, hl⟩ := one_row hlen
    have hps := ps_two h2
    rw [hu, hm] at hps
    have e : reckP 5 ps keep [l] = some (partP u m l, keep) := by
      show some (partP (hd ps).toNat (hd1 ps).toNat l, keep) = _
      rw [hu, hm, Int.toNat_natCast, Int.toNat_natCast]
    rw [e]
    exact rdone_5 w o c a1 a2 a3 a4 _ _ _ _ c1 c2 c3 c4 _ n u m keep l hk (by rw [hps] at hp ⊢; exact hp) hins (by omega) (by omega) (by rw [hu, hm] at hl; exact_mod_cast hl)
  · have h1 : oneP ps 16 := by simpa [goodP] using hg
    have hlen' : xss.map (fun l => (l.length : Int)) = List.replicate (hd ps).toNat 1 := hlen
    have hxl : xss.length = (hd ps).toNat := by have := congrArg List.length hlen'; simpa using this
    have hall : ∀ l ∈ xss, l.length = 1 := fun l hl => by
      have : (l.length : Int) ∈ xss.map (fun l => (l.length : Int)) := List.mem_map.2 ⟨l, hl, rfl⟩
      rw [hlen'] at this
      have := (List.mem_replicate.1 this).2
      omega
    exact rdone_gen_6 w o c a1 a2 a3 a4 _ _ _ _ c1 c2 c3 c4 ia _ ic n _ (fun W hb => rreck_6 W _ c a1 a2 a3 a4 _ _ _ _ c1 c2 c3 c4 _ n keep xss (hk.turn (Turn.of_below o (c + 1) hb) (fun h => h)) (hins.below hb) hall (by have := h1.2; omega) hf)
  · obtain ⟨x, y, rfl⟩ := two_rows hlen
    exact rdone_gen_7 w o c a1 a2 a3 a4 _ _ _ _ c1 c2 c3 c4 ia _ ic n _ (fun W hb => rreck_7 W _ c a1 a2 a3 a4 _ _ _ _ c1 c2 c3 c4 _ n x y keep (hk.turn (Turn.of_below o (c + 1) hb) (fun h => h)) (hins.below hb) (hf [x] (by simp) x (by simp)) (hf [y] (by simp) y (by simp)))
  · obtain ⟨l, rfl, hl⟩ := one_row hlen
    obtain ⟨x, rfl⟩ : ∃ x, l = [x] := ⟨_, one_num hl⟩
    have hkk : keep = [hd keep] := one_num (by have := hK.keep1 (.inl rfl); omega)
    have hfk : Fits (hd keep) := hK.fitk _ (by rw [hkk]; exact List.mem_cons_self)
    exact rdone_gen_8 w o c a1 a2 a3 a4 _ _ _ _ c1 c2 c3 c4 ia _ ic n _ (fun W hb => rreck_8 W _ c a1 a2 a3 a4 _ _ _ _ c1 c2 c3 c4 _ n x (hd keep) (by rw [← hkk]; exact hk.turn (Turn.of_below o (c + 1) hb) (fun h => h)) (hins.below hb) (hf [x] (by simp) x (by simp)) hfk)
  · have h1 : oneP ps 16 := by simpa [goodP] using hg
    obtain ⟨l, rfl, hl⟩ := one_row hlen
    obtain ⟨x, rfl⟩ : ∃ x, l = [x] := ⟨_, one_num hl⟩
    obtain ⟨u, hu⟩ : ∃ u : Nat, hd ps = u := ⟨(hd ps).toNat, by have := h1.2; omega⟩
    have hu2 := h1.2
    rw [hu] at hu2
    have hps := ps_one h1.1
    rw [hu] at hps
    have e : reckP 9 ps keep [[x]] = some (List.replicate u [x], keep) := by
      show some (List.replicate (hd ps).toNat [x], keep) = _
      rw [hu, Int.toNat_natCast]
    rw [e]
    exact rdone_9 w o c a1 a2 a3 a4 _ _ _ _ c1 c2 c3 c4 _ n x u keep hk (by rw [hps] at hp ⊢; exact hp) hins (by omega)
  · have h2 : ps.length = 2 := by unfold goodP at hg; omega
    have hfp : Fits (hd1 ps) := hK.fitp _ (by unfold hd1; rw [List.getElem?_eq_getElem (by omega), Option.getD_some]; exact List.getElem_mem _)
    have hkk : keep = [hd keep] := one_num (by have := hK.keep1 (.inr rfl); omega)
    have hfk : Fits (hd keep) := hK.fitk _ (by rw [hkk]; exact List.mem_cons_self)
    exact rdone_gen_10 w o c a1 a2 a3 a4 _ _ _ _ c1 c2 c3 c4 ia _ ic n _ (fun W hb => rreck_10 W _ c a1 a2 a3 a4 _ _ _ _ c1 c2 c3 c4 _ n (hd ps) (hd1 ps) (hd keep) (by rw [← hkk]; exact hk.turn (Turn.of_below o (c + 1) hb) (fun h => h)) (by rw [← ps_two h2]; exact hp.below hb) hfp hfk)
  · exact rdone_11 w o c a1 a2 a3 a4 _ _ _ _ c1 c2 c3 c4 _ n keep hk

/-- the reference's actor, in memory of colour c -/
def RAct (w : World) (o : Col) (c : Nat) (v : Value) (t : Int) (ps keep : List Int) (n : Int) : Prop :=
  ∃ vp vi vo vk, v = .agg #[.int .u8 t, vp, vi, vo, vk, .int .i64 n] ∧ Ints w o c vp ps ∧ Ints w o c vi (insP t ps) ∧ Ints w o c vo (outsP t ps) ∧ Ints w o c vk keep
theorem RAct.turn {w w' : World} {o o' : Col} {C : Nat → Prop} {c : Nat} {v : Value} {t : Int} {ps keep : List Int} {n : Int} (h : RAct w o c v t ps keep n) (T : Turn o o' C w w') (hc : ¬ C c) : RAct w' o' c v t ps keep n := by
  obtain ⟨vp, vi, vo, vk, h0, h1, h2, h3, h4⟩ := h
  exact ⟨vp, vi, vo, vk, h0, h1.turn T hc, h2.turn T hc, h3.turn T hc, h4.turn T hc⟩

/-- what the reference's 'Fire' answers -/
def RFired (w : World) (o : Col) (c : Nat) (v : Value) (t : Int) (ps : List Int) (n : Int) (fit : Bool) (r : Option (List (List Int) × List Int)) (e : Ending) (w' : World) : Prop :=
  match fit, r with
  | false, _ => e = .returned (.tuple #[v, .slice none 0 0, .int .i64 1]) ∧ Below w.heap.size w w'
  | true, none => e = .returned (.tuple #[v, .slice none 0 0, .int .i64 70]) ∧ Below w.heap.size w w'
  | true, some (outs, keep') => ∃ v' ov, e = .returned (.tuple #[v', ov, .int .i64 0]) ∧ RAct w' (ext o w.heap.size c) c v' t ps keep' (n + 1) ∧ LLc w' (ext o w.heap.size c) c ov outs ∧ Below w.heap.size w w'


theorem rfire_fin {w w3 w4 w5 : World} {o : Col} {c : Nat} {t n : Int} {vp vi vo vk' ov v : Value} {ps keep' : List Int} {outs : List (List Int)} (h1 : Ints w o c vp ps) (h2 : Ints w o c vi (insP t ps)) (h3 : Ints w o c vo (outsP t ps))
    (hb3 : Below w.heap.size w w3) (hs : w.heap.size + 2 ≤ w3.heap.size) (hb4 : Below w3.heap.size w3 w4) (hk : Ints w4 (ext (ext o w.heap.size (c + 1)) w3.heap.size c) c vk' keep') (ho : LLc w4 (ext (ext o w.heap.size (c + 1)) w3.heap.size c) c ov outs) (hM : Mods (fun k => k = w.heap.size + 1) w4 w5) :
    RFired w o c v t ps n true (some (outs, keep')) (.returned (.tuple #[.agg #[.int .u8 t, vp, vi, vo, vk', .int .i64 (n + 1)], ov, .int .i64 0])) w5 := by
  have hb := hb3.trans (hb4.mono hb3.size)
  have hB : Below w.heap.size w w5 := hb.trans (hM.below hb.size (fun k hk e => by omega))
  have T : Turn (ext (ext o w.heap.size (c + 1)) w3.heap.size c) (ext (ext o w.heap.size (c + 1)) w3.heap.size c) (fun x => x = c + 1) w4 w5 := ⟨hM.mono (fun k _ e => by
    subst e
    rw [ext_old (by omega), ext_new (by omega)]), fun _ _ => rfl⟩
  have hc : ∀ k, k < w5.heap.size → ext (ext o w.heap.size (c + 1)) w3.heap.size c k = c → ext o w.heap.size c k = c := fun k _ e => by
    by_cases h : k < w.heap.size
    · rw [ext_old (by omega), ext_old h] at e
      rw [ext_old h]; exact e
    · exact ext_new (by omega)
  have T0 := Turn.of_below o c hB
  exact ⟨_, ov, rfl, ⟨vp, vi, vo, vk', rfl, h1.turn T0 (fun h => h), h2.turn T0 (fun h => h), h3.turn T0 (fun h => h), (hk.turn T (by omega)).recol hc⟩, (ho.turn T (by omega)).recol hc, hB⟩

/-- Fire out of the contracts of fits and done -/
theorem rfire_gen (w : World) (o : Col) (c : Nat) (t n : Int) (a1 a2 a3 a4 : Option Addr) (m1 m2 m3 m4 c1 c2 c3 c4 : Nat) (ia : Option Addr) (il ic : Nat) (ps keep : List Int) (fit : Bool) (r : Option (List (List Int) × List Int)) (hn1 : Fits (n + 1))
    (h1 : Ints w o c (.slice a1 m1 c1) ps) (h2 : Ints w o c (.slice a2 m2 c2) (insP t ps)) (h3 : Ints w o c (.slice a3 m3 c3) (outsP t ps))
    (hfits : ∀ W, Below w.heap.size w W → Calls Try.prog 47 #[.agg #[.int .u8 t, .slice a1 m1 c1, .slice a2 m2 c2, .slice a3 m3 c3, .slice a4 m4 c4, .int .i64 n], .slice ia il ic] W fun e w' => e = .returned (.bool fit) ∧ Below W.heap.size W w')
    (hdone : fit = true → ∀ W, Below w.heap.size w W → Calls Try.prog 48 #[.agg #[.int .u8 t, .slice a1 m1 c1, .slice a2 m2 c2, .slice a3 m3 c3, .slice a4 m4 c4, .int .i64 n], .slice ia il ic] W (DoneRef W (ext o w.heap.size (c + 1)) c t (.slice a1 m1 c1) (.slice a2 m2 c2) (.slice a3 m3 c3) (.slice a4 m4 c4) n r)) :
    Calls Try.prog 40 #[.agg #[.int .u8 t, .slice a1 m1 c1, .slice a2 m2 c2, .slice a3 m3 c3, .slice a4 m4 c4, .int .i64 n], .slice ia il ic] w (RFired w o c (.agg #[.int .u8 t, .slice a1 m1 c1, .slice a2 m2 c2, .slice a3 m3 c3, .slice a4 m4 c4, .int .i64 n]) t ps n fit r) := by
  have HF := Lib.hid hfits
  have HD := Lib.hid hdone
  have H1 := Lib.hid h1
  have H2 := Lib.hid h2
  have H3 := Lib.hid h3
  have HN1 := Lib.hid hn1
  clear hfits hdone h1 h2 h3 hn1
  obtain ⟨A, hA⟩ : ∃ A, A = Obj.cells #[.int .u8 t, .slice a1 m1 c1, .slice a2 m2 c2, .slice a3 m3 c3, .slice a4 m4 c4, .int .i64 n] 48 := ⟨_, rfl⟩
  obtain ⟨B, hB⟩ : ∃ B, B = Obj.cells #[.int .u8 0, .slice none 0 0, .slice none 0 0, .slice none 0 0, .slice none 0 0, .int .i64 0] 48 := ⟨_, rfl⟩
  have hbW : Below w.heap.size w ((w.alloc A).alloc B) := (below_alloc w _).alloc (by simp) _
  have hB0 := heap_alloc_new (w.alloc A) B
  have hA0 := block_alloc (heap_alloc_new w A) B
  rw [World.size_alloc] at hB0
  subst hA hB
  have HBW := Lib.hid hbW
  have HB0 := Lib.hid hB0
  have HA0 := Lib.hid hA0
  clear hbW hB0 hA0
  cases fit with
  | false =>
    go_enter Try.func40, Try.ntmps40
    go_wp2_with fail
    refine (HF.out _ HBW.out).mono ?_
    rintro e w3 ⟨rfl, hb3⟩
    have hBB := block_mods HB0.out (Mods.of_below hb3 (fun _ => False)) (fun h => h)
    have hAA := block_mods HA0.out (Mods.of_below hb3 (fun _ => False)) (fun h => h)
    have q0 := cells_row _ _ hBB 0 _ rfl
    have q1 := cells_row _ _ hBB 1 _ rfl
    have q2 := cells_row _ _ hBB 2 _ rfl
    have q3 := cells_row _ _ hBB 3 _ rfl
    have q4 := cells_row _ _ hBB 4 _ rfl
    have q5 := cells_row _ _ hBB 5 _ rfl
    have r0 := frozen_of_block hBB 0
    have r1 := frozen_of_block hBB 1
    have r2 := frozen_of_block hBB 2
    have r3 := frozen_of_block hBB 3
    have r4 := frozen_of_block hBB 4
    have r5 := frozen_of_block hBB 5
    have s0 := cells_row _ _ hAA 0 (.int .u8 t) rfl
    have s1 := cells_row _ _ hAA 1 (.slice a1 m1 c1) rfl
    have s2 := cells_row _ _ hAA 2 (.slice a2 m2 c2) rfl
    have s3 := cells_row _ _ hAA 3 (.slice a3 m3 c3) rfl
    have s4 := cells_row _ _ hAA 4 (.slice a4 m4 c4) rfl
    have s5 := cells_row _ _ hAA 5 (.int .i64 n) rfl
    have HB3 := Lib.hid hb3
    have HBB := Lib.hid hBB
    clear hb3 hBB hAA
    go_wp2
    have hBB := HBB.out
    have hK := block_setCell (block_setCell (block_setCell (block_setCell (block_setCell (block_setCell hBB 0 (.int .u8 t)) 1 (.slice a1 m1 c1)) 2 (.slice a2 m2 c2)) 3 (.slice a3 m3 c3)) 4 (.slice a4 m4 c4)) 5 (.int .i64 n)
    refine bodyPost_ret_by (results_row_tmp2 rfl _ _ _ _ _ _ _ rfl hK Try.underlying48 rfl (by kernel_rfl)) rfl ?_
    have hb := HBW.out.trans (HB3.out.mono HBW.out.size)
    exact ⟨rfl, hb.trans ((mods6 (Mods.refl (fun k => k = w.heap.size + 1) w3) rfl).below hb.size (fun k hk e => by omega))⟩
  | true =>
    rcases r with _ | ⟨outs, keep'⟩
    · go_enter Try.func40, Try.ntmps40
      go_wp2_with fail
      refine (HF.out _ HBW.out).mono ?_
      rintro e w3 ⟨rfl, hb3⟩
      have hAA := block_mods HA0.out (Mods.of_below hb3 (fun _ => False)) (fun h => h)
      have s0 := cells_row _ _ hAA 0 (.int .u8 t) rfl
      have s1 := cells_row _ _ hAA 1 (.slice a1 m1 c1) rfl
      have s2 := cells_row _ _ hAA 2 (.slice a2 m2 c2) rfl
      have s3 := cells_row _ _ hAA 3 (.slice a3 m3 c3) rfl
      have s4 := cells_row _ _ hAA 4 (.slice a4 m4 c4) rfl
      have s5 := cells_row _ _ hAA 5 (.int .i64 n) rfl
      have HB3 := Lib.hid hb3
      have HAA := Lib.hid hAA
      have HBW3 := Lib.hid (HBW.out.trans (hb3.mono HBW.out.size))
      clear hb3 hAA
      go_wp2_with fail
      refine (HD.out (by first | rfl | trivial) _ HBW3.out).mono ?_
      rintro e w4 ⟨rfl, hb4⟩
      clear s0 s1 s2 s3 s4 s5
      have hB4 := block_mods (block_mods HB0.out (Mods.of_below HB3.out (fun _ => False)) (fun h => h)) (Mods.of_below hb4 (fun _ => False)) (fun h => h)
      have hBB := block_alloc hB4 (.cells #[.int .u8 t, .slice a1 m1 c1, .slice a2 m2 c2, .slice a3 m3 c3, .slice a4 m4 c4, .int .i64 n] 48)
      have hAA := block_alloc (block_mods HAA.out (Mods.of_below hb4 (fun _ => False)) (fun h => h)) (.cells #[.int .u8 t, .slice a1 m1 c1, .slice a2 m2 c2, .slice a3 m3 c3, .slice a4 m4 c4, .int .i64 n] 48)
      have q0 := cells_row _ _ hBB 0 _ rfl
      have q1 := cells_row _ _ hBB 1 _ rfl
      have q2 := cells_row _ _ hBB 2 _ rfl
      have q3 := cells_row _ _ hBB 3 _ rfl
      have q4 := cells_row _ _ hBB 4 _ rfl
      have q5 := cells_row _ _ hBB 5 _ rfl
      have r0 := frozen_of_block hBB 0
      have r1 := frozen_of_block hBB 1
      have r2 := frozen_of_block hBB 2
      have r3 := frozen_of_block hBB 3
      have r4 := frozen_of_block hBB 4
      have r5 := frozen_of_block hBB 5
      have s0 := cells_row _ _ hAA 0 (.int .u8 t) rfl
      have s1 := cells_row _ _ hAA 1 (.slice a1 m1 c1) rfl
      have s2 := cells_row _ _ hAA 2 (.slice a2 m2 c2) rfl
      have s3 := cells_row _ _ hAA 3 (.slice a3 m3 c3) rfl
      have s4 := cells_row _ _ hAA 4 (.slice a4 m4 c4) rfl
      have s5 := cells_row _ _ hAA 5 (.int .i64 n) rfl
      have HBB := Lib.hid hBB
      have HBW4 := Lib.hid (HBW3.out.trans (hb4.mono HBW3.out.size))
      clear hb4 hBB hAA hB4
      go_wp2
      have hBB := HBB.out
      have hK := block_setCell (block_setCell (block_setCell (block_setCell (block_setCell (block_setCell hBB 0 (.int .u8 t)) 1 (.slice a1 m1 c1)) 2 (.slice a2 m2 c2)) 3 (.slice a3 m3 c3)) 4 (.slice a4 m4 c4)) 5 (.int .i64 n)
      refine bodyPost_ret_by (results_row_tmp2 rfl _ _ _ _ _ _ _ rfl hK Try.underlying48 rfl (by kernel_rfl)) rfl ?_
      have hb := HBW4.out.alloc HBW4.out.size (.cells #[.int .u8 t, .slice a1 m1 c1, .slice a2 m2 c2, .slice a3 m3 c3, .slice a4 m4 c4, .int .i64 n] 48)
      exact ⟨rfl, hb.trans ((mods6 (Mods.refl (fun k => k = w.heap.size + 1) _) rfl).below hb.size (fun k hk e => by omega))⟩
    · go_enter Try.func40, Try.ntmps40
      go_wp2_with fail
      refine (HF.out _ HBW.out).mono ?_
      rintro e w3 ⟨rfl, hb3⟩
      have hAA := block_mods HA0.out (Mods.of_below hb3 (fun _ => False)) (fun h => h)
      have s0 := cells_row _ _ hAA 0 (.int .u8 t) rfl
      have s1 := cells_row _ _ hAA 1 (.slice a1 m1 c1) rfl
      have s2 := cells_row _ _ hAA 2 (.slice a2 m2 c2) rfl
      have s3 := cells_row _ _ hAA 3 (.slice a3 m3 c3) rfl
      have s4 := cells_row _ _ hAA 4 (.slice a4 m4 c4) rfl
      have s5 := cells_row _ _ hAA 5 (.int .i64 n) rfl
      have HB3 := Lib.hid hb3
      have HAA := Lib.hid hAA
      have HBW3 := Lib.hid (HBW.out.trans (hb3.mono HBW.out.size))
      clear hb3 hAA
      go_wp2_with fail
      refine (HD.out (by first | rfl | trivial) _ HBW3.out).mono ?_
      rintro e w4 ⟨ov, vk', rfl, hk', ho, hb4⟩
      obtain ⟨ak, ck, rfl⟩ := hk'.slice
      obtain ⟨ao, co, rfl⟩ := ho.ll.slice
      clear s0 s1 s2 s3 s4 s5
      have hn1 := HN1.out
      unfold Fits at hn1
      have hw1 : wrap64 (n + 1) = n + 1 := IntWalk.wrap64_in _ hn1
      clear hn1
      have hB4 := block_mods (block_mods HB0.out (Mods.of_below HB3.out (fun _ => False)) (fun h => h)) (Mods.of_below hb4 (fun _ => False)) (fun h => h)
      have hBB := block_alloc hB4 (.cells #[.int .u8 t, .slice a1 m1 c1, .slice a2 m2 c2, .slice a3 m3 c3, .slice ak keep'.length ck, .int .i64 (n + 1)] 48)
      have q0 := cells_row _ _ hBB 0 _ rfl
      have q1 := cells_row _ _ hBB 1 _ rfl
      have q2 := cells_row _ _ hBB 2 _ rfl
      have q3 := cells_row _ _ hBB 3 _ rfl
      have q4 := cells_row _ _ hBB 4 _ rfl
      have q5 := cells_row _ _ hBB 5 _ rfl
      have r0 := frozen_of_block hBB 0
      have r1 := frozen_of_block hBB 1
      have r2 := frozen_of_block hBB 2
      have r3 := frozen_of_block hBB 3
      have r4 := frozen_of_block hBB 4
      have r5 := frozen_of_block hBB 5
      have HBB := Lib.hid hBB
      have HB4 := Lib.hid hb4
      have HKP := Lib.hid hk'
      have HO := Lib.hid ho
      have HBW4 := Lib.hid (HBW3.out.trans (hb4.mono HBW3.out.size))
      have HSZ := Lib.hid (show w.heap.size + 2 ≤ w3.heap.size by have := HB3.out.size; simpa using this)
      clear hb4 hBB hB4 hk' ho
      go_wp2
      have hBB := HBB.out
      have hK := block_setCell (block_setCell (block_setCell (block_setCell (block_setCell (block_setCell hBB 0 (.int .u8 t)) 1 (.slice a1 m1 c1)) 2 (.slice a2 m2 c2)) 3 (.slice a3 m3 c3)) 4 (.slice ak keep'.length ck)) 5 (.int .i64 (n + 1))
      refine bodyPost_ret_by (results_row_tmp2 rfl _ _ _ _ _ _ _ rfl hK Try.underlying48 rfl (by kernel_rfl)) rfl ?_
      exact rfire_fin H1.out H2.out H3.out HBW3.out HSZ.out HB4.out HKP.out HO.out (mods6 ((Mods.refl (fun k => k = w.heap.size + 1) w4).alloc _) rfl)

theorem rfire_any {w : World} {o : Col} {c : Nat} {v insv : Value} {t n : Int} {ps keep : List Int} {xss : List (List Int)} (hK : Kp t ps keep) (h : RAct w o c v t ps keep n) (hins : LL w insv xss) (hf : ∀ l ∈ xss, ∀ x ∈ l, Fits x) (hn1 : Fits (n + 1)) :
    Calls Try.prog 40 #[v, insv] w (RFired w o c v t ps n (decide (xss.map (fun l => (l.length : Int)) = insP t ps)) (reckP t ps keep xss)) := by
  obtain ⟨vp, vi, vo, vk, rfl, h1, h2, h3, h4⟩ := h
  obtain ⟨a1, c1, rfl⟩ := h1.slice
  obtain ⟨a2, c2, rfl⟩ := h2.slice
  obtain ⟨a3, c3, rfl⟩ := h3.slice
  obtain ⟨a4, c4, rfl⟩ := h4.slice
  obtain ⟨ia, ic, rfl⟩ := hins.slice
  refine rfire_gen w o c t n a1 a2 a3 a4 _ _ _ _ c1 c2 c3 c4 ia _ ic ps keep _ _ hn1 h1 h2 h3 (fun W hb => rfits_any W t n _ _ _ _ _ xss (insP t ps) (rates_len hK.good).1 (h2.has.below hb) (hins.below hb)) (fun hfit W hb => ?_)
  exact rdone_any hK (h1.has.below hb) (h2.has.below hb) (h3.has.below hb) (h4.turn (Turn.of_below o (c + 1) hb) (fun h => h)) (hins.below hb) (of_decide_eq_true hfit) hf
end Go.Proofs.Ytknmiiajeafjpaa
