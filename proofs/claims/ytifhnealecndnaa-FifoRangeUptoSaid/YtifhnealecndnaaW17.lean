/- A range over a queue tells what was there when it began: walked. -/
import Derived.Test.YtifhnealecndnaaW16
import Derived.Test.YtifhnealecndnaaLexIn
namespace Go.Proofs.Ytifhnealecndnaa
open Go.RowKit Go.Shelf
attribute [local go_sem] Oper.semAt_some

set_option maxHeartbeats 400000 in
theorem range_neg (w : World) (C st : Int) (ao : Option Addr) (n c : Nat) (po : Option Addr) (pn pc : Nat) (h : C < 0) :
    Calls Try.prog 6 #[.agg #[.int .i64 C, .slice ao n c, .slice po pn pc, .int .i64 st]] w fun e w' => e = .returned (.bool true) ∧ Below w.heap.size w w' := by
  go_enter Try.func6, Try.ntmps6
  go_wp2_with fail
  refine (iq_new_no _ C _ h).mono ?_
  rintro e w1 ⟨rfl, rfl⟩
  go_wp2_with fail
  refine (awake_yes _).mono ?_
  rintro e w3 ⟨rfl, hb⟩
  go_wp2
  go_ret
  refine ⟨rfl, Below.trans ?_ (hb.mono (by simp; omega))⟩
  repeat (first | exact Below.refl _ _ | refine Below.setCell ?_ (by simp) _ | refine Below.alloc ?_ (by first | (simp; done) | (simp; omega)) _)

set_option maxRecDepth 100000 in
set_option maxHeartbeats 4000000 in
theorem range_in (w : World) (C st : Int) (zs ps : List Int) (ao : Option Addr) (zc : Nat) (po : Option Addr) (pc : Nat) (hC : 0 ≤ C) (hC' : C ≤ 9223372036854775807) (hz : zs.length ≤ 9000000000000) (hp : ps.length ≤ 18000000000000)
    (hnone : ao = none → zs.length = 0) (hcz : ∀ ad, ao = some ad → ∀ j u, (zs.map (Value.int .i64))[j]? = some u → w.cell? (ad.add j) = some u)
    (hcp : ∀ k, k < ps.length → ∃ bx off, po = some ⟨bx, off, none⟩ ∧ bx < w.heap.size ∧ w.cell? ⟨bx, off + k, none⟩ = some (.int .i64 (ps[k]?.getD 0))) :
    CallsIn Fence.wide 5 Try.prog 6 #[.agg #[.int .i64 C, .slice ao zs.length zc, .slice po ps.length pc, .int .i64 st]] w fun e w' => e = .returned (.bool true) ∧ Below w.heap.size w w' := by
  obtain ⟨i0, hi, hz0, hz1, hz2⟩ := info_parts info3
  have HZ := Lib.hid hz
  have HP := Lib.hid hp
  have Hnone := Lib.hid hnone
  have Hcz := Lib.hid hcz
  have Hcp := Lib.hid hcp
  clear hz hp hnone hcz hcp
  refine callsIn_of_wp_marks Try.func6 rfl trivial ?_ rfl
  simp only [Try.ntmps6, List.size_toArray, List.length_cons, List.length_nil, Nat.reduceAdd, Nat.reduceSub, Array.replicate_succ, Array.replicate_zero, List.push_toArray, List.append_toArray, List.nil_append, List.cons_append]
  gi_wp2_with fail
  obtain ⟨w1, hw1⟩ : ∃ w1, w1 = ((w.alloc (.cells #[.int .i64 C, .slice ao zs.length zc, .slice po ps.length pc, .int .i64 st] 63)).alloc (.cells #[.slice po ps.length pc] 22)).alloc (.cells #[.int .i64 st] 3) := ⟨_, rfl⟩
  have hb1 : Below w.heap.size w w1 := by rw [hw1]; repeat (first | exact Below.refl _ _ | refine Below.alloc ?_ (by first | (simp; done) | (simp; omega)) _)
  have bP : Boxed w1 (w.heap.size + 1) 22 (.slice po ps.length pc) := by rw [hw1]; refine Boxed.alloc ?_ _; have := Boxed.new (w.alloc (.cells #[.int .i64 C, .slice ao zs.length zc, .slice po ps.length pc, .int .i64 st] 63)) 22 (.slice po ps.length pc); simpa using this
  have bS : Boxed w1 (w.heap.size + 1 + 1) 3 (.int .i64 st) := by rw [hw1]; have := Boxed.new ((w.alloc (.cells #[.int .i64 C, .slice ao zs.length zc, .slice po ps.length pc, .int .i64 st] 63)).alloc (.cells #[.slice po ps.length pc] 22)) 3 (.int .i64 st); simpa using this
  have hs1 : w1.heap.size = w.heap.size + 3 := by rw [hw1]; simp
  rw [← hw1]
  clear hw1
  refine ⟨trivial, (callsIn_wide.2 (iq_new_yes w1 C ao zc zs hC hC' Hnone.out (new_cells hb1 Hcz.out) (by have := HZ.out; omega))).mono ?_⟩
  rintro e w2 ⟨b, r, rfl, hb2, q2⟩
  have hs2 := hb2.size
  gi_wp2_with fail
  refine ⟨trivial, (callsIn_wide.2 (all_any _ _)).mono ?_⟩
  rintro e w' ⟨rfl, rfl⟩
  gi_wp2_with fail
  have bQ2 : Boxed (w2.alloc (.cells #[.pointer (some ⟨b, 0, none⟩)] 37)) w2.heap.size 37 (.pointer (some ⟨b, 0, none⟩)) := Boxed.new _ _ _
  have bN2 : Boxed ((w2.alloc (.cells #[.pointer (some ⟨b, 0, none⟩)] 37)).alloc (.cells #[.pointer (some ⟨b, 0, none⟩)] 37)) (w2.heap.size + 1) 37 (.pointer (some ⟨b, 0, none⟩)) := by have := Boxed.new (w2.alloc (.cells #[.pointer (some ⟨b, 0, none⟩)] 37)) 37 (.pointer (some ⟨b, 0, none⟩)); simpa using this
  obtain ⟨w3, hw3⟩ : ∃ w3, w3 = (w2.alloc (.cells #[.pointer (some ⟨b, 0, none⟩)] 37)).alloc (.cells #[.pointer (some ⟨b, 0, none⟩)] 37) := ⟨_, rfl⟩
  have hb3 : Below w2.heap.size w2 w3 := by rw [hw3]; repeat (first | exact Below.refl _ _ | refine Below.alloc ?_ (by first | (simp; done) | (simp; omega)) _)
  have bQ3 : Boxed w3 w2.heap.size 37 (.pointer (some ⟨b, 0, none⟩)) := by rw [hw3]; exact bQ2.alloc _
  have bN3 : Boxed w3 (w2.heap.size + 1) 37 (.pointer (some ⟨b, 0, none⟩)) := by rw [hw3]; exact bN2
  have hs3 : w3.heap.size = w2.heap.size + 2 := by rw [hw3]; simp
  rw [← hw3]
  clear hw3 bQ2 bN2
  have q3 := q2.frame (Mods.of_below hb3 (fun _ => False)) (fun h => h) (fun _ _ h => h)
  have hL := HZ.out
  refine ⟨trivial, (callsIn_wide.2 (iq_len q3 (by omega))).mono ?_⟩
  rintro e w4 ⟨rfl, m4, rfl⟩
  gi_wp2_with fail
  have bN0 : Boxed ((w3.drewN m4).alloc (.cells #[.int .i64 0] 3)) (w2.heap.size + 2) 3 (.int .i64 0) := by have := Boxed.new (w3.drewN m4) 3 (.int .i64 0); have e : (w3.drewN m4).heap.size = w2.heap.size + 2 := hs3; rw [e] at this; exact this
  obtain ⟨w5, hw5⟩ : ∃ w5, w5 = (w3.drewN m4).alloc (.cells #[.int .i64 0] 3) := ⟨_, rfl⟩
  have hb5 : Below w3.heap.size w3 w5 := by rw [hw5]; exact (below_dr (Below.refl _ w3)).alloc (Nat.le_refl _) _
  have hs5 : w5.heap.size = w2.heap.size + 3 := by rw [hw5]; simp; exact hs3
  rw [← hw5] at bN0 ⊢
  clear hw5
  have q5 := q3.frame (Mods.of_below hb5 (fun _ => False)) (fun h => h) (fun _ _ h => h)
  have bQ5 : Boxed w5 w2.heap.size 37 (.pointer (some ⟨b, 0, none⟩)) := block_mods bQ3 (Mods.of_below hb5 (fun _ => False)) (fun h => h)
  have bA5 : Boxed w5 (w2.heap.size + 1) 37 (.pointer (some ⟨b, 0, none⟩)) := block_mods bN3 (Mods.of_below hb5 (fun _ => False)) (fun h => h)
  have hbx := (hb2.trans ((hb3.mono hs2).trans (hb5.mono (by omega))))
  have bP5 : Boxed w5 (w.heap.size + 1) 22 (.slice po ps.length pc) := block_mods bP (Mods.of_below hbx (fun _ => False)) (fun h => h)
  have bS5 : Boxed w5 (w.heap.size + 1 + 1) 3 (.int .i64 st) := block_mods bS (Mods.of_below hbx (fun _ => False)) (fun h => h)
  have hb5w := hb1.trans (hbx.mono (by omega))
  have hG : GOk (w2.heap.size + 3) (fun _ k => k = w2.heap.size + 2) := fun _ _ _ _ h => h
  have hbq := q5.lt.1
  refine wpIn_range_break rfl (by omega) (gf := 30) (lb := #[.pointer (some ⟨w2.heap.size + 1, 0, none⟩)]) rfl trivial (enters_of Try.func30 (by kernel_rfl) rfl)
    (all_stops (n := 4) (by omega) q5 (by omega) hG (by omega) (fun k hk => by omega) bA5.cell) KpG.trans (fun W l o o' hl h ho _ => KpG.putObj hG W l o o' (by omega) h ho) (Below.refl _ _) (fun _ => rfl)
    (fun (pre : List Int) W => Boxed W (w2.heap.size + 2) 3 (.int .i64 pre.length) ∧ Mods (fun k => k = w2.heap.size + 2) w5 W)
    (fun pre W => (pre.length : Int) = st ∧ Boxed W (w2.heap.size + 2) 3 (.int .i64 pre.length) ∧ Mods (fun k => k = w2.heap.size + 2) w5 W)
    ?own ?ownx ⟨bN0, Mods.refl _ _⟩ ?a1 ?assign ?body ?rest
  case own =>
    rintro s X Y row ⟨h1, h2⟩ hg hrow
    exact ⟨h1.kept hg (fun e => by have := (hrow _ e.symm).1; omega), h2.grown hg (fun k hk hlt => by have := (hrow k hk).1; omega)⟩
  case ownx =>
    rintro s X Y row ⟨h3, h1, h2⟩ hg hrow
    exact ⟨h3, h1.kept hg (fun e => by have := (hrow _ e.symm).1; omega), h2.grown hg (fun k hk hlt => by have := (hrow k hk).1; omega)⟩
  case assign =>
    intro l x W K hK
    gi_wp2
    exact hK
  case body =>
    rintro l pre x W ⟨h1, h2⟩ hlt
    have bSw : Boxed W (w.heap.size + 1 + 1) 3 (.int .i64 st) := block_mods bS5 h2 (by omega)
    have c1 := h1.cell
    have f1 := h1.frozen
    have c2 := bSw.cell
    have hpl : (pre.length : Int) < zs.length := by omega
    have hB := h1.set (.int .i64 ((pre ++ [x]).length : Int))
    have hM := h2.setCell (p := ⟨w2.heap.size + 2, 0, none⟩) (fun _ => rfl) (.int .i64 ((pre ++ [x]).length : Int))
    have hKo := (KeepsOthers.setCell W ⟨w2.heap.size + 2, 0, none⟩ (.int .i64 ((pre ++ [x]).length : Int))).from w5.heap.size
    have hKg : KpG (fun _ k => k = w2.heap.size + 2) W (W.setCell ⟨w2.heap.size + 2, 0, none⟩ (.int .i64 ((pre ++ [x]).length : Int))) :=
      ⟨by rw [size_setCell']; exact Nat.le_refl _, fun k cs t fr hk hn => Below.heap_setCell _ _ _ k hn, fun k hk g => g⟩
    have e : ((pre ++ [x]).length : Int) = (pre.length : Int) + 1 := by simp
    rw [e] at hB hM hKo hKg
    gi_wp2
    · rename_i hst
      exact ⟨hKo, rfl, by rw [e]; simpa using hst, by rw [e]; exact hB, hM⟩
    · exact ⟨hKo, hKg, by rw [e]; exact hB, hM⟩
  case rest =>
    intro D ys W hD hor hK
    have ⟨hn, h1, h2⟩ : (ys.length = zs.length ∨ (ys.length : Int) = st) ∧ Boxed W (w2.heap.size + 2) 3 (.int .i64 ys.length) ∧ Mods (fun k => k = w2.heap.size + 2) w5 W := by
      rcases hor with ⟨rfl, h1, h2⟩ | ⟨_, h3, h1, h2⟩
      · exact ⟨.inl rfl, h1, h2⟩
      · exact ⟨.inr h3, h1, h2⟩
    have hWs := h2.size
    have hbne : b ≠ w2.heap.size + 2 := by have := q2.lt.1; omega
    have hrne : ∀ k, r = some k → k ≠ w2.heap.size + 2 := fun k hk => by have := (q2.lt.2.2.1 k hk).2.1; omega
    have qW := q5.frame h2 hbne (fun k hk => hrne k hk)
    have bQW : Boxed W w2.heap.size 37 (.pointer (some ⟨b, 0, none⟩)) := block_mods bQ5 h2 (by omega)
    have bAW : Boxed W (w2.heap.size + 1) 37 (.pointer (some ⟨b, 0, none⟩)) := block_mods bA5 h2 (by omega)
    have bPW : Boxed W (w.heap.size + 1) 22 (.slice po ps.length pc) := block_mods bP5 h2 (by omega)
    have bSW : Boxed W (w.heap.size + 1 + 1) 3 (.int .i64 st) := block_mods bS5 h2 (by omega)
    have hbW : Below w.heap.size w W := hb5w.trans (h2.below (by omega) (fun k hk e => by omega))
    have cQ := bQW.cell
    have cN := h1.cell
    have cS := bSW.cell
    have hb1q := q2.lt.1
    have hb1l := q2.lt.2.1
    clear hor hG q5 bQ5 bA5 bP5 bS5 hb5w hbx hb5 q3 bN3 bQ3 hb3 bN0 hb2 bP bS h2 q2
    gi_wp2_with fail
    refine ⟨trivial, (callsIn_wide.2 (iq_len qW (by omega))).mono ?_⟩
    rintro e w6 ⟨rfl, m6, rfl⟩
    have hcond : ¬ ((ys.length : Int) ≠ zs.length ∧ (ys.length : Int) ≠ st) := by omega
    have hDlt := block_lt hK
    have bV0 : Boxed ((W.drewN m6).alloc (.cells #[.slice none 0 0] 22)) W.heap.size 22 (.slice none 0 0) := Boxed.new (W.drewN m6) 22 (.slice none 0 0)
    have hgA : W.grownBy ((W.drewN m6).alloc (.cells #[.slice none 0 0] 22)) none := grown_drewN (World.grownBy_alloc (W.drewN m6) _ none)
    have hs7 : ((W.drewN m6).alloc (.cells #[.slice none 0 0] 22)).heap.size = W.heap.size + 1 := by simp
    have hmA := Mods.of_grownBy hgA
    have R7 : Rng ((W.drewN m6).alloc (.cells #[.slice none 0 0] 22)) w1.heap.size b W.heap.size C zs [] zs.length r (.slice none 0 0) :=
      ⟨qW.frame hmA (by simp) (by simp), bV0, World.ownsRow_nil _ _ _ _, by simp [Value.ownBlock], by simp [Value.ownBlock], fun e => by have := (qW.lt.2.2.1 _ e).2.1; omega, by omega, fun _ _ => by simp [Value.ownBlock]⟩
    have bQ7 := bQW.kept hgA (by simp)
    have bA7 := bAW.kept hgA (by simp)
    have bP7 := bPW.kept hgA (by simp)
    have hK7 := block_grown hK hgA (by simp)
    have hb7 : Below w.heap.size w ((W.drewN m6).alloc (.cells #[.slice none 0 0] 22)) := (below_dr hbW).alloc (by show _ ≤ W.heap.size; omega) _
    have hWw : w1.heap.size ≤ W.heap.size := by omega
    have hG : GOk (W.heap.size + 1) (Gq b W.heap.size) := Gq_ok (by omega) (by omega)
    by_cases hn1 : (ys.length : Int) = zs.length
    · skip
      gi_wp2_with fail
      clear cQ cN cS bSW qW hcond hn bV0 hgA hmA bQW bAW bPW hbW h1
      generalize hw7 : (W.drewN m6).alloc (.cells #[.slice none 0 0] 22) = w7 at *
      clear hw7
      refine wpIn_range_break rfl (by omega) (gf := 30) (lb := #[.pointer (some ⟨w2.heap.size + 1, 0, none⟩)]) rfl trivial (enters_of Try.func30 (by kernel_rfl) rfl)
        (all_stops (n := 4) (by omega) R7.1 (by omega) hG (by omega) (fun k hk => ?gw) bA7.cell) KpG.trans (fun W' l o o' hl h ho _ => KpG.putObj hG W' l o o' (by omega) h ho) (Below.refl _ _) (fun _ => rfl)
        (fun (pre : List Int) W' => (∃ lq rq v, Rng W' w1.heap.size b W.heap.size C lq pre (zs.length + pre.length) rq v) ∧ Boxed W' w2.heap.size 37 (.pointer (some ⟨b, 0, none⟩)) ∧ Boxed W' (w.heap.size + 1) 22 (.slice po ps.length pc) ∧ W'.heap[D]? = some (.deferred (some [])) ∧ w1.heap.size ≤ W'.heap.size ∧ W.heap.size + 1 ≤ W'.heap.size ∧ Below w.heap.size w W')
        (fun _ _ => False)
        ?own ?ownx ⟨⟨_, _, _, R7⟩, bQ7, bP7, hK7, by omega, by omega, hb7⟩ ?a2 ?assign ?body ?rest
      case gw =>
        obtain ⟨cs, t, fr, hc⟩ := rng_cells R7 (k := k) (by unfold Gq at hk; rw [R7.1.row, rowOf_cells (show w7.heap[W.heap.size]? = _ from R7.2.1) rfl] at hk; exact hk)
        exact block_lt hc
      case own =>
        rintro s X Y row ⟨⟨lq, rq, v, h1⟩, h2, h3, h4, h5, h6, h7⟩ hg hrow
        have hnc : ∀ B t v, Boxed X B t v → some B ≠ row := fun B t v hb e => by
          obtain ⟨o, ho, hf⟩ := (hrow _ e.symm).2
          rw [show X.heap[B]? = _ from hb] at ho
          cases ho
          simp [Obj.isCells] at hf
        have hgs := hg.size
        exact ⟨⟨lq, rq, v, rng_kept h1 hg (fun k hk => (hrow k hk).2)⟩, h2.kept hg (hnc _ _ _ h2), h3.kept hg (hnc _ _ _ h3), block_grown h4 hg (fun e => by have := (hrow _ e).1; omega), by omega, by omega, h7.grown hg (by have := h7.size; omega) (fun k hk => by have := (hrow k hk).1; omega)⟩
      case ownx =>
        rintro s X Y row h hg hrow
        exact h
      case assign =>
        intro l x W' K hK
        gi_wp2
        exact hK
      case body =>
        rintro l pre x W2 ⟨⟨lq, rq, v, hR⟩, bQ, bP, hDk, hs2', hs2'', hB⟩ hlt
        have cQ := bQ.cell
        have cP := bP.cell
        have hNs : zs.length + pre.length + 1 < 27000000000000 := by omega
        have HNs := Lib.hid hNs
        clear hNs
        gi_wp2_with fail
        refine ⟨trivial, CallsIn.inRound l ((callsIn_wide.2 (iq_take_any hR.1 (by have := HNs.out; omega) hs2')).mono ?_)⟩
        rintro e W3 ⟨⟨x0, g0, rfl⟩, l3, r3, q3, hm3, hr3⟩
        have hR3 := rng_queue hR q3 hm3 (fun _ h => .inl h) hr3
        have bQ3 : Boxed W3 w2.heap.size 37 (.pointer (some ⟨b, 0, none⟩)) := block_mods bQ hm3 (by omega)
        have bP3 : Boxed W3 (w.heap.size + 1) 22 (.slice po ps.length pc) := block_mods bP hm3 (by omega)
        have hB3 : Below w.heap.size w W3 := hB.trans (hm3.below (by omega) (fun k hk e => by omega))
        have hs3 := hm3.size
        have bV3 := hR3.2.1
        obtain ⟨sv, cv, rfl⟩ := owns_slice hR3.2.2.1
        have cV3 := bV3.cell
        have cQ3 := bQ3.cell
        have cP3 := bP3.cell
        have noQ3 : (Value.slice sv pre.length cv).ownBlock ≠ some w2.heap.size := fun e => by obtain ⟨cs, fr, hc⟩ := own_cells_t hR3.2.2.1 e; rw [show W3.heap[w2.heap.size]? = _ from bQ3] at hc; cases hc
        have noP3 : (Value.slice sv pre.length cv).ownBlock ≠ some (w.heap.size + 1) := fun e => by have := (hR3.2.2.1.lt _ e).1; omega
        have noR3 : r3 ≠ some w2.heap.size := fun e => by obtain ⟨cs, fr, hc⟩ := iq_cells_t hR3.1 e; rw [show W3.heap[w2.heap.size]? = _ from bQ3] at hc; cases hc
        by_cases hpp : pre.length < ps.length
        · obtain ⟨bx, off, rfl, hbx, hcp⟩ := Hcp.out _ hpp
          have hcp3 := cell_later' hB3 hcp hbx
          obtain ⟨X, hX⟩ : ∃ X, X = ps[pre.length]?.getD 0 := ⟨_, rfl⟩
          rw [← hX] at hcp3
          clear hX hcp
          have hppi : (pre.length : Int) < ps.length := by omega
          gi_wp2_with fail
          refine wpIn_region_lex (fun w' => w'.cell? ⟨w2.heap.size, 0, none⟩ = some (.pointer (some ⟨b, 0, none⟩)) ∧ w'.cell? ⟨w.heap.size + 1, 0, none⟩ = some (.slice (some ⟨bx, off, none⟩) ps.length pc) ∧ w'.cell? ⟨W.heap.size, 0, none⟩ = some (.slice sv pre.length cv) ∧ w'.cell? ⟨bx, off + pre.length, none⟩ = some (.int .i64 X)) [0, 1, 2, 3, 4, 5] [6] (by kernel_rfl) (by kernel_rfl) (by rfl) rfl (fun _ _ hx h => ⟨hx.cell h.1, hx.cell h.2.1, hx.cell h.2.2.1, hx.cell h.2.2.2⟩) ⟨cQ3, cP3, cV3, hcp3⟩ ?_
          intro Q' hQ'
          simp only [pickOps, List.flatMap_cons, List.flatMap_nil, List.drop_succ_cons, List.drop_zero, List.take_succ_cons, List.take_zero, List.cons_append, List.nil_append, List.append_nil]
          repeat (first
            | (refine wpReads_skip (by rfl) ?_; (try simp only [Act.put, List.setIfInBounds_toArray, List.set_cons_zero, List.set_cons_succ]))
            | (refine wpReads_cons ?_ (by rfl) (by rfl) ?_ ?_; rotate_left; (intro wz hz; (try dsimp only at hz); go_simp; try with_reducible rfl); (try simp only [Act.put, List.setIfInBounds_toArray, List.set_cons_zero, List.set_cons_succ]))
            | (refine wpReads_any ?_ (by rfl) ?_ ?_; rotate_left; (intro wz; go_simp; try with_reducible rfl); (try simp only [Act.put, List.setIfInBounds_toArray, List.set_cons_zero, List.set_cons_succ])))
          refine wpReads_nil ?_
          go_wp2_with fail
          refine (iq_put_any (show IQ W3.drew w1.heap.size b C l3 r3 (zs.length + pre.length) from hR3.1) (by have := HNs.out; omega) (by show _ ≤ W3.heap.size; omega)).mono ?_
          rintro e W4 ⟨⟨g0', rfl⟩, l4, r4, q4, hm4, hr4⟩
          have hm4 : Mods (fun k => k = b ∨ r3 = some k) W3 W4 := mods_ld (n := 1) hm4
          have hr4 : r4 = r3 ∨ ∃ k, r4 = some k ∧ W3.heap.size ≤ k := hr4
          go_wp2_with fail
          have hR4 := rng_queue hR3 q4 hm4 (fun _ h => h) hr4
          have hr3n : ∀ k, r3 = some k → w1.heap.size ≤ k := fun k hk => (hR3.1.lt.2.2.1 k hk).1
          have bQ4 : Boxed W4 w2.heap.size 37 (.pointer (some ⟨b, 0, none⟩)) := block_mods bQ3 hm4 (fun f => by rcases f with f | f; omega; exact noR3 f)
          have bP4 : Boxed W4 (w.heap.size + 1) 22 (.slice (some ⟨bx, off, none⟩) ps.length pc) := block_mods bP3 hm4 (fun f => by rcases f with f | f; omega; have := hr3n _ f; omega)
          have hB4 : Below w.heap.size w W4 := hB3.trans (hm4.below (by omega) (fun k hk f => by rcases f with f | f; omega; have := hr3n _ f; omega))
          have hs4 := hm4.size
          have cV4 := hR4.2.1.cell
          have noQ4 := noQ3
          have noP4 := noP3
          gi_wp2_with (gi_at_builtin; refine stop_here ?_)
          refine go_on ?_
          refine wpListIn_app rfl _ _ 22 rfl w1.heap.size 3 i0 _ 1 8 Try.underlying22 hi hz0 hz1 hz2 rfl (.slice sv pre.length cv) pre.length _ rfl (hR4.2.2.1.alloc (.cells #[.int .i64 x] 3)) (some ⟨W4.heap.size, 0, none⟩) 1 1 [.int .i64 x] rfl rfl (fun h => by cases h) (news_alloc W4 [.int .i64 x] 3) (by simp [Value.oneCell']) (by have := HNs.out; unfold maxLen; omega) (grow_ok (by have := HNs.out; omega)) (size_le_alloc (by omega) _) ?_
          intro v' w8 g1 g2 _ g4
          obtain ⟨sa', cap', rfl⟩ := owns_slice g1
          have g2' : (W4.alloc (.cells #[.int .i64 x] 3)).grownBy w8 (Value.slice sv pre.length cv).ownBlock := ⟨g2.os, g2.tape, g2.output, g2.size, g2.block⟩
          obtain ⟨bv8, hR8, hm8, hv8⟩ := rng_app x hR4 g2' g1 g4
          have c8 := bv8.cell
          have f8 := bv8.frozen
          have hmT : Mods (Turns b W.heap.size rq (.slice sv pre.length cv)) W2 (w8.setCell ⟨W.heap.size, 0, none⟩ (.slice sa' (pre.length + 1) cap')) := (((hm3.mono (fun _ _ h => .inl h)).trans hm4 (fun _ _ h => h) (fun k hk h => h.elim .inl (fun h => .inr (.inl (hr3.elim (fun e => e ▸ h) (fun ⟨k', e, hk'⟩ => by rw [e] at h; have := Option.some.inj h; omega)))))).trans hm8 (fun _ _ h => h) (fun k _ h => .inr (.inr h)))
          have hrT : r4 = rq ∨ ∃ k, r4 = some k ∧ W2.heap.size ≤ k := (by rcases hr4 with rfl | ⟨k, e, hk⟩; exact hr3; exact .inr ⟨k, e, by omega⟩)
          have hvT : (Value.slice sa' (pre.length + 1) cap').ownBlock = (Value.slice sv pre.length cv).ownBlock ∨ ∃ k, (Value.slice sa' (pre.length + 1) cap').ownBlock = some k ∧ W2.heap.size ≤ k := hv8.imp id (fun ⟨k, e, hk⟩ => ⟨k, e, by omega⟩)
          have hkp := kp_rng hR hR8 hmT hrT hvT
          have hko := (keeps_mods hmT (fun k hk => rng_cells hR hk)).from w7.heap.size
          have bQ8 : Boxed (w8.setCell ⟨W.heap.size, 0, none⟩ (.slice sa' (pre.length + 1) cap')) w2.heap.size 37 (.pointer (some ⟨b, 0, none⟩)) := block_mods bQ4 hm8 (fun f => by rcases f with f | f; exact absurd f (by omega); exact noQ4 f)
          have bP8 : Boxed (w8.setCell ⟨W.heap.size, 0, none⟩ (.slice sa' (pre.length + 1) cap')) (w.heap.size + 1) 22 (.slice (some ⟨bx, off, none⟩) ps.length pc) := block_mods bP4 hm8 (fun f => by rcases f with f | f; exact absurd f (by omega); exact noP4 f)
          have hD8 : (w8.setCell ⟨W.heap.size, 0, none⟩ (.slice sa' (pre.length + 1) cap')).heap[D]? = some (.deferred (some [])) := block_mods hDk hmT (fun f => by obtain ⟨cs, t, fr, hc⟩ := rng_cells hR f; rw [hDk] at hc; cases hc)
          have hs8 := hm8.size
          have hB8 : Below w.heap.size w (w8.setCell ⟨W.heap.size, 0, none⟩ (.slice sa' (pre.length + 1) cap')) := hB4.trans (hm8.below (by omega) (fun k hk f => by rcases f with f | f; omega; have := (hR4.2.2.1.lt k f).1; omega))
          clear g1 g2 g2' g4
          gi_wp2
          exact ⟨hko, hkp, ⟨_, _, _, by simpa [Nat.add_assoc] using hR8⟩, bQ8, bP8, hD8, by omega, by omega, hB8⟩
        · gi_wp2_with (gi_at_builtin; refine stop_here ?_)
          refine go_on ?_
          refine wpListIn_app rfl _ _ 22 rfl w1.heap.size 3 i0 _ 1 8 Try.underlying22 hi hz0 hz1 hz2 rfl (.slice sv pre.length cv) pre.length _ rfl (hR3.2.2.1.alloc (.cells #[.int .i64 x] 3)) (some ⟨W3.heap.size, 0, none⟩) 1 1 [.int .i64 x] rfl rfl (fun h => by cases h) (news_alloc W3 [.int .i64 x] 3) (by simp [Value.oneCell']) (by have := HNs.out; unfold maxLen; omega) (grow_ok (by have := HNs.out; omega)) (size_le_alloc (by omega) _) ?_
          intro v' w8 g1 g2 _ g4
          obtain ⟨sa', cap', rfl⟩ := owns_slice g1
          have g2' : (W3.alloc (.cells #[.int .i64 x] 3)).grownBy w8 (Value.slice sv pre.length cv).ownBlock := ⟨g2.os, g2.tape, g2.output, g2.size, g2.block⟩
          obtain ⟨bv8, hR8, hm8, hv8⟩ := rng_app x hR3 g2' g1 g4
          have c8 := bv8.cell
          have f8 := bv8.frozen
          have hmT : Mods (Turns b W.heap.size rq (.slice sv pre.length cv)) W2 (w8.setCell ⟨W.heap.size, 0, none⟩ (.slice sa' (pre.length + 1) cap')) := ((hm3.mono (fun _ _ h => .inl h)).trans hm8 (fun _ _ h => h) (fun k _ h => .inr (.inr h)))
          have hrT : r3 = rq ∨ ∃ k, r3 = some k ∧ W2.heap.size ≤ k := hr3
          have hvT : (Value.slice sa' (pre.length + 1) cap').ownBlock = (Value.slice sv pre.length cv).ownBlock ∨ ∃ k, (Value.slice sa' (pre.length + 1) cap').ownBlock = some k ∧ W2.heap.size ≤ k := hv8.imp id (fun ⟨k, e, hk⟩ => ⟨k, e, by omega⟩)
          have hkp := kp_rng hR hR8 hmT hrT hvT
          have hko := (keeps_mods hmT (fun k hk => rng_cells hR hk)).from w7.heap.size
          have bQ8 : Boxed (w8.setCell ⟨W.heap.size, 0, none⟩ (.slice sa' (pre.length + 1) cap')) w2.heap.size 37 (.pointer (some ⟨b, 0, none⟩)) := block_mods bQ3 hm8 (fun f => by rcases f with f | f; exact absurd f (by omega); exact noQ3 f)
          have bP8 : Boxed (w8.setCell ⟨W.heap.size, 0, none⟩ (.slice sa' (pre.length + 1) cap')) (w.heap.size + 1) 22 (.slice po ps.length pc) := block_mods bP3 hm8 (fun f => by rcases f with f | f; exact absurd f (by omega); exact noP3 f)
          have hD8 : (w8.setCell ⟨W.heap.size, 0, none⟩ (.slice sa' (pre.length + 1) cap')).heap[D]? = some (.deferred (some [])) := block_mods hDk hmT (fun f => by obtain ⟨cs, t, fr, hc⟩ := rng_cells hR f; rw [hDk] at hc; cases hc)
          have hs8 := hm8.size
          have hB8 : Below w.heap.size w (w8.setCell ⟨W.heap.size, 0, none⟩ (.slice sa' (pre.length + 1) cap')) := hB3.trans (hm8.below (by omega) (fun k hk f => by rcases f with f | f; omega; have := (hR3.2.2.1.lt k f).1; omega))
          clear g1 g2 g2' g4
          gi_wp2
          exact ⟨hko, hkp, ⟨_, _, _, by simpa [Nat.add_assoc] using rng_mono hR8⟩, bQ8, bP8, hD8, by omega, by omega, hB8⟩
      case rest =>
        intro D2 ys2 W2 hD2 hor hK2
        obtain ⟨e0, ⟨lq, rq, v, hR⟩, bQ, bP, hDk, hs2', hs2'', hB⟩ := hor.resolve_right (fun h => h.2)
        subst e0
        have cV := hR.2.1.cell
        have hseen := has_of_owns hR.2.2.1
        obtain ⟨sv, cv, rfl⟩ := owns_slice hR.2.2.1
        have hstart := (has_of_cells (cap := zc) Hnone.out Hcz.out).below hB
        gi_wp2_with fail
        refine ⟨trivial, (callsIn_wide.2 (same_yes hseen hstart (by omega))).mono ?_⟩
        rintro e W3 ⟨rfl, m9, rfl⟩
        gi_wp2_with fail
        refine ⟨trivial, (callsIn_wide.2 (awake_yes _)).mono ?_⟩
        rintro e W4 ⟨rfl, hb9⟩
        have hb9 : Below W2.heap.size W2 W4 := below_ld (n := m9) hb9
        have hK4 : W4.heap[D2]? = some (.deferred (some [])) := (hb9.block D2 (block_lt hK2)).trans hK2
        have hD4 : W4.heap[D]? = some (.deferred (some [])) := (hb9.block D (block_lt hDk)).trans hDk
        have hD5 : (W4.putObj D2 (.deferred none)).heap[D]? = some (.deferred (some [])) := (World.putObj_heap_other (by omega)).trans hD4
        have hB4 : Below w.heap.size w W4 := hB.trans (hb9.mono (by omega))
        have hB5 := hB4.trans (belowK_b (w := w) (Nat.le_refl _) W4 D2 (.deferred (some [])) (.deferred none) (by omega) hK4 rfl rfl)
        have hB6 := hB5.trans (belowK_b (w := w) (Nat.le_refl _) (W4.putObj D2 (.deferred none)) D (.deferred (some [])) (.deferred none) (by omega) hD5 rfl rfl)
        gi_wp2
        refine ⟨by simp, .inl ⟨_, _, rfl, run_takeDeferred hK4, ?_⟩⟩
        refine ⟨by simp, .inl ⟨_, _, rfl, run_takeDeferred hD5, ?_⟩⟩
        exact ⟨_, results_tmp rfl _ _ _, rfl, hB6⟩
    · have hn2 : (ys.length : Int) = st := by omega
      gi_wp2_with fail
      clear cQ cN cS bSW qW hcond hn bV0 hgA hmA bQW bAW bPW hbW h1
      generalize hw7 : (W.drewN m6).alloc (.cells #[.slice none 0 0] 22) = w7 at *
      clear hw7
      refine wpIn_range_break rfl (by omega) (gf := 30) (lb := #[.pointer (some ⟨w2.heap.size + 1, 0, none⟩)]) rfl trivial (enters_of Try.func30 (by kernel_rfl) rfl)
        (all_stops (n := 4) (by omega) R7.1 (by omega) hG (by omega) (fun k hk => ?gw) bA7.cell) KpG.trans (fun W' l o o' hl h ho _ => KpG.putObj hG W' l o o' (by omega) h ho) (Below.refl _ _) (fun _ => rfl)
        (fun (pre : List Int) W' => (∃ lq rq v, Rng W' w1.heap.size b W.heap.size C lq pre (zs.length + pre.length) rq v) ∧ Boxed W' w2.heap.size 37 (.pointer (some ⟨b, 0, none⟩)) ∧ Boxed W' (w.heap.size + 1) 22 (.slice po ps.length pc) ∧ W'.heap[D]? = some (.deferred (some [])) ∧ w1.heap.size ≤ W'.heap.size ∧ W.heap.size + 1 ≤ W'.heap.size ∧ Below w.heap.size w W')
        (fun _ _ => False)
        ?own ?ownx ⟨⟨_, _, _, R7⟩, bQ7, bP7, hK7, by omega, by omega, hb7⟩ ?a3 ?assign ?body ?rest
      case gw =>
        obtain ⟨cs, t, fr, hc⟩ := rng_cells R7 (k := k) (by unfold Gq at hk; rw [R7.1.row, rowOf_cells (show w7.heap[W.heap.size]? = _ from R7.2.1) rfl] at hk; exact hk)
        exact block_lt hc
      case own =>
        rintro s X Y row ⟨⟨lq, rq, v, h1⟩, h2, h3, h4, h5, h6, h7⟩ hg hrow
        have hnc : ∀ B t v, Boxed X B t v → some B ≠ row := fun B t v hb e => by
          obtain ⟨o, ho, hf⟩ := (hrow _ e.symm).2
          rw [show X.heap[B]? = _ from hb] at ho
          cases ho
          simp [Obj.isCells] at hf
        have hgs := hg.size
        exact ⟨⟨lq, rq, v, rng_kept h1 hg (fun k hk => (hrow k hk).2)⟩, h2.kept hg (hnc _ _ _ h2), h3.kept hg (hnc _ _ _ h3), block_grown h4 hg (fun e => by have := (hrow _ e).1; omega), by omega, by omega, h7.grown hg (by have := h7.size; omega) (fun k hk => by have := (hrow k hk).1; omega)⟩
      case ownx =>
        rintro s X Y row h hg hrow
        exact h
      case assign =>
        intro l x W' K hK
        gi_wp2
        exact hK
      case body =>
        rintro l pre x W2 ⟨⟨lq, rq, v, hR⟩, bQ, bP, hDk, hs2', hs2'', hB⟩ hlt
        have cQ := bQ.cell
        have cP := bP.cell
        have hNs : zs.length + pre.length + 1 < 27000000000000 := by omega
        have HNs := Lib.hid hNs
        clear hNs
        gi_wp2_with fail
        refine ⟨trivial, CallsIn.inRound l ((callsIn_wide.2 (iq_take_any hR.1 (by have := HNs.out; omega) hs2')).mono ?_)⟩
        rintro e W3 ⟨⟨x0, g0, rfl⟩, l3, r3, q3, hm3, hr3⟩
        have hR3 := rng_queue hR q3 hm3 (fun _ h => .inl h) hr3
        have bQ3 : Boxed W3 w2.heap.size 37 (.pointer (some ⟨b, 0, none⟩)) := block_mods bQ hm3 (by omega)
        have bP3 : Boxed W3 (w.heap.size + 1) 22 (.slice po ps.length pc) := block_mods bP hm3 (by omega)
        have hB3 : Below w.heap.size w W3 := hB.trans (hm3.below (by omega) (fun k hk e => by omega))
        have hs3 := hm3.size
        have bV3 := hR3.2.1
        obtain ⟨sv, cv, rfl⟩ := owns_slice hR3.2.2.1
        have cV3 := bV3.cell
        have cQ3 := bQ3.cell
        have cP3 := bP3.cell
        have noQ3 : (Value.slice sv pre.length cv).ownBlock ≠ some w2.heap.size := fun e => by obtain ⟨cs, fr, hc⟩ := own_cells_t hR3.2.2.1 e; rw [show W3.heap[w2.heap.size]? = _ from bQ3] at hc; cases hc
        have noP3 : (Value.slice sv pre.length cv).ownBlock ≠ some (w.heap.size + 1) := fun e => by have := (hR3.2.2.1.lt _ e).1; omega
        have noR3 : r3 ≠ some w2.heap.size := fun e => by obtain ⟨cs, fr, hc⟩ := iq_cells_t hR3.1 e; rw [show W3.heap[w2.heap.size]? = _ from bQ3] at hc; cases hc
        by_cases hpp : pre.length < ps.length
        · obtain ⟨bx, off, rfl, hbx, hcp⟩ := Hcp.out _ hpp
          have hcp3 := cell_later' hB3 hcp hbx
          obtain ⟨X, hX⟩ : ∃ X, X = ps[pre.length]?.getD 0 := ⟨_, rfl⟩
          rw [← hX] at hcp3
          clear hX hcp
          have hppi : (pre.length : Int) < ps.length := by omega
          gi_wp2_with fail
          refine wpIn_region_lex (fun w' => w'.cell? ⟨w2.heap.size, 0, none⟩ = some (.pointer (some ⟨b, 0, none⟩)) ∧ w'.cell? ⟨w.heap.size + 1, 0, none⟩ = some (.slice (some ⟨bx, off, none⟩) ps.length pc) ∧ w'.cell? ⟨W.heap.size, 0, none⟩ = some (.slice sv pre.length cv) ∧ w'.cell? ⟨bx, off + pre.length, none⟩ = some (.int .i64 X)) [0, 1, 2, 3, 4, 5] [6] (by kernel_rfl) (by kernel_rfl) (by rfl) rfl (fun _ _ hx h => ⟨hx.cell h.1, hx.cell h.2.1, hx.cell h.2.2.1, hx.cell h.2.2.2⟩) ⟨cQ3, cP3, cV3, hcp3⟩ ?_
          intro Q' hQ'
          simp only [pickOps, List.flatMap_cons, List.flatMap_nil, List.drop_succ_cons, List.drop_zero, List.take_succ_cons, List.take_zero, List.cons_append, List.nil_append, List.append_nil]
          repeat (first
            | (refine wpReads_skip (by rfl) ?_; (try simp only [Act.put, List.setIfInBounds_toArray, List.set_cons_zero, List.set_cons_succ]))
            | (refine wpReads_cons ?_ (by rfl) (by rfl) ?_ ?_; rotate_left; (intro wz hz; (try dsimp only at hz); go_simp; try with_reducible rfl); (try simp only [Act.put, List.setIfInBounds_toArray, List.set_cons_zero, List.set_cons_succ]))
            | (refine wpReads_any ?_ (by rfl) ?_ ?_; rotate_left; (intro wz; go_simp; try with_reducible rfl); (try simp only [Act.put, List.setIfInBounds_toArray, List.set_cons_zero, List.set_cons_succ])))
          refine wpReads_nil ?_
          go_wp2_with fail
          refine (iq_put_any (show IQ W3.drew w1.heap.size b C l3 r3 (zs.length + pre.length) from hR3.1) (by have := HNs.out; omega) (by show _ ≤ W3.heap.size; omega)).mono ?_
          rintro e W4 ⟨⟨g0', rfl⟩, l4, r4, q4, hm4, hr4⟩
          have hm4 : Mods (fun k => k = b ∨ r3 = some k) W3 W4 := mods_ld (n := 1) hm4
          have hr4 : r4 = r3 ∨ ∃ k, r4 = some k ∧ W3.heap.size ≤ k := hr4
          go_wp2_with fail
          have hR4 := rng_queue hR3 q4 hm4 (fun _ h => h) hr4
          have hr3n : ∀ k, r3 = some k → w1.heap.size ≤ k := fun k hk => (hR3.1.lt.2.2.1 k hk).1
          have bQ4 : Boxed W4 w2.heap.size 37 (.pointer (some ⟨b, 0, none⟩)) := block_mods bQ3 hm4 (fun f => by rcases f with f | f; omega; exact noR3 f)
          have bP4 : Boxed W4 (w.heap.size + 1) 22 (.slice (some ⟨bx, off, none⟩) ps.length pc) := block_mods bP3 hm4 (fun f => by rcases f with f | f; omega; have := hr3n _ f; omega)
          have hB4 : Below w.heap.size w W4 := hB3.trans (hm4.below (by omega) (fun k hk f => by rcases f with f | f; omega; have := hr3n _ f; omega))
          have hs4 := hm4.size
          have cV4 := hR4.2.1.cell
          have noQ4 := noQ3
          have noP4 := noP3
          gi_wp2_with (gi_at_builtin; refine stop_here ?_)
          refine go_on ?_
          refine wpListIn_app rfl _ _ 22 rfl w1.heap.size 3 i0 _ 1 8 Try.underlying22 hi hz0 hz1 hz2 rfl (.slice sv pre.length cv) pre.length _ rfl (hR4.2.2.1.alloc (.cells #[.int .i64 x] 3)) (some ⟨W4.heap.size, 0, none⟩) 1 1 [.int .i64 x] rfl rfl (fun h => by cases h) (news_alloc W4 [.int .i64 x] 3) (by simp [Value.oneCell']) (by have := HNs.out; unfold maxLen; omega) (grow_ok (by have := HNs.out; omega)) (size_le_alloc (by omega) _) ?_
          intro v' w8 g1 g2 _ g4
          obtain ⟨sa', cap', rfl⟩ := owns_slice g1
          have g2' : (W4.alloc (.cells #[.int .i64 x] 3)).grownBy w8 (Value.slice sv pre.length cv).ownBlock := ⟨g2.os, g2.tape, g2.output, g2.size, g2.block⟩
          obtain ⟨bv8, hR8, hm8, hv8⟩ := rng_app x hR4 g2' g1 g4
          have c8 := bv8.cell
          have f8 := bv8.frozen
          have hmT : Mods (Turns b W.heap.size rq (.slice sv pre.length cv)) W2 (w8.setCell ⟨W.heap.size, 0, none⟩ (.slice sa' (pre.length + 1) cap')) := (((hm3.mono (fun _ _ h => .inl h)).trans hm4 (fun _ _ h => h) (fun k hk h => h.elim .inl (fun h => .inr (.inl (hr3.elim (fun e => e ▸ h) (fun ⟨k', e, hk'⟩ => by rw [e] at h; have := Option.some.inj h; omega)))))).trans hm8 (fun _ _ h => h) (fun k _ h => .inr (.inr h)))
          have hrT : r4 = rq ∨ ∃ k, r4 = some k ∧ W2.heap.size ≤ k := (by rcases hr4 with rfl | ⟨k, e, hk⟩; exact hr3; exact .inr ⟨k, e, by omega⟩)
          have hvT : (Value.slice sa' (pre.length + 1) cap').ownBlock = (Value.slice sv pre.length cv).ownBlock ∨ ∃ k, (Value.slice sa' (pre.length + 1) cap').ownBlock = some k ∧ W2.heap.size ≤ k := hv8.imp id (fun ⟨k, e, hk⟩ => ⟨k, e, by omega⟩)
          have hkp := kp_rng hR hR8 hmT hrT hvT
          have hko := (keeps_mods hmT (fun k hk => rng_cells hR hk)).from w7.heap.size
          have bQ8 : Boxed (w8.setCell ⟨W.heap.size, 0, none⟩ (.slice sa' (pre.length + 1) cap')) w2.heap.size 37 (.pointer (some ⟨b, 0, none⟩)) := block_mods bQ4 hm8 (fun f => by rcases f with f | f; exact absurd f (by omega); exact noQ4 f)
          have bP8 : Boxed (w8.setCell ⟨W.heap.size, 0, none⟩ (.slice sa' (pre.length + 1) cap')) (w.heap.size + 1) 22 (.slice (some ⟨bx, off, none⟩) ps.length pc) := block_mods bP4 hm8 (fun f => by rcases f with f | f; exact absurd f (by omega); exact noP4 f)
          have hD8 : (w8.setCell ⟨W.heap.size, 0, none⟩ (.slice sa' (pre.length + 1) cap')).heap[D]? = some (.deferred (some [])) := block_mods hDk hmT (fun f => by obtain ⟨cs, t, fr, hc⟩ := rng_cells hR f; rw [hDk] at hc; cases hc)
          have hs8 := hm8.size
          have hB8 : Below w.heap.size w (w8.setCell ⟨W.heap.size, 0, none⟩ (.slice sa' (pre.length + 1) cap')) := hB4.trans (hm8.below (by omega) (fun k hk f => by rcases f with f | f; omega; have := (hR4.2.2.1.lt k f).1; omega))
          clear g1 g2 g2' g4
          gi_wp2
          exact ⟨hko, hkp, ⟨_, _, _, by simpa [Nat.add_assoc] using hR8⟩, bQ8, bP8, hD8, by omega, by omega, hB8⟩
        · gi_wp2_with (gi_at_builtin; refine stop_here ?_)
          refine go_on ?_
          refine wpListIn_app rfl _ _ 22 rfl w1.heap.size 3 i0 _ 1 8 Try.underlying22 hi hz0 hz1 hz2 rfl (.slice sv pre.length cv) pre.length _ rfl (hR3.2.2.1.alloc (.cells #[.int .i64 x] 3)) (some ⟨W3.heap.size, 0, none⟩) 1 1 [.int .i64 x] rfl rfl (fun h => by cases h) (news_alloc W3 [.int .i64 x] 3) (by simp [Value.oneCell']) (by have := HNs.out; unfold maxLen; omega) (grow_ok (by have := HNs.out; omega)) (size_le_alloc (by omega) _) ?_
          intro v' w8 g1 g2 _ g4
          obtain ⟨sa', cap', rfl⟩ := owns_slice g1
          have g2' : (W3.alloc (.cells #[.int .i64 x] 3)).grownBy w8 (Value.slice sv pre.length cv).ownBlock := ⟨g2.os, g2.tape, g2.output, g2.size, g2.block⟩
          obtain ⟨bv8, hR8, hm8, hv8⟩ := rng_app x hR3 g2' g1 g4
          have c8 := bv8.cell
          have f8 := bv8.frozen
          have hmT : Mods (Turns b W.heap.size rq (.slice sv pre.length cv)) W2 (w8.setCell ⟨W.heap.size, 0, none⟩ (.slice sa' (pre.length + 1) cap')) := ((hm3.mono (fun _ _ h => .inl h)).trans hm8 (fun _ _ h => h) (fun k _ h => .inr (.inr h)))
          have hrT : r3 = rq ∨ ∃ k, r3 = some k ∧ W2.heap.size ≤ k := hr3
          have hvT : (Value.slice sa' (pre.length + 1) cap').ownBlock = (Value.slice sv pre.length cv).ownBlock ∨ ∃ k, (Value.slice sa' (pre.length + 1) cap').ownBlock = some k ∧ W2.heap.size ≤ k := hv8.imp id (fun ⟨k, e, hk⟩ => ⟨k, e, by omega⟩)
          have hkp := kp_rng hR hR8 hmT hrT hvT
          have hko := (keeps_mods hmT (fun k hk => rng_cells hR hk)).from w7.heap.size
          have bQ8 : Boxed (w8.setCell ⟨W.heap.size, 0, none⟩ (.slice sa' (pre.length + 1) cap')) w2.heap.size 37 (.pointer (some ⟨b, 0, none⟩)) := block_mods bQ3 hm8 (fun f => by rcases f with f | f; exact absurd f (by omega); exact noQ3 f)
          have bP8 : Boxed (w8.setCell ⟨W.heap.size, 0, none⟩ (.slice sa' (pre.length + 1) cap')) (w.heap.size + 1) 22 (.slice po ps.length pc) := block_mods bP3 hm8 (fun f => by rcases f with f | f; exact absurd f (by omega); exact noP3 f)
          have hD8 : (w8.setCell ⟨W.heap.size, 0, none⟩ (.slice sa' (pre.length + 1) cap')).heap[D]? = some (.deferred (some [])) := block_mods hDk hmT (fun f => by obtain ⟨cs, t, fr, hc⟩ := rng_cells hR f; rw [hDk] at hc; cases hc)
          have hs8 := hm8.size
          have hB8 : Below w.heap.size w (w8.setCell ⟨W.heap.size, 0, none⟩ (.slice sa' (pre.length + 1) cap')) := hB3.trans (hm8.below (by omega) (fun k hk f => by rcases f with f | f; omega; have := (hR3.2.2.1.lt k f).1; omega))
          clear g1 g2 g2' g4
          gi_wp2
          exact ⟨hko, hkp, ⟨_, _, _, by simpa [Nat.add_assoc] using rng_mono hR8⟩, bQ8, bP8, hD8, by omega, by omega, hB8⟩
      case rest =>
        intro D2 ys2 W2 hD2 hor hK2
        obtain ⟨e0, ⟨lq, rq, v, hR⟩, bQ, bP, hDk, hs2', hs2'', hB⟩ := hor.resolve_right (fun h => h.2)
        subst e0
        have cV := hR.2.1.cell
        have hseen := has_of_owns hR.2.2.1
        obtain ⟨sv, cv, rfl⟩ := owns_slice hR.2.2.1
        have hstart := (has_of_cells (cap := zc) Hnone.out Hcz.out).below hB
        gi_wp2_with fail
        refine ⟨trivial, (callsIn_wide.2 (same_yes hseen hstart (by omega))).mono ?_⟩
        rintro e W3 ⟨rfl, m9, rfl⟩
        gi_wp2_with fail
        refine ⟨trivial, (callsIn_wide.2 (awake_yes _)).mono ?_⟩
        rintro e W4 ⟨rfl, hb9⟩
        have hb9 : Below W2.heap.size W2 W4 := below_ld (n := m9) hb9
        have hK4 : W4.heap[D2]? = some (.deferred (some [])) := (hb9.block D2 (block_lt hK2)).trans hK2
        have hD4 : W4.heap[D]? = some (.deferred (some [])) := (hb9.block D (block_lt hDk)).trans hDk
        have hD5 : (W4.putObj D2 (.deferred none)).heap[D]? = some (.deferred (some [])) := (World.putObj_heap_other (by omega)).trans hD4
        have hB4 : Below w.heap.size w W4 := hB.trans (hb9.mono (by omega))
        have hB5 := hB4.trans (belowK_b (w := w) (Nat.le_refl _) W4 D2 (.deferred (some [])) (.deferred none) (by omega) hK4 rfl rfl)
        have hB6 := hB5.trans (belowK_b (w := w) (Nat.le_refl _) (W4.putObj D2 (.deferred none)) D (.deferred (some [])) (.deferred none) (by omega) hD5 rfl rfl)
        gi_wp2
        refine ⟨by simp, .inl ⟨_, _, rfl, run_takeDeferred hK4, ?_⟩⟩
        refine ⟨by simp, .inl ⟨_, _, rfl, run_takeDeferred hD5, ?_⟩⟩
        exact ⟨_, results_tmp rfl _ _ _, rfl, hB6⟩

theorem range_all (w : World) (C st : Int) (v1 v2 : Value) (zs ps : List Int) (hC : C ≤ 9223372036854775807) (hz : zs.length ≤ 9000000000000) (hp : ps.length ≤ 18000000000000) (i1 : InInts w v1 zs) (i2 : InInts w v2 ps) :
    Calls Try.prog 6 #[.agg #[.int .i64 C, v1, v2, .int .i64 st]] w fun e w' => e = .returned (.bool true) ∧ Below w.heap.size w w' := by
  have hps := has_of_in i2
  obtain ⟨ao, zc, rfl, _, _, h3, _, h5⟩ := i1
  obtain ⟨po, pc, rfl, _⟩ := i2
  by_cases g1 : C < 0
  · exact range_neg w C st ao _ zc po _ pc g1
  · refine callsIn_wide.1 (range_in w C st zs ps ao zc po pc (by omega) hC hz hp h3 h5 fun k hk => ?_)
    rcases hps with ⟨rfl, _⟩ | ⟨_, b, off, cap, e, hb, hc⟩
    · simp at hk
    · cases e
      exact ⟨b, off, rfl, hb, hc k hk⟩
end Go.Proofs.Ytifhnealecndnaa
