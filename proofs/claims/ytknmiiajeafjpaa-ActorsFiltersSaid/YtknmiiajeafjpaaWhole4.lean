/- Whole numbers: the walk of Of. -/
import Derived.Test.YtknmiiajeafjpaaWhole3
import Derived.Test.YtknmiiajeafjpaaUpDown
import Derived.Laws.ResultCell
import Derived.Laws.Rows
namespace Go.Proofs.Ytknmiiajeafjpaa
open Go.RowKit

/-- what a maker of whole numbers answers -/
def WhMade (w : World) (z : Int) (N : Nat) (e : Ending) (w' : World) : Prop :=
  ∃ below ao cap ds, e = .returned (.agg #[.bool below, .slice ao ds.length cap]) ∧ Has w' (.slice ao ds.length cap) (ivs ds) ∧ WhP below ds z ∧ ds.length ≤ N ∧ Below w.heap.size w w'

/-- a round of Of, as it is known -/
structure OfAt (V : Int) (k : Nat) (u : Int) (out : List Int) : Prop where
  len : out.length = k
  u0 : 0 ≤ u
  V1 : V ≤ 9223372036854775808
  digs : Digs out
  sum : valD out + 1073741824 ^ k * u = V
  last : u = 0 → ∀ h : out ≠ [], out.getLast h ≠ 0
  short : k ≤ 3

theorem OfAt.next {V : Int} {k : Nat} {u : Int} {out : List Int} (h : OfAt V k u out) (hu : 0 < u) : OfAt V (k + 1) (u / 1073741824) (out ++ [u % 1073741824]) ∧ k ≤ 2 := by
  have hk := of_short h.digs hu h.sum h.V1
  refine ⟨⟨by simp [h.len], by omega, h.V1, digs_snoc h.digs ⟨by omega, by omega⟩, of_step h.len h.sum, fun e _ => ?_, by omega⟩, hk⟩
  simp
  omega
theorem OfAt.le {V : Int} {k : Nat} {u : Int} {out : List Int} (h : OfAt V k u out) : u ≤ 9223372036854775808 := by
  have h1 := h.sum
  have h2 := valD_nonneg h.digs
  have h3 := h.u0
  have h4 := pow_pos' k
  have h6 := h.V1
  generalize (1073741824 : Int) ^ k = p at *
  have h5 : 1 * u ≤ p * u := Int.mul_le_mul_of_nonneg_right h4 h3
  omega
theorem quo_up {u : Int} (h : 0 ≤ u) (h2 : u ≤ 9223372036854775808) : wrap64 (Int.tdiv u 1073741824) = u / 1073741824 := by
  rw [(pos_div h).2]; exact IntWalk.wrap64_in _ (by omega)
theorem OfAt.done {V : Int} {k : Nat} {out : List Int} (h : OfAt V k 0 out) : Trim out ∧ valD out = V ∧ out.length ≤ 3 := by
  have h1 := h.sum
  simp only [Int.mul_zero, Int.add_zero] at h1
  exact ⟨⟨h.digs, h.last rfl⟩, h1, by rw [h.len]; exact h.short⟩
theorem OfAt.start {V : Int} (h : 0 ≤ V) (h1 : V ≤ 9223372036854775808) : OfAt V 0 V [] := ⟨rfl, h, h1, fun d hd => by simp at hd, by simp [valD], fun _ hne => absurd rfl hne, by omega⟩

/-- the two blocks, and the digits -/
structure OfMem (w wr : World) (below : Bool) (v : Value) (k : Nat) (out : List Int) : Prop where
  res : wr.heap[w.heap.size]? = some (.cells #[.bool false, .slice none 0 0] 40 (0, 0))
  var : wr.heap[w.heap.size + 1]? = some (.cells #[.bool below, v] 40 (0, 0))
  own : wr.ownsRow (w.heap.size + 2) 3 1 v k (ivs out)
  low : Below w.heap.size w wr
  size : w.heap.size + 2 ≤ wr.heap.size

theorem OfMem.start (w : World) (below : Bool) : OfMem w ((w.alloc (.cells #[.bool false, .slice none 0 0] 40)).alloc (.cells #[.bool below, .slice none 0 0] 40)) below (.slice none 0 0) 0 [] := by
  have h0 := heap_alloc_new w (.cells #[.bool false, .slice none 0 0] 40)
  have h1 := heap_alloc_new (w.alloc (.cells #[.bool false, .slice none 0 0] 40)) (.cells #[.bool below, .slice none 0 0] 40)
  rw [World.size_alloc] at h1
  exact ⟨block_alloc h0 _, h1, World.ownsRow_nil _ _ _ _, (below_alloc w _).alloc (by simp) _, by simp⟩
theorem OfMem.cells {w wr : World} {below : Bool} {v : Value} {k : Nat} {out : List Int} (h : OfMem w wr below v k out) : wr.cell? ⟨w.heap.size, 0, none⟩ = some (.bool false) ∧ wr.cell? ⟨w.heap.size, 1, none⟩ = some (.slice none 0 0) ∧ wr.cell? ⟨w.heap.size + 1, 0, none⟩ = some (.bool below) ∧ wr.cell? ⟨w.heap.size + 1, 1, none⟩ = some v ∧
    wr.frozen? ⟨w.heap.size, 0, none⟩ = false ∧ wr.frozen? ⟨w.heap.size, 1, none⟩ = false ∧ wr.frozen? ⟨w.heap.size + 1, 1, none⟩ = false :=
  ⟨cells_row wr _ h.res 0 _ rfl, cells_row wr _ h.res 1 _ rfl, cells_row wr _ h.var 0 _ rfl, cells_row wr _ h.var 1 _ rfl, frozen_of_block h.res 0, frozen_of_block h.res 1, frozen_of_block h.var 1⟩

theorem wh_pos {z : Int} {out : List Int} (h0 : 0 ≤ z) (h : Trim out) (hv : valD out = z) : WhP (decide (z < 0)) out z := by
  rw [decide_eq_false (by omega)]
  exact ⟨h, hv.symm, fun e => by cases e⟩
theorem wh_neg {z : Int} {out : List Int} (h0 : z < 0) (h : Trim out) (hv : valD out = -z) : WhP true out z := by
  refine ⟨h, by simp [numD]; omega, fun _ e => ?_⟩
  rw [e] at hv
  simp [valD] at hv
  omega
/-- a digit more -/
theorem OfMem.next {w wr w5 : World} {below : Bool} {v v5 : Value} {k : Nat} {out : List Int} {tmp : Obj} {s : Int} (h : OfMem w wr below v k out) (k1 : w5.ownsRow (w.heap.size + 2) 3 1 v5 (k + 1) (ivs out ++ [.int .i64 s])) (k2 : (wr.alloc tmp).grownBy w5 v.ownBlock) :
    OfMem w (w5.setCell ⟨w.heap.size + 1, 1, none⟩ v5) below v5 (k + 1) (out ++ [s]) := by
  have hown := fun b (hb : v.ownBlock = some b) => h.own.lt b hb
  have hs := h.size
  have h1 : w5.heap[w.heap.size]? = some (.cells #[.bool false, .slice none 0 0] 40 (0, 0)) := block_grown (block_alloc h.res _) k2 (fun e => by have := (hown _ e).1; omega)
  have h2 : w5.heap[w.heap.size + 1]? = some (.cells #[.bool below, v] 40 (0, 0)) := block_grown (block_alloc h.var _) k2 (fun e => by have := (hown _ e).1; omega)
  have hb : Below w.heap.size w w5 := h.low.trans ((((Mods.refl (fun b => v.ownBlock = some b) wr).alloc tmp).grown k2 (fun b hb _ => hb)).below (by omega) (fun b hb e => by have := (hown _ e).1; omega))
  have hs5 : w.heap.size + 2 ≤ w5.heap.size := by have := k2.size; rw [World.size_alloc] at this; omega
  refine ⟨block_setCell_ne h1 (by simp) _, block_setCell h2 1 _, ?_, hb.setCell (by simp) _, by simpa using hs5⟩
  rw [ivs_snoc]
  exact ownsRow_setCell_other k1 (fun e => by have : w.heap.size + 2 ≤ w.heap.size + 1 := (k1.lt _ e).1; omega) _

/-- the answer -/
theorem OfMem.done {w wr : World} {below : Bool} {ao : Option Addr} {n cap k : Nat} {out : List Int} {z : Int} {N : Nat} (h : OfMem w wr below (.slice ao n cap) k out) (hk : out.length = k) (hw : WhP below out z) (hN : out.length ≤ N) :
    ((wr.setCell ⟨w.heap.size, 0, none⟩ (.bool below)).setCell ⟨w.heap.size, 1, none⟩ (.slice ao n cap)).heap[w.heap.size]? = some (.cells #[.bool below, .slice ao n cap] 40 (0, 0)) ∧
    WhMade w z N (.returned (.agg #[.bool below, .slice ao n cap])) ((wr.setCell ⟨w.heap.size, 0, none⟩ (.bool below)).setCell ⟨w.heap.size, 1, none⟩ (.slice ao n cap)) := by
  have ho := has_own (ownsRow_setCell_other (a := ⟨w.heap.size, 1, none⟩) (ownsRow_setCell_other (a := ⟨w.heap.size, 0, none⟩) h.own (fun e => by have := (h.own.lt _ e).1; simp at this; omega) (.bool below)) (fun e => by have := (h.own.lt _ e).1; simp at this; omega) (.slice ao n cap))
  obtain rfl := Ints.len ho
  exact ⟨block_setCell (block_setCell h.res 0 (.bool below)) 1 _, below, ao, cap, out, rfl, ho, hw, hN, (h.low.setCell (by simp) _).setCell (by simp) _⟩


set_option maxRecDepth 100000 in
set_option maxHeartbeats 2000000 in
theorem wof_pos (w : World) (z : Int) (h0 : 0 ≤ z) (h1 : z ≤ 9223372036854775807) : Calls Try.prog 18 #[.int .i64 z] w (WhMade w z 3) := by
  obtain ⟨i0, hi, hz0, hz1, hz2⟩ := info_parts info_int
  have H0 := Lib.hid (OfAt.start h0 (by omega))
  have HS := Lib.hid (OfMem.start w (decide (z < 0)))
  have HZ := Lib.hid h1
  clear h1
  go_enter Try.func18, Try.ntmps18
  go_wp2_with fail
  go_loopw [0] (fun m wr => ∃ (k : Nat) (u : Int) (v : Value) (out : List Int), m = .int .i64 u ∧ OfAt z k u out ∧ OfMem w wr (decide (z < 0)) v k out) (fun m _ => (intOf m).toNat)
  case atStart => exact ⟨0, z, _, [], rfl, H0.out, HS.out⟩
  case round =>
    clear H0 HS
    obtain ⟨k, u, v, out, rfl, hat, hm⟩ := hrel
    obtain ⟨sv, cv, rfl⟩ := owns_slice hm.own
    obtain ⟨q1, q2, q3, q4, f1, f2, f3⟩ := hm.cells
    have HM := Lib.hid hm
    have HAt := Lib.hid hat
    have hu0 := hat.u0
    have hV := hat.V1
    clear hm hat
    by_cases hu : 0 < u
    · have hnx := HAt.out.next hu
      have HNX := Lib.hid hnx.1
      have hk2 := hnx.2
      clear hnx
      obtain ⟨d, hde⟩ : ∃ d, u % 1073741824 = d := ⟨_, rfl⟩
      have hd0 : 0 ≤ d := by omega
      have hd1 : d < 1073741824 := by omega
      have HDE := Lib.hid hde
      have hsz := HM.out.size
      have ho := HM.out.own
      skip
      go_wp2_with (at_builtin; refine stop_here ?_)
      refine go_on ?_
      refine wpList_app rfl _ _ 22 rfl (w.heap.size + 2) 3 i0 _ 1 8 Try.underlying22 hi hz0 hz1 hz2 rfl (.slice sv k cv) k _ rfl (ho.alloc (.cells #[.int .i64 d] 3)) (some ⟨wr.heap.size, 0, none⟩) 1 1 [.int .i64 d] rfl rfl (fun h => by cases h) (news_alloc wr [.int .i64 d] 3) (one_cell_int _) (by unfold maxLen; omega) (grow_ok (by omega)) (by simp; omega) ?_
      intro v5 w5 k1 k20 _ _
      have k2 : (wr.alloc (.cells #[.int .i64 d] 3)).grownBy w5 (Value.slice sv k cv).ownBlock := ⟨k20.os, k20.tape, k20.output, k20.size, k20.block⟩
      have HM5 := Lib.hid (HM.out.next k1 k2)
      obtain ⟨s5, c5, rfl⟩ := owns_slice HM5.out.own
      have kb := block_grown (block_alloc HM.out.var _) k2 (fun e => by have := (ho.lt _ e).1; omega)
      have kf := frozen_of_block kb 1
      have kc := cells_row w5 _ kb 1 _ rfl
      rw [HDE.out] at HNX
      clear k1 k20 k2 ho q1 q2 q3 q4 f1 f2 f3 kb HDE hde
      go_wp2
      go_roundw
      case rel => exact ⟨k + 1, u / 1073741824, _, _, by rw [quo_up hu0 HAt.out.le], HNX.out, HM5.out⟩
      case measure => rw [quo_up hu0 HAt.out.le]; simp [intOf]; omega
    · obtain rfl : u = 0 := by omega
      have HF := Lib.hid HAt.out.done
      obtain ⟨g1, g2⟩ := HM.out.done HAt.out.len (wh_pos h0 HF.out.1 HF.out.2.1) HF.out.2.2
      go_wp2
      refine bodyPost_ret_by (results_cell_row rfl _ _ _ _ _ _ _ rfl g1 Try.underlying40 rfl (by kernel_rfl)) rfl ?_
      exact g2

theorem neg_rem {u d : Int} (hu : 0 < u) (h : u % 1073741824 = d) : Int.tmod (-u) 1073741824 = -d := by
  rw [(neg_div (by omega)).1, Int.neg_neg, h]
theorem neg_quo {u : Int} (hu : 0 < u) (h2 : u ≤ 9223372036854775808) : wrap64 (-Int.tdiv u 1073741824) = -(u / 1073741824) := by
  rw [(pos_div (by omega)).2]; exact IntWalk.wrap64_in _ (by omega)


set_option maxRecDepth 100000 in
set_option maxHeartbeats 2000000 in
theorem wof_neg (w : World) (z : Int) (h0 : z < 0) (h1 : -9223372036854775808 ≤ z) : Calls Try.prog 18 #[.int .i64 z] w (WhMade w z 3) := by
  obtain ⟨i0, hi, hz0, hz1, hz2⟩ := info_parts info_int
  have H0 := Lib.hid (OfAt.start (V := -z) (by omega) (by omega))
  have HS := Lib.hid (OfMem.start w true)
  have HZ := Lib.hid h1
  clear h1
  go_enter Try.func18, Try.ntmps18
  go_wp2_with fail
  go_loopw [0] (fun m wr => ∃ (k : Nat) (u : Int) (v : Value) (out : List Int), m = .int .i64 (-u) ∧ OfAt (-z) k u out ∧ OfMem w wr true v k out) (fun m _ => (-(intOf m)).toNat)
  case atStart => exact ⟨0, -z, _, [], by rw [Int.neg_neg], H0.out, HS.out⟩
  case round =>
    clear H0 HS
    obtain ⟨k, u, v, out, rfl, hat, hm⟩ := hrel
    obtain ⟨sv, cv, rfl⟩ := owns_slice hm.own
    obtain ⟨q1, q2, q3, q4, f1, f2, f3⟩ := hm.cells
    have HM := Lib.hid hm
    have HAt := Lib.hid hat
    have hu0 := hat.u0
    clear hm hat
    by_cases hu : 0 < u
    · have hnx := HAt.out.next hu
      have HNX := Lib.hid hnx.1
      have hk2 := hnx.2
      clear hnx
      obtain ⟨d, hde⟩ : ∃ d, u % 1073741824 = d := ⟨_, rfl⟩
      have hd0 : 0 ≤ d := by omega
      have hd1 : d < 1073741824 := by omega
      have ht := neg_rem hu hde
      rw [hde] at HNX
      have hsz := HM.out.size
      have ho := HM.out.own
      have hn0 : ¬ -u = 0 := by omega
      clear hde
      by_cases hdz : d = 0
      · subst hdz
        go_wp2_with (at_builtin; refine stop_here ?_)
        refine go_on ?_
        refine wpList_app rfl _ _ 22 rfl (w.heap.size + 2) 3 i0 _ 1 8 Try.underlying22 hi hz0 hz1 hz2 rfl (.slice sv k cv) k _ rfl (ho.alloc (.cells #[.int .i64 0] 3)) (some ⟨wr.heap.size, 0, none⟩) 1 1 [.int .i64 0] rfl rfl (fun h => by cases h) (news_alloc wr [.int .i64 0] 3) (one_cell_int _) (by unfold maxLen; omega) (grow_ok (by omega)) (by simp; omega) ?_
        intro v5 w5 k1 k20 _ _
        have k2 : (wr.alloc (.cells #[.int .i64 0] 3)).grownBy w5 (Value.slice sv k cv).ownBlock := ⟨k20.os, k20.tape, k20.output, k20.size, k20.block⟩
        have HM5 := Lib.hid (HM.out.next k1 k2)
        obtain ⟨s5, c5, rfl⟩ := owns_slice HM5.out.own
        have kb := block_grown (block_alloc HM.out.var _) k2 (fun e => by have := (ho.lt _ e).1; omega)
        have kf := frozen_of_block kb 1
        have kc := cells_row w5 _ kb 1 _ rfl
        clear k1 k20 k2 ho q1 q2 q3 q4 f1 f2 f3 kb ht
        go_wp2
        go_roundw
        case rel => exact ⟨k + 1, u / 1073741824, _, _, by rw [neg_quo hu HAt.out.le], HNX.out, HM5.out⟩
        case measure => rw [neg_quo hu HAt.out.le]; simp [intOf]; omega
      · have hdn : -d < 0 := by omega
        go_wp2_with (at_builtin; refine stop_here ?_)
        refine go_on ?_
        refine wpList_app rfl _ _ 22 rfl (w.heap.size + 2) 3 i0 _ 1 8 Try.underlying22 hi hz0 hz1 hz2 rfl (.slice sv k cv) k _ rfl (ho.alloc (.cells #[.int .i64 d] 3)) (some ⟨wr.heap.size, 0, none⟩) 1 1 [.int .i64 d] rfl rfl (fun h => by cases h) (news_alloc wr [.int .i64 d] 3) (one_cell_int _) (by unfold maxLen; omega) (grow_ok (by omega)) (by simp; omega) ?_
        intro v5 w5 k1 k20 _ _
        have k2 : (wr.alloc (.cells #[.int .i64 d] 3)).grownBy w5 (Value.slice sv k cv).ownBlock := ⟨k20.os, k20.tape, k20.output, k20.size, k20.block⟩
        have HM5 := Lib.hid (HM.out.next k1 k2)
        obtain ⟨s5, c5, rfl⟩ := owns_slice HM5.out.own
        have kb := block_grown (block_alloc HM.out.var _) k2 (fun e => by have := (ho.lt _ e).1; omega)
        have kf := frozen_of_block kb 1
        have kc := cells_row w5 _ kb 1 _ rfl
        clear k1 k20 k2 ho q1 q2 q3 q4 f1 f2 f3 kb ht
        go_wp2
        go_roundw
        case rel => exact ⟨k + 1, u / 1073741824, _, _, by rw [neg_quo hu HAt.out.le], HNX.out, HM5.out⟩
        case measure => rw [neg_quo hu HAt.out.le]; simp [intOf]; omega
    · obtain rfl : u = 0 := by omega
      have HF := Lib.hid HAt.out.done
      obtain ⟨g1, g2⟩ := HM.out.done HAt.out.len (wh_neg h0 HF.out.1 HF.out.2.1) HF.out.2.2
      go_wp2
      refine bodyPost_ret_by (results_cell_row rfl _ _ _ _ _ _ _ rfl g1 Try.underlying40 rfl (by kernel_rfl)) rfl ?_
      exact g2

theorem wof_any (w : World) (z : Int) (hf : Fits z) : Calls Try.prog 18 #[.int .i64 z] w (WhMade w z 3) := by
  unfold Fits at hf
  by_cases h : z < 0
  · exact wof_neg w z h hf.1
  · exact wof_pos w z (by omega) (by omega)
end Go.Proofs.Ytknmiiajeafjpaa
