/- ActorsFilters, walked. -/
import Derived.Test.YtknmiiajeafjpaaFilterLaw
import Derived.Test.YtknmiiajeafjpaaWhole10
namespace Go.Proofs.Ytknmiiajeafjpaa
open Go.RowKit

section
variable {o o' : Col} {C : Nat → Prop} {w w' w2 : World} {c d : Nat}
/-- an owned row grows -/
theorem Own.app1 {e n m : Nat} {v v' : Value} {xs news : List Value} {tmp : Obj} (h : Own w o c e 1 v n xs) (k1 : w2.ownsRow 0 e 1 v' (n + m) (xs ++ news)) (k2 : (w.alloc tmp).grownBy w2 v.ownBlock)
    (k4 : v'.ownBlock = v.ownBlock ∨ v'.ownBlock = some (w.alloc tmp).heap.size) : Own w2 (ext o w.heap.size c) c e 1 v' (n + m) (xs ++ news) ∧ Turn o (ext o w.heap.size c) (fun x => x = c) w w2 := by
  have T : Turn o (ext o w.heap.size c) (fun x => x = c) w w2 :=
    Turn.of_mods o c (((Mods.refl (fun b => v.ownBlock = some b) w).alloc tmp).grown k2 (fun b hb _ => hb)) (fun b _ hb => h.2 b hb)
  refine ⟨⟨k1, fun b hb => ?_⟩, T⟩
  rcases k4 with k4 | k4
  · rw [k4] at hb
    exact (ext_old (h.1.lt b hb).2).trans (h.2 b hb)
  · rw [k4] at hb
    have := Option.some.inj hb
    simp at this
    exact ext_new (by omega)
end

/-- the sum so far -/
structure SumAt (wq : World) (P : Nat) (taps rev : List Int) (Y : Int) (j : Nat) (b : Bool) (ao : Option Addr) (cap : Nat) (ds : List Int) (z : Int) : Prop where
  blk : wq.heap[P]? = some (.cells #[.bool b, .slice ao ds.length cap] 40 (0, 0))
  has : Has wq (.slice ao ds.length cap) (ivs ds)
  wh : WhP b ds z
  len : ds.length ≤ 7 + j
  sum : z + sumT (taps.drop j) (rev.drop j) = Y

/-- a list of digits is read past a block that holds none -/
theorem has_past {W : World} {P : Nat} {b : Bool} {v v' : Value} {t : TypeId} (hv' : ∀ x, v' ≠ iv x) (hP : W.heap[P]? = some (.cells #[.bool b, v'] t (0, 0))) {ao : Option Addr} {cap : Nat} {ds : List Int} (h : Has W (.slice ao ds.length cap) (ivs ds)) (u : Value) :
    Has ((W.setCell ⟨P, 0, none⟩ u).setCell ⟨P, 1, none⟩ v) (.slice ao ds.length cap) (ivs ds) := by
  by_cases hp : 0 < ds.length
  · obtain ⟨b', off, rfl, -, hl, hb, -, hcl⟩ := Ints.at h hp
    have hb2 : b' ≠ P := fun e => by
      have h0 := hcl 0 hp
      rw [e, cell_of_row W _ _ _ _ _ hP] at h0
      match off + 0, h0 with
      | 0, h0 => simp at h0
      | 1, h0 => exact hv' _ (by simpa using h0)
      | k + 2, h0 => simp at h0
    refine .inr ⟨by simpa using hp, b', off, cap, by simp, by simpa using hl, by simpa using hb, rfl, fun k hk => ?_⟩
    rw [ivs_len] at hk
    rw [World.cell?_setCell_far _ _ _ _ (fun e => hb2 e.symm), World.cell?_setCell_far _ _ _ _ (fun e => hb2 e.symm), hcl k hk, ivs_get hk]
  · obtain rfl : ds = [] := List.eq_nil_of_length_eq_zero (by omega)
    exact .inl ⟨rfl, _, _, rfl⟩

theorem SumAt.start {w6 : World} {taps rev : List Int} {b : Bool} {ao : Option Addr} {cap : Nat} {ds : List Int} (h : Has w6 (.slice ao ds.length cap) (ivs ds)) (hw : WhP b ds 0) (hl : ds.length ≤ 3) :
    SumAt (w6.alloc (.cells #[.bool b, .slice ao ds.length cap] 40)) w6.heap.size taps rev (sumT taps rev) 0 b ao cap ds 0 :=
  ⟨heap_alloc_new _ _, h.below (below_alloc w6 _), hw, by omega, by simp⟩
/-- a product more: laid into the block -/
theorem SumAt.next {wq W : World} {P : Nat} {taps rev : List Int} {Y : Int} {j : Nat} {b b' : Bool} {ao ao' : Option Addr} {cap cap' : Nat} {ds ds' : List Int} {z : Int} (h : SumAt wq P taps rev Y j b ao cap ds z) (hj : j < taps.length) (hb : Below wq.heap.size wq W)
    (hv : Has W (.slice ao' ds'.length cap') (ivs ds')) (hw : WhP b' ds' (z + taps[j]?.getD 0 * rev[j]?.getD 0)) (hl : ds'.length ≤ 7 + j + 1) :
    SumAt ((W.setCell ⟨P, 0, none⟩ (.bool b')).setCell ⟨P, 1, none⟩ (.slice ao' ds'.length cap')) P taps rev Y (j + 1) b' ao' cap' ds' (z + taps[j]?.getD 0 * rev[j]?.getD 0) := by
  have hP := block_mods h.blk (Mods.of_below hb (fun _ => False)) (fun h => h)
  refine ⟨block_setCell (block_setCell hP 0 _) 1 _, has_past (fun x e => by cases e) hP hv _, hw, by omega, ?_⟩
  have := h.sum
  rw [sumT_drop taps rev j hj] at this
  omega
theorem SumAt.done {wq : World} {P : Nat} {taps rev : List Int} {Y : Int} {j : Nat} {b : Bool} {ao : Option Addr} {cap : Nat} {ds : List Int} {z : Int} (h : SumAt wq P taps rev Y j b ao cap ds z) (hj : taps.length ≤ j ∨ rev.length ≤ j) : WhP b ds Y := by
  have h1 := h.sum
  rw [sumT_end hj, Int.add_zero] at h1
  rw [← h1]; exact h.wh

theorem filter_good {taps : List Int} (h1 : 1 ≤ taps.length) (h2 : taps.length ≤ 16) : goodP 1 taps := .inl ⟨rfl, h1, h2⟩

set_option maxRecDepth 100000 in
set_option maxHeartbeats 2000000 in
theorem filters_no (w : World) (tao : Option Addr) (tcap : Nat) (taps : List Int) (v : Value) (hg : taps.length < 1 ∨ 16 < taps.length) (hl : taps.length ≤ 17600000000000) (h : Has w (.slice tao taps.length tcap) (ivs taps)) : Calls Try.prog 6 #[.slice tao taps.length tcap, v] w fun e w' => e = .returned (.bool true) ∧ Below w.heap.size w w' := by
  have hng : ¬ goodP 1 taps := by
    intro hh
    have : 1 ≤ taps.length ∧ taps.length ≤ 16 := by simpa [goodP] using hh
    omega
  have HG := Lib.hid hng
  have HL := Lib.hid hl
  have HH := Lib.hid h
  have e1 : errP 1 = 61 := by decide
  clear hng hl h
  rcases hg with hg | hg
  · have hgi : (taps.length : Int) < 1 := by omega
    go_enter Try.func6, Try.ntmps6
    go_wp2_with fail
    refine (New_no HG.out HL.out HH.out).mono ?_
    rintro e w1 ⟨rfl, hb1⟩
    go_wp2_with fail
    refine (awake_yes w1).mono ?_
    rintro e w3 ⟨rfl, hb3⟩
    go_wp2
    go_ret
    exact ⟨rfl, hb1.trans (hb3.mono hb1.size)⟩
  · have hgi : (16 : Int) < taps.length := by omega
    go_enter Try.func6, Try.ntmps6
    go_wp2_with fail
    refine (New_no HG.out HL.out HH.out).mono ?_
    rintro e w1 ⟨rfl, hb1⟩
    go_wp2_with fail
    refine (awake_yes w1).mono ?_
    rintro e w3 ⟨rfl, hb3⟩
    go_wp2
    go_ret
    exact ⟨rfl, hb1.trans (hb3.mono hb1.size)⟩
end Go.Proofs.Ytknmiiajeafjpaa
