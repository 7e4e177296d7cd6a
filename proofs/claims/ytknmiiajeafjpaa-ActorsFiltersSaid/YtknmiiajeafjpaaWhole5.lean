/- Whole numbers: the walk of Plus. -/
import Derived.Test.YtknmiiajeafjpaaWhole4
import Derived.Test.YtknmiiajeafjpaaReg2
import Derived.Deep.RegionHeld
namespace Go.Proofs.Ytknmiiajeafjpaa
open Go.RowKit

theorem nonempty_of {ds : List Int} (h : 1 ≤ valD ds) : ds ≠ [] := fun e => by rw [e] at h; simp [valD] at h
theorem plus_same {b : Bool} {xs ys ds : List Int} {x y : Int} (hx : WhP b xs x) (hy : WhP b ys y) (h : Trim ds) (hv : valD ds = valD xs + valD ys) : WhP b ds (x + y) := by
  obtain ⟨h1, h2, h3⟩ := hx
  obtain ⟨k1, k2, _⟩ := hy
  have h4 := valD_nonneg k1.1
  refine ⟨h, ?_, fun e => ?_⟩
  · rw [h2, k2]
    cases b <;> simp [numD] <;> omega
  · have := valD_pos h1 (h3 e)
    exact nonempty_of (by omega)
theorem plus_zero {a b : Bool} {xs ys : List Int} {x y : Int} (hx : WhP a xs x) (hy : WhP b ys y) (hab : a ≠ b) (hv : valD xs = valD ys) : WhP false [] (x + y) := by
  refine ⟨trim_nil, ?_, fun e => by cases e⟩
  rw [hx.2.1, hy.2.1]
  cases a <;> cases b <;> simp [numD, valD] at hab ⊢ <;> omega
theorem plus_more {a b : Bool} {xs ys ds : List Int} {x y : Int} (hx : WhP a xs x) (hy : WhP b ys y) (hab : a ≠ b) (hlt : valD ys < valD xs) (h : Trim ds) (hv : valD ds = valD xs - valD ys) : WhP a ds (x + y) := by
  refine ⟨h, ?_, fun _ => nonempty_of (by omega)⟩
  rw [hx.2.1, hy.2.1]
  cases a <;> cases b <;> simp [numD] at hab ⊢ <;> omega

/-- the three blocks of a call with two whole numbers -/
structure TwoIn (w W : World) (ba bb : Bool) (va vb : Value) : Prop where
  a : W.heap[w.heap.size]? = some (.cells #[.bool ba, va] 40 (0, 0))
  b : W.heap[w.heap.size + 1]? = some (.cells #[.bool bb, vb] 40 (0, 0))
  r : W.heap[w.heap.size + 2]? = some (.cells #[.bool false, .slice none 0 0] 40 (0, 0))
  low : Below w.heap.size w W
  size : w.heap.size + 3 ≤ W.heap.size

theorem TwoIn.start (w : World) (ba bb : Bool) (va vb : Value) : TwoIn w (((w.alloc (.cells #[.bool ba, va] 40)).alloc (.cells #[.bool bb, vb] 40)).alloc (.cells #[.bool false, .slice none 0 0] 40)) ba bb va vb := by
  have h0 := heap_alloc_new w (.cells #[.bool ba, va] 40)
  have h1 := heap_alloc_new (w.alloc (.cells #[.bool ba, va] 40)) (.cells #[.bool bb, vb] 40)
  rw [World.size_alloc] at h1
  have h2 := heap_alloc_new ((w.alloc (.cells #[.bool ba, va] 40)).alloc (.cells #[.bool bb, vb] 40)) (.cells #[.bool false, .slice none 0 0] 40)
  rw [World.size_alloc, World.size_alloc] at h2
  exact ⟨block_alloc (block_alloc h0 _) _, block_alloc h1 _, h2, ((below_alloc w _).alloc (by simp) _).alloc (by simp; omega) _, by simp⟩
theorem TwoIn.later {w W W' : World} {ba bb : Bool} {va vb : Value} (h : TwoIn w W ba bb va vb) (hb : Below W.heap.size W W') : TwoIn w W' ba bb va vb := by
  have hs := h.size
  refine ⟨?_, ?_, ?_, h.low.trans (hb.mono (by omega)), Nat.le_trans hs hb.size⟩
  · exact block_mods h.a (Mods.of_below hb (fun _ => False)) (fun h => h)
  · exact block_mods h.b (Mods.of_below hb (fun _ => False)) (fun h => h)
  · exact block_mods h.r (Mods.of_below hb (fun _ => False)) (fun h => h)
theorem TwoIn.drewN {w W : World} {ba bb : Bool} {va vb : Value} (h : TwoIn w W ba bb va vb) (m : Nat) : TwoIn w (W.drewN m) ba bb va vb := h.later (below_dr (Below.refl _ _))
theorem TwoIn.cells {w W : World} {ba bb : Bool} {va vb : Value} (h : TwoIn w W ba bb va vb) : W.cell? ⟨w.heap.size, 0, none⟩ = some (.bool ba) ∧ W.cell? ⟨w.heap.size, 1, none⟩ = some va ∧ W.cell? ⟨w.heap.size + 1, 0, none⟩ = some (.bool bb) ∧ W.cell? ⟨w.heap.size + 1, 1, none⟩ = some vb :=
  ⟨cells_row W _ h.a 0 _ rfl, cells_row W _ h.a 1 _ rfl, cells_row W _ h.b 0 _ rfl, cells_row W _ h.b 1 _ rfl⟩
theorem TwoIn.rcells {w W : World} {ba bb : Bool} {va vb : Value} (h : TwoIn w W ba bb va vb) : W.cell? ⟨w.heap.size + 2, 0, none⟩ = some (.bool false) ∧ W.cell? ⟨w.heap.size + 2, 1, none⟩ = some (.slice none 0 0) ∧ W.frozen? ⟨w.heap.size + 2, 0, none⟩ = false ∧ W.frozen? ⟨w.heap.size + 2, 1, none⟩ = false :=
  ⟨cells_row W _ h.r 0 _ rfl, cells_row W _ h.r 1 _ rfl, frozen_of_block h.r 0, frozen_of_block h.r 1⟩
/-- the answer, laid into the result's block -/
theorem TwoIn.done {w W : World} {ba bb below : Bool} {va vb : Value} {ao : Option Addr} {cap : Nat} {ds : List Int} {z : Int} {N : Nat} (h : TwoIn w W ba bb va vb) (hv : Has W (.slice ao ds.length cap) (ivs ds)) (hw : WhP below ds z) (hN : ds.length ≤ N) :
    ((W.setCell ⟨w.heap.size + 2, 0, none⟩ (.bool below)).setCell ⟨w.heap.size + 2, 1, none⟩ (.slice ao ds.length cap)).heap[w.heap.size + 2]? = some (.cells #[.bool below, .slice ao ds.length cap] 40 (0, 0)) ∧
    WhMade w z N (.returned (.agg #[.bool below, .slice ao ds.length cap])) ((W.setCell ⟨w.heap.size + 2, 0, none⟩ (.bool below)).setCell ⟨w.heap.size + 2, 1, none⟩ (.slice ao ds.length cap)) := by
  refine ⟨block_setCell (block_setCell h.r 0 (.bool below)) 1 _, below, ao, cap, ds, rfl, ?_, hw, hN, (h.low.setCell (by simp) _).setCell (by simp) _⟩
  by_cases hp : 0 < ds.length
  · obtain ⟨b, off, rfl, -, hl, hb, -, hcl⟩ := Ints.at hv hp
    have hb2 : b ≠ w.heap.size + 2 := fun e => by
      have h0 := hcl 0 hp
      rw [e, cell_of_row W _ _ _ _ _ h.r] at h0
      match off + 0, h0 with
      | 0, h0 => simp at h0
      | 1, h0 => simp at h0
      | k + 2, h0 => simp at h0
    refine .inr ⟨by simpa using hp, b, off, cap, by simp, by simpa using hl, by simpa using hb, rfl, fun k hk => ?_⟩
    rw [ivs_len] at hk
    rw [World.cell?_setCell_far _ _ _ _ (fun e => hb2 e.symm), World.cell?_setCell_far _ _ _ _ (fun e => hb2 e.symm), hcl k hk, ivs_get hk]
  · obtain rfl : ds = [] := List.eq_nil_of_length_eq_zero (by omega)
    exact .inl ⟨rfl, _, _, rfl⟩
end Go.Proofs.Ytknmiiajeafjpaa
