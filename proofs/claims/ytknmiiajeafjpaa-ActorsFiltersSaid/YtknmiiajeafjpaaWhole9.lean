/- Whole numbers: the walk of Cmp. -/
import Derived.Test.YtknmiiajeafjpaaWhole8
namespace Go.Proofs.Ytknmiiajeafjpaa
open Go.RowKit

theorem num_pos {b : Bool} {ds : List Int} {z : Int} (h : WhP b ds z) (hb : b = false) : 0 ≤ z := by
  subst hb
  rw [h.2.1]; exact valD_nonneg h.1.1
theorem num_lt {b : Bool} {ds : List Int} {z : Int} (h : WhP b ds z) (hb : b = true) : z < 0 := (num_neg h).1 hb
theorem sgn_neg (x y : Int) : wrap64 (-sgnP x y) = sgnP (-x) (-y) := by
  unfold sgnP
  by_cases h1 : x < y
  · rw [if_pos h1, if_neg (show ¬ -x < -y by omega), if_pos (show -y < -x by omega)]; exact IntWalk.wrap64_in _ (by decide)
  · by_cases h2 : y < x
    · rw [if_neg h1, if_pos h2, if_pos (show -x < -y by omega)]; exact IntWalk.wrap64_in _ (by decide)
    · rw [if_neg h1, if_neg h2, if_neg (by omega), if_neg (by omega)]; exact IntWalk.wrap64_in _ (by decide)

/-- the two boxes of a call with two whole numbers -/
theorem two_boxes (w : World) (a b : Bool) (va vb : Value) (W : World) (hW : (w.alloc (.cells #[.bool a, va] 40)).alloc (.cells #[.bool b, vb] 40) = W) :
    (W.cell? ⟨w.heap.size, 0, none⟩ = some (.bool a) ∧ W.cell? ⟨w.heap.size, 1, none⟩ = some va ∧ W.cell? ⟨w.heap.size + 1, 0, none⟩ = some (.bool b) ∧ W.cell? ⟨w.heap.size + 1, 1, none⟩ = some vb) ∧ Below w.heap.size w W := by
  subst hW
  have h0 := block_alloc (heap_alloc_new w (.cells #[.bool a, va] 40)) (.cells #[.bool b, vb] 40)
  have h1 := heap_alloc_new (w.alloc (.cells #[.bool a, va] 40)) (.cells #[.bool b, vb] 40)
  rw [World.size_alloc] at h1
  exact ⟨⟨cells_row _ _ h0 0 _ rfl, cells_row _ _ h0 1 _ rfl, cells_row _ _ h1 0 _ rfl, cells_row _ _ h1 1 _ rfl⟩, (below_alloc w _).alloc (by simp) _⟩

def Tells (v : Value) (w : World) (e : Ending) (w' : World) : Prop := e = .returned v ∧ Below w.heap.size w w'

set_option maxRecDepth 100000 in
set_option maxHeartbeats 1000000 in
theorem wcmp_any (w : World) (a b : Bool) (aa ab : Option Addr) (ca cb : Nat) (xs ys : List Int) (x y : Int) (ha : Has w (.slice aa xs.length ca) (ivs xs)) (hb : Has w (.slice ab ys.length cb) (ivs ys)) (px : WhP a xs x) (py : WhP b ys y) (hxN : xs.length ≤ 1000) (hyN : ys.length ≤ 1000) :
    Calls Try.prog 37 #[.agg #[.bool a, .slice aa xs.length ca], .agg #[.bool b, .slice ab ys.length cb]] w (Tells (.int .i64 (sgnP x y)) w) := by
  obtain ⟨W, hW⟩ : ∃ W, (w.alloc (.cells #[.bool a, .slice aa xs.length ca] 40)).alloc (.cells #[.bool b, .slice ab ys.length cb] 40) = W := ⟨_, rfl⟩
  obtain ⟨⟨q0, q1, q2, q3⟩, hb0⟩ := two_boxes w a b _ _ W hW
  have HA := Lib.hid (ha.below hb0)
  have HB := Lib.hid (hb.below hb0)
  have HBW := Lib.hid hb0
  have PX := Lib.hid px
  have PY := Lib.hid py
  clear ha hb px py hb0
  by_cases hab : a = b
  · subst hab
    cases a with
    | false =>
      have e : sgnP x y = sgnP (valD xs) (valD ys) := by rw [PX.out.2.1, PY.out.2.1]; rfl
      rw [e]
      clear e
      go_enter Try.func37, Try.ntmps37
      go_wp2_with fail
      clear hW
      refine (wsize_any W aa ab _ _ ca cb xs ys HA.out HB.out PX.out.1 PY.out.1 hxN hyN).mono ?_
      rintro e w3 ⟨rfl, m, rfl⟩
      go_wp2
      go_ret
      exact ⟨rfl, below_dr HBW.out⟩
    | true =>
      have e : sgnP x y = wrap64 (-sgnP (valD xs) (valD ys)) := by rw [sgn_neg, PX.out.2.1, PY.out.2.1]; rfl
      rw [e]
      obtain ⟨S, hS⟩ : ∃ S, sgnP (valD xs) (valD ys) = S := ⟨_, rfl⟩
      rw [hS]
      have HS := Lib.hid hS
      clear e hS
      go_enter Try.func37, Try.ntmps37
      go_wp2_with fail
      clear hW
      refine (wsize_any W aa ab _ _ ca cb xs ys HA.out HB.out PX.out.1 PY.out.1 hxN hyN).mono ?_
      rintro e w3 ⟨rfl, m, rfl⟩
      rw [HS.out]
      go_wp2
      go_ret
      exact ⟨rfl, below_dr HBW.out⟩
  · have hnb : (a == b) = false := by simpa using hab
    have hne : (a != b) = true := by simpa using hab
    cases a with
    | false =>
      obtain rfl : b = true := by cases b <;> simp at hab ⊢
      rw [sgnP_gt (by have := num_pos PX.out rfl; have := num_lt PY.out rfl; omega)]
      go_enter Try.func37, Try.ntmps37
      go_wp2
      go_ret
      exact ⟨rfl, HBW.out⟩
    | true =>
      obtain rfl : b = false := by cases b <;> simp at hab ⊢
      rw [sgnP_lt (by have := num_lt PX.out rfl; have := num_pos PY.out rfl; omega)]
      go_enter Try.func37, Try.ntmps37
      go_wp2
      go_ret
      exact ⟨rfl, HBW.out⟩
end Go.Proofs.Ytknmiiajeafjpaa
