/- Whole numbers: the walk of Times. -/
import Derived.Test.YtknmiiajeafjpaaWhole6
namespace Go.Proofs.Ytknmiiajeafjpaa
open Go.RowKit

theorem wrap_add3 {q n p : Nat} (e : q + n = p) (h : p ≤ 4611686018427387904) : wrap64 ((q : Int) + n) = p := by
  rw [← Int.natCast_add, e]; exact IntWalk.wrap64_in _ (by omega)

/-- a row of the product, as it is known -/
structure RowAt (xs ys : List Int) (V : Int) (i : Nat) (out : List Int) : Prop where
  len : out.length = xs.length + ys.length
  digs : Digs out
  sum : valD out + 1073741824 ^ i * (valD (xs.drop i) * valD ys) = V
  zero : ∀ q, i + ys.length ≤ q → out[q]?.getD 0 = 0
/-- a digit of the row; x: the row's digit, V: what the row is to give -/
structure ColAt (xs ys : List Int) (V : Int) (i : Nat) (x : Int) (j : Nat) (c : Int) (out : List Int) : Prop where
  len : out.length = xs.length + ys.length
  digs : Digs out
  c0 : 0 ≤ c
  c1 : c < 1073741824
  sum : valD out + 1073741824 ^ (i + j) * (c + x * valD (ys.drop j)) = V
  zero : ∀ q, i + ys.length ≤ q → out[q]?.getD 0 = 0

theorem RowAt.start {xs ys : List Int} : RowAt xs ys (valD xs * valD ys) 0 (List.replicate (xs.length + ys.length) 0) :=
  ⟨by simp, digs_rep _, by simp [valD_rep], fun q _ => by by_cases h : q < xs.length + ys.length <;> simp [List.getElem?_replicate, h]⟩
theorem RowAt.col {xs ys : List Int} {V : Int} {i : Nat} {out : List Int} (h : RowAt xs ys V i out) : ColAt xs ys (V - 1073741824 ^ (i + 1) * (valD (xs.drop (i + 1)) * valD ys)) i (xs[i]?.getD 0) 0 0 out :=
  ⟨h.len, h.digs, Int.le_refl _, by decide, by have := times_row h.sum; omega, h.zero⟩
theorem ColAt.next {xs ys : List Int} {V : Int} {i : Nat} {x : Int} {j : Nat} {c : Int} {out : List Int} (h : ColAt xs ys V i x j c out) (hx : 0 ≤ x ∧ x < 1073741824) (dy : Digs ys) (hj : j < ys.length) (hi : i < xs.length) {s : Int} (hs : s = out[i + j]?.getD 0 + x * ys[j]?.getD 0 + c) :
    ColAt xs ys V i x (j + 1) (s / 1073741824) (out.set (i + j) (s % 1073741824)) := by
  have h1 := prod_fits (digs_at h.digs (i + j)) hx (digs_at dy j) ⟨h.c0, h.c1⟩
  rw [← hs] at h1
  refine ⟨by simp [h.len], digs_set h.digs _ ⟨by omega, by omega⟩, by omega, by omega, ?_, fun q hq => ?_⟩
  · rw [hs]; exact times_step (by have := h.len; omega) h.sum
  · rw [List.getElem?_set_ne (by omega)]; exact h.zero q hq
theorem ColAt.row {xs ys : List Int} {V : Int} {i : Nat} {c : Int} {out : List Int} (h : ColAt xs ys (V - 1073741824 ^ (i + 1) * (valD (xs.drop (i + 1)) * valD ys)) i (xs[i]?.getD 0) ys.length c out) (hi : i < xs.length) : RowAt xs ys V (i + 1) (out.set (i + ys.length) c) := by
  have hz := h.zero (i + ys.length) (Nat.le_refl _)
  refine ⟨by simp [h.len], digs_set h.digs _ ⟨h.c0, h.c1⟩, ?_, fun q hq => ?_⟩
  · have h1 := h.sum
    rw [List.drop_length] at h1
    simp only [valD, Int.mul_zero, Int.add_zero] at h1
    rw [valD_set _ _ (by have := h.len; omega), hz, Int.sub_zero, h1]
    omega
  · rw [List.getElem?_set_ne (by omega)]; exact h.zero q (by omega)
theorem RowAt.done {xs ys : List Int} {V : Int} {out : List Int} (h : RowAt xs ys V xs.length out) : valD out = V := by
  have h1 := h.sum
  rw [List.drop_length] at h1
  simpa [valD] using h1

theorem times_wh {a b : Bool} {xs ys ds : List Int} {x y : Int} (hx : WhP a xs x) (hy : WhP b ys y) (hxe : xs ≠ []) (hye : ys ≠ []) (h : Trim ds) (hv : valD ds = valD xs * valD ys) : WhP (a != b) ds (x * y) := by
  refine ⟨h, ?_, fun _ => ?_⟩
  · rw [hx.2.1, hy.2.1]
    cases a <;> cases b <;> simp [numD, hv, Int.mul_neg, Int.neg_mul]
  · have h1 := valD_pos hx.1 hxe
    have h2 := valD_pos hy.1 hye
    have h3 : 1 * 1 ≤ valD xs * valD ys := Int.mul_le_mul h1 h2 (by omega) (by omega)
    exact nonempty_of (by omega)
theorem times_zero {a b : Bool} {xs ys : List Int} {x y : Int} (hx : WhP a xs x) (hy : WhP b ys y) (h : xs = [] ∨ ys = []) : WhP false [] (x * y) := by
  refine ⟨trim_nil, ?_, fun e => by cases e⟩
  rw [hx.2.1, hy.2.1]
  rcases h with rfl | rfl
  · cases a <;> simp [numD, valD]
  · cases b <;> simp [numD, valD]
theorem ivs_set (l : List Int) (k : Nat) (s : Int) : (ivs l).set k (.int .i64 s) = ivs (l.set k s) := by simp [ivs, List.map_set]
end Go.Proofs.Ytknmiiajeafjpaa
