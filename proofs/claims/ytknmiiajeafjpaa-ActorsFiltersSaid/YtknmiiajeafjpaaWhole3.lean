/- Whole numbers: the walk of less. -/
import Derived.Test.YtknmiiajeafjpaaWhole2
namespace Go.Proofs.Ytknmiiajeafjpaa
open Go.RowKit

/-- a round of less, as it is known -/
structure LessAt (xs ys : List Int) (V : Int) (k : Nat) (c : Int) (out : List Int) : Prop where
  len : out.length = k
  c0 : 0 ≤ c
  c1 : c ≤ 1
  digs : Digs out
  sum : valD out + 1073741824 ^ k * (valD (xs.drop k) - valD (ys.drop k) - c) = V

theorem LessAt.next {xs ys : List Int} {V : Int} {k : Nat} {c : Int} {out : List Int} (h : LessAt xs ys V k c out) (dx : Digs xs) (dy : Digs ys) {s r q : Int} (hs : s = xs[k]?.getD 0 - c - ys[k]?.getD 0) (hq : (0 ≤ s ∧ q = 0 ∧ r = s) ∨ (s < 0 ∧ q = 1 ∧ r = s + 1073741824)) :
    LessAt xs ys V (k + 1) q (out ++ [r]) := by
  have h1 := digs_at dx k
  have h2 := digs_at dy k
  have h3 := h.c0
  have h4 := h.c1
  exact ⟨by simp [h.len], by omega, by omega, digs_snoc h.digs ⟨by omega, by omega⟩, less_step h.len h.sum (by omega)⟩
theorem LessAt.done {xs ys : List Int} {V : Int} {c : Int} {out : List Int} (h : LessAt xs ys V xs.length c out) (hy : ys.length ≤ xs.length) (hV : 0 ≤ V) : valD out = V := by
  have h1 := h.sum
  rw [List.drop_of_length_le (Nat.le_refl _), List.drop_of_length_le hy] at h1
  have h2 := h.c0
  have h3 := h.c1
  have h4 := valD_lt h.digs
  rw [h.len] at h4
  have h5 := pow_pos' xs.length
  by_cases hc : c = 0
  · subst hc
    simpa [valD] using h1
  · obtain rfl : c = 1 := by omega
    simp only [valD] at h1
    omega


set_option maxRecDepth 100000 in
set_option maxHeartbeats 2000000 in
theorem wless_any (w : World) (ao bo : Option Addr) (n m cap cap' : Nat) (xs ys : List Int) (N : Nat) (ha : Has w (.slice ao n cap) (ivs xs)) (hb : Has w (.slice bo m cap') (ivs ys)) (tx : Trim xs) (ty : Trim ys) (hxN : xs.length ≤ N) (hN : N ≤ 900) (hle : valD ys ≤ valD xs) :
    Calls Try.prog 35 #[.slice ao n cap, .slice bo m cap'] w (DMade w (valD xs - valD ys) N) := by
  obtain ⟨i0, hi, hz0, hz1, hz2⟩ := info_parts info_int
  obtain rfl := Ints.len ha
  obtain rfl := Ints.len hb
  have hll : ys.length ≤ xs.length := by
    refine Nat.le_of_not_lt fun h => ?_
    have := valD_short tx ty h
    omega
  obtain ⟨V, hV⟩ : ∃ V, valD xs - valD ys = V := ⟨_, rfl⟩
  have hV0 : 0 ≤ V := by omega
  have H0 := Lib.hid (⟨rfl, by omega, by omega, (fun d h => by simp at h), by simpa [valD] using hV⟩ : LessAt xs ys V 0 0 [])
  rw [hV]
  have HA := Lib.hid ha
  have HB := Lib.hid hb
  have DA := Lib.hid tx.1
  have DB := Lib.hid ty.1
  clear ha hb tx ty hV hle
  go_enter Try.func35, Try.ntmps35
  go_wp2_with fail
  go_loopw [5, 6, 7] (fun v c i wr => ∃ (k : Nat) (cc : Int) (out : List Int), k ≤ xs.length ∧ c = .int .i64 cc ∧ i = .int .i64 k ∧ wr.ownsRow w.heap.size 3 1 v k (ivs out) ∧ LessAt xs ys V k cc out ∧ Below w.heap.size w wr) (fun _ _ i _ => xs.length - (intOf i).toNat)
  case atStart => exact ⟨0, 0, [], Nat.zero_le _, rfl, rfl, World.ownsRow_nil w w.heap.size 3 1, H0.out, Below.refl _ _⟩
  case round =>
    clear H0
    obtain ⟨k, c, out, hk, rfl, rfl, ho, hat, hb0⟩ := hrel
    have hsz := hb0.size
    have HB0 := Lib.hid hb0
    have HAt := Lib.hid hat
    obtain ⟨sv, cv, rfl⟩ := owns_slice ho
    have hc0 := hat.c0
    have hc1 := hat.c1
    clear hb0 hat
    by_cases hx : k < xs.length
    · obtain ⟨b1, f1, rfl, -, hcx, -, -, hcl1⟩ := Ints.at HA.out (by omega)
      have hx1 := cell_later HB0.out (hcl1 k hx)
      have hxi : (k : Int) < xs.length := by omega
      have hcxi : (xs.length : Int) ≤ cap := by omega
      have hxd := digs_at DA.out k
      clear hcl1
      obtain ⟨x, hxe⟩ : ∃ x, xs[k]?.getD 0 = x := ⟨_, rfl⟩
      rw [hxe] at hx1 hxd
      have hE1 := Lib.hid hxe
      clear hxe
      by_cases hy : k < ys.length
      · obtain ⟨b2, f2, rfl, -, hcy, -, -, hcl2⟩ := Ints.at HB.out (by omega)
        have hy1 := cell_later HB0.out (hcl2 k hy)
        have hyi : (k : Int) < ys.length := by omega
        have hcyi : (ys.length : Int) ≤ cap' := by omega
        have hyd := digs_at DB.out k
        clear hcl2
        obtain ⟨y, hye⟩ : ∃ y, ys[k]?.getD 0 = y := ⟨_, rfl⟩
        rw [hye] at hy1 hyd
        have hE2 := Lib.hid hye
        clear hye
        by_cases hs : x - c - y < 0
        · have HNX := Lib.hid (HAt.out.next DA.out DB.out (s := x - c - y) (r := x - c - y + 1073741824) (q := 1) (by rw [hE1.out, hE2.out]) (.inr ⟨hs, rfl, rfl⟩))
          go_wp2_with (at_builtin; refine stop_here ?_)
          refine go_on ?_
          refine wpList_app rfl _ _ 22 rfl w.heap.size 3 i0 _ 1 8 Try.underlying22 hi hz0 hz1 hz2 rfl (.slice sv k cv) k _ rfl (ho.alloc (.cells #[.int .i64 (x - c - y + 1073741824)] 3)) (some ⟨wr.heap.size, 0, none⟩) 1 1 [.int .i64 (x - c - y + 1073741824)] rfl rfl (fun h => by cases h) (news_alloc wr [.int .i64 (x - c - y + 1073741824)] 3) (one_cell_int _) (by unfold maxLen; omega) (grow_ok (by omega)) (size_le_alloc hsz _) ?_
          intro v5 w5 k1 k20 _ _
          have k2 : (wr.alloc (.cells #[.int .i64 (x - c - y + 1073741824)] 3)).grownBy w5 (Value.slice sv k cv).ownBlock := ⟨k20.os, k20.tape, k20.output, k20.size, k20.block⟩
          have hb5 := HB0.out.trans (below_app ho k2 hsz)
          have k3 : w5.ownsRow w.heap.size 3 1 v5 (k + 1) (ivs (out ++ [(x - c - y + 1073741824)])) := by
            rw [ivs_snoc]
            simpa using k1
          clear k1 k20 k2 ho
          go_wp2
          go_roundw
          case rel => exact ⟨k + 1, _, _, by omega, rfl, by go_num, k3, HNX.out, hb5⟩
          case measure => simp [intOf]; omega
        · have hs' : 0 ≤ x - c - y := by omega
          have HNX := Lib.hid (HAt.out.next DA.out DB.out (s := x - c - y) (r := x - c - y) (q := 0) (by rw [hE1.out, hE2.out]) (.inl ⟨hs', rfl, rfl⟩))
          go_wp2_with (at_builtin; refine stop_here ?_)
          refine go_on ?_
          refine wpList_app rfl _ _ 22 rfl w.heap.size 3 i0 _ 1 8 Try.underlying22 hi hz0 hz1 hz2 rfl (.slice sv k cv) k _ rfl (ho.alloc (.cells #[.int .i64 (x - c - y)] 3)) (some ⟨wr.heap.size, 0, none⟩) 1 1 [.int .i64 (x - c - y)] rfl rfl (fun h => by cases h) (news_alloc wr [.int .i64 (x - c - y)] 3) (one_cell_int _) (by unfold maxLen; omega) (grow_ok (by omega)) (size_le_alloc hsz _) ?_
          intro v5 w5 k1 k20 _ _
          have k2 : (wr.alloc (.cells #[.int .i64 (x - c - y)] 3)).grownBy w5 (Value.slice sv k cv).ownBlock := ⟨k20.os, k20.tape, k20.output, k20.size, k20.block⟩
          have hb5 := HB0.out.trans (below_app ho k2 hsz)
          have k3 : w5.ownsRow w.heap.size 3 1 v5 (k + 1) (ivs (out ++ [(x - c - y)])) := by
            rw [ivs_snoc]
            simpa using k1
          clear k1 k20 k2 ho
          go_wp2
          go_roundw
          case rel => exact ⟨k + 1, _, _, by omega, rfl, by go_num, k3, HNX.out, hb5⟩
          case measure => simp [intOf]; omega
      · have hE2 := Lib.hid (by simp [show ys.length ≤ k by omega] : ys[k]?.getD 0 = 0)
        have hyi : ¬ (k : Int) < ys.length := by omega
        by_cases hs : x - c < 0
        · have HNX := Lib.hid (HAt.out.next DA.out DB.out (s := x - c) (r := x - c + 1073741824) (q := 1) (by rw [hE1.out, hE2.out]; omega) (.inr ⟨hs, rfl, rfl⟩))
          go_wp2_with (at_builtin; refine stop_here ?_)
          refine go_on ?_
          refine wpList_app rfl _ _ 22 rfl w.heap.size 3 i0 _ 1 8 Try.underlying22 hi hz0 hz1 hz2 rfl (.slice sv k cv) k _ rfl (ho.alloc (.cells #[.int .i64 (x - c + 1073741824)] 3)) (some ⟨wr.heap.size, 0, none⟩) 1 1 [.int .i64 (x - c + 1073741824)] rfl rfl (fun h => by cases h) (news_alloc wr [.int .i64 (x - c + 1073741824)] 3) (one_cell_int _) (by unfold maxLen; omega) (grow_ok (by omega)) (size_le_alloc hsz _) ?_
          intro v5 w5 k1 k20 _ _
          have k2 : (wr.alloc (.cells #[.int .i64 (x - c + 1073741824)] 3)).grownBy w5 (Value.slice sv k cv).ownBlock := ⟨k20.os, k20.tape, k20.output, k20.size, k20.block⟩
          have hb5 := HB0.out.trans (below_app ho k2 hsz)
          have k3 : w5.ownsRow w.heap.size 3 1 v5 (k + 1) (ivs (out ++ [(x - c + 1073741824)])) := by
            rw [ivs_snoc]
            simpa using k1
          clear k1 k20 k2 ho
          go_wp2
          go_roundw
          case rel => exact ⟨k + 1, _, _, by omega, rfl, by go_num, k3, HNX.out, hb5⟩
          case measure => simp [intOf]; omega
        · have hs' : 0 ≤ x - c := by omega
          have HNX := Lib.hid (HAt.out.next DA.out DB.out (s := x - c) (r := x - c) (q := 0) (by rw [hE1.out, hE2.out]; omega) (.inl ⟨hs', rfl, rfl⟩))
          go_wp2_with (at_builtin; refine stop_here ?_)
          refine go_on ?_
          refine wpList_app rfl _ _ 22 rfl w.heap.size 3 i0 _ 1 8 Try.underlying22 hi hz0 hz1 hz2 rfl (.slice sv k cv) k _ rfl (ho.alloc (.cells #[.int .i64 (x - c)] 3)) (some ⟨wr.heap.size, 0, none⟩) 1 1 [.int .i64 (x - c)] rfl rfl (fun h => by cases h) (news_alloc wr [.int .i64 (x - c)] 3) (one_cell_int _) (by unfold maxLen; omega) (grow_ok (by omega)) (size_le_alloc hsz _) ?_
          intro v5 w5 k1 k20 _ _
          have k2 : (wr.alloc (.cells #[.int .i64 (x - c)] 3)).grownBy w5 (Value.slice sv k cv).ownBlock := ⟨k20.os, k20.tape, k20.output, k20.size, k20.block⟩
          have hb5 := HB0.out.trans (below_app ho k2 hsz)
          have k3 : w5.ownsRow w.heap.size 3 1 v5 (k + 1) (ivs (out ++ [(x - c)])) := by
            rw [ivs_snoc]
            simpa using k1
          clear k1 k20 k2 ho
          go_wp2
          go_roundw
          case rel => exact ⟨k + 1, _, _, by omega, rfl, by go_num, k3, HNX.out, hb5⟩
          case measure => simp [intOf]; omega
    · obtain rfl : k = xs.length := by omega
      have HF := Lib.hid (HAt.out.done hll hV0)
      have HO := Lib.hid (has_own ho)
      have hlen := HAt.out.len
      clear ho
      go_wp2_with fail
      refine (wtrim_any _ sv xs.length cv out HO.out HAt.out.digs (by omega)).mono ?_
      intro e w' hT
      have HM := Lib.hid (made_trim (N := N) HB0.out HF.out (by omega) hT)
      obtain ⟨ao', cap2, ds, rfl, hM⟩ := HM.out
      have HM2 := Lib.hid hM
      clear hT hM HM
      go_wp2
      go_ret
      exact ⟨ao', cap2, ds, rfl, HM2.out⟩
end Go.Proofs.Ytknmiiajeafjpaa
