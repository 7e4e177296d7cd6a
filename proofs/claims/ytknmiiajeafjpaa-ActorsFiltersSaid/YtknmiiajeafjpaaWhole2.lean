/- Whole numbers: the walk of add. -/
import Derived.Test.YtknmiiajeafjpaaWhole1
namespace Go.Proofs.Ytknmiiajeafjpaa
open Go.RowKit

/-- what a maker of digits answers -/
def DMade (w : World) (V : Int) (N : Nat) (e : Ending) (w' : World) : Prop :=
  ∃ ao cap ds, e = .returned (.slice ao ds.length cap) ∧ Has w' (.slice ao ds.length cap) (ivs ds) ∧ Trim ds ∧ valD ds = V ∧ ds.length ≤ N ∧ Below w.heap.size w w'

theorem has_own {w : World} {base n : Nat} {v : Value} {l : List Int} (h : w.ownsRow base 3 1 v n (ivs l)) : Has w v (ivs l) := (Own.made (w' := w) (fun _ => 0) 0 h).vals.has
theorem made_trim {w w1 : World} {out : List Int} {V : Int} {N : Nat} (hb : Below w.heap.size w w1) (hV : valD out = V) (hN : out.length ≤ N) {e : Ending} {w' : World} (h : Trimmed w1 out e w') : DMade w V N e w' := by
  obtain ⟨ao, q, cap, hq, rfl, rfl, h1, h2, h3⟩ := h
  have hl : (out.take q).length = q := by simp [hq]
  refine ⟨ao, cap, out.take q, by rw [hl], by rw [hl]; exact h1, h2, h3.trans hV, by omega, hb⟩
theorem one_cell_int (s : Int) : ∀ u ∈ [Value.int .i64 s], u.oneCell' = true := by simp [Value.oneCell']
theorem ivs_snoc (l : List Int) (s : Int) : ivs (l ++ [s]) = ivs l ++ [Value.int .i64 s] := by simp [ivs]
theorem digit_ok {s : Int} (h : 0 ≤ s) : Int.tmod s 1073741824 = s % 1073741824 ∧ Int.tdiv s 1073741824 = s / 1073741824 ∧ 0 ≤ s % 1073741824 ∧ s % 1073741824 < 1073741824 :=
  ⟨(pos_div h).1, (pos_div h).2, Int.emod_nonneg _ (by omega), Int.emod_lt_of_pos _ (by omega)⟩
theorem quo_ok {s : Int} (h : 0 ≤ s) (h2 : s ≤ 9000000000000000000) : wrap64 (Int.tdiv s 1073741824) = s / 1073741824 := by
  rw [(pos_div h).2]; exact IntWalk.wrap64_in _ (by omega)

/-- a round of add, as it is known -/
structure AddAt (xs ys : List Int) (N : Nat) (V : Int) (k : Nat) (c : Int) (out : List Int) : Prop where
  len : out.length = k
  c0 : 0 ≤ c
  c1 : c ≤ 1
  digs : Digs out
  sum : valD out + 1073741824 ^ k * (c + valD (xs.drop k) + valD (ys.drop k)) = V
  short : k ≤ N + 1
  fin : k ≤ N ∨ c = 0

theorem AddAt.next {xs ys : List Int} {N : Nat} {V : Int} {k : Nat} {c : Int} {out : List Int} (h : AddAt xs ys N V k c out) (dx : Digs xs) (dy : Digs ys) (hx : xs.length ≤ N) (hy : ys.length ≤ N) {s : Int} (hs : s = c + xs[k]?.getD 0 + ys[k]?.getD 0) (hgo : k < xs.length ∨ k < ys.length ∨ 0 < c) :
    AddAt xs ys N V (k + 1) (s / 1073741824) (out ++ [s % 1073741824]) ∧ 0 ≤ s ∧ s < 2147483648 ∧ k ≤ N := by
  have h1 := digs_at dx k
  have h2 := digs_at dy k
  have h3 := h.c0
  have h4 := h.c1
  have hs2 : 0 ≤ s ∧ s < 2147483648 := by omega
  have hk : k ≤ N := by
    rcases h.fin with h5 | h5
    · exact h5
    · omega
  refine ⟨⟨by simp [h.len], by omega, by omega, digs_snoc h.digs ⟨by omega, by omega⟩, by subst hs; exact add_step h.len h.sum, by omega, ?_⟩, hs2.1, hs2.2, hk⟩
  by_cases e : k + 1 ≤ N
  · exact .inl e
  · refine .inr ?_
    have e1 : xs[k]?.getD 0 = 0 := by simp [show xs.length ≤ k by omega]
    have e2 : ys[k]?.getD 0 = 0 := by simp [show ys.length ≤ k by omega]
    omega
theorem AddAt.done {xs ys : List Int} {N : Nat} {V : Int} {k : Nat} {c : Int} {out : List Int} (h : AddAt xs ys N V k c out) (hx : ¬ k < xs.length) (hy : ¬ k < ys.length) (hc : ¬ 0 < c) : valD out = V ∧ out.length ≤ N + 1 := by
  have h1 := h.sum
  rw [List.drop_of_length_le (show xs.length ≤ k by omega), List.drop_of_length_le (show ys.length ≤ k by omega)] at h1
  have h2 := h.c0
  obtain rfl : c = 0 := by omega
  simp only [valD, Int.add_zero, Int.mul_zero] at h1
  exact ⟨h1, by rw [h.len]; exact h.short⟩


set_option maxRecDepth 100000 in
set_option maxHeartbeats 2000000 in
theorem wadd_any (w : World) (ao bo : Option Addr) (n m cap cap' : Nat) (xs ys : List Int) (N : Nat) (ha : Has w (.slice ao n cap) (ivs xs)) (hb : Has w (.slice bo m cap') (ivs ys)) (dx : Digs xs) (dy : Digs ys) (hxN : xs.length ≤ N) (hyN : ys.length ≤ N) (hN : N ≤ 900) :
    Calls Try.prog 33 #[.slice ao n cap, .slice bo m cap'] w (DMade w (valD xs + valD ys) (N + 1)) := by
  obtain ⟨i0, hi, hz0, hz1, hz2⟩ := info_parts info_int
  obtain rfl := Ints.len ha
  obtain rfl := Ints.len hb
  obtain ⟨V, hV⟩ : ∃ V, valD xs + valD ys = V := ⟨_, rfl⟩
  have H0 := Lib.hid (⟨rfl, by omega, by omega, (fun d h => by simp at h), by simpa [valD] using hV, by omega, .inl (by omega)⟩ : AddAt xs ys N V 0 0 [])
  rw [hV]
  have HA := Lib.hid ha
  have HB := Lib.hid hb
  have DA := Lib.hid dx
  have DB := Lib.hid dy
  clear ha hb dx dy hV
  go_enter Try.func33, Try.ntmps33
  go_wp2_with fail
  go_loopw [5, 6, 7] (fun v c i wr => ∃ (k : Nat) (cc : Int) (out : List Int), c = .int .i64 cc ∧ i = .int .i64 k ∧ wr.ownsRow w.heap.size 3 1 v k (ivs out) ∧ AddAt xs ys N V k cc out ∧ Below w.heap.size w wr) (fun _ _ i _ => N + 2 - (intOf i).toNat)
  case atStart => exact ⟨0, 0, [], rfl, rfl, World.ownsRow_nil w w.heap.size 3 1, H0.out, Below.refl _ _⟩
  case round =>
    clear H0
    obtain ⟨k, c, out, rfl, rfl, ho, hat, hb0⟩ := hrel
    have hsz := hb0.size
    have HB0 := Lib.hid hb0
    have HAt := Lib.hid hat
    obtain ⟨sv, cv, rfl⟩ := owns_slice ho
    have hc0 := hat.c0
    have hc1 := hat.c1
    clear hb0 hat
    by_cases hx : k < xs.length
    · obtain ⟨b1, f1, rfl, -, hcx, -, -, hcl1⟩ := Ints.at HA.out (by omega)
      have hx1 := cell_later HB0.out (hcl1 k hx)
      have hxi : (k : Int) < xs.length := by omega
      have hcxi : (xs.length : Int) ≤ cap := by omega
      have hxd := digs_at DA.out k
      clear hcl1
      by_cases hy : k < ys.length
      · obtain ⟨b2, f2, rfl, -, hcy, -, -, hcl2⟩ := Ints.at HB.out (by omega)
        have hy1 := cell_later HB0.out (hcl2 k hy)
        have hyi : (k : Int) < ys.length := by omega
        have hcyi : (ys.length : Int) ≤ cap' := by omega
        have hyd := digs_at DB.out k
        clear hcl2
        obtain ⟨x, hxe⟩ : ∃ x, xs[k]?.getD 0 = x := ⟨_, rfl⟩
        obtain ⟨y, hye⟩ : ∃ y, ys[k]?.getD 0 = y := ⟨_, rfl⟩
        rw [hxe] at hx1 hxd
        rw [hye] at hy1 hyd
        have hE1 := Lib.hid hxe
        have hE2 := Lib.hid hye
        clear hxe hye
        have hnx := HAt.out.next DA.out DB.out hxN hyN (s := (c + x + y)) (by rw [hE1.out, hE2.out]) (.inl hx)
        have HNX := Lib.hid hnx.1
        have hs0 := hnx.2.1
        have hs1 := hnx.2.2.1
        have hkN := hnx.2.2.2
        clear hnx
        have HQ := Lib.hid (quo_ok hs0 (by omega))
        go_wp2_with (at_builtin; refine stop_here ?_)
        refine go_on ?_
        refine wpList_app rfl _ _ 22 rfl w.heap.size 3 i0 _ 1 8 Try.underlying22 hi hz0 hz1 hz2 rfl (.slice sv k cv) k _ rfl (ho.alloc (.cells #[.int .i64 (((c + x + y)) % 1073741824)] 3)) (some ⟨wr.heap.size, 0, none⟩) 1 1 [.int .i64 (((c + x + y)) % 1073741824)] rfl rfl (fun h => by cases h) (news_alloc wr [.int .i64 (((c + x + y)) % 1073741824)] 3) (one_cell_int _) (by unfold maxLen; omega) (grow_ok (by omega)) (size_le_alloc hsz _) ?_
        intro v5 w5 k1 k20 _ _
        have k2 : (wr.alloc (.cells #[.int .i64 (((c + x + y)) % 1073741824)] 3)).grownBy w5 (Value.slice sv k cv).ownBlock := ⟨k20.os, k20.tape, k20.output, k20.size, k20.block⟩
        have hb5 := HB0.out.trans (below_app ho k2 hsz)
        have k3 : w5.ownsRow w.heap.size 3 1 v5 (k + 1) (ivs (out ++ [((c + x + y)) % 1073741824])) := by
          rw [ivs_snoc]
          simpa using k1
        clear k1 k20 k2 ho
        go_wp2
        go_roundw
        case rel => exact ⟨k + 1, _, _, by first | rfl | go_num | rw [HQ.out], by go_num, k3, HNX.out, hb5⟩
        case measure => simp [intOf]; omega
      · obtain ⟨x, hxe⟩ : ∃ x, xs[k]?.getD 0 = x := ⟨_, rfl⟩
        rw [hxe] at hx1 hxd
        have hE1 := Lib.hid hxe
        have hE2 := Lib.hid (by simp [show ys.length ≤ k by omega] : ys[k]?.getD 0 = 0)
        have hyi : ¬ (k : Int) < ys.length := by omega
        clear hxe
        have hnx := HAt.out.next DA.out DB.out hxN hyN (s := (c + x)) (by rw [hE1.out, hE2.out]; omega) (.inl hx)
        have HNX := Lib.hid hnx.1
        have hs0 := hnx.2.1
        have hs1 := hnx.2.2.1
        have hkN := hnx.2.2.2
        clear hnx
        have HQ := Lib.hid (quo_ok hs0 (by omega))
        go_wp2_with (at_builtin; refine stop_here ?_)
        refine go_on ?_
        refine wpList_app rfl _ _ 22 rfl w.heap.size 3 i0 _ 1 8 Try.underlying22 hi hz0 hz1 hz2 rfl (.slice sv k cv) k _ rfl (ho.alloc (.cells #[.int .i64 (((c + x)) % 1073741824)] 3)) (some ⟨wr.heap.size, 0, none⟩) 1 1 [.int .i64 (((c + x)) % 1073741824)] rfl rfl (fun h => by cases h) (news_alloc wr [.int .i64 (((c + x)) % 1073741824)] 3) (one_cell_int _) (by unfold maxLen; omega) (grow_ok (by omega)) (size_le_alloc hsz _) ?_
        intro v5 w5 k1 k20 _ _
        have k2 : (wr.alloc (.cells #[.int .i64 (((c + x)) % 1073741824)] 3)).grownBy w5 (Value.slice sv k cv).ownBlock := ⟨k20.os, k20.tape, k20.output, k20.size, k20.block⟩
        have hb5 := HB0.out.trans (below_app ho k2 hsz)
        have k3 : w5.ownsRow w.heap.size 3 1 v5 (k + 1) (ivs (out ++ [((c + x)) % 1073741824])) := by
          rw [ivs_snoc]
          simpa using k1
        clear k1 k20 k2 ho
        go_wp2
        go_roundw
        case rel => exact ⟨k + 1, _, _, by first | rfl | go_num | rw [HQ.out], by go_num, k3, HNX.out, hb5⟩
        case measure => simp [intOf]; omega
    · have hE1 := Lib.hid (by simp [show xs.length ≤ k by omega] : xs[k]?.getD 0 = 0)
      have hxi : ¬ (k : Int) < xs.length := by omega
      by_cases hy : k < ys.length
      · obtain ⟨b2, f2, rfl, -, hcy, -, -, hcl2⟩ := Ints.at HB.out (by omega)
        have hy1 := cell_later HB0.out (hcl2 k hy)
        have hyi : (k : Int) < ys.length := by omega
        have hcyi : (ys.length : Int) ≤ cap' := by omega
        have hyd := digs_at DB.out k
        clear hcl2
        obtain ⟨y, hye⟩ : ∃ y, ys[k]?.getD 0 = y := ⟨_, rfl⟩
        rw [hye] at hy1 hyd
        have hE2 := Lib.hid hye
        clear hye
        have hnx := HAt.out.next DA.out DB.out hxN hyN (s := (c + y)) (by rw [hE1.out, hE2.out]; omega) (.inr (.inl hy))
        have HNX := Lib.hid hnx.1
        have hs0 := hnx.2.1
        have hs1 := hnx.2.2.1
        have hkN := hnx.2.2.2
        clear hnx
        have HQ := Lib.hid (quo_ok hs0 (by omega))
        go_wp2_with (at_builtin; refine stop_here ?_)
        refine go_on ?_
        refine wpList_app rfl _ _ 22 rfl w.heap.size 3 i0 _ 1 8 Try.underlying22 hi hz0 hz1 hz2 rfl (.slice sv k cv) k _ rfl (ho.alloc (.cells #[.int .i64 (((c + y)) % 1073741824)] 3)) (some ⟨wr.heap.size, 0, none⟩) 1 1 [.int .i64 (((c + y)) % 1073741824)] rfl rfl (fun h => by cases h) (news_alloc wr [.int .i64 (((c + y)) % 1073741824)] 3) (one_cell_int _) (by unfold maxLen; omega) (grow_ok (by omega)) (size_le_alloc hsz _) ?_
        intro v5 w5 k1 k20 _ _
        have k2 : (wr.alloc (.cells #[.int .i64 (((c + y)) % 1073741824)] 3)).grownBy w5 (Value.slice sv k cv).ownBlock := ⟨k20.os, k20.tape, k20.output, k20.size, k20.block⟩
        have hb5 := HB0.out.trans (below_app ho k2 hsz)
        have k3 : w5.ownsRow w.heap.size 3 1 v5 (k + 1) (ivs (out ++ [((c + y)) % 1073741824])) := by
          rw [ivs_snoc]
          simpa using k1
        clear k1 k20 k2 ho
        go_wp2
        go_roundw
        case rel => exact ⟨k + 1, _, _, by first | rfl | go_num | rw [HQ.out], by go_num, k3, HNX.out, hb5⟩
        case measure => simp [intOf]; omega
      · have hE2 := Lib.hid (by simp [show ys.length ≤ k by omega] : ys[k]?.getD 0 = 0)
        have hyi : ¬ (k : Int) < ys.length := by omega
        by_cases hc : 0 < c
        · have hnx := HAt.out.next DA.out DB.out hxN hyN (s := c) (by rw [hE1.out, hE2.out]; omega) (.inr (.inr hc))
          have HNX := Lib.hid hnx.1
          have hs0 := hnx.2.1
          have hs1 := hnx.2.2.1
          have hkN := hnx.2.2.2
          clear hnx
          have HQ := Lib.hid (quo_ok hs0 (by omega))
          go_wp2_with (at_builtin; refine stop_here ?_)
          refine go_on ?_
          refine wpList_app rfl _ _ 22 rfl w.heap.size 3 i0 _ 1 8 Try.underlying22 hi hz0 hz1 hz2 rfl (.slice sv k cv) k _ rfl (ho.alloc (.cells #[.int .i64 ((c) % 1073741824)] 3)) (some ⟨wr.heap.size, 0, none⟩) 1 1 [.int .i64 ((c) % 1073741824)] rfl rfl (fun h => by cases h) (news_alloc wr [.int .i64 ((c) % 1073741824)] 3) (one_cell_int _) (by unfold maxLen; omega) (grow_ok (by omega)) (size_le_alloc hsz _) ?_
          intro v5 w5 k1 k20 _ _
          have k2 : (wr.alloc (.cells #[.int .i64 ((c) % 1073741824)] 3)).grownBy w5 (Value.slice sv k cv).ownBlock := ⟨k20.os, k20.tape, k20.output, k20.size, k20.block⟩
          have hb5 := HB0.out.trans (below_app ho k2 hsz)
          have k3 : w5.ownsRow w.heap.size 3 1 v5 (k + 1) (ivs (out ++ [(c) % 1073741824])) := by
            rw [ivs_snoc]
            simpa using k1
          clear k1 k20 k2 ho
          go_wp2
          go_roundw
          case rel => exact ⟨k + 1, _, _, by first | rfl | go_num | rw [HQ.out], by go_num, k3, HNX.out, hb5⟩
          case measure => simp [intOf]; omega
        · have HF := Lib.hid (HAt.out.done hx hy hc)
          have HLEN := Lib.hid HAt.out.len
          have HO := Lib.hid (has_own ho)
          have hlen := HAt.out.len
          have hshort := HAt.out.short
          clear ho
          go_wp2_with fail
          refine (wtrim_any _ sv k cv out HO.out HAt.out.digs (by omega)).mono ?_
          intro e w' hT
          have HM := Lib.hid (made_trim HB0.out HF.out.1 HF.out.2 hT)
          obtain ⟨ao', cap2, ds, rfl, hM⟩ := HM.out
          have HM2 := Lib.hid hM
          clear hT hM HM
          go_wp2
          go_ret
          exact ⟨ao', cap2, ds, rfl, HM2.out⟩
end Go.Proofs.Ytknmiiajeafjpaa
