/- Two queues beside one another, of two capacities. -/
import Derived.Test.YtifhnealecndnaaIn2
namespace Go.Proofs.Ytifhnealecndnaa
open Go.RowKit

/-- a step on one queue leaves another alone -/
theorem sep_step {w w' : World} {base b1 b2 : Nat} {C2 : Int} {l2 : List Int} {r1 r1' r2 : Option Nat} {N : Nat} {F : Nat → Prop} (q2 : IQ w base b2 C2 l2 r2 N) (hm : Mods F w w') (hF : ∀ k, F k → k = b1 ∨ r1 = some k) (hr : r1' = r1 ∨ ∃ k, r1' = some k ∧ w.heap.size ≤ k)
    (h12 : b1 ≠ b2) (ha : r1 ≠ some b2) (hb : r2 ≠ some b1) (hc : r1 ≠ r2) : IQ w' base b2 C2 l2 r2 N ∧ r1' ≠ some b2 ∧ r1' ≠ r2 := by
  obtain ⟨k1, _, k3, _⟩ := q2.lt
  refine ⟨q2.frame hm (fun h => ?_) (fun k hk h => ?_), ?_, ?_⟩
  · rcases hF _ h with h | h
    · exact h12 h.symm
    · exact ha h
  · rcases hF _ h with h | h
    · exact hb (by rw [hk, h])
    · exact hc (by rw [hk, h])
  · rcases hr with hr | ⟨k, hr, hk⟩
    · rw [hr]; exact ha
    · rw [hr]; intro e; have := Option.some.inj e; omega
  · rcases hr with hr | ⟨k, hr, hk⟩
    · rw [hr]; exact hc
    · rw [hr]; intro e; have := (k3 k e.symm).2.1; omega

theorem cell_later' {w wx : World} {B : Nat} {a : Addr} {v : Value} (hb : Below B w wx) (h : w.cell? a = some v) (ha : a.block < B) : wx.cell? a = some v := (hb.cell ha).trans h

/-- two queues with the same in them, apart in memory -/
def Two (w : World) (base b1 b2 : Nat) (one two : Int) (l : List Int) (N : Nat) : Prop :=
  ∃ r1 r2, IQ w base b1 one l r1 N ∧ IQ w base b2 two l r2 N ∧ b1 ≠ b2 ∧ r1 ≠ some b2 ∧ r2 ≠ some b1 ∧ r1 ≠ r2

theorem mods_below {w w' : World} {base b : Nat} {C : Int} {l : List Int} {r : Option Nat} {N : Nat} {F : Nat → Prop} (q : IQ w base b C l r N) (hm : Mods F w w') (hF : ∀ k, F k → k = b ∨ r = some k) (hb : base ≤ w.heap.size) : Below base w w' := by
  obtain ⟨_, k2, k3, _⟩ := q.lt
  refine hm.below hb fun k hk h => ?_
  rcases hF _ h with h | h
  · omega
  · have := (k3 k h).1; omega

set_option maxHeartbeats 400000 in
theorem two_neg1 (w : World) (one two : Int) (v : Value) (h : one < 0) (h2 : two ≤ 9223372036854775807) :
    Calls Try.prog 7 #[.int .i64 one, .int .i64 two, v] w fun e w' => e = .returned (.bool true) ∧ Below w.heap.size w w' := by
  by_cases h3 : two < 0
  · go_enter Try.func7, Try.ntmps7
    go_wp2_with fail
    refine (iq_new_no _ one _ h).mono ?_
    rintro e w1 ⟨rfl, rfl⟩
    go_wp2_with fail
    refine (iq_new_no _ two _ h3).mono ?_
    rintro e w2 ⟨rfl, rfl⟩
    go_wp2_with fail
    refine (awake_yes _).mono ?_
    rintro e w3 ⟨rfl, hb⟩
    go_wp2
    go_ret
    exact ⟨rfl, hb⟩
  · go_enter Try.func7, Try.ntmps7
    go_wp2_with fail
    refine (iq_new_no _ one _ h).mono ?_
    rintro e w1 ⟨rfl, rfl⟩
    go_wp2_with fail
    refine (iq_new_yes _ two none 0 [] (by omega) h2 (fun _ => rfl) (fun _ h => by cases h) (by simp)).mono ?_
    rintro e w2 ⟨b, r, rfl, hb, q⟩
    go_wp2_with fail
    refine (awake_yes _).mono ?_
    rintro e w3 ⟨rfl, hb3⟩
    go_wp2
    go_ret
    exact ⟨rfl, hb.trans (hb3.mono hb.size)⟩

set_option maxHeartbeats 400000 in
theorem two_neg2 (w : World) (one two : Int) (v : Value) (h : 0 ≤ one) (h1 : one ≤ 9223372036854775807) (h2 : two < 0) :
    Calls Try.prog 7 #[.int .i64 one, .int .i64 two, v] w fun e w' => e = .returned (.bool true) ∧ Below w.heap.size w w' := by
  go_enter Try.func7, Try.ntmps7
  go_wp2_with fail
  refine (iq_new_yes _ one none 0 [] h h1 (fun _ => rfl) (fun _ h => by cases h) (by simp)).mono ?_
  rintro e w2 ⟨b, r, rfl, hb, q⟩
  go_wp2_with fail
  refine (iq_new_no _ two _ h2).mono ?_
  rintro e w1 ⟨rfl, rfl⟩
  go_wp2_with fail
  refine (awake_yes _).mono ?_
  rintro e w3 ⟨rfl, hb3⟩
  go_wp2
  go_ret
  exact ⟨rfl, hb.trans (hb3.mono hb.size)⟩

set_option maxRecDepth 100000 in
set_option maxHeartbeats 2000000 in
theorem two_any (w : World) (one two : Int) (os : List (Int × Int)) (bx off cap : Nat) (h1 : 0 ≤ one) (h1' : one ≤ 9223372036854775807) (h2 : 0 ≤ two) (h2' : two ≤ 9223372036854775807) (hn : os.length ≤ 26000000000000)
    (hc : ∀ k, k < os.length → w.cell? ⟨bx, off + k * 2, none⟩ = some (.int .i64 (os[k]?.getD (0, 0)).1) ∧ w.cell? ⟨bx, off + k * 2 + 1, none⟩ = some (.int .i64 (os[k]?.getD (0, 0)).2)) :
    Calls Try.prog 7 #[.int .i64 one, .int .i64 two, .slice (some ⟨bx, off, none⟩) os.length cap] w fun e w' => e = .returned (.bool true) ∧ Below w.heap.size w w' := by
  have HC := Lib.hid hc
  have HN := Lib.hid hn
  have hn2 : os.length ≤ 4611686018427387904 := by omega
  clear hc hn
  go_enter Try.func7, Try.ntmps7
  go_wp2_with fail
  refine (iq_new_yes _ one none 0 [] h1 h1' (fun _ => rfl) (fun _ h => by cases h) (by simp)).mono ?_
  rintro e w1 ⟨b1, r1, rfl, hb1, q1⟩
  have hs1 := hb1.size
  go_wp2_with fail
  refine (iq_new_yes _ two none 0 [] h2 h2' (fun _ => rfl) (fun _ h => by cases h) (by simp)).mono ?_
  rintro e w2 ⟨b2, r2, rfl, hb2, q2⟩
  have hs2 := hb2.size
  have hT : Two w2 w.heap.size b1 b2 one two [] 0 := by
    obtain ⟨a1, a2, a3, _⟩ := q1.lt
    obtain ⟨c1, c2, c3, _⟩ := q2.lt
    refine ⟨r1, r2, q1.frame (Mods.of_below hb2 (fun _ => False)) (fun h => h) (fun _ _ h => h), ?_, by omega, fun e => ?_, fun e => ?_, fun e => ?_⟩
    · obtain ⟨v, g, zs, x1, x2, x3, x4, x5, x6, x7, x8, x9, x10, x11⟩ := q2
      exact ⟨v, g, zs, x1, owns_base x2 (fun k hk => Nat.le_trans hs1 (x2.lt k hk).1), x3, x4, x5, x6, x7, x8, x9, by omega, x11⟩
    · have := (a3 _ e).2.1; omega
    · have := (c3 _ e).1; omega
    · obtain ⟨v, g, zs, x1, x2, x3, x4, x5, x6, x7, x8, x9, x10, x11⟩ := q2
      cases hr2 : r2 with
      | none => exact x11 hr2
      | some k => have := (c3 k hr2).1; have := (a3 k (by rw [e, hr2])).2.1; omega
  clear q1 q2
  have hbT := hb1.trans (hb2.mono hs1)
  go_wp2_with fail
  go_loopw [11] (fun i wr => ∃ k : Nat, k ≤ os.length ∧ i = .int .i64 k ∧ (∃ l, Two wr w.heap.size b1 b2 one two l k) ∧ Below w.heap.size w wr) (fun i _ => os.length - (intOf i).toNat)
  case atStart => exact ⟨0, Nat.zero_le _, rfl, ⟨[], hT⟩, hbT⟩
  case round =>
    clear hT hbT hb1 hb2 hs1 hs2
    obtain ⟨k, hk, rfl, ⟨l, t1, t2, q1, q2, hb12, hx1, hx2, hx3⟩, hbw⟩ := hrel
    have hsz := hbw.size
    have hkN : k ≤ 26000000000000 := by have := HN.out; omega
    have HkN := Lib.hid hkN
    clear hkN
    by_cases hlt : k < os.length
    · obtain ⟨hc1, hc2⟩ := HC.out k hlt
      have hbxw : bx < w.heap.size := World.block_lt_of_cell? _ _ hc1
      have hc1 := cell_later hbw hc1
      have hc2 := cell_later hbw hc2
      obtain ⟨a, ha⟩ : ∃ a, a = (os[k]?.getD (0, 0)).1 := ⟨_, rfl⟩
      obtain ⟨x, hx⟩ : ∃ x, x = (os[k]?.getD (0, 0)).2 := ⟨_, rfl⟩
      rw [← ha] at hc1
      rw [← hx] at hc2
      clear ha hx
      have hlti : (k : Int) < os.length := by omega
      by_cases ha0 : a = 0
      · subst ha0
        have ha0' : True := trivial
        by_cases hf1 : (l.length : Int) < one
        · go_wp2_with fail
          refine (iq_put_yes q1 (by have := HkN.out; omega) hsz hf1).mono ?_
          rintro e w3 ⟨rfl, t1', p1, hm3, hr3⟩
          have hb3 := mods_below q1 hm3 (fun _ h => h) hsz
          have hsz3 := hm3.size
          obtain ⟨p2, y1, y3⟩ := sep_step q2 hm3 (fun _ h => h) hr3 hb12 hx1 hx2 hx3
          have hc2 : w3.cell? ⟨bx, off + k * 2 + 1, none⟩ = some (.int .i64 x) := cell_later' hb3 hc2 hbxw
          clear hr3
          by_cases hf2 : (l.length : Int) < two
          · go_wp2_with fail
            refine (iq_put_yes p2 (by have := HkN.out; omega) (by omega) hf2).mono ?_
            rintro e w4 ⟨rfl, t2', z2, hm4, hr4⟩
            have hb4 := mods_below p2 hm4 (fun _ h => h) (by omega)
            obtain ⟨z1, y2, y4⟩ := sep_step p1 hm4 (fun _ h => h) hr4 hb12.symm hx2 y1 (fun e => y3 e.symm)
            clear hr4
            have Hn2 := Lib.hid hn2
            have Hh1 := Lib.hid h1'
            have Hh2 := Lib.hid h2'
            clear h1' h2'
            go_wp2
            go_roundw
            case rel => exact ⟨k + 1, by omega, by go_num, ⟨l ++ [x], t1', t2', z1, z2, hb12, y1, y2, fun e => y4 e.symm⟩, hbw.trans (hb3.trans hb4)⟩
            case measure => simp [intOf]; omega
          · have hf2' : two ≤ (l.length : Int) := by omega
            go_wp2_with fail
            refine (iq_put_no p2 (by have := HkN.out; omega) hf2').mono ?_
            rintro e w4 ⟨rfl, m4, rfl⟩
            go_wp2_with fail
            refine (iq_len (p2.drewN m4) (by have := HkN.out; omega)).mono ?_
            rintro e w5 ⟨rfl, m5, rfl⟩
            have hge : two ≤ (l.length : Int) := hf2'
            go_wp2_with fail
            refine (awake_yes _).mono ?_
            rintro e w9 ⟨rfl, hb9⟩
            go_wp2
            go_ret
            exact ⟨rfl, (hbw.trans hb3).trans (below_ld (hb9.mono (by show _ ≤ w3.heap.size; omega)))⟩
        · have hf1' : one ≤ (l.length : Int) := by omega
          by_cases hf2 : (l.length : Int) < two
          · go_wp2_with fail
            refine (iq_put_no q1 (by have := HkN.out; omega) hf1').mono ?_
            rintro e w3 ⟨rfl, m3, rfl⟩
            go_wp2_with fail
            refine (iq_put_yes (q2.drewN m3) (by have := HkN.out; omega) (by simpa using hsz) hf2).mono ?_
            rintro e w4 ⟨rfl, t2', z2, hm4, hr4⟩
            have hm4' := mods_ld hm4
            have hb4 := mods_below q2 hm4' (fun _ h => h) hsz
            have hsz4 := hm4'.size
            obtain ⟨z1, y2, y4⟩ := sep_step q1 hm4' (fun _ h => h) hr4 hb12.symm hx2 hx1 (fun e => hx3 e.symm)
            go_wp2_with fail
            refine (iq_len z1 (by have := HkN.out; omega)).mono ?_
            rintro e w5 ⟨rfl, m5, rfl⟩
            go_wp2_with fail
            refine (awake_yes _).mono ?_
            rintro e w9 ⟨rfl, hb9⟩
            go_wp2
            go_ret
            exact ⟨rfl, (hbw.trans hb4).trans (below_ld (hb9.mono (by show _ ≤ w4.heap.size; omega)))⟩
          · have hf2' : two ≤ (l.length : Int) := by omega
            go_wp2_with fail
            refine (iq_put_no q1 (by have := HkN.out; omega) hf1').mono ?_
            rintro e w3 ⟨rfl, m3, rfl⟩
            go_wp2_with fail
            refine (iq_put_no (q2.drewN m3) (by have := HkN.out; omega) hf2').mono ?_
            rintro e w4 ⟨rfl, m4, rfl⟩
            go_wp2_with fail
            refine (iq_len (q1.drewN (m3 + m4)) (by have := HkN.out; omega)).mono ?_
            rintro e w5 ⟨rfl, m5, rfl⟩
            go_wp2_with fail
            refine (iq_len (q2.drewN (m3 + m4 + m5)) (by have := HkN.out; omega)).mono ?_
            rintro e w6 ⟨rfl, m6, rfl⟩
            go_wp2_with fail
            refine (awake_yes _).mono ?_
            rintro e w9 ⟨rfl, hb9⟩
            go_wp2
            go_ret
            exact ⟨rfl, hbw.trans (below_ld (hb9.mono (by show _ ≤ wr.heap.size; omega)))⟩
      · have hab : (a == 0) = false := by simpa using ha0
        cases l with
        | nil =>
          go_wp2_with fail
          refine (iq_take_none q1 (by have := HkN.out; omega)).mono ?_
          rintro e w3 ⟨rfl, m3, rfl⟩
          go_wp2_with fail
          refine (iq_take_none (q2.drewN m3) (by have := HkN.out; omega)).mono ?_
          rintro e w4 ⟨rfl, m4, rfl⟩
          go_wp2_with fail
          refine (iq_len (q1.drewN (m3 + m4)) (by have := HkN.out; omega)).mono ?_
          rintro e w5 ⟨rfl, m5, rfl⟩
          go_wp2_with fail
          refine (iq_len (q2.drewN (m3 + m4 + m5)) (by have := HkN.out; omega)).mono ?_
          rintro e w6 ⟨rfl, m6, rfl⟩
          go_wp2
          go_roundw
          case rel => exact ⟨k + 1, by omega, by go_num, ⟨[], t1, t2, (q1.drewN _).mono (Nat.le_succ _), (q2.drewN _).mono (Nat.le_succ _), hb12, hx1, hx2, hx3⟩, below_dr hbw⟩
          case measure => simp [intOf]; omega
        | cons y l =>
          go_wp2_with fail
          refine (iq_take_cons q1 (by have := HkN.out; omega) hsz).mono ?_
          rintro e w3 ⟨rfl, t1', p1, hm3, hr3⟩
          have hb3 := mods_below q1 hm3 (fun _ h => .inl h) hsz
          have hsz3 := hm3.size
          obtain ⟨p2, y1, y3⟩ := sep_step q2 hm3 (fun _ h => .inl h) hr3 hb12 hx1 hx2 hx3
          clear hr3
          go_wp2_with fail
          refine (iq_take_cons p2 (by have := HkN.out; omega) (by omega)).mono ?_
          rintro e w4 ⟨rfl, t2', z2, hm4, hr4⟩
          have hb4 := mods_below p2 hm4 (fun _ h => .inl h) (by omega)
          obtain ⟨z1, y2, y4⟩ := sep_step p1 hm4 (fun _ h => .inl h) hr4 hb12.symm hx2 y1 (fun e => y3 e.symm)
          clear hr4
          go_wp2_with fail
          refine (iq_len z1 (by have := HkN.out; omega)).mono ?_
          rintro e w5 ⟨rfl, m5, rfl⟩
          go_wp2_with fail
          refine (iq_len (z2.drewN m5) (by have := HkN.out; omega)).mono ?_
          rintro e w6 ⟨rfl, m6, rfl⟩
          go_wp2
          go_roundw
          case rel => exact ⟨k + 1, by omega, by go_num, ⟨l, t1', t2', (z1.drewN _).mono (Nat.le_succ _), (z2.drewN _).mono (Nat.le_succ _), hb12, y1, y2, fun e => y4 e.symm⟩, below_dr (hbw.trans (hb3.trans hb4))⟩
          case measure => simp [intOf]; omega
    · obtain rfl : k = os.length := by omega
      go_wp2_with fail
      refine (told_any q1 (by have := HkN.out; omega)).mono ?_
      rintro e w3 ⟨v3, rfl, o3, hb3⟩
      have hsz3 := hb3.size
      have q2' := q2.frame (Mods.of_below hb3 (fun _ => False)) (fun h => h) (fun _ _ h => h)
      go_wp2_with fail
      refine (told_any q2' (by have := HkN.out; omega)).mono ?_
      rintro e w4 ⟨v4, rfl, o4, hb4⟩
      have hsz4 := hb4.size
      go_wp2_with fail
      refine (same_yes ((has_of_owns o3).below hb4) (has_of_owns o4) (by have := q1.lt.2.2.2.2.2; have := HkN.out; omega)).mono ?_
      rintro e w5 ⟨rfl, m5, rfl⟩
      go_wp2_with fail
      refine (awake_yes _).mono ?_
      rintro e w9 ⟨rfl, hb9⟩
      go_wp2
      go_ret
      exact ⟨rfl, hbw.trans ((hb3.mono hsz).trans ((hb4.mono (by omega)).trans (below_ld (hb9.mono (by show _ ≤ w4.heap.size; omega)))))⟩
end Go.Proofs.Ytifhnealecndnaa
