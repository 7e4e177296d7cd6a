/- What is taken out, and what is still in, is what was put in, in that order. -/
import Derived.Test.YtifhnealecndnaaW14
namespace Go.Proofs.Ytifhnealecndnaa
open Go.RowKit

/-- a script of calls, wherever it lies -/
def OpsAt (w : World) (so : Option Addr) (os : List (Int × Int)) : Prop :=
  ∀ k, k < os.length → ∃ b off, so = some ⟨b, off, none⟩ ∧ b < w.heap.size ∧ w.cell? ⟨b, off + k * 2, none⟩ = some (.int .i64 (os[k]?.getD (0, 0)).1) ∧ w.cell? ⟨b, off + k * 2 + 1, none⟩ = some (.int .i64 (os[k]?.getD (0, 0)).2)

theorem HasOps.at {w : World} {v : Value} {os : List (Int × Int)} (h : HasOps w v os) : ∃ so cap, v = .slice so os.length cap ∧ OpsAt w so os := by
  rcases h with ⟨rfl, ao, cap, rfl⟩ | ⟨hp, b, off, cap, rfl, hlt, hc⟩
  · exact ⟨ao, cap, rfl, fun k hk => by simp at hk⟩
  · exact ⟨_, cap, rfl, fun k hk => ⟨b, off, rfl, hlt, (hc k hk).1, (hc k hk).2⟩⟩

/-- a queue, and two rows beside it: what went in, what came out -/
def Ord (w : World) (base b : Nat) (C : Int) (l ins outs : List Int) (N : Nat) (vi vo : Value) : Prop :=
  ∃ r, IQ w base b C l r N ∧ w.ownsRow base 3 1 vi ins.length (ins.map (Value.int .i64)) ∧ w.ownsRow base 3 1 vo outs.length (outs.map (Value.int .i64)) ∧
    vi.ownBlock ≠ some b ∧ vo.ownBlock ≠ some b ∧ (∀ k, r = some k → vi.ownBlock ≠ some k ∧ vo.ownBlock ≠ some k) ∧ (∀ k, vi.ownBlock = some k → vo.ownBlock ≠ some k)

/-- a step on the queue -/
theorem ord_queue {w w' : World} {base b : Nat} {C : Int} {l l' ins outs : List Int} {N N' : Nat} {vi vo : Value} {r r' : Option Nat} {F : Nat → Prop} (q : IQ w base b C l r N)
    (hi : w.ownsRow base 3 1 vi ins.length (ins.map (Value.int .i64))) (ho : w.ownsRow base 3 1 vo outs.length (outs.map (Value.int .i64)))
    (h1 : vi.ownBlock ≠ some b) (h2 : vo.ownBlock ≠ some b) (h3 : ∀ k, r = some k → vi.ownBlock ≠ some k ∧ vo.ownBlock ≠ some k) (h4 : ∀ k, vi.ownBlock = some k → vo.ownBlock ≠ some k)
    (hm : Mods F w w') (hF : ∀ k, F k → k = b ∨ r = some k) (q' : IQ w' base b C l' r' N') (hr : r' = r ∨ ∃ k, r' = some k ∧ w.heap.size ≤ k) : Ord w' base b C l' ins outs N' vi vo := by
  refine ⟨r', q', owns_kept hi hm (fun k hk h => ?_), owns_kept ho hm (fun k hk h => ?_), h1, h2, fun k hk => ?_, h4⟩
  · rcases hF _ h with rfl | h
    · exact h1 hk
    · exact (h3 k h).1 hk
  · rcases hF _ h with rfl | h
    · exact h2 hk
    · exact (h3 k h).2 hk
  · rcases hr with rfl | ⟨k', hr, hk'⟩
    · exact h3 k hk
    · obtain rfl : k' = k := Option.some.inj (hr.symm.trans hk)
      exact ⟨fun e => by have := (hi.lt k' e).2; omega, fun e => by have := (ho.lt k' e).2; omega⟩

/-- an append onto the first row -/
theorem ord_in {w w2 : World} {base b : Nat} {C : Int} {l ins outs : List Int} {N : Nat} {vi vo vi' : Value} {tmp : Obj} (x : Int) (h : Ord w base b C l ins outs N vi vo)
    (hg : (w.alloc tmp).grownBy w2 vi.ownBlock) (hr : vi'.ownBlock = vi.ownBlock ∨ vi'.ownBlock = some (w.alloc tmp).heap.size)
    (ho : w2.ownsRow base 3 1 vi' (ins.length + 1) (ins.map (Value.int .i64) ++ [Value.int .i64 x])) : Ord w2 base b C l (ins ++ [x]) outs N vi' vo := by
  obtain ⟨r, q, hi, hoo, h1, h2, h3, h4⟩ := h
  have hm : Mods (fun k => vi.ownBlock = some k) w w2 := ((Mods.refl _ _).alloc tmp).grown hg (fun k hk _ => hk)
  obtain ⟨k1, _, k3, _⟩ := q.lt
  have new : ∀ k, k < w.heap.size → vi.ownBlock ≠ some k → vi'.ownBlock ≠ some k := fun k hk hn => by
    rcases hr with hr | hr
    · rw [hr]; exact hn
    · rw [hr]; intro e; have := Option.some.inj e; simp at this; omega
  refine ⟨r, q.frame hm h1 (fun k hk => (h3 k hk).1), by simpa using ho, owns_kept hoo hm (fun k hk e => h4 k e hk), new b k1 h1, h2, fun k hk => ⟨new k (k3 k hk).2.1 (h3 k hk).1, (h3 k hk).2⟩, fun k hk e => ?_⟩
  exact new k (hoo.lt k e).2 (fun e' => h4 k e' e) hk

/-- an append onto the second row -/
theorem ord_out {w w2 : World} {base b : Nat} {C : Int} {l ins outs : List Int} {N : Nat} {vi vo vo' : Value} {tmp : Obj} (x : Int) (h : Ord w base b C l ins outs N vi vo)
    (hg : (w.alloc tmp).grownBy w2 vo.ownBlock) (hr : vo'.ownBlock = vo.ownBlock ∨ vo'.ownBlock = some (w.alloc tmp).heap.size)
    (ho : w2.ownsRow base 3 1 vo' (outs.length + 1) (outs.map (Value.int .i64) ++ [Value.int .i64 x])) : Ord w2 base b C l ins (outs ++ [x]) N vi vo' := by
  obtain ⟨r, q, hi, hoo, h1, h2, h3, h4⟩ := h
  have hm : Mods (fun k => vo.ownBlock = some k) w w2 := ((Mods.refl _ _).alloc tmp).grown hg (fun k hk _ => hk)
  obtain ⟨k1, _, k3, _⟩ := q.lt
  have new : ∀ k, k < w.heap.size → vo.ownBlock ≠ some k → vo'.ownBlock ≠ some k := fun k hk hn => by
    rcases hr with hr | hr
    · rw [hr]; exact hn
    · rw [hr]; intro e; have := Option.some.inj e; simp at this; omega
  exact ⟨r, q.frame hm h2 (fun k hk => (h3 k hk).2), owns_kept hi hm (fun k hk e => h4 k hk e), by simpa using ho, h1, new b k1 h2, fun k hk => ⟨(h3 k hk).1, new k (k3 k hk).2.1 (h3 k hk).2⟩, fun k hk => new k (hi.lt k hk).2 (h4 k hk)⟩

theorem below_app {w w2 : World} {base : Nat} {tmp : Obj} {vi : Value} {n : Nat} {xs : List Value} (hi : w.ownsRow base 3 1 vi n xs) (hg : (w.alloc tmp).grownBy w2 vi.ownBlock) (hb : base ≤ w.heap.size) : Below base w w2 :=
  (((Mods.refl (fun k => vi.ownBlock = some k) w).alloc tmp).grown hg (fun k hk _ => hk)).below hb fun k hk e => by have := (hi.lt k e).1; omega

theorem new_cells {w w' : World} {B : Nat} {ao : Option Addr} {vs : List Value} (hb : Below B w w') (h : ∀ ad, ao = some ad → ∀ j u, vs[j]? = some u → w.cell? (ad.add j) = some u) (hB : ∀ k, k < w.heap.size → k < B := by intro k hk; exact hk) : ∀ ad, ao = some ad → ∀ j u, vs[j]? = some u → w'.cell? (ad.add j) = some u := fun ad had j u hu =>
  (hb.cell (hB _ (World.block_lt_of_cell? _ _ (h ad had j u hu)))).trans (h ad had j u hu)

set_option maxHeartbeats 400000 in
theorem order_neg (w : World) (C : Int) (v v' : Value) (h : C < 0) :
    Calls Try.prog 5 #[.int .i64 C, v, v'] w fun e w' => e = .returned (.bool true) ∧ Below w.heap.size w w' := by
  go_enter Try.func5, Try.ntmps5
  go_wp2_with fail
  refine (iq_new_no _ C _ h).mono ?_
  rintro e w1 ⟨rfl, rfl⟩
  go_wp2_with fail
  refine (awake_yes _).mono ?_
  rintro e w3 ⟨rfl, hb⟩
  go_wp2
  go_ret
  exact ⟨rfl, hb⟩

set_option maxRecDepth 100000 in
set_option maxHeartbeats 2000000 in
theorem order_any (w : World) (C : Int) (zs : List Int) (ao : Option Addr) (zc : Nat) (os : List (Int × Int)) (so : Option Addr) (cap : Nat) (hC : 0 ≤ C) (hC' : C ≤ 9223372036854775807) (hz : zs.length ≤ 17600000000000) (hn : os.length ≤ 9000000000000)
    (hnone : ao = none → zs.length = 0) (hcz : ∀ ad, ao = some ad → ∀ j u, (zs.map (Value.int .i64))[j]? = some u → w.cell? (ad.add j) = some u) (hc : OpsAt w so os) :
    Calls Try.prog 5 #[.int .i64 C, .slice ao zs.length zc, .slice so os.length cap] w fun e w' => e = .returned (.bool true) ∧ Below w.heap.size w w' := by
  obtain ⟨i0, hi, hz0, hz1, hz2⟩ := info_parts info3
  have HC := Lib.hid hc
  have HN := Lib.hid hn
  have HZ := Lib.hid hz
  have Hnone := Lib.hid hnone
  have Hcz := Lib.hid hcz
  have hn2 : os.length ≤ 4611686018427387904 := by omega
  clear hc hn hz hnone hcz
  go_enter Try.func5, Try.ntmps5
  go_wp2_with fail
  refine (iq_new_yes _ C ao zc zs hC hC' Hnone.out Hcz.out (by have := HZ.out; omega)).mono ?_
  rintro e w1 ⟨b, r, rfl, hb1, q1⟩
  have hs1 := hb1.size
  go_wp2_with (at_builtin; refine stop_here ?_)
  refine go_on ?_
  have hnx := new_cells hb1 Hcz.out
  refine wpList_app rfl _ _ 22 rfl w.heap.size 3 i0 _ 1 8 Try.underlying22 hi hz0 hz1 hz2 rfl (.slice none 0 0) 0 [] rfl (World.ownsRow_nil _ _ _ _) ao zs.length zc (zs.map (Value.int .i64)) rfl (by simp) Hnone.out hnx (ints_one zs) (by have := HZ.out; unfold maxLen; omega) (grow_ok (by have := HZ.out; omega)) hs1 ?_
  intro v' w2 g1 g20 _ g4
  have g2 : w1.grownBy w2 (Value.slice none 0 0).ownBlock := ⟨g20.os, g20.tape, g20.output, g20.size, g20.block⟩
  have hb2 : Below w1.heap.size w1 w2 := ((Mods.refl (fun _ => False) w1).grown g2 (fun k hk _ => by simp [Value.ownBlock] at hk)).below (Nat.le_refl _) (fun _ _ h => h)
  have hO : Ord w2 w.heap.size b C zs zs [] zs.length v' (.slice none 0 0) := by
    obtain ⟨k1, _, k3, _⟩ := q1.lt
    have hnb : ∀ k, k < w1.heap.size → v'.ownBlock ≠ some k := fun k hk e => by
      rcases g4 with g4 | g4
      · rw [g4] at e; simp [Value.ownBlock] at e
      · rw [g4] at e; have := Option.some.inj e; omega
    refine ⟨r, q1.frame (Mods.of_below hb2 (fun _ => False)) (fun h => h) (fun _ _ h => h), by simpa using g1, World.ownsRow_nil _ _ _ _, hnb b k1, by simp [Value.ownBlock], fun k hk => ⟨hnb k (k3 k hk).2.1, by simp [Value.ownBlock]⟩, fun k _ => by simp [Value.ownBlock]⟩
  have hbw := hb1.trans (hb2.mono hs1)
  clear g1 g20 g4 g2 hb1 hb2 hs1 q1 hnx
  go_wp2_with fail
  go_loopw [9, 10, 11] (fun vi vo i wr => ∃ k : Nat, k ≤ os.length ∧ i = .int .i64 k ∧ (∃ l ins outs, ins = outs ++ l ∧ ins.length ≤ zs.length + k ∧ Ord wr w.heap.size b C l ins outs (zs.length + k) vi vo) ∧ Below w.heap.size w wr) (fun _ _ i _ => os.length - (intOf i).toNat)
  case atStart => exact ⟨0, Nat.zero_le _, rfl, ⟨zs, zs, [], rfl, by omega, hO⟩, hbw⟩
  case round =>
    clear hO hbw
    obtain ⟨k, hk, rfl, ⟨l, ins, outs, he, hlen, hO⟩, hbw⟩ := hrel
    have hsz := hbw.size
    have HE := Lib.hid he
    have HL := Lib.hid hlen
    have HK := Lib.hid hk
    have hn1 : zs.length + k < 27000000000000 := by have := HN.out; have := HZ.out; omega
    have HN1 := Lib.hid hn1
    clear hn1
    obtain ⟨rr, q, oi, oo, x1, x2, x3, x4⟩ := hO
    obtain ⟨si, ci, rfl⟩ := owns_slice oi
    obtain ⟨so', co, rfl⟩ := owns_slice oo
    have hll : outs.length + l.length = ins.length := by rw [he]; simp
    have HLL := Lib.hid hll
    clear hlen he hll
    by_cases hlt : k < os.length
    · obtain ⟨bx, off, rfl, hbx, hc1, hc2⟩ := HC.out k hlt
      have hc1 := cell_later hbw hc1
      have hc2 := cell_later hbw hc2
      obtain ⟨a, ha⟩ : ∃ a, a = (os[k]?.getD (0, 0)).1 := ⟨_, rfl⟩
      obtain ⟨x, hx⟩ : ∃ x, x = (os[k]?.getD (0, 0)).2 := ⟨_, rfl⟩
      rw [← ha] at hc1
      rw [← hx] at hc2
      clear ha hx
      have hlti : (k : Int) < os.length := by omega
      go_wp2_with fail
      refine (iq_len q (by have := HN1.out; omega)).mono ?_
      rintro e w3 ⟨rfl, m3, rfl⟩
      by_cases ha0 : a = 0
      · subst ha0
        by_cases hf : (l.length : Int) < C
        · go_wp2_with fail
          refine (iq_put_yes (q.drewN m3) (by have := HN1.out; omega) hsz hf).mono ?_
          rintro e w4 ⟨rfl, r', q', hm, hr⟩
          have hm := mods_ld hm
          have hO := ord_queue q oi oo x1 x2 x3 x4 hm (fun _ h => h) q' hr
          have hb4 := mods_below q hm (fun _ h => h) hsz
          have hsz4 := hm.size
          have hb4z : w.heap.size ≤ w4.heap.size := by omega
          have hc2 : w4.cell? ⟨bx, off + k * 2 + 1, none⟩ = some (.int .i64 x) := cell_later' hb4 hc2 hbx
          have hb4' := hbw.trans hb4
          have oi' : w4.ownsRow w.heap.size 3 1 (.slice si ins.length ci) ins.length (ins.map (Value.int .i64)) := by obtain ⟨_, _, h, _⟩ := hO; exact h
          clear q oi oo x1 x2 x3 x4 hm hr hb4 q'
          go_wp2_with (at_builtin; refine stop_here ?_)
          refine go_on ?_
          refine wpList_app rfl _ _ 22 rfl w.heap.size 3 i0 _ 1 8 Try.underlying22 hi hz0 hz1 hz2 rfl (.slice si ins.length ci) ins.length _ rfl (oi'.alloc (.cells #[.int .i64 x] 3)) (some ⟨w4.heap.size, 0, none⟩) 1 1 [.int .i64 x] rfl rfl (fun h => by cases h) (news_alloc w4 [.int .i64 x] 3) (by simp [Value.oneCell']) (by have := HL.out; have := HN1.out; unfold maxLen; omega) (grow_ok (by have := HL.out; have := HN1.out; omega)) (size_le_alloc hb4z _) ?_
          intro v5 w5 g1 g20 _ g4
          have g2 : (w4.alloc (.cells #[.int .i64 x] 3)).grownBy w5 (Value.slice si ins.length ci).ownBlock := ⟨g20.os, g20.tape, g20.output, g20.size, g20.block⟩
          have hO5 := ord_in x hO g2 g4 g1
          have hb5 := hb4'.trans (below_app oi' g2 hb4z)
          clear g1 g20 g2 g4 hO oi'
          go_wp2
          go_roundw
          case rel => exact ⟨k + 1, by omega, by go_num, ⟨l ++ [x], ins ++ [x], outs, by rw [HE.out]; simp, by have := HL.out; simp; omega, hO5⟩, hb5⟩
          case measure => simp [intOf]; omega
        · have hf' : C ≤ (l.length : Int) := by omega
          go_wp2_with fail
          refine (iq_put_no (q.drewN m3) (by have := HN1.out; omega) hf').mono ?_
          rintro e w4 ⟨rfl, m4, rfl⟩
          have hO : Ord (wr.drewN (m3 + m4)) w.heap.size b C l ins outs (zs.length + (k + 1)) (.slice si ins.length ci) (.slice so' outs.length co) := ⟨rr, (q.drewN _).mono (by omega), oi, oo, x1, x2, x3, x4⟩
          clear q oi oo x1 x2 x3 x4
          go_wp2
          go_roundw
          case rel => exact ⟨k + 1, by omega, by go_num, ⟨l, ins, outs, HE.out, by have := HL.out; omega, hO⟩, below_dr hbw⟩
          case measure => simp [intOf]; omega
      · have hab : (a == 0) = false := by simpa using ha0
        cases l with
        | nil =>
          go_wp2_with fail
          refine (iq_take_none (q.drewN m3) (by have := HN1.out; omega)).mono ?_
          rintro e w4 ⟨rfl, m4, rfl⟩
          have hO : Ord (wr.drewN (m3 + m4)) w.heap.size b C [] ins outs (zs.length + (k + 1)) (.slice si ins.length ci) (.slice so' outs.length co) := ⟨rr, (q.drewN _).mono (by omega), oi, oo, x1, x2, x3, x4⟩
          clear q oi oo x1 x2 x3 x4
          go_wp2
          go_roundw
          case rel => exact ⟨k + 1, by omega, by go_num, ⟨[], ins, outs, HE.out, by have := HL.out; omega, hO⟩, below_dr hbw⟩
          case measure => simp [intOf]; omega
        | cons y l =>
          go_wp2_with fail
          refine (iq_take_cons (q.drewN m3) (by have := HN1.out; omega) hsz).mono ?_
          rintro e w4 ⟨rfl, r', q', hm, hr⟩
          have hm := mods_ld hm
          have hO := ord_queue q oi oo x1 x2 x3 x4 hm (fun _ h => .inl h) q' hr
          have hb4 := mods_below q hm (fun _ h => .inl h) hsz
          have hsz4 := hm.size
          have hb4z : w.heap.size ≤ w4.heap.size := by omega
          have hb4' := hbw.trans hb4
          have oo' : w4.ownsRow w.heap.size 3 1 (.slice so' outs.length co) outs.length (outs.map (Value.int .i64)) := by obtain ⟨_, _, _, h, _⟩ := hO; exact h
          clear q oi oo x1 x2 x3 x4 hm hr hb4 q'
          go_wp2_with (at_builtin; refine stop_here ?_)
          refine go_on ?_
          refine wpList_app rfl _ _ 22 rfl w.heap.size 3 i0 _ 1 8 Try.underlying22 hi hz0 hz1 hz2 rfl (.slice so' outs.length co) outs.length _ rfl (oo'.alloc (.cells #[.int .i64 y] 3)) (some ⟨w4.heap.size, 0, none⟩) 1 1 [.int .i64 y] rfl rfl (fun h => by cases h) (news_alloc w4 [.int .i64 y] 3) (by simp [Value.oneCell']) (by have := HL.out; have := HLL.out; have := HN1.out; unfold maxLen; omega) (grow_ok (by have := HL.out; have := HLL.out; have := HN1.out; omega)) (size_le_alloc hb4z _) ?_
          intro v5 w5 g1 g20 _ g4
          have g2 : (w4.alloc (.cells #[.int .i64 y] 3)).grownBy w5 (Value.slice so' outs.length co).ownBlock := ⟨g20.os, g20.tape, g20.output, g20.size, g20.block⟩
          have hO5 := ord_out y hO g2 g4 g1
          have hb5 := hb4'.trans (below_app oo' g2 hb4z)
          clear g1 g20 g2 g4 hO oo'
          go_wp2
          go_roundw
          case rel =>
            obtain ⟨r5, q5, o5⟩ := hO5
            exact ⟨k + 1, by omega, by go_num, ⟨l, ins, outs ++ [y], by rw [HE.out]; simp, by have := HL.out; omega, r5, q5.mono (by omega), o5⟩, hb5⟩
          case measure => simp [intOf]; omega
    · obtain rfl : k = os.length := by omega
      go_wp2_with fail
      refine (told_any q (by have := HN1.out; omega)).mono ?_
      rintro e w3 ⟨v3, rfl, o3, hb3⟩
      have hsz3 := hb3.size
      obtain ⟨s3, c3, rfl⟩ := owns_slice o3
      have oi3 := owns_kept oi (Mods.of_below hb3 (fun _ => False)) (fun _ _ h => h)
      have oo3 := owns_kept oo (Mods.of_below hb3 (fun _ => False)) (fun _ _ h => h)
      obtain ⟨ao3, cp3, e3, hn3, hc3⟩ := ints_of_owns o3
      cases e3
      have hb3z : w.heap.size ≤ w3.heap.size := by omega
      go_wp2_with (at_builtin; refine stop_here ?_)
      refine go_on ?_
      refine wpList_app rfl _ _ 22 rfl w.heap.size 3 i0 _ 1 8 Try.underlying22 hi hz0 hz1 hz2 rfl (.slice so' outs.length co) outs.length _ rfl oo3 s3 l.length c3 (l.map (Value.int .i64)) rfl (by simp) hn3 hc3 (ints_one l) (by have := HL.out; have := HLL.out; have := HN1.out; unfold maxLen; omega) (grow_ok (by have := HL.out; have := HLL.out; have := HN1.out; omega)) hb3z ?_
      intro v5 w5 g1 g20 _ g4
      have g2 : w3.grownBy w5 (Value.slice so' outs.length co).ownBlock := ⟨g20.os, g20.tape, g20.output, g20.size, g20.block⟩
      have oi5 := owns_kept oi3 ((Mods.refl (fun k => (Value.slice so' outs.length co).ownBlock = some k) w3).grown g2 (fun k hk _ => hk)) (fun k hk e => x4 k hk e)
      have hb5 : Below w.heap.size w3 w5 := ((Mods.refl (fun k => (Value.slice so' outs.length co).ownBlock = some k) w3).grown g2 (fun k hk _ => hk)).below hb3z fun k hk e => by have := (oo3.lt k e).1; omega
      have o5 : w5.ownsRow w.heap.size 3 1 v5 ins.length (ins.map (Value.int .i64)) := by rw [← List.map_append, ← HE.out, HLL.out] at g1; exact g1
      have hsz5 := hb5.size
      have hb5' := hbw.trans ((hb3.mono hsz).trans hb5)
      clear g1 g20 g2 g4 oi3 oo3 o3 hn3 hc3 q oi oo x1 x2 x3 x4 hb3 hb5
      go_wp2_with fail
      refine (same_yes (has_of_owns o5) (has_of_owns oi5) (by have := HL.out; have := HN1.out; omega)).mono ?_
      rintro e w6 ⟨rfl, m6, rfl⟩
      go_wp2_with fail
      refine (awake_yes _).mono ?_
      rintro e w9 ⟨rfl, hb9⟩
      go_wp2
      go_ret
      exact ⟨rfl, hb5'.trans (below_ld (hb9.mono (by show _ ≤ w5.heap.size; omega)))⟩

theorem order_all (w : World) (C : Int) (v v' : Value) (zs : List Int) (os : List (Int × Int)) (hC : C ≤ 9223372036854775807) (hz : zs.length ≤ 17600000000000) (hn : os.length ≤ 9000000000000) (hi : InInts w v zs) (hv : HasOps w v' os) :
    Calls Try.prog 5 #[.int .i64 C, v, v'] w fun e w' => e = .returned (.bool true) ∧ Below w.heap.size w w' := by
  by_cases g1 : C < 0
  · exact order_neg w C v v' g1
  · obtain ⟨ao, zc, rfl, _, _, h3, _, h5⟩ := hi
    obtain ⟨so, cap, rfl, hc⟩ := hv.at
    exact order_any w C zs ao zc os so cap (by omega) hC hz hn h3 h5 hc
end Go.Proofs.Ytifhnealecndnaa
