/- EmitNames, walked. -/
import Derived.Test.YtbmbfifempkhgaaENa
namespace Go.Proofs.Ytbmbfifempkhgaa
open Go.RowKit

theorem region_has (w : World) (b s t : Int) : HasPlan (w.alloc (.cells #[.int .i64 b, .int .i64 s] 70)) (.agg #[.slice (some ⟨w.heap.size, 0, none⟩) 1 1, .int .i64 t]) ⟨[⟨b, s⟩], t⟩ := by
  have hX := heap_alloc_new w (.cells #[.int .i64 b, .int .i64 s] 70)
  refine ⟨_, rfl, .inr ⟨Nat.zero_lt_one, _, 0, 1, rfl, Nat.le_refl _, block_lt hX, fun k hk => ?_⟩⟩
  match k, (show k < 1 from hk) with
  | 0, _ => exact ⟨_, rfl, rfl, fun i hi => by
      match i, hi with
      | 0, _ => exact cells_row _ _ hX 0 _ rfl
      | 1, _ => exact cells_row _ _ hX 1 _ rfl⟩




set_option maxRecDepth 100000 in
set_option maxHeartbeats 2000000 in
theorem names_yes (w : World) : Calls Try.prog 5 #[] w (Tells (.bool true) w) := by
  have HT := Lib.hid (Then.refl w)
  go_enter Try.func5, Try.ntmps5
  go_wp2_with fail
  refine (small_ret _).mono ?_
  rintro e w1 ⟨vg, rfl, hg, hb⟩
  replace HT := Lib.hid (HT.out.step hb)
  have HG := Lib.hid hg
  clear hg hb
  go_wp2_with fail
  refine (plan_ret _).mono ?_
  rintro e w1 ⟨vp, rfl, hp, hb⟩
  replace HT := Lib.hid (HT.out.step hb)
  have HP := Lib.hid hp
  replace HG := Lib.hid (HG.out.below hb)
  clear hp hb
  go_wp2_with fail
  refine (make_any 1 _ _ _ _ smallG planG .nil HG.out HP.out (nest_nil _ _) small_sized trivial).mono ?_
  rintro e w4 ⟨v4, rfl, p4, hb⟩
  replace HT := Lib.hid (HT.out.step hb)
  clear hb HG HP
  rw [mk_4]
  rw [mp_4] at p4
  obtain ⟨vp, vl, vo, rfl, rp, rl, ro⟩ := p4
  obtain ⟨ap, cp, rfl⟩ := rp.slice
  obtain ⟨al, cl, rfl⟩ := rl.slice
  obtain ⟨ao, co, rfl⟩ := ro.slice
  have HRO := Lib.hid ro
  clear rp rl ro
  obtain ⟨B, hB⟩ : ∃ x, w4.heap.size = x := ⟨_, rfl⟩
  have hbX := below_alloc w4 (.cells #[.int .i64 3, .int .i64 0, .int .i64 1, .int .i64 1, .slice ap 2 cp, .slice al 1 cl, .slice ao 1 co] 39)
  have HB1 := Lib.hid (heap_alloc_new w4 (.cells #[.int .i64 3, .int .i64 0, .int .i64 1, .int .i64 1, .slice ap 2 cp, .slice al 1 cl, .slice ao 1 co] 39))
  replace HRO := Lib.hid (HRO.out.below hbX)
  replace HT := Lib.hid (HT.out.step hbX)
  rw [hB] at HB1
  clear hbX
  go_wp2_with fail
  clear hB
  refine (small_ret _).mono ?_
  rintro e w1 ⟨vg, rfl, hg, hb⟩
  replace HT := Lib.hid (HT.out.step hb)
  replace HB1 := Lib.hid ((hb.block _ (block_lt HB1.out)).trans HB1.out)
  replace HRO := Lib.hid (HRO.out.below hb)
  have HG := Lib.hid hg
  clear hg hb
  have hbL := below_alloc w1 (.cells #[.int .i64 0, .int .i64 0] 70)
  have HP := Lib.hid (region_has w1 0 0 0)
  go_wp2_with fail
  obtain ⟨w2, hw2⟩ : ∃ x, w1.alloc (.cells #[.int .i64 0, .int .i64 0] 70) = x := ⟨_, rfl⟩
  rw [hw2] at hbL HP ⊢
  clear hw2
  replace HG := Lib.hid (HG.out.below hbL)
  have hb := hbL
  clear hbL
  replace HT := Lib.hid (HT.out.step hb)
  replace HB1 := Lib.hid ((hb.block _ (block_lt HB1.out)).trans HB1.out)
  replace HRO := Lib.hid (HRO.out.below hb)
  clear hb
  refine (make_any 1 w2 _ _ _ smallG ⟨[⟨0, 0⟩], 0⟩ .nil HG.out HP.out (nest_nil _ _) small_sized trivial).mono ?_
  clear HG HP
  rintro e w4 ⟨v4, rfl, p4, hb⟩
  replace HT := Lib.hid (HT.out.step hb)
  replace HB1 := Lib.hid ((hb.block _ (block_lt HB1.out)).trans HB1.out)
  replace HRO := Lib.hid (HRO.out.below hb)
  rw [mk_5]
  rw [makeP, if_neg (by rw [mk_5]; decide)] at p4
  obtain ⟨ap2, cp2, al2, cl2, ao2, co2, rfl⟩ := p4.none
  clear p4 hb
  have hb := below_alloc w4 (.cells #[.int .i64 0, .int .i64 0, .int .i64 0, .int .i64 0, .slice ap2 0 cp2, .slice al2 0 cl2, .slice ao2 0 co2] 39)
  replace HT := Lib.hid (HT.out.step hb)
  replace HB1 := Lib.hid ((hb.block _ (block_lt HB1.out)).trans HB1.out)
  replace HRO := Lib.hid (HRO.out.below hb)
  clear hb
  go_wp2_with fail
  refine (small_ret _).mono ?_
  rintro e w1 ⟨vg, rfl, hg, hb⟩
  replace HT := Lib.hid (HT.out.step hb)
  replace HB1 := Lib.hid ((hb.block _ (block_lt HB1.out)).trans HB1.out)
  replace HRO := Lib.hid (HRO.out.below hb)
  have HG := Lib.hid hg
  clear hg hb
  have hbL := below_alloc w1 (.cells #[.int .i64 0, .int .i64 3] 70)
  have HP := Lib.hid (region_has w1 0 3 1025)
  go_wp2_with fail
  obtain ⟨w2, hw2⟩ : ∃ x, w1.alloc (.cells #[.int .i64 0, .int .i64 3] 70) = x := ⟨_, rfl⟩
  rw [hw2] at hbL HP ⊢
  clear hw2
  replace HG := Lib.hid (HG.out.below hbL)
  have hb := hbL
  clear hbL
  replace HT := Lib.hid (HT.out.step hb)
  replace HB1 := Lib.hid ((hb.block _ (block_lt HB1.out)).trans HB1.out)
  replace HRO := Lib.hid (HRO.out.below hb)
  clear hb
  refine (nest_ret _).mono ?_
  rintro e w1 ⟨vn, rfl, hn, hb⟩
  replace HT := Lib.hid (HT.out.step hb)
  replace HB1 := Lib.hid ((hb.block _ (block_lt HB1.out)).trans HB1.out)
  replace HRO := Lib.hid (HRO.out.below hb)
  have HN := Lib.hid hn
  replace HP := Lib.hid (HP.out.below hb)
  replace HG := Lib.hid (HG.out.below hb)
  clear hn hb
  go_wp2_with fail
  refine (make_any 1 _ _ _ _ smallG ⟨[⟨0, 3⟩], 1025⟩ rowN HG.out HP.out HN.out small_sized row_sized).mono ?_
  clear HG HP HN
  rintro e w4 ⟨v4, rfl, p4, hb⟩
  replace HT := Lib.hid (HT.out.step hb)
  replace HB1 := Lib.hid ((hb.block _ (block_lt HB1.out)).trans HB1.out)
  replace HRO := Lib.hid (HRO.out.below hb)
  rw [mk_6]
  rw [makeP, if_neg (by rw [mk_6]; decide)] at p4
  obtain ⟨ap2, cp2, al2, cl2, ao2, co2, rfl⟩ := p4.none
  clear p4 hb
  have hb := below_alloc w4 (.cells #[.int .i64 0, .int .i64 0, .int .i64 0, .int .i64 0, .slice ap2 0 cp2, .slice al2 0 cl2, .slice ao2 0 co2] 39)
  replace HT := Lib.hid (HT.out.step hb)
  replace HB1 := Lib.hid ((hb.block _ (block_lt HB1.out)).trans HB1.out)
  replace HRO := Lib.hid (HRO.out.below hb)
  clear hb
  go_wp2_with fail
  refine (small_ret _).mono ?_
  rintro e w1 ⟨vg, rfl, hg, hb⟩
  replace HT := Lib.hid (HT.out.step hb)
  replace HB1 := Lib.hid ((hb.block _ (block_lt HB1.out)).trans HB1.out)
  replace HRO := Lib.hid (HRO.out.below hb)
  have HG := Lib.hid hg
  clear hg hb
  go_wp2_with fail
  refine (plan_ret _).mono ?_
  rintro e w1 ⟨vp, rfl, hp, hb⟩
  replace HT := Lib.hid (HT.out.step hb)
  replace HB1 := Lib.hid ((hb.block _ (block_lt HB1.out)).trans HB1.out)
  replace HRO := Lib.hid (HRO.out.below hb)
  have HP := Lib.hid hp
  replace HG := Lib.hid (HG.out.below hb)
  clear hp hb
  have hbL := below_alloc w1 (.cells #[.int .i64 1, .int .i64 2, .slice none 0 0] 51)
  have HL := Lib.hid (leaf_has w1 1 2)
  go_wp2_with fail
  obtain ⟨w2, hw2⟩ : ∃ x, w1.alloc (.cells #[.int .i64 1, .int .i64 2, .slice none 0 0] 51) = x := ⟨_, rfl⟩
  rw [hw2] at hbL HL ⊢
  clear hw2
  have hb := hbL
  replace HT := Lib.hid (HT.out.step hb)
  replace HB1 := Lib.hid ((hb.block _ (block_lt HB1.out)).trans HB1.out)
  replace HRO := Lib.hid (HRO.out.below hb)
  refine (make_any 1 w2 _ _ _ smallG planG (leaf1 1 2) (HG.out.below hbL) (HP.out.below hbL) HL.out small_sized (leaf_sized 1 2)).mono ?_
  clear hb hbL HG HP HL
  rintro e w4 ⟨v4, rfl, p4, hb⟩
  replace HT := Lib.hid (HT.out.step hb)
  replace HB1 := Lib.hid ((hb.block _ (block_lt HB1.out)).trans HB1.out)
  replace HRO := Lib.hid (HRO.out.below hb)
  rw [mk_2]
  rw [makeP, if_neg (by rw [mk_2]; decide)] at p4
  obtain ⟨ap2, cp2, al2, cl2, ao2, co2, rfl⟩ := p4.none
  clear p4 hb
  have hb := below_alloc w4 (.cells #[.int .i64 0, .int .i64 0, .int .i64 0, .int .i64 0, .slice ap2 0 cp2, .slice al2 0 cl2, .slice ao2 0 co2] 39)
  replace HT := Lib.hid (HT.out.step hb)
  replace HB1 := Lib.hid ((hb.block _ (block_lt HB1.out)).trans HB1.out)
  replace HRO := Lib.hid (HRO.out.below hb)
  clear hb
  go_wp2_with fail
  refine (small_ret _).mono ?_
  rintro e w1 ⟨vg, rfl, hg, hb⟩
  replace HT := Lib.hid (HT.out.step hb)
  replace HB1 := Lib.hid ((hb.block _ (block_lt HB1.out)).trans HB1.out)
  replace HRO := Lib.hid (HRO.out.below hb)
  have HG := Lib.hid hg
  clear hg hb
  have hbL := below_alloc w1 (.cells #[.int .i64 1021, .int .i64 3] 70)
  have HP := Lib.hid (region_has w1 1021 3 1024)
  go_wp2_with fail
  obtain ⟨w2, hw2⟩ : ∃ x, w1.alloc (.cells #[.int .i64 1021, .int .i64 3] 70) = x := ⟨_, rfl⟩
  rw [hw2] at hbL HP ⊢
  clear hw2
  replace HG := Lib.hid (HG.out.below hbL)
  have hb := hbL
  clear hbL
  replace HT := Lib.hid (HT.out.step hb)
  replace HB1 := Lib.hid ((hb.block _ (block_lt HB1.out)).trans HB1.out)
  replace HRO := Lib.hid (HRO.out.below hb)
  clear hb
  refine (nest_ret _).mono ?_
  rintro e w1 ⟨vn, rfl, hn, hb⟩
  replace HT := Lib.hid (HT.out.step hb)
  replace HB1 := Lib.hid ((hb.block _ (block_lt HB1.out)).trans HB1.out)
  replace HRO := Lib.hid (HRO.out.below hb)
  have HN := Lib.hid hn
  replace HP := Lib.hid (HP.out.below hb)
  replace HG := Lib.hid (HG.out.below hb)
  clear hn hb
  go_wp2_with fail
  refine (make_any 1 _ _ _ _ smallG ⟨[⟨1021, 3⟩], 1024⟩ rowN HG.out HP.out HN.out small_sized row_sized).mono ?_
  clear HG HP HN
  rintro e w4 ⟨v4, rfl, p4, hb⟩
  replace HT := Lib.hid (HT.out.step hb)
  replace HB1 := Lib.hid ((hb.block _ (block_lt HB1.out)).trans HB1.out)
  replace HRO := Lib.hid (HRO.out.below hb)
  clear hb
  rw [mk_7]
  obtain ⟨vp, vl, vo, ev, rp, rl, ro⟩ := p4
  rw [mp_7] at ev
  generalize (makeP smallG ⟨[⟨1021, 3⟩], 1024⟩ rowN).counters = d1 at ev
  generalize (makeP smallG ⟨[⟨1021, 3⟩], 1024⟩ rowN).ins = d2 at ev
  generalize (makeP smallG ⟨[⟨1021, 3⟩], 1024⟩ rowN).outs = d3 at ev
  obtain ⟨ap2, cp2, e1⟩ := rp.slice
  obtain ⟨al2, cl2, e2⟩ := rl.slice
  obtain ⟨ao2, co2, e3⟩ := ro.slice
  rw [e1, e2, e3] at ev
  generalize (makeP smallG ⟨[⟨1021, 3⟩], 1024⟩ rowN).parts.length = d4 at ev
  generalize (makeP smallG ⟨[⟨1021, 3⟩], 1024⟩ rowN).lines.length = d5 at ev
  generalize (makeP smallG ⟨[⟨1021, 3⟩], 1024⟩ rowN).ops.length = d6 at ev
  subst ev
  clear rp rl ro e1 e2 e3
  obtain ⟨B2, hB2⟩ : ∃ x, w4.heap.size = x := ⟨_, rfl⟩
  have hb := below_alloc w4 (.cells #[.int .i64 1024, .int .i64 d1, .int .i64 d2, .int .i64 d3, .slice ap2 d4 cp2, .slice al2 d5 cl2, .slice ao2 d6 co2] 39)
  have HB2 := Lib.hid (heap_alloc_new w4 (.cells #[.int .i64 1024, .int .i64 d1, .int .i64 d2, .int .i64 d3, .slice ap2 d4 cp2, .slice al2 d5 cl2, .slice ao2 d6 co2] 39))
  rw [hB2] at HB2
  replace HT := Lib.hid (HT.out.step hb)
  replace HB1 := Lib.hid ((hb.block _ (block_lt HB1.out)).trans HB1.out)
  replace HRO := Lib.hid (HRO.out.below hb)
  clear hb
  go_wp2_with fail
  clear hB2
  refine (awake_yes _).mono ?_
  rintro e w5 ⟨rfl, hb⟩
  replace HB2 := Lib.hid ((hb.block _ (block_lt HB2.out)).trans HB2.out)
  replace HT := Lib.hid (HT.out.step hb)
  replace HB1 := Lib.hid ((hb.block _ (block_lt HB1.out)).trans HB1.out)
  replace HRO := Lib.hid (HRO.out.below hb)
  clear hb
  have b1 := cells_row _ _ HB1.out 1 _ rfl
  have b6 := cells_row _ _ HB1.out 6 _ rfl
  have b0 := cells_row _ _ HB2.out 0 _ rfl
  obtain ⟨-, hc9, ob, off, rfl, hops⟩ := HRO.out.at (k := 0) (Nat.zero_lt_succ _)
  have hci : (1 : Int) ≤ co := by have h1 : 1 ≤ co := hc9; omega
  obtain ⟨x1, x2, x3⟩ : w5.cell? ⟨ob, off, none⟩ = some (.int .u8 0) ∧ w5.cell? ⟨ob, off + 1, none⟩ = some (.int .i64 0) ∧ w5.cell? ⟨ob, off + 2, none⟩ = some (.int .i64 0) := hops 0 (Nat.zero_lt_succ _)
  clear hops
  go_wp2
  go_ret
  exact ⟨rfl, HT.out.below⟩
end Go.Proofs.Ytbmbfifempkhgaa
