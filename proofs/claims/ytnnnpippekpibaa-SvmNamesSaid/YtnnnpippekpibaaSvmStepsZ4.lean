/- code's sound. -/
import Derived.Test.YtnnnpippekpibaaSvmStepsZ3
import Derived.Test.YtnnnpippekpibaaSvmStepsZ1
import Derived.Test.YtnnnpippekpibaaSvmStepsZ2
namespace Go.Proofs.Ytnnnpippekpibaa
open Go.RowKit

/-- what the table lets an operation of a kind be: its first number's bound, its second's least and most -/
def limP (P : GProg) (k : Int) : Int × Int × Int :=
  if k = 1 then (P.counters, 1, 2048) else if k = 2 then (P.counters, 0, P.ops.length - 1) else if k = 3 ∨ k = 6 then (P.lines.length, 1, 64) else if k = 4 then (P.ins, 1, 64) else if k = 7 then (P.outs, 1, 64) else if k = 5 then (P.parts.length, 0, 0) else (0, 1, 64)
def soundOp (P : GProg) (i : Nat) (x : GOp) : Bool :=
  if x.kind = 0 then decide (x.a = 0) && decide (x.b = 0) && decide (i + 1 = P.ops.length)
  else decide (0 ≤ x.a) && decide (x.a ≤ (limP P x.kind).1 - 1) && decide ((limP P x.kind).2.1 ≤ x.b) && decide (x.b ≤ (limP P x.kind).2.2)
/-- a program with numbers in bounds -/
structure Sized (P : GProg) : Prop where
  cnt : 0 ≤ P.counters ∧ P.counters ≤ 100000
  ins : 0 ≤ P.ins ∧ P.ins ≤ 100000
  outs : 0 ≤ P.outs ∧ P.outs ≤ 100000
  parts : P.parts.length ≤ 100000
  lines : P.lines.length ≤ 100000
  ops : P.ops.length ≤ 131072


set_option maxRecDepth 100000 in
set_option maxHeartbeats 4000000 in
theorem csound_any (w : World) (v : Value) (P : GProg) (i : Nat) (hv : HasProg w v P) (hz : Sized P) (hi : i < P.ops.length) : Calls Try.prog 57 #[v, .int .i64 i] w (Tells (.bool (soundOp P i P.ops[i])) w) := by
  obtain ⟨vp, vl, vo, rfl, rp, rl, ro⟩ := hv
  obtain ⟨ap, cp, rfl⟩ := rp.slice
  obtain ⟨al, cl, rfl⟩ := rl.slice
  obtain ⟨ao, co, rfl⟩ := ro.slice
  obtain ⟨hc9, _, bo, oo, rfl, o1, o2, o3⟩ := HasRow.opAt ro (List.getElem?_eq_getElem hi)
  obtain ⟨F, hF⟩ : ∃ F, soundOp P i P.ops[i] = F := ⟨_, rfl⟩
  rw [hF]
  obtain ⟨x, hx⟩ : ∃ x, P.ops[i] = x := ⟨_, rfl⟩
  rw [hx] at hF o1 o2 o3
  clear hx rp rl ro
  obtain ⟨kd, xa, xb⟩ := x
  dsimp only at o1 o2 o3
  obtain ⟨z1, z2⟩ := hz.cnt
  obtain ⟨z3, z4⟩ := hz.ins
  obtain ⟨z5, z6⟩ := hz.outs
  have z7 := hz.parts
  have z8 := hz.lines
  have z9 := hz.ops
  unfold soundOp at hF
  dsimp only at hF
  have hb1 := below_alloc w (.cells #[.int .i64 P.memory, .int .i64 P.counters, .int .i64 P.ins, .int .i64 P.outs, .slice ap P.parts.length cp, .slice al P.lines.length cl, .slice (some ⟨bo, oo, none⟩) P.ops.length co] 30)
  have hX := heap_alloc_new w (.cells #[.int .i64 P.memory, .int .i64 P.counters, .int .i64 P.ins, .int .i64 P.outs, .slice ap P.parts.length cp, .slice al P.lines.length cl, .slice (some ⟨bo, oo, none⟩) P.ops.length co] 30)
  have o1 := cell_later hb1 o1
  have o2 := cell_later hb1 o2
  have o3 := cell_later hb1 o3
  have hs : (w.alloc (.cells #[.int .i64 P.memory, .int .i64 P.counters, .int .i64 P.ins, .int .i64 P.outs, .slice ap P.parts.length cp, .slice al P.lines.length cl, .slice (some ⟨bo, oo, none⟩) P.ops.length co] 30)).heap.size = w.heap.size + 1 := by simp
  generalize hW : w.alloc (.cells #[.int .i64 P.memory, .int .i64 P.counters, .int .i64 P.ins, .int .i64 P.outs, .slice ap P.parts.length cp, .slice al P.lines.length cl, .slice (some ⟨bo, oo, none⟩) P.ops.length co] 30) = W at *
  have hb2 := below_alloc W (.cells #[.int .u8 kd, .int .i64 xa, .int .i64 xb] 43)
  have hY := heap_alloc_new W (.cells #[.int .u8 kd, .int .i64 xa, .int .i64 xb] 43)
  have hX2 := block_alloc hX (.cells #[.int .u8 kd, .int .i64 xa, .int .i64 xb] 43)
  have y0 := cells_row _ _ hY 0 _ rfl
  have y1 := cells_row _ _ hY 1 _ rfl
  have y2 := cells_row _ _ hY 2 _ rfl
  have p1 := cells_row _ _ hX2 1 _ rfl
  have p2 := cells_row _ _ hX2 2 _ rfl
  have p3 := cells_row _ _ hX2 3 _ rfl
  have p4 := cells_row _ _ hX2 4 _ rfl
  have p5 := cells_row _ _ hX2 5 _ rfl
  have p6 := cells_row _ _ hX2 6 _ rfl
  have q6 := cells_row _ _ hX 6 _ rfl
  have HB := Lib.hid (hb1.trans (hb2.mono hb1.size))
  have hii : (i : Int) < P.ops.length := by omega
  have hcoi : (P.ops.length : Int) ≤ co := by omega
  clear hb1 hb2 hX hX2 hY hz
  by_cases k0 : kd = 0
  · subst k0
    rw [if_pos rfl] at hF
    have HF := Lib.hid hF
    clear hF
    have hwl : IntKind.i64.wrap ((P.ops.length : Int) - 1) = (P.ops.length : Int) - 1 := IntWalk.i64_in _ (by omega)
    go_enter Try.func57, Try.ntmps57
    by_cases d1 : xa = 0
    · by_cases d2 : xb = 0
      · by_cases d3 : i + 1 = P.ops.length
        · have e : F = true := by rw [← HF.out, decide_eq_true d1, decide_eq_true d2, decide_eq_true d3]; rfl
          subst e
          have d3i : ((i : Int) == (P.ops.length : Int) - 1) = true := by rw [beq_iff_eq]; omega
          subst d1 d2
          go_wp2
          go_ret
          exact ⟨rfl, HB.out⟩
        · have e : F = false := by rw [← HF.out, decide_eq_false d3]; simp
          subst e
          have d3i : ((i : Int) == (P.ops.length : Int) - 1) = false := by rw [beq_eq_false_iff_ne]; omega
          subst d1 d2
          go_wp2
          go_ret
          exact ⟨rfl, HB.out⟩
      · have e : F = false := by rw [← HF.out, decide_eq_false d2]; simp
        subst e
        have d2i : (xb == 0) = false := by rw [beq_eq_false_iff_ne]; exact d2
        subst d1
        go_wp2
        go_ret
        exact ⟨rfl, HB.out⟩
    · have e : F = false := by rw [← HF.out, decide_eq_false d1]; simp
      subst e
      have d1i : (xa == 0) = false := by rw [beq_eq_false_iff_ne]; exact d1
      go_wp2
      go_ret
      exact ⟨rfl, HB.out⟩
  · rw [if_neg k0] at hF
    have k0i : (kd == 0) = false := by rw [beq_eq_false_iff_ne]; exact k0
    by_cases k1 : kd = 1
    · subst k1
      simp only [limP] at hF
      have HF : Hid ((decide (0 ≤ xa) && decide (xa ≤ P.counters - 1) && decide ((1 : Int) ≤ xb) && decide (xb ≤ 2048)) = F) := Lib.hid (by simpa using hF)
      clear hF
      go_enter Try.func57, Try.ntmps57
      -- a: P.counters, least: (1 : Int), most: 2048
      have hwa : IntKind.i64.wrap (P.counters - 1) = P.counters - 1 := IntWalk.i64_in _ (by omega)
      go_wp2_with fail
      refine (cwithin_any _ _ _).mono ?_
      rintro e w5 ⟨rfl, rfl⟩
      by_cases d1 : 0 ≤ xa
      · by_cases d2 : xa ≤ P.counters - 1
        · rw [decide_eq_true d1, decide_eq_true d2]
          by_cases d3 : (1 : Int) ≤ xb
          · by_cases d4 : xb ≤ 2048
            · have e : F = true := by rw [← HF.out, decide_eq_true d1, decide_eq_true d2, decide_eq_true d3, decide_eq_true d4]; rfl
              subst e
              go_wp2
              go_ret
              exact ⟨rfl, HB.out⟩
            · have e : F = false := by rw [← HF.out, decide_eq_false d4]; simp
              subst e
              go_wp2
              go_ret
              refine ⟨?_, HB.out⟩
              show Ending.returned (Value.bool (decide (xb ≤ 2048))) = _
              rw [decide_eq_false (by omega)]
          · have e : F = false := by rw [← HF.out, decide_eq_false d3]; simp
            subst e
            go_wp2
            go_ret
            exact ⟨rfl, HB.out⟩
        · have e : F = false := by rw [← HF.out, decide_eq_false d2]; simp
          subst e
          rw [decide_eq_false d2, Bool.and_false]
          go_wp2
          go_ret
          exact ⟨rfl, HB.out⟩
      · have e : F = false := by rw [← HF.out, decide_eq_false d1]; simp
        subst e
        rw [decide_eq_false d1, Bool.false_and]
        go_wp2
        go_ret
        exact ⟨rfl, HB.out⟩
    have k1i : (kd == 1) = false := by rw [beq_eq_false_iff_ne]; exact k1
    by_cases k2 : kd = 2
    · subst k2
      simp only [limP] at hF
      have HF : Hid ((decide (0 ≤ xa) && decide (xa ≤ P.counters - 1) && decide ((0 : Int) ≤ xb) && decide (xb ≤ (P.ops.length : Int) - 1)) = F) := Lib.hid (by simpa using hF)
      clear hF
      have hwl : IntKind.i64.wrap ((P.ops.length : Int) - 1) = (P.ops.length : Int) - 1 := IntWalk.i64_in _ (by omega)
      go_enter Try.func57, Try.ntmps57
      go_wp2_with fail
      refine wp_region_lex (fun w' => w'.cell? ⟨w.heap.size, 1, none⟩ = some (.int .i64 P.counters) ∧ w'.cell? ⟨w.heap.size, 6, none⟩ = some (.slice (some ⟨bo, oo, none⟩) P.ops.length co)) [0, 1, 2, 3, 4, 5, 6, 7, 8] [] (by kernel_rfl) (by kernel_rfl) rfl (fun _ _ hx h => ⟨hx.cell h.1, hx.cell h.2⟩) ⟨p1, p6⟩ ?_
      intro Q' hQ'
      simp only [pickOps, List.flatMap_cons, List.flatMap_nil, List.drop_succ_cons, List.drop_zero, List.take_succ_cons, List.take_zero, List.cons_append, List.nil_append, List.append_nil]
      repeat (first
        | (refine wpReads_skip (by rfl) ?_; (try simp only [Act.put, List.setIfInBounds_toArray, List.set_cons_zero, List.set_cons_succ]))
        | (refine wpReads_cons ?_ (by rfl) (by rfl) ?_ ?_; rotate_left; (intro wz hz; (try dsimp only at hz); go_simp; try with_reducible rfl); (try simp only [Act.put, List.setIfInBounds_toArray, List.set_cons_zero, List.set_cons_succ]))
        | (refine wpReads_any ?_ (by rfl) ?_ ?_; rotate_left; (intro wz; go_simp; try with_reducible rfl); (try simp only [Act.put, List.setIfInBounds_toArray, List.set_cons_zero, List.set_cons_succ])))
      refine wpReads_nil ?_
      replace HB := Lib.hid (below_dr (n := 1) HB.out)
      -- a: P.counters, least: (0 : Int), most: (P.ops.length : Int) - 1
      have hwa : IntKind.i64.wrap (P.counters - 1) = P.counters - 1 := IntWalk.i64_in _ (by omega)
      go_wp2_with fail
      refine (cwithin_any _ _ _).mono ?_
      rintro e w5 ⟨rfl, rfl⟩
      by_cases d1 : 0 ≤ xa
      · by_cases d2 : xa ≤ P.counters - 1
        · rw [decide_eq_true d1, decide_eq_true d2]
          by_cases d3 : (0 : Int) ≤ xb
          · by_cases d4 : xb ≤ (P.ops.length : Int) - 1
            · have e : F = true := by rw [← HF.out, decide_eq_true d1, decide_eq_true d2, decide_eq_true d3, decide_eq_true d4]; rfl
              subst e
              go_wp2
              go_ret
              exact ⟨rfl, HB.out⟩
            · have e : F = false := by rw [← HF.out, decide_eq_false d4]; simp
              subst e
              go_wp2
              go_ret
              refine ⟨?_, HB.out⟩
              show Ending.returned (Value.bool (decide (xb ≤ (P.ops.length : Int) - 1))) = _
              rw [decide_eq_false (by omega)]
          · have e : F = false := by rw [← HF.out, decide_eq_false d3]; simp
            subst e
            go_wp2
            go_ret
            exact ⟨rfl, HB.out⟩
        · have e : F = false := by rw [← HF.out, decide_eq_false d2]; simp
          subst e
          rw [decide_eq_false d2, Bool.and_false]
          go_wp2
          go_ret
          exact ⟨rfl, HB.out⟩
      · have e : F = false := by rw [← HF.out, decide_eq_false d1]; simp
        subst e
        rw [decide_eq_false d1, Bool.false_and]
        go_wp2
        go_ret
        exact ⟨rfl, HB.out⟩
    have k2i : (kd == 2) = false := by rw [beq_eq_false_iff_ne]; exact k2
    by_cases k3 : kd = 3
    · subst k3
      simp only [limP] at hF
      have HF : Hid ((decide (0 ≤ xa) && decide (xa ≤ (P.lines.length : Int) - 1) && decide ((1 : Int) ≤ xb) && decide (xb ≤ 64)) = F) := Lib.hid (by simpa using hF)
      clear hF
      go_enter Try.func57, Try.ntmps57
      -- a: (P.lines.length : Int), least: (1 : Int), most: 64
      have hwa : IntKind.i64.wrap ((P.lines.length : Int) - 1) = (P.lines.length : Int) - 1 := IntWalk.i64_in _ (by omega)
      go_wp2_with fail
      refine (cwithin_any _ _ _).mono ?_
      rintro e w5 ⟨rfl, rfl⟩
      by_cases d1 : 0 ≤ xa
      · by_cases d2 : xa ≤ (P.lines.length : Int) - 1
        · rw [decide_eq_true d1, decide_eq_true d2]
          by_cases d3 : (1 : Int) ≤ xb
          · by_cases d4 : xb ≤ 64
            · have e : F = true := by rw [← HF.out, decide_eq_true d1, decide_eq_true d2, decide_eq_true d3, decide_eq_true d4]; rfl
              subst e
              go_wp2
              go_ret
              exact ⟨rfl, HB.out⟩
            · have e : F = false := by rw [← HF.out, decide_eq_false d4]; simp
              subst e
              go_wp2
              go_ret
              refine ⟨?_, HB.out⟩
              show Ending.returned (Value.bool (decide (xb ≤ 64))) = _
              rw [decide_eq_false (by omega)]
          · have e : F = false := by rw [← HF.out, decide_eq_false d3]; simp
            subst e
            go_wp2
            go_ret
            exact ⟨rfl, HB.out⟩
        · have e : F = false := by rw [← HF.out, decide_eq_false d2]; simp
          subst e
          rw [decide_eq_false d2, Bool.and_false]
          go_wp2
          go_ret
          exact ⟨rfl, HB.out⟩
      · have e : F = false := by rw [← HF.out, decide_eq_false d1]; simp
        subst e
        rw [decide_eq_false d1, Bool.false_and]
        go_wp2
        go_ret
        exact ⟨rfl, HB.out⟩
    have k3i : (kd == 3) = false := by rw [beq_eq_false_iff_ne]; exact k3
    by_cases k6 : kd = 6
    · subst k6
      simp only [limP] at hF
      have HF : Hid ((decide (0 ≤ xa) && decide (xa ≤ (P.lines.length : Int) - 1) && decide ((1 : Int) ≤ xb) && decide (xb ≤ 64)) = F) := Lib.hid (by simpa using hF)
      clear hF
      go_enter Try.func57, Try.ntmps57
      -- a: (P.lines.length : Int), least: (1 : Int), most: 64
      have hwa : IntKind.i64.wrap ((P.lines.length : Int) - 1) = (P.lines.length : Int) - 1 := IntWalk.i64_in _ (by omega)
      go_wp2_with fail
      refine (cwithin_any _ _ _).mono ?_
      rintro e w5 ⟨rfl, rfl⟩
      by_cases d1 : 0 ≤ xa
      · by_cases d2 : xa ≤ (P.lines.length : Int) - 1
        · rw [decide_eq_true d1, decide_eq_true d2]
          by_cases d3 : (1 : Int) ≤ xb
          · by_cases d4 : xb ≤ 64
            · have e : F = true := by rw [← HF.out, decide_eq_true d1, decide_eq_true d2, decide_eq_true d3, decide_eq_true d4]; rfl
              subst e
              go_wp2
              go_ret
              exact ⟨rfl, HB.out⟩
            · have e : F = false := by rw [← HF.out, decide_eq_false d4]; simp
              subst e
              go_wp2
              go_ret
              refine ⟨?_, HB.out⟩
              show Ending.returned (Value.bool (decide (xb ≤ 64))) = _
              rw [decide_eq_false (by omega)]
          · have e : F = false := by rw [← HF.out, decide_eq_false d3]; simp
            subst e
            go_wp2
            go_ret
            exact ⟨rfl, HB.out⟩
        · have e : F = false := by rw [← HF.out, decide_eq_false d2]; simp
          subst e
          rw [decide_eq_false d2, Bool.and_false]
          go_wp2
          go_ret
          exact ⟨rfl, HB.out⟩
      · have e : F = false := by rw [← HF.out, decide_eq_false d1]; simp
        subst e
        rw [decide_eq_false d1, Bool.false_and]
        go_wp2
        go_ret
        exact ⟨rfl, HB.out⟩
    have k6i : (kd == 6) = false := by rw [beq_eq_false_iff_ne]; exact k6
    by_cases k4 : kd = 4
    · subst k4
      simp only [limP] at hF
      have HF : Hid ((decide (0 ≤ xa) && decide (xa ≤ P.ins - 1) && decide ((1 : Int) ≤ xb) && decide (xb ≤ 64)) = F) := Lib.hid (by simpa using hF)
      clear hF
      go_enter Try.func57, Try.ntmps57
      -- a: P.ins, least: (1 : Int), most: 64
      have hwa : IntKind.i64.wrap (P.ins - 1) = P.ins - 1 := IntWalk.i64_in _ (by omega)
      go_wp2_with fail
      refine (cwithin_any _ _ _).mono ?_
      rintro e w5 ⟨rfl, rfl⟩
      by_cases d1 : 0 ≤ xa
      · by_cases d2 : xa ≤ P.ins - 1
        · rw [decide_eq_true d1, decide_eq_true d2]
          by_cases d3 : (1 : Int) ≤ xb
          · by_cases d4 : xb ≤ 64
            · have e : F = true := by rw [← HF.out, decide_eq_true d1, decide_eq_true d2, decide_eq_true d3, decide_eq_true d4]; rfl
              subst e
              go_wp2
              go_ret
              exact ⟨rfl, HB.out⟩
            · have e : F = false := by rw [← HF.out, decide_eq_false d4]; simp
              subst e
              go_wp2
              go_ret
              refine ⟨?_, HB.out⟩
              show Ending.returned (Value.bool (decide (xb ≤ 64))) = _
              rw [decide_eq_false (by omega)]
          · have e : F = false := by rw [← HF.out, decide_eq_false d3]; simp
            subst e
            go_wp2
            go_ret
            exact ⟨rfl, HB.out⟩
        · have e : F = false := by rw [← HF.out, decide_eq_false d2]; simp
          subst e
          rw [decide_eq_false d2, Bool.and_false]
          go_wp2
          go_ret
          exact ⟨rfl, HB.out⟩
      · have e : F = false := by rw [← HF.out, decide_eq_false d1]; simp
        subst e
        rw [decide_eq_false d1, Bool.false_and]
        go_wp2
        go_ret
        exact ⟨rfl, HB.out⟩
    have k4i : (kd == 4) = false := by rw [beq_eq_false_iff_ne]; exact k4
    by_cases k7 : kd = 7
    · subst k7
      simp only [limP] at hF
      have HF : Hid ((decide (0 ≤ xa) && decide (xa ≤ P.outs - 1) && decide ((1 : Int) ≤ xb) && decide (xb ≤ 64)) = F) := Lib.hid (by simpa using hF)
      clear hF
      go_enter Try.func57, Try.ntmps57
      -- a: P.outs, least: (1 : Int), most: 64
      have hwa : IntKind.i64.wrap (P.outs - 1) = P.outs - 1 := IntWalk.i64_in _ (by omega)
      go_wp2_with fail
      refine (cwithin_any _ _ _).mono ?_
      rintro e w5 ⟨rfl, rfl⟩
      by_cases d1 : 0 ≤ xa
      · by_cases d2 : xa ≤ P.outs - 1
        · rw [decide_eq_true d1, decide_eq_true d2]
          by_cases d3 : (1 : Int) ≤ xb
          · by_cases d4 : xb ≤ 64
            · have e : F = true := by rw [← HF.out, decide_eq_true d1, decide_eq_true d2, decide_eq_true d3, decide_eq_true d4]; rfl
              subst e
              go_wp2
              go_ret
              exact ⟨rfl, HB.out⟩
            · have e : F = false := by rw [← HF.out, decide_eq_false d4]; simp
              subst e
              go_wp2
              go_ret
              refine ⟨?_, HB.out⟩
              show Ending.returned (Value.bool (decide (xb ≤ 64))) = _
              rw [decide_eq_false (by omega)]
          · have e : F = false := by rw [← HF.out, decide_eq_false d3]; simp
            subst e
            go_wp2
            go_ret
            exact ⟨rfl, HB.out⟩
        · have e : F = false := by rw [← HF.out, decide_eq_false d2]; simp
          subst e
          rw [decide_eq_false d2, Bool.and_false]
          go_wp2
          go_ret
          exact ⟨rfl, HB.out⟩
      · have e : F = false := by rw [← HF.out, decide_eq_false d1]; simp
        subst e
        rw [decide_eq_false d1, Bool.false_and]
        go_wp2
        go_ret
        exact ⟨rfl, HB.out⟩
    have k7i : (kd == 7) = false := by rw [beq_eq_false_iff_ne]; exact k7
    by_cases k5 : kd = 5
    · subst k5
      simp only [limP] at hF
      have HF : Hid ((decide (0 ≤ xa) && decide (xa ≤ (P.parts.length : Int) - 1) && decide ((0 : Int) ≤ xb) && decide (xb ≤ 0)) = F) := Lib.hid (by simpa using hF)
      clear hF
      go_enter Try.func57, Try.ntmps57
      -- a: (P.parts.length : Int), least: (0 : Int), most: 0
      have hwa : IntKind.i64.wrap ((P.parts.length : Int) - 1) = (P.parts.length : Int) - 1 := IntWalk.i64_in _ (by omega)
      go_wp2_with fail
      refine (cwithin_any _ _ _).mono ?_
      rintro e w5 ⟨rfl, rfl⟩
      by_cases d1 : 0 ≤ xa
      · by_cases d2 : xa ≤ (P.parts.length : Int) - 1
        · rw [decide_eq_true d1, decide_eq_true d2]
          by_cases d3 : (0 : Int) ≤ xb
          · by_cases d4 : xb ≤ 0
            · have e : F = true := by rw [← HF.out, decide_eq_true d1, decide_eq_true d2, decide_eq_true d3, decide_eq_true d4]; rfl
              subst e
              go_wp2
              go_ret
              exact ⟨rfl, HB.out⟩
            · have e : F = false := by rw [← HF.out, decide_eq_false d4]; simp
              subst e
              go_wp2
              go_ret
              refine ⟨?_, HB.out⟩
              show Ending.returned (Value.bool (decide (xb ≤ 0))) = _
              rw [decide_eq_false (by omega)]
          · have e : F = false := by rw [← HF.out, decide_eq_false d3]; simp
            subst e
            go_wp2
            go_ret
            exact ⟨rfl, HB.out⟩
        · have e : F = false := by rw [← HF.out, decide_eq_false d2]; simp
          subst e
          rw [decide_eq_false d2, Bool.and_false]
          go_wp2
          go_ret
          exact ⟨rfl, HB.out⟩
      · have e : F = false := by rw [← HF.out, decide_eq_false d1]; simp
        subst e
        rw [decide_eq_false d1, Bool.false_and]
        go_wp2
        go_ret
        exact ⟨rfl, HB.out⟩
    have k5i : (kd == 5) = false := by rw [beq_eq_false_iff_ne]; exact k5
    have HF : Hid ((decide (0 ≤ xa) && decide (xa ≤ (0 : Int) - 1) && decide ((1 : Int) ≤ xb) && decide (xb ≤ 64)) = F) := Lib.hid (by
      have e : limP P kd = (0, 1, 64) := by unfold limP; rw [if_neg k1, if_neg k2, if_neg (by omega), if_neg k4, if_neg k7, if_neg k5]
      rw [e] at hF
      exact hF)
    clear hF
    go_enter Try.func57, Try.ntmps57
    go_wp2_with fail
    refine (cwithin_any _ _ _).mono ?_
    rintro e w5 ⟨rfl, rfl⟩
    have e : F = false := by
      rw [← HF.out]
      by_cases d1 : 0 ≤ xa
      · rw [decide_eq_false (by omega : ¬ xa ≤ (0 : Int) - 1)]; simp
      · rw [decide_eq_false d1]; simp
    subst e
    have e2 : (decide (0 ≤ xa) && decide (xa ≤ -1)) = false := by
      by_cases d1 : 0 ≤ xa
      · rw [decide_eq_false (by omega : ¬ xa ≤ -1)]; simp
      · rw [decide_eq_false d1]; simp
    try rw [e2]
    go_wp2
    go_ret
    exact ⟨rfl, HB.out⟩
end Go.Proofs.Ytnnnpippekpibaa

/- code's walk, plainly; its stack in memory. No function in sight. -/
namespace Go.Proofs.Ytnnnpippekpibaa
open Go.RowKit

/-- the stack: the bottom's steps; the frames, the top first: a head's place, the steps so far -/
abbrev CSt := Int × List (Nat × Int)
def opP (P : GProg) (p : Nat) : GOp := P.ops[p]?.getD ⟨0, 0, 0⟩
def topS : CSt → Int
  | (b, []) => b
  | (_, (_, s) :: _) => s
def topP : CSt → Int
  | (_, []) => -1
  | (_, (p, _) :: _) => p
def setS (s' : Int) : CSt → CSt
  | (_, []) => (s', [])
  | (b, (p, _) :: r) => (b, (p, s') :: r)
def addS (k : Int) (st : CSt) : CSt := setS (capI (topS st + k)) st
def allP (times round : Int) : Int := if round ≤ 131072 / times then 1 + times * round else 131073
def cstepE (P : GProg) (x : GOp) (st : CSt) : Int :=
  if x.kind = 1 then (if st.2.any (fun f => decide ((opP P f.1).a = x.a)) then 201 else 0)
  else if x.kind = 2 then (match st.2 with | [] => 201 | (p, _) :: _ => if (opP P p).a ≠ x.a ∨ x.b ≠ p + 1 then 201 else 0)
  else if x.kind = 0 then (if st.2 = [] then 0 else 201)
  else 0
def cstepS (P : GProg) (i : Nat) (x : GOp) (st : CSt) : CSt :=
  if x.kind = 1 then (st.1, (i, 0) :: st.2)
  else if x.kind = 2 then (match st.2 with | [] => st | (p, s) :: r => addS (allP (opP P p).b (s + 1)) (st.1, r))
  else addS 1 st
def cendE (P : GProg) (st : CSt) : Int × Int := if P.ops.length = 0 ∨ (opP P (P.ops.length - 1)).kind ≠ 0 then (0, 200) else if 131072 < st.1 then (0, 5) else (st.1, 0)
/-- the steps, and the error -/
def cwalkE (P : GProg) : List GOp → Nat → CSt → Int × Int
  | [], _, st => cendE P st
  | x :: r, i, st => if !soundOp P i x then (0, 200) else if cstepE P x st ≠ 0 then (0, cstepE P x st) else cwalkE P r (i + 1) (cstepS P i x st)

/-- what holds of the stack -/
structure StOk (P : GProg) (i : Nat) (st : CSt) : Prop where
  bot : 0 ≤ st.1 ∧ st.1 ≤ 131073
  frames : ∀ f ∈ st.2, f.1 < i ∧ 1 ≤ (opP P f.1).b ∧ (opP P f.1).b ≤ 2048 ∧ 0 ≤ f.2 ∧ f.2 ≤ 131073
  len : st.2.length ≤ i

theorem capI_ok {n : Int} (h : 0 ≤ n) : 0 ≤ capI n ∧ capI n ≤ 131073 := by unfold capI; split <;> omega
theorem topS_ok {P : GProg} {i : Nat} {st : CSt} (h : StOk P i st) : 0 ≤ topS st ∧ topS st ≤ 131073 := by
  obtain ⟨b, fr⟩ := st
  cases fr with
  | nil => exact h.bot
  | cons f r => exact (h.frames f List.mem_cons_self).2.2.2
theorem setS_len (s : Int) (st : CSt) : (setS s st).2.length = st.2.length := by
  obtain ⟨b, fr⟩ := st
  cases fr <;> rfl
theorem addS_ok {P : GProg} {i : Nat} {st : CSt} {k : Int} (h : StOk P i st) (hk : 0 ≤ k) : StOk P i (addS k st) := by
  have ht := topS_ok h
  have hc := capI_ok (show 0 ≤ topS st + k by omega)
  obtain ⟨b, fr⟩ := st
  cases fr with
  | nil => exact ⟨hc, (fun f hf => by cases hf), Nat.zero_le _⟩
  | cons f r =>
    refine ⟨h.bot, fun g hg => ?_, h.len⟩
    have h1 := h.frames f List.mem_cons_self
    rcases List.mem_cons.1 hg with rfl | hg
    · exact ⟨h1.1, h1.2.1, h1.2.2.1, hc⟩
    · exact h.frames g (List.mem_cons_of_mem _ hg)
theorem StOk.later {P : GProg} {i : Nat} {st : CSt} (h : StOk P i st) : StOk P (i + 1) st := ⟨h.bot, fun f hf => by have := h.frames f hf; exact ⟨by omega, this.2⟩, by have := h.len; omega⟩
theorem StOk.pop {P : GProg} {i : Nat} {b : Int} {f : Nat × Int} {r : List (Nat × Int)} (h : StOk P i (b, f :: r)) : StOk P i (b, r) := ⟨h.bot, fun g hg => h.frames g (List.mem_cons_of_mem _ hg), by have := h.len; simp only [List.length_cons] at this; show r.length ≤ i; omega⟩
theorem allP_ok {t r : Int} (ht : 1 ≤ t) (hr : 0 ≤ r) : 0 ≤ allP t r ∧ allP t r ≤ 131073 := by
  unfold allP
  split
  · rename_i h
    have h1 : t * r ≤ t * (131072 / t) := Int.mul_le_mul_of_nonneg_left h (by omega)
    have h2 : t * (131072 / t) ≤ 131072 := Int.mul_ediv_self_le (by omega)
    have h3 : 0 ≤ t * r := Int.mul_nonneg (by omega) hr
    omega
  · omega
theorem cstep_ok {P : GProg} {i : Nat} {x : GOp} {st : CSt} (h : StOk P i st) (hi : i < P.ops.length) (hx : P.ops[i] = x) (hs : soundOp P i x = true) : StOk P (i + 1) (cstepS P i x st) := by
  unfold cstepS
  by_cases h1 : x.kind = 1
  · rw [if_pos h1]
    have ho : opP P i = x := by unfold opP; rw [List.getElem?_eq_getElem hi, hx]; rfl
    unfold soundOp at hs
    rw [if_neg (by omega)] at hs
    simp only [limP, h1, Bool.and_eq_true, decide_eq_true_eq] at hs
    refine ⟨h.bot, fun f hf => ?_, by have := h.len; simp only [List.length_cons]; omega⟩
    rcases List.mem_cons.1 hf with rfl | hf
    · rw [ho]
      simp at hs
      exact ⟨by omega, by omega, by omega, by omega, by show (0 : Int) ≤ 131073; omega⟩
    · exact (h.later).frames f hf
  · rw [if_neg h1]
    by_cases h2 : x.kind = 2
    · rw [if_pos h2]
      obtain ⟨b, fr⟩ := st
      cases fr with
      | nil => exact h.later
      | cons f r =>
        have hf := h.frames f List.mem_cons_self
        exact addS_ok h.pop.later (allP_ok hf.2.1 (by omega)).1
    · rw [if_neg h2]
      exact addS_ok h.later (by omega)

/-- the stack's cells, the bottom first -/
def frV (f : Nat × Int) : List Value := [.int .i64 f.1, .int .i64 f.2]
def stV (st : CSt) : List Value := [.int .i64 (-1), .int .i64 st.1] ++ st.2.reverse.flatMap frV
theorem frV_len (l : List (Nat × Int)) : (l.flatMap frV).length = l.length * 2 := flatV_len' l
  where flatV_len' : ∀ l : List (Nat × Int), (l.flatMap frV).length = l.length * 2
    | [] => rfl
    | x :: l => by rw [List.flatMap_cons, List.length_append, flatV_len' l]; simp [frV]; omega
theorem stV_len (st : CSt) : (stV st).length = (st.2.length + 1) * 2 := by
  rw [stV, List.length_append, frV_len]; simp; omega
theorem stV_push (b : Int) (fr : List (Nat × Int)) (p : Nat) (s : Int) : stV (b, (p, s) :: fr) = stV (b, fr) ++ [.int .i64 p, .int .i64 s] := by
  simp [stV, frV]
theorem stV_top (st : CSt) : (stV st)[st.2.length * 2]? = some (.int .i64 (topP st)) ∧ (stV st)[st.2.length * 2 + 1]? = some (.int .i64 (topS st)) := by
  obtain ⟨b, fr⟩ := st
  cases fr with
  | nil => exact ⟨rfl, rfl⟩
  | cons f r =>
    obtain ⟨p, s⟩ := f
    rw [stV_push]
    have hl := stV_len (b, r)
    dsimp only at hl ⊢
    simp only [List.length_cons]
    rw [List.getElem?_append_right (by omega), List.getElem?_append_right (by omega), show (r.length + 1) * 2 - (stV (b, r)).length = 0 by omega, show (r.length + 1) * 2 + 1 - (stV (b, r)).length = 1 by omega]
    exact ⟨rfl, rfl⟩
theorem stV_set (st : CSt) (s' : Int) : (stV st).set (st.2.length * 2 + 1) (.int .i64 s') = stV (setS s' st) := by
  obtain ⟨b, fr⟩ := st
  cases fr with
  | nil => rfl
  | cons f r =>
    obtain ⟨p, s⟩ := f
    rw [setS, stV_push, stV_push]
    have hl := stV_len (b, r)
    dsimp only at hl ⊢
    simp only [List.length_cons]
    rw [List.set_append_right _ _ (by omega), show (r.length + 1) * 2 + 1 - (stV (b, r)).length = 1 by omega]
    rfl
theorem stV_pop (b : Int) (f : Nat × Int) (fr : List (Nat × Int)) : (stV (b, f :: fr)).take ((fr.length + 1) * 2) = stV (b, fr) := by
  obtain ⟨p, s⟩ := f
  have hl := stV_len (b, fr)
  dsimp only at hl
  rw [stV_push, ← hl, List.take_left']
  rfl
theorem stV_at (st : CSt) {k : Nat} (hk : k < st.2.length) : (stV st)[(k + 1) * 2]? = some (.int .i64 ((st.2.reverse[k]'(by simpa using hk)).1 : Nat)) := by
  have key : ∀ (l : List (Nat × Int)) (k : Nat) (h : k < l.length), (l.flatMap frV)[k * 2]? = some (.int .i64 (l[k].1 : Nat)) := by
    intro l
    induction l with
    | nil => intro k h; simp at h
    | cons x l ih =>
      intro k h
      cases k with
      | zero => rfl
      | succ k =>
        rw [List.flatMap_cons, List.getElem?_append_right (by simp [frV]; omega)]
        have := ih k (by simpa using h)
        rw [show (k + 1) * 2 - (frV x).length = k * 2 by simp [frV]; omega, this]
        rfl
  rw [stV, List.getElem?_append_right (by simp; omega), show (k + 1) * 2 - ([Value.int .i64 (-1), Value.int .i64 st.1] : List Value).length = k * 2 by simp; omega]
  exact key _ _ _
theorem stV_at2 (st : CSt) {k : Nat} (hk : k < st.2.length) : (stV st)[(k + 1) * 2 + 1]? = some (.int .i64 (st.2.reverse[k]'(by simpa using hk)).2) := by
  have key : ∀ (l : List (Nat × Int)) (k : Nat) (h : k < l.length), (l.flatMap frV)[k * 2 + 1]? = some (.int .i64 l[k].2) := by
    intro l
    induction l with
    | nil => intro k h; simp at h
    | cons x l ih =>
      intro k h
      cases k with
      | zero => rfl
      | succ k =>
        rw [List.flatMap_cons, List.getElem?_append_right (by simp [frV]; omega)]
        have := ih k (by simpa using h)
        rw [show (k + 1) * 2 + 1 - (frV x).length = k * 2 + 1 by simp [frV]; omega, this]
        rfl
  rw [stV, List.getElem?_append_right (by simp; omega), show (k + 1) * 2 + 1 - ([Value.int .i64 (-1), Value.int .i64 st.1] : List Value).length = k * 2 + 1 by simp; omega]
  exact key _ _ _
theorem quo_ok {ob : Int} (h : 1 ≤ ob) : wrap64 (Int.tdiv 131072 ob) = 131072 / ob := by
  have e : Int.tdiv 131072 ob = 131072 / ob := Int.tdiv_eq_ediv_of_nonneg (by omega)
  have h1 : 0 ≤ 131072 / ob := Int.ediv_nonneg (by omega) (by omega)
  have h2 : 131072 / ob ≤ 131072 := Int.ediv_le_self _ (by omega)
  rw [e]
  exact IntWalk.wrap64_in _ (by omega)
theorem mul_ok {ob r : Int} (h : 1 ≤ ob) (hr : 0 ≤ r) (hle : r ≤ 131072 / ob) : 0 ≤ ob * r ∧ ob * r ≤ 131072 := by
  have h1 : ob * r ≤ ob * (131072 / ob) := Int.mul_le_mul_of_nonneg_left hle (by omega)
  have h2 : ob * (131072 / ob) ≤ 131072 := Int.mul_ediv_self_le (by omega)
  have h3 : 0 ≤ ob * r := Int.mul_nonneg (by omega) hr
  omega
theorem owns_shrink {w : World} {base e size n m : Nat} {xs : List Value} {ao : Option Addr} {cap : Nat} (h : w.ownsRow base e size (.slice ao n cap) n xs) (hm : m ≤ n) (hp : 0 < n) : w.ownsRow base e size (.slice ao m cap) m (xs.take (m * size)) := by
  rcases h.2 with ⟨e1, _⟩ | ⟨g, cap', cur, e1, hb, hg, hnc, hmx, hcs, ht⟩
  · cases e1; omega
  · cases e1
    have hl := h.1
    refine ⟨by rw [List.length_take]; have := Nat.mul_le_mul_right size hm; omega, .inr ⟨g, _, cur, rfl, hb, hg, by omega, hmx, hcs, ?_⟩⟩
    rw [← ht, List.take_take, Nat.min_eq_left (Nat.mul_le_mul_right size hm)]
end Go.Proofs.Ytnnnpippekpibaa

/- Rows of plain records; a slice of fewer records. No function in sight. -/
namespace Go.Proofs.Ytnnnpippekpibaa
open Go.RowKit

def flatV {α : Type} (hd : α → List Value) (l : List α) : List Value := l.flatMap hd
theorem flatV_len {α : Type} {hd : α → List Value} {sz : Nat} (hsz : ∀ a, (hd a).length = sz) : ∀ l : List α, (flatV hd l).length = l.length * sz
  | [] => by simp [flatV]
  | x :: l => by
    have ih := flatV_len hsz l
    have := hsz x
    simp only [flatV, List.flatMap_cons, List.length_append, List.length_cons, Nat.add_mul] at ih ⊢
    rw [ih]
    omega
theorem flatV_app {α : Type} (hd : α → List Value) (l m : List α) : flatV hd (l ++ m) = flatV hd l ++ flatV hd m := by simp [flatV]
theorem flatV_get {α : Type} {hd : α → List Value} {sz : Nat} (hsz : ∀ a, (hd a).length = sz) : ∀ (l : List α) (k i : Nat) (hk : k < l.length), i < sz → (flatV hd l)[k * sz + i]? = (hd l[k])[i]?
  | [], k, i, hk, hi => by simp at hk
  | x :: l, 0, i, hk, hi => by
    rw [Nat.zero_mul, Nat.zero_add]
    show (hd x ++ flatV hd l)[i]? = _
    have := hsz x
    rw [List.getElem?_append_left (by omega)]
    rfl
  | x :: l, k + 1, i, hk, hi => by
    have ih := flatV_get hsz l k i (by simpa using hk) hi
    have hl := hsz x
    show (hd x ++ flatV hd l)[(k + 1) * sz + i]? = _
    rw [List.getElem?_append_right (by rw [hl, Nat.add_mul]; omega), hl, show (k + 1) * sz + i - sz = k * sz + i by rw [Nat.add_mul]; omega, ih]
    rfl
/-- a record is its cells -/
def FlatR {α : Type} (hd : α → List Value) (_ : World) (a : α) (cs : List Value) : Prop := cs = hd a

section
variable {α : Type} {hd : α → List Value} {w w' : World} {o : Col} {c sz e : Nat} {l : List α}

/-- as what is appended -/
theorem Recs.news (hsz : ∀ a, (hd a).length = sz) (h0 : 0 < sz) {ao : Option Addr} {n cap : Nat} (h : Recs w sz (FlatR hd) (.slice ao n cap) l) : (ao = none → n = 0) ∧ ∀ ad, ao = some ad → ∀ j u, (flatV hd l)[j]? = some u → w.cell? (ad.add j) = some u := by
  rcases h with ⟨rfl, ao', cap', e⟩ | ⟨hp, b, off, cap', e, hl, hb, hcl⟩
  · cases e
    exact ⟨fun _ => rfl, fun _ _ j u hu => by simp [flatV] at hu⟩
  · cases e
    refine ⟨(fun h => by cases h), fun ad had j u hu => ?_⟩
    obtain rfl := Option.some.inj had
    rw [Addr.add_lit]
    have hj := (List.getElem?_eq_some_iff.1 hu).1
    rw [flatV_len hsz] at hj
    have hk : j / sz < l.length := Nat.div_lt_of_lt_mul (by rw [Nat.mul_comm]; exact hj)
    have hm : j % sz < sz := Nat.mod_lt _ h0
    have hjj : j / sz * sz + j % sz = j := by rw [Nat.mul_comm]; exact Nat.div_add_mod j sz
    obtain ⟨cs, h1, h2, h3⟩ := hcl (j / sz) hk
    have h4 := h3 (j % sz) hm
    rw [Nat.add_assoc, hjj] at h4
    rw [h4, show cs = hd l[j / sz] from h2]
    have h5 := flatV_get hsz l (j / sz) (j % sz) hk hm
    rw [hjj, hu] at h5
    rw [← h5]
    rfl
theorem Own.flat (hsz : ∀ a, (hd a).length = sz) {v : Value} (h : Own w o c e sz v l.length (flatV hd l)) : Recs w sz (FlatR hd) v l := by
  rcases h.1.2 with ⟨rfl, h0⟩ | ⟨G, cap, cur, rfl, _, hg, hnc, _⟩
  · rw [List.eq_nil_of_length_eq_zero h0]
    exact .inl ⟨rfl, none, 0, rfl⟩
  · by_cases hp : 0 < l.length
    · refine .inr ⟨hp, G, 0, cap, rfl, hnc, block_lt hg, fun k hk => ⟨hd l[k], hsz _, rfl, fun i hi => ?_⟩⟩
      have hg2 := flatV_get hsz l k i hk hi
      have hlen : i < (hd l[k]).length := by rw [hsz]; exact hi
      rw [List.getElem?_eq_getElem hlen] at hg2 ⊢
      have := h.1.cells (g := G) rfl _ _ hg2
      rw [Addr.add_lit] at this
      rw [Nat.add_assoc]
      exact this
    · rw [List.eq_nil_of_length_eq_zero (by omega : l.length = 0)]
      exact .inl ⟨rfl, some ⟨G, 0, none⟩, cap, rfl⟩
end
/-- the first records alone -/
theorem Recs.front {α : Type} {w : World} {sz : Nat} {R : World → α → List Value → Prop} {ao : Option Addr} {n cap : Nat} {l m : List α} (h : Recs w sz R (.slice ao n cap) (l ++ m)) : Recs w sz R (.slice ao l.length cap) l := by
  by_cases hp : 0 < l.length
  · obtain ⟨b, off, rfl, hc, hb, hcl⟩ := h.at (by simp; omega)
    refine .inr ⟨hp, b, off, cap, rfl, ?_, hb, fun k hk => ?_⟩
    · simp at hc; omega
    · obtain ⟨cs, h1, h2, h3⟩ := hcl k (by simp; omega)
      rw [List.getElem_append_left hk] at h2
      exact ⟨cs, h1, h2, h3⟩
  · rw [List.eq_nil_of_length_eq_zero (by omega : l.length = 0)]
    exact .inl ⟨rfl, ao, cap, rfl⟩
def portHd (p : GPort) : List Value := [.string p.name, .int .i64 p.actor, .int .i64 p.port]
def regionHd (r : GRegion) : List Value := [.int .i64 r.base, .int .i64 r.size]
def actorHd (a : GActor) : List Value := [.string a.name, .int .u8 a.tag]
def edgeHd (e : GEdge) : List Value := [.int .i64 e.src, .int .i64 e.sport, .int .i64 e.dst, .int .i64 e.dport]
theorem recs_mono {α : Type} {w : World} {sz : Nat} {R S : World → α → List Value → Prop} {v : Value} {l : List α} (h : Recs w sz R v l) (hRS : ∀ a cs, R w a cs → S w a cs) : Recs w sz S v l := by
  rcases h with h | ⟨hp, b, off, cap, e, hc, hb, hcl⟩
  · exact .inl h
  · refine .inr ⟨hp, b, off, cap, e, hc, hb, fun k hk => ?_⟩
    obtain ⟨cs, h1, h2, h3⟩ := hcl k hk
    exact ⟨cs, h1, hRS _ _ h2, h3⟩
end Go.Proofs.Ytnnnpippekpibaa

/- code's walk. -/
namespace Go.Proofs.Ytnnnpippekpibaa
open Go.RowKit

theorem info_frame : (Try.prog.info? 110).map (fun i => (i.zero, i.size, i.bytes)) = some (some (.agg #[.int .i64 0, .int .i64 0]), 2, 16) := by kernel_rfl
theorem cwalkE_cons {P : GProg} {j : Nat} (h : j < P.ops.length) {st : CSt} : cwalkE P (P.ops.drop j) j st = if !soundOp P j P.ops[j] then (0, 200) else if cstepE P P.ops[j] st ≠ 0 then (0, cstepE P P.ops[j] st) else cwalkE P (P.ops.drop (j + 1)) (j + 1) (cstepS P j P.ops[j] st) := by
  rw [List.drop_eq_getElem_cons h, cwalkE]
theorem own_at {w : World} {o : Col} {c e sz n : Nat} {v : Value} {xs : List Value} (h : Own w o c e sz v (n + 1) xs) : ∃ g cap, v = .slice (some ⟨g, 0, none⟩) (n + 1) cap ∧ n + 1 ≤ cap ∧ cap ≤ maxLen := by
  rcases h.1.2 with ⟨_, h0⟩ | ⟨g, cap, cur, e, _, _, hnc, hmx, _⟩
  · omega
  · exact ⟨g, cap, e, hnc, hmx⟩
theorem own_frozen {w : World} {o : Col} {c e sz n g cap : Nat} {xs : List Value} (h : Own w o c e sz (.slice (some ⟨g, 0, none⟩) n cap) n xs) (i : Nat) : w.frozen? ⟨g, i, none⟩ = false := by
  rcases h.1.2 with ⟨e, _⟩ | ⟨g', cap, cur, e, _, hg, _⟩
  · cases e
  · cases e
    exact frozen_of_block hg i
def PairRet (r : Int × Int) (w : World) (e : Ending) (w' : World) : Prop := e = .returned (.tuple #[.int .i64 r.1, .int .i64 r.2]) ∧ Below w.heap.size w w'





set_option maxRecDepth 100000 in
set_option maxHeartbeats 4000000 in
theorem cwalk_any (w : World) (v : Value) (P : GProg) (hv : HasProg w v P) (hz : Sized P) : Calls Try.prog 39 #[v] w (PairRet (cwalkE P P.ops 0 (0, [])) w) := by
  obtain ⟨vp, vl, vo, rfl, rp, rl, ro⟩ := hv
  obtain ⟨ap, cp, rfl⟩ := rp.slice
  obtain ⟨al, cl, rfl⟩ := rl.slice
  obtain ⟨ao, co, rfl⟩ := ro.slice
  have HV : Hid (HasProg w (.agg #[.int .i64 P.memory, .int .i64 P.counters, .int .i64 P.ins, .int .i64 P.outs, .slice ap P.parts.length cp, .slice al P.lines.length cl, .slice ao P.ops.length co]) P) := Lib.hid ⟨_, _, _, rfl, rp, rl, ro⟩
  have HRO := Lib.hid ro
  have HZ := Lib.hid hz
  have z9 := hz.ops
  obtain ⟨r, hr⟩ : ∃ r, cwalkE P P.ops 0 (0, []) = r := ⟨_, rfl⟩
  rw [hr]
  have HR : Hid (cwalkE P (P.ops.drop 0) 0 (0, []) = r) := Lib.hid hr
  clear rp rl ro hr hz
  have hb1 := below_alloc w (.cells #[.int .i64 P.memory, .int .i64 P.counters, .int .i64 P.ins, .int .i64 P.outs, .slice ap P.parts.length cp, .slice al P.lines.length cl, .slice ao P.ops.length co] 30)
  have T1 := Turn.of_below (fun _ => 0) 9 hb1
  have hX : Blk _ (ext (fun _ => 0) w.heap.size 9) 9 _ _ _ := ⟨heap_alloc_new w (.cells #[.int .i64 P.memory, .int .i64 P.counters, .int .i64 P.ins, .int .i64 P.outs, .slice ap P.parts.length cp, .slice al P.lines.length cl, .slice ao P.ops.length co] 30), ext_new (Nat.le_refl _)⟩
  have K1 := (Kept.start w).turn T1 (fun h => h)
  generalize hW : w.alloc (.cells #[.int .i64 P.memory, .int .i64 P.counters, .int .i64 P.ins, .int .i64 P.outs, .slice ap P.parts.length cp, .slice al P.lines.length cl, .slice ao P.ops.length co] 30) = W at *
  have hsW : W.heap.size = w.heap.size + 1 := by rw [← hW]; simp
  have hb2 := below_alloc W (.cells #[.int .i64 (-1), .int .i64 0] 110)
  have T2 := Turn.of_below (ext (fun _ => 0) w.heap.size 9) 4 hb2
  have HK := Lib.hid (K1.turn T2 (fun h => h))
  have HPB := Lib.hid (hX.turn T2 (fun h => h))
  have HOW : Hid (Own _ (ext (ext (fun _ => 0) w.heap.size 9) W.heap.size 4) 4 110 2 (.slice (some ⟨W.heap.size, 0, none⟩) 1 1) 1 (stV (0, []))) := Lib.hid ⟨⟨rfl, .inr ⟨W.heap.size, 1, _, rfl, Nat.zero_le _, heap_alloc_new W (.cells #[.int .i64 (-1), .int .i64 0] 110), Nat.le_refl _, by unfold maxLen; omega, rfl, rfl⟩⟩, fun k hk => by obtain rfl := Option.some.inj hk; exact ext_new (Nat.le_refl _)⟩
  have y6 := HPB.out.cell 6 _ rfl
  generalize ext (ext (fun _ => 0) w.heap.size 9) W.heap.size 4 = q0 at *
  rw [hsW] at HOW
  clear hb1 T1 hX K1 hb2 T2
  go_enter Try.func39, Try.ntmps39
  go_wp2_with fail
  clear hW y6
  obtain ⟨n, hn⟩ : ∃ x, P.ops.length = x := ⟨_, rfl⟩
  have HN := Lib.hid hn
  rw [hn] at HPB HV z9 HRO ⊢
  clear hn
  go_loopw [4, 20] (fun v i wl => ∃ (j : Nat) (q : Col) (st : CSt), j ≤ n ∧ i = .int .i64 j ∧ Kept w.heap.size q w wl ∧ Blk wl q 9 w.heap.size 30 #[.int .i64 P.memory, .int .i64 P.counters, .int .i64 P.ins, .int .i64 P.outs, .slice ap P.parts.length cp, .slice al P.lines.length cl, .slice ao n co] ∧ Own wl q 4 110 2 v (st.2.length + 1) (stV st) ∧ StOk P j st ∧ cwalkE P (P.ops.drop j) j st = r) (fun _ i _ => n - (intOf i).toNat)
  case atStart => exact ⟨0, q0, (0, []), Nat.zero_le _, rfl, HK.out, HPB.out, HOW.out, ⟨⟨Int.le_refl _, by decide⟩, (fun f hf => by cases hf), Nat.le_refl _⟩, HR.out⟩
  case round =>
    clear HK HPB HOW HR
    obtain ⟨j, q, st, hj, rfl, hK, hB, hO, hS, hE⟩ := hrel
    have HK := Lib.hid hK
    have HPB := Lib.hid hB
    have HOW := Lib.hid hO
    have HST := Lib.hid hS
    have HE := Lib.hid hE
    obtain ⟨m, hm⟩ : ∃ x, st.2.length = x := ⟨_, rfl⟩
    have HM := Lib.hid hm
    have hmj := hS.len
    rw [hm] at HOW hmj
    clear hK hB hO hS hE
    obtain ⟨g, cap, rfl, hmc, hmx⟩ := own_at HOW.out
    by_cases hlt : j < n
    · have hlti : (j : Int) < n := by omega
      have hlt2 : j < P.ops.length := by have := HN.out; omega
      have hEc := HE.out
      rw [cwalkE_cons hlt2] at hEc
      obtain ⟨hc9, _, bo, oo, rfl, o1, o2, o3⟩ := HasRow.opAt (HRO.out.below HK.out.below) (List.getElem?_eq_getElem hlt2)
      have hcoi : (n : Int) ≤ co := by omega
      have HEC := Lib.hid hEc
      have HSO : Hid (∀ (w : World) (v : Value), HasProg w v P → Calls Try.prog 57 #[v, .int .i64 j] w (Tells (.bool (soundOp P j P.ops[j])) w)) := Lib.hid fun w v h => csound_any w v P j h HZ.out hlt2
      have HNX : Hid (soundOp P j P.ops[j] = true → StOk P (j + 1) (cstepS P j P.ops[j] st)) := Lib.hid fun h => cstep_ok HST.out hlt2 rfl h
      obtain ⟨x, hx⟩ : ∃ x, P.ops[j] = x := ⟨_, rfl⟩
      rw [hx] at o1 o2 o3 HEC HSO HNX
      obtain ⟨kd, xa, xb⟩ := x
      dsimp only at o1 o2 o3
      clear hEc hx HE
      have hbX := below_alloc wr (.cells #[.int .u8 kd, .int .i64 xa, .int .i64 xb] 43)
      have TX := Turn.of_below q 8 hbX
      have HX : Hid (Blk _ (ext q wr.heap.size 8) 8 _ _ _) := Lib.hid ⟨heap_alloc_new wr (.cells #[.int .u8 kd, .int .i64 xa, .int .i64 xb] 43), ext_new (Nat.le_refl _)⟩
      have HK2 := Lib.hid (HK.out.turn TX (fun h => h))
      have HP2 := Lib.hid (HPB.out.turn TX (fun h => h))
      have HO2 := Lib.hid (HOW.out.turn TX (fun h => h))
      have p0 := HP2.out.cell 0 _ rfl
      have p1 := HP2.out.cell 1 _ rfl
      have p2 := HP2.out.cell 2 _ rfl
      have p3 := HP2.out.cell 3 _ rfl
      have p4 := HP2.out.cell 4 _ rfl
      have p5 := HP2.out.cell 5 _ rfl
      have p6 := HP2.out.cell 6 _ rfl
      clear hbX TX HK HPB HOW
      go_wp2_with fail
      clear p0 p1 p2 p3 p4 p5 p6 o1 o2 o3
      refine (HSO.out _ _ (HV.out.below HK2.out.below)).mono ?_
      rintro e w5 ⟨rfl, hb5⟩
      have T5 := Turn.of_below (ext q wr.heap.size 8) 8 hb5
      have HK := Lib.hid (HK2.out.turn T5 (fun h => h))
      have HPB := Lib.hid (HP2.out.turn T5 (fun h => h))
      have HOW := Lib.hid (HO2.out.turn T5 (fun h => h))
      have hX5 := HX.out.turn T5 (fun h => h)
      have HX5 := Lib.hid hX5
      have x0 := hX5.cell 0 _ rfl
      clear T5 hb5 HK2 HP2 HO2 HX HSO hX5
      generalize ext (ext q wr.heap.size 8) _ 8 = q at *
      obtain ⟨X, hXe⟩ : ∃ x, wr.heap.size = x := ⟨_, rfl⟩
      rw [hXe] at HX5 x0 ⊢
      clear hXe
      obtain ⟨F, hF⟩ : ∃ x, soundOp P j ⟨kd, xa, xb⟩ = x := ⟨_, rfl⟩
      rw [hF] at HEC HNX ⊢
      have HF := Lib.hid hF
      clear hF
      cases F with
      | false =>
        obtain rfl : r = (0, 200) := by rw [← HEC.out]; rfl
        go_wp2
        go_ret2
        exact ⟨rfl, HK.out.below⟩
      | true =>
        replace HNX := Lib.hid (HNX.out rfl)
        rw [if_neg (by simp)] at HEC
        have hmw : IntKind.i64.wrap ((m : Int) + 1 - 1) = (m : Int) := by rw [IntWalk.i64_in _ (by omega)]; omega
        have hmi : (m : Int) + 1 ≤ cap := by omega
        by_cases k1 : kd = 1
        · subst k1
          have hcn : 1 ≤ m + 1 := by omega
          have x1 := HX5.out.cell 1 _ rfl
          by_cases hc1 : cap = 1
          · subst hc1
            obtain ⟨hm0, HM0⟩ : m = 0 ∧ Hid (m = 0) := ⟨by omega, Lib.hid (by omega)⟩
            clear hm0
            go_wp2_with fail
            go_loopw [50] (fun i wl => i = .int .i64 0 ∧ wl = w5) (fun _ _ => 0)
            case atStart => exact ⟨rfl, rfl⟩
            case round =>
              obtain ⟨rfl, hww⟩ := hrel
              obtain rfl := hww.symm
              have hm00 := HM0.out
              subst hm00
              have hbl : Below w5.heap.size w5 w5 := Below.refl _ _
              have hnone : ∀ t (ht : t < st.2.reverse.length), t < 0 → (opP P (st.2.reverse[t]).1).a ≠ xa := fun t _ h => by omega
              clear x1 x0
              have hany : st.2.any (fun f => decide ((opP P f.1).a = xa)) = false := by
                rw [List.any_eq_false]
                intro f hf
                obtain ⟨t, ht, e⟩ := List.mem_iff_getElem.1 (List.mem_reverse.2 hf)
                have := hnone t ht (by rw [List.length_reverse] at ht; have := HM.out; omega)
                rw [e] at this
                simpa using this
              have e1 : cstepE P ⟨1, xa, xb⟩ st = 0 := by rw [cstepE, if_pos rfl, hany]; rfl
              rw [e1, if_neg (by simp)] at HEC
              have e2 : cstepS P j ⟨1, xa, xb⟩ st = (st.1, (j, 0) :: st.2) := by rw [cstepS, if_pos rfl]
              rw [e2] at HEC HNX
              clear e1 e2 hany hnone
              have TL := Turn.of_below q 8 hbl
              have HK9 := Lib.hid (HK.out.turn TL (fun h => h))
              have HP9 := Lib.hid (HPB.out.turn TL (fun h => h))
              have HO9 := Lib.hid (HOW.out.turn TL (fun h => h))
              clear TL hbl HK HPB HOW
              obtain ⟨i0, hi, hz0, hz1, hz2⟩ := info_parts info_frame
              go_wp2_with (at_builtin; refine stop_here ?_)
              refine go_on ?_
              refine wpList_app rfl _ _ 111 rfl 0 110 i0 _ 2 16 Try.underlying111 hi hz0 hz1 hz2 rfl (.slice (some ⟨g, 0, none⟩) (0 + 1) 1) (0 + 1) _ rfl (HO9.out.1.alloc (.cells #[.int .i64 j, .int .i64 0] 110)) (some ⟨w5.heap.size, 0, none⟩) 1 1 [.int .i64 j, .int .i64 0] rfl rfl (fun h => by cases h) (news_alloc w5 [.int .i64 j, .int .i64 0] 110) (by simp [Value.oneCell']) (by unfold maxLen; omega) (grow_ok (by omega)) (Nat.zero_le _) ?_
              intro v7 w7 k1 k20 _ k4
              have hm7 : Mods (fun b => (Value.slice (some ⟨g, 0, none⟩) (0 + 1) 1).ownBlock = some b) w5 w7 := ((Mods.refl _ w5).alloc _).grown k20 (fun b hb _ => hb)
              have T7 := Turn.of_mods (C := fun x => x = 4) _ 4 hm7 (fun b _ hb => HO9.out.2 b hb)
              have k3 : w7.ownsRow 0 110 2 v7 (0 + 1 + 1) (stV (st.1, (j, 0) :: st.2)) := by rw [stV_push]; exact k1
              have HK7 := Lib.hid (HK9.out.turn T7 (by decide))
              have HP7 := Lib.hid (HP9.out.turn T7 (by decide))
              have HO7 : Hid (Own w7 (ext _ w5.heap.size 4) 4 110 2 v7 (((st.1, (j, (0 : Int)) :: st.2) : CSt).2.length + 1) (stV (st.1, (j, 0) :: st.2))) := Lib.hid ⟨by simp only [List.length_cons]; rw [HM.out]; exact k3, fun b hb => by
                rcases k4 with k4 | k4
                · rw [k4] at hb
                  exact (ext_old (HO9.out.1.lt b hb).2).trans (HO9.out.2 b hb)
                · rw [k4] at hb
                  have e := Option.some.inj hb
                  simp at e
                  exact ext_new (by omega)⟩
              obtain ⟨sp7, cp7, rfl⟩ := owns_slice k3
              clear k1 k20 k4 hm7 T7 k3 HK9 HP9 HO9
              go_wp2
              go_roundw
              case rel => exact ⟨j + 1, _, (st.1, (j, 0) :: st.2), hlt, by go_num, HK7.out, HP7.out, HO7.out, HNX.out, HEC.out⟩
              case measure => simp [intOf]; omega
          · go_wp2_with fail
            go_loopw [50] (fun i wl => ∃ (k : Nat), k ≤ m ∧ i = .int .i64 k ∧ Below w5.heap.size w5 wl ∧ ∀ t (ht : t < st.2.reverse.length), t < k → (opP P (st.2.reverse[t]).1).a ≠ xa) (fun i _ => m - (intOf i).toNat)
            case atStart => exact ⟨0, Nat.zero_le _, rfl, Below.refl _ _, fun t _ h => by omega⟩
            case round =>
              obtain ⟨k, hk, rfl, hbl, hnone⟩ := hrel
              by_cases hkm : k < m
              · have hkmi : (k : Int) < m := by omega
                have hks : k < st.2.length := by have := HM.out; omega
                have hkr : k < st.2.reverse.length := by simpa using hks
                have f1 := HOW.out.1.cells (g := g) rfl _ _ (stV_at st hks)
                have f2 := HOW.out.1.cells (g := g) rfl _ _ (stV_at2 st hks)
                rw [Addr.add_lit, Nat.zero_add, show (k + 1) * 2 = 2 + k * 2 by omega] at f1
                rw [Addr.add_lit, Nat.zero_add, show (k + 1) * 2 + 1 = 2 + k * 2 + 1 by omega] at f2
                have hfr := HST.out.frames _ (List.mem_reverse.1 (List.getElem_mem hkr))
                have HNO : Hid ((opP P (st.2.reverse[k]).1).a ≠ xa → ∀ t (ht : t < st.2.reverse.length), t < k + 1 → (opP P (st.2.reverse[t]).1).a ≠ xa) := Lib.hid fun h t ht h2 => by
                  by_cases e : t = k
                  · subst e; exact h
                  · exact hnone t ht (by omega)
                have HAN : Hid ((opP P (st.2.reverse[k]).1).a = xa → st.2.any (fun f => decide ((opP P f.1).a = xa)) = true) := Lib.hid fun h => List.any_eq_true.2 ⟨_, List.mem_reverse.1 (List.getElem_mem hkr), by simpa using h⟩
                obtain ⟨fr, hfr2⟩ : ∃ x, st.2.reverse[k] = x := ⟨_, rfl⟩
                rw [hfr2] at f1 f2 hfr HNO HAN
                have hp : fr.1 < P.ops.length := by omega
                have hoP : opP P fr.1 = P.ops[fr.1] := by unfold opP; rw [List.getElem?_eq_getElem hp]; rfl
                obtain ⟨_, _, bo', oo', eb, _, o2, _⟩ := HasRow.opAt (HRO.out.below HK.out.below) (List.getElem?_eq_getElem hp)
                cases eb
                rw [← hoP] at o2
                obtain ⟨pp, hpp⟩ : ∃ x, fr.1 = x := ⟨_, rfl⟩
                rw [hpp] at f1 hp
                have hpni : (pp : Int) < n := by have := HN.out; omega
                clear hoP
                rw [hpp] at o2 HNO HAN hfr
                obtain ⟨oa, hoa⟩ : ∃ x, (opP P pp).a = x := ⟨_, rfl⟩
                rw [hoa] at o2 HNO HAN
                have f1' := cell_later hbl f1
                have f2' := cell_later hbl f2
                have hbf := below_alloc wr (.cells #[.int .i64 pp, .int .i64 fr.2] 110)
                have hF0 := cells_row _ _ (heap_alloc_new wr (.cells #[.int .i64 pp, .int .i64 fr.2] 110)) 0 _ rfl
                have o2' := cell_later hbf (cell_later hbl o2)
                have x1' := cell_later hbf (cell_later hbl x1)
                have y6' := cell_later hbf (cell_later hbl (HPB.out.cell 6 _ rfl))
                have HBL := Lib.hid (below_dr (n := 1) (hbl.trans (hbf.mono hbl.size)))
                clear hfr hfr2 hpp hoa hbl hbf f1 f2 o2 hnone hp
                go_wp2_with fail
                refine wp_region_lex (fun w' => w'.cell? ⟨w.heap.size, 6, none⟩ = some (.slice (some ⟨bo, oo, none⟩) n co) ∧ w'.cell? ⟨wr.heap.size, 0, none⟩ = some (.int .i64 pp) ∧ w'.cell? ⟨bo, oo + pp * 3 + 1, none⟩ = some (.int .i64 oa) ∧ w'.cell? ⟨X, 1, none⟩ = some (.int .i64 xa)) [0, 1, 2, 3, 4, 5, 6, 7, 8, 9] [] (by kernel_rfl) (by kernel_rfl) rfl (fun _ _ hx h => ⟨hx.cell h.1, hx.cell h.2.1, hx.cell h.2.2.1, hx.cell h.2.2.2⟩) ⟨y6', hF0, o2', x1'⟩ ?_
                intro Q' hQ'
                simp only [pickOps, List.flatMap_cons, List.flatMap_nil, List.drop_succ_cons, List.drop_zero, List.take_succ_cons, List.take_zero, List.cons_append, List.nil_append, List.append_nil]
                by_cases hEq : oa = xa
                · have hEqb : (oa == xa) = true := by rw [beq_iff_eq]; exact hEq
                  have e1 : cstepE P ⟨1, xa, xb⟩ st = 201 := by rw [cstepE, if_pos rfl, HAN.out hEq]; rfl
                  rw [e1, if_pos (by simp)] at HEC
                  have e3 := HEC.out
                  subst e3
                  clear e1 hEq
                  repeat (first
                    | (refine wpReads_skip (by rfl) ?_; (try simp only [Act.put, List.setIfInBounds_toArray, List.set_cons_zero, List.set_cons_succ]))
                    | (refine wpReads_cons ?_ (by rfl) (by rfl) ?_ ?_; rotate_left; (intro wz hz; (try dsimp only at hz); go_simp; try with_reducible rfl); (try simp only [Act.put, List.setIfInBounds_toArray, List.set_cons_zero, List.set_cons_succ]))
                    | (refine wpReads_any ?_ (by rfl) ?_ ?_; rotate_left; (intro wz; go_simp; try with_reducible rfl); (try simp only [Act.put, List.setIfInBounds_toArray, List.set_cons_zero, List.set_cons_succ])))
                  refine wpReads_nil ?_
                  go_wp2
                  go_ret2
                  exact ⟨rfl, HK.out.below.trans (HBL.out.mono HK.out.size)⟩
                · have hEqb : (oa == xa) = false := by rw [beq_eq_false_iff_ne]; exact hEq
                  have HNE := Lib.hid (HNO.out hEq)
                  clear hEq
                  repeat (first
                    | (refine wpReads_skip (by rfl) ?_; (try simp only [Act.put, List.setIfInBounds_toArray, List.set_cons_zero, List.set_cons_succ]))
                    | (refine wpReads_cons ?_ (by rfl) (by rfl) ?_ ?_; rotate_left; (intro wz hz; (try dsimp only at hz); go_simp; try with_reducible rfl); (try simp only [Act.put, List.setIfInBounds_toArray, List.set_cons_zero, List.set_cons_succ]))
                    | (refine wpReads_any ?_ (by rfl) ?_ ?_; rotate_left; (intro wz; go_simp; try with_reducible rfl); (try simp only [Act.put, List.setIfInBounds_toArray, List.set_cons_zero, List.set_cons_succ])))
                  refine wpReads_nil ?_
                  go_wp2
                  go_roundw
                  case rel => exact ⟨k + 1, hkm, by go_num, HBL.out, HNE.out⟩
                  case measure => simp [intOf]; omega
              · obtain rfl : m = k := by omega
                clear hkm hk x1 x0
                have hany : st.2.any (fun f => decide ((opP P f.1).a = xa)) = false := by
                  rw [List.any_eq_false]
                  intro f hf
                  obtain ⟨t, ht, e⟩ := List.mem_iff_getElem.1 (List.mem_reverse.2 hf)
                  have := hnone t ht (by rw [List.length_reverse] at ht; have := HM.out; omega)
                  rw [e] at this
                  simpa using this
                have e1 : cstepE P ⟨1, xa, xb⟩ st = 0 := by rw [cstepE, if_pos rfl, hany]; rfl
                rw [e1, if_neg (by simp)] at HEC
                have e2 : cstepS P j ⟨1, xa, xb⟩ st = (st.1, (j, 0) :: st.2) := by rw [cstepS, if_pos rfl]
                rw [e2] at HEC HNX
                clear e1 e2 hany hnone
                have TL := Turn.of_below q 8 hbl
                have HK9 := Lib.hid (HK.out.turn TL (fun h => h))
                have HP9 := Lib.hid (HPB.out.turn TL (fun h => h))
                have HO9 := Lib.hid (HOW.out.turn TL (fun h => h))
                clear TL hbl HK HPB HOW
                obtain ⟨i0, hi, hz0, hz1, hz2⟩ := info_parts info_frame
                go_wp2_with (at_builtin; refine stop_here ?_)
                refine go_on ?_
                refine wpList_app rfl _ _ 111 rfl 0 110 i0 _ 2 16 Try.underlying111 hi hz0 hz1 hz2 rfl (.slice (some ⟨g, 0, none⟩) (m + 1) cap) (m + 1) _ rfl (HO9.out.1.alloc (.cells #[.int .i64 j, .int .i64 0] 110)) (some ⟨wr.heap.size, 0, none⟩) 1 1 [.int .i64 j, .int .i64 0] rfl rfl (fun h => by cases h) (news_alloc wr [.int .i64 j, .int .i64 0] 110) (by simp [Value.oneCell']) (by unfold maxLen; omega) (grow_ok (by omega)) (Nat.zero_le _) ?_
                intro v7 w7 k1 k20 _ k4
                have hm7 : Mods (fun b => (Value.slice (some ⟨g, 0, none⟩) (m + 1) cap).ownBlock = some b) wr w7 := ((Mods.refl _ wr).alloc _).grown k20 (fun b hb _ => hb)
                have T7 := Turn.of_mods (C := fun x => x = 4) _ 4 hm7 (fun b _ hb => HO9.out.2 b hb)
                have k3 : w7.ownsRow 0 110 2 v7 (m + 1 + 1) (stV (st.1, (j, 0) :: st.2)) := by rw [stV_push]; exact k1
                have HK7 := Lib.hid (HK9.out.turn T7 (by decide))
                have HP7 := Lib.hid (HP9.out.turn T7 (by decide))
                have HO7 : Hid (Own w7 (ext _ wr.heap.size 4) 4 110 2 v7 (((st.1, (j, (0 : Int)) :: st.2) : CSt).2.length + 1) (stV (st.1, (j, 0) :: st.2))) := Lib.hid ⟨by simp only [List.length_cons]; rw [HM.out]; exact k3, fun b hb => by
                  rcases k4 with k4 | k4
                  · rw [k4] at hb
                    exact (ext_old (HO9.out.1.lt b hb).2).trans (HO9.out.2 b hb)
                  · rw [k4] at hb
                    have e := Option.some.inj hb
                    simp at e
                    exact ext_new (by omega)⟩
                obtain ⟨sp7, cp7, rfl⟩ := owns_slice k3
                clear k1 k20 k4 hm7 T7 k3 HK9 HP9 HO9
                go_wp2
                go_roundw
                case rel => exact ⟨j + 1, _, (st.1, (j, 0) :: st.2), hlt, by go_num, HK7.out, HP7.out, HO7.out, HNX.out, HEC.out⟩
                case measure => simp [intOf]; omega
        by_cases k2 : kd = 2
        · subst k2
          have x1 := HX5.out.cell 1 _ rfl
          have x2 := HX5.out.cell 2 _ rfl
          have y6 := HPB.out.cell 6 _ rfl
          obtain ⟨b, fr⟩ := st
          cases fr with
          | nil =>
            have e1 : cstepE P ⟨2, xa, xb⟩ (b, []) = 201 := by rw [cstepE, if_neg (show ¬ (2 : Int) = 1 by decide), if_pos rfl]
            rw [e1, if_pos (by simp)] at HEC
            have e3 := HEC.out
            subst e3
            have hm0 : m = 0 := hm.symm
            have hmb : (((m : Int) + 1) == 1) = true := by rw [beq_iff_eq]; omega
            have HB9 := Lib.hid (below_dr (n := 1) HK.out.below)
            clear e1 hm hm0 k1
            go_wp2_with fail
            refine wp_region_lex (fun _ => True) [0, 1, 2, 3, 4, 5, 6, 7, 8, 9, 10, 11, 12, 13, 14, 15, 16, 17, 18, 19, 20, 21, 22, 23, 24, 25, 26] [] (by kernel_rfl) (by kernel_rfl) rfl (fun _ _ _ _ => trivial) trivial ?_
            intro Q' hQ'
            simp only [pickOps, List.flatMap_cons, List.flatMap_nil, List.drop_succ_cons, List.drop_zero, List.take_succ_cons, List.take_zero, List.cons_append, List.nil_append, List.append_nil]
            repeat (first
              | (refine wpReads_skip (by rfl) ?_; (try simp only [Act.put, List.setIfInBounds_toArray, List.set_cons_zero, List.set_cons_succ]))
              | (refine wpReads_cons ?_ (by rfl) (by rfl) ?_ ?_; rotate_left; (intro wz hz; (try dsimp only at hz); go_simp; try with_reducible rfl); (try simp only [Act.put, List.setIfInBounds_toArray, List.set_cons_zero, List.set_cons_succ]))
              | (refine wpReads_any ?_ (by rfl) ?_ ?_; rotate_left; (intro wz; go_simp; try with_reducible rfl); (try simp only [Act.put, List.setIfInBounds_toArray, List.set_cons_zero, List.set_cons_succ])))
            refine wpReads_nil ?_
            go_wp2
            go_ret2
            exact ⟨rfl, HB9.out⟩
          | cons f r' =>
            obtain ⟨pp, s⟩ := f
            obtain ⟨M1, hM1⟩ : ∃ x, r'.length = x := ⟨_, rfl⟩
            have hmM : m = M1 + 1 := by rw [← hm, ← hM1]; rfl
            have hfr := HST.out.frames _ List.mem_cons_self
            dsimp only at hfr
            have t0 := HOW.out.1.cells (g := g) rfl _ _ (stV_top (b, (pp, s) :: r')).1
            have t1 := HOW.out.1.cells (g := g) rfl _ _ (stV_top (b, (pp, s) :: r')).2
            rw [Addr.add_lit, Nat.zero_add, hm] at t0 t1
            dsimp only [topP, topS] at t0 t1
            have hp : pp < P.ops.length := by omega
            have hoP : opP P pp = P.ops[pp] := by unfold opP; rw [List.getElem?_eq_getElem hp]; rfl
            obtain ⟨-, -, bo', oo', eb, -, o2, o3⟩ := HasRow.opAt (HRO.out.below HK.out.below) (List.getElem?_eq_getElem hp)
            cases eb
            rw [← hoP] at o2 o3
            have hpni : (pp : Int) < n := by have := HN.out; omega
            obtain ⟨oa, hoa⟩ : ∃ x, (opP P pp).a = x := ⟨_, rfl⟩
            obtain ⟨ob, hob⟩ : ∃ x, (opP P pp).b = x := ⟨_, rfl⟩
            rw [hoa] at o2
            rw [hob] at o3 hfr
            have e1 : cstepE P ⟨2, xa, xb⟩ (b, (pp, s) :: r') = if oa ≠ xa ∨ xb ≠ pp + 1 then 201 else 0 := by rw [← hoa, cstepE, if_neg (show ¬ (2 : Int) = 1 by decide), if_pos rfl]
            rw [e1] at HEC
            have e2 : cstepS P j ⟨2, xa, xb⟩ (b, (pp, s) :: r') = addS (allP ob (s + 1)) (b, r') := by rw [← hob, cstepS, if_neg (show ¬ (2 : Int) = 1 by decide), if_pos rfl]
            rw [e2] at HEC HNX
            have hmb : (((m : Int) + 1) == 1) = false := by rw [beq_eq_false_iff_ne]; omega
            have hpw : IntKind.i64.wrap ((pp : Int) + 1) = (pp : Int) + 1 := IntWalk.i64_in _ (by omega)
            have HB9 := Lib.hid (below_dr (n := 1) HK.out.below)
            have HFR := Lib.hid hfr
            have HMM := Lib.hid hmM
            clear e1 e2 hoP hoa hob hp hfr k1 hm hmM
            go_wp2_with fail
            refine wp_region_lex (fun w' => w'.cell? ⟨w.heap.size, 6, none⟩ = some (.slice (some ⟨bo, oo, none⟩) n co) ∧ w'.cell? ⟨g, m * 2, none⟩ = some (.int .i64 pp) ∧ w'.cell? ⟨bo, oo + pp * 3 + 1, none⟩ = some (.int .i64 oa) ∧ w'.cell? ⟨X, 1, none⟩ = some (.int .i64 xa) ∧ w'.cell? ⟨X, 2, none⟩ = some (.int .i64 xb)) [0, 1, 2, 3, 4, 5, 6, 7, 8, 9, 10, 11, 12, 13, 14, 15, 16, 17, 18, 19, 20, 21, 22, 23, 24, 25, 26] [] (by kernel_rfl) (by kernel_rfl) rfl (fun _ _ hx h => ⟨hx.cell h.1, hx.cell h.2.1, hx.cell h.2.2.1, hx.cell h.2.2.2.1, hx.cell h.2.2.2.2⟩) ⟨y6, t0, o2, x1, x2⟩ ?_
            intro Q' hQ'
            simp only [pickOps, List.flatMap_cons, List.flatMap_nil, List.drop_succ_cons, List.drop_zero, List.take_succ_cons, List.take_zero, List.cons_append, List.nil_append, List.append_nil]
            by_cases hA : oa = xa
            · have hAb : (oa != xa) = false := by simp [hA]
              by_cases hBk : xb = (pp : Int) + 1
              · have hBb : (xb != (pp : Int) + 1) = false := by simp [hBk]
                have e9 : (if oa ≠ xa ∨ xb ≠ pp + 1 then (201 : Int) else 0) = 0 := if_neg (by intro h; rcases h with h | h; exact h hA; exact h hBk)
                rw [e9, if_neg (by simp)] at HEC
                clear e9
                have HA' := Lib.hid hA
                have HBK := Lib.hid hBk
                clear hA hBk
                repeat (first
                  | (refine wpReads_skip (by rfl) ?_; (try simp only [Act.put, List.setIfInBounds_toArray, List.set_cons_zero, List.set_cons_succ]))
                  | (refine wpReads_cons ?_ (by rfl) (by rfl) ?_ ?_; rotate_left; (intro wz hz; (try dsimp only at hz); go_simp; try with_reducible rfl); (try simp only [Act.put, List.setIfInBounds_toArray, List.set_cons_zero, List.set_cons_succ]))
                  | (refine wpReads_any ?_ (by rfl) ?_ ?_; rotate_left; (intro wz; go_simp; try with_reducible rfl); (try simp only [Act.put, List.setIfInBounds_toArray, List.set_cons_zero, List.set_cons_succ])))
                refine wpReads_nil ?_
                have hsw : IntKind.i64.wrap (s + 1) = s + 1 := IntWalk.i64_in _ (by have := HFR.out; omega)
                go_wp2_with fail
                refine wp_region_lex (fun w' => w'.cell? ⟨w.heap.size, 6, none⟩ = some (.slice (some ⟨bo, oo, none⟩) n co) ∧ w'.cell? ⟨g, m * 2, none⟩ = some (.int .i64 pp) ∧ w'.cell? ⟨bo, oo + pp * 3 + 2, none⟩ = some (.int .i64 ob)) [0, 1, 2, 3, 4, 5, 6, 7, 8, 9] [] (by kernel_rfl) (by kernel_rfl) rfl (fun _ _ hx h => ⟨hx.cell h.1, hx.cell h.2.1, hx.cell h.2.2⟩) ⟨y6, t0, o3⟩ ?_
                intro Q2 hQ2
                simp only [pickOps, List.flatMap_cons, List.flatMap_nil, List.drop_succ_cons, List.drop_zero, List.take_succ_cons, List.take_zero, List.cons_append, List.nil_append, List.append_nil]
                repeat (first
                  | (refine wpReads_skip (by rfl) ?_; (try simp only [Act.put, List.setIfInBounds_toArray, List.set_cons_zero, List.set_cons_succ]))
                  | (refine wpReads_cons ?_ (by rfl) (by rfl) ?_ ?_; rotate_left; (intro wz hz; (try dsimp only at hz); go_simp; try with_reducible rfl); (try simp only [Act.put, List.setIfInBounds_toArray, List.set_cons_zero, List.set_cons_succ]))
                  | (refine wpReads_any ?_ (by rfl) ?_ ?_; rotate_left; (intro wz; go_simp; try with_reducible rfl); (try simp only [Act.put, List.setIfInBounds_toArray, List.set_cons_zero, List.set_cons_succ])))
                refine wpReads_nil ?_
                have hob : 1 ≤ ob ∧ 0 ≤ s := by have := HFR.out; omega
                have hq := quo_ok hob.1
                have HST2 := Lib.hid (HST.out.pop)
                have HOW2 : Hid (Own w5 q 4 110 2 (.slice (some ⟨g, 0, none⟩) m cap) m (stV (b, r'))) := Lib.hid ⟨by
                  have h1 := owns_shrink (m := m) HOW.out.1 (by omega) (by omega)
                  have h2 := stV_pop b (pp, s) r'
                  rw [hM1, ← HMM.out] at h2
                  rw [h2] at h1
                  exact h1, HOW.out.2⟩
                have hm1w : IntKind.i64.wrap ((m : Int) - 1) = (M1 : Int) := by rw [IntWalk.i64_in _ (by omega)]; have := HMM.out; omega
                have hM1m : (M1 : Int) < m := by have := HMM.out; omega
                have hmc2 : (m : Int) ≤ cap := by omega
                have hmcn : m ≤ cap := by omega
                clear HOW t0 t1 o2 o3 x1 x2 x0 y6
                obtain ⟨Q9, hQ9⟩ : ∃ x, 131072 / ob = x := ⟨_, rfl⟩
                rw [hQ9] at hq
                by_cases hle : s + 1 ≤ Q9
                · have hmul := mul_ok hob.1 (show 0 ≤ s + 1 by omega) (by rw [hQ9]; exact hle)
                  have hAll : allP ob (s + 1) = 1 + ob * (s + 1) := if_pos (by rw [hQ9]; exact hle)
                  obtain ⟨MM, hMM⟩ : ∃ x, ob * (s + 1) = x := ⟨_, rfl⟩
                  rw [hMM] at hmul hAll
                  have hw1 : wrap64 (ob * (s + 1)) = MM := by rw [hMM]; exact IntWalk.wrap64_in _ (by omega)
                  have hw2 : wrap64 (1 + MM) = 1 + MM := IntWalk.wrap64_in _ (by omega)
                  have hle1 : s + 1 ≤ wrap64 (Int.tdiv 131072 ob) := by rw [hq]; exact hle
                  have hle2 : s + 1 ≤ 131072 / ob := by rw [hQ9]; exact hle
                  clear hMM hQ9 hq hle
                  have hs2 := topS_ok HST2.out
                  have hbump : IntKind.i64.wrap (topS (b, r') + (1 + MM)) = topS (b, r') + (1 + MM) := IntWalk.i64_in _ (by omega)
                  have t2 := HOW2.out.1.cells (g := g) rfl _ _ (stV_top (b, r')).2
                  rw [Addr.add_lit, Nat.zero_add] at t2
                  dsimp only at t2
                  rw [hM1] at t2
                  have f2 := own_frozen HOW2.out (M1 * 2 + 1)
                  have s1 := (HOW2.out.1.stored (M1 * 2 + 1) (.int .i64 (capI (topS (b, r') + (1 + MM))))).1
                  have es := stV_set (b, r') (capI (topS (b, r') + (1 + MM)))
                  dsimp only at es
                  rw [hM1] at es
                  rw [es] at s1
                  have T9 : Turn q q (fun x => x = 4) w5 ((w5.setCell ⟨g, M1 * 2 + 1, none⟩ (.int .i64 (capI (topS (b, r') + (1 + MM))))).drewN 2) := ⟨((Mods.refl (fun k => q k = 4) w5).setCell (p := ⟨g, M1 * 2 + 1, none⟩) (fun _ => HOW2.out.2 g rfl) _).drewN 2, fun _ _ => rfl⟩
                  have HK9 := Lib.hid (HK.out.turn T9 (by decide))
                  have HP9 := Lib.hid (HPB.out.turn T9 (by decide))
                  have HO9 : Hid (Own ((w5.setCell ⟨g, M1 * 2 + 1, none⟩ (.int .i64 (capI (topS (b, r') + (1 + MM))))).drewN 2) q 4 110 2 (.slice (some ⟨g, 0, none⟩) m cap) m (stV (setS (capI (topS (b, r') + (1 + MM))) (b, r')))) := Lib.hid ⟨s1, HOW2.out.2⟩
                  have HEQ : Hid (addS (allP ob (s + 1)) (b, r') = setS (capI (topS (b, r') + (1 + MM))) (b, r')) := Lib.hid (by rw [hAll]; rfl)
                  have HLE : Hid ((setS (capI (topS (b, r') + (1 + MM))) (b, r')).2.length + 1 = m) := Lib.hid (by rw [setS_len]; show r'.length + 1 = m; rw [hM1]; exact HMM.out.symm)
                  clear s1 es T9 HK HPB
                  go_wp2_with fail
                  refine (ccapped_any _ _).mono ?_
                  rintro e w9 ⟨rfl, rfl⟩
                  clear HOW2
                  go_wp2
                  go_roundw
                  case rel => exact ⟨j + 1, q, setS (capI (topS (b, r') + (1 + MM))) (b, r'), hlt, by go_num, HK9.out, HP9.out, by rw [HLE.out]; exact HO9.out, by rw [← HEQ.out]; exact HNX.out, by rw [← HEQ.out]; exact HEC.out⟩
                  case measure => simp [intOf]; omega
                · have hAll : allP ob (s + 1) = 131073 := if_neg (by rw [hQ9]; exact hle)
                  have hle1 : ¬ s + 1 ≤ wrap64 (Int.tdiv 131072 ob) := by rw [hq]; exact hle
                  have hle2 : ¬ s + 1 ≤ 131072 / ob := by rw [hQ9]; exact hle
                  clear hQ9 hq hle
                  have hs2 := topS_ok HST2.out
                  have hbump : IntKind.i64.wrap (topS (b, r') + (131073 : Int)) = topS (b, r') + (131073 : Int) := IntWalk.i64_in _ (by omega)
                  have t2 := HOW2.out.1.cells (g := g) rfl _ _ (stV_top (b, r')).2
                  rw [Addr.add_lit, Nat.zero_add] at t2
                  dsimp only at t2
                  rw [hM1] at t2
                  have f2 := own_frozen HOW2.out (M1 * 2 + 1)
                  have s1 := (HOW2.out.1.stored (M1 * 2 + 1) (.int .i64 (capI (topS (b, r') + (131073 : Int))))).1
                  have es := stV_set (b, r') (capI (topS (b, r') + (131073 : Int)))
                  dsimp only at es
                  rw [hM1] at es
                  rw [es] at s1
                  have T9 : Turn q q (fun x => x = 4) w5 ((w5.setCell ⟨g, M1 * 2 + 1, none⟩ (.int .i64 (capI (topS (b, r') + (131073 : Int))))).drewN 2) := ⟨((Mods.refl (fun k => q k = 4) w5).setCell (p := ⟨g, M1 * 2 + 1, none⟩) (fun _ => HOW2.out.2 g rfl) _).drewN 2, fun _ _ => rfl⟩
                  have HK9 := Lib.hid (HK.out.turn T9 (by decide))
                  have HP9 := Lib.hid (HPB.out.turn T9 (by decide))
                  have HO9 : Hid (Own ((w5.setCell ⟨g, M1 * 2 + 1, none⟩ (.int .i64 (capI (topS (b, r') + (131073 : Int))))).drewN 2) q 4 110 2 (.slice (some ⟨g, 0, none⟩) m cap) m (stV (setS (capI (topS (b, r') + (131073 : Int))) (b, r')))) := Lib.hid ⟨s1, HOW2.out.2⟩
                  have HEQ : Hid (addS (allP ob (s + 1)) (b, r') = setS (capI (topS (b, r') + (131073 : Int))) (b, r')) := Lib.hid (by rw [hAll]; rfl)
                  have HLE : Hid ((setS (capI (topS (b, r') + (131073 : Int))) (b, r')).2.length + 1 = m) := Lib.hid (by rw [setS_len]; show r'.length + 1 = m; rw [hM1]; exact HMM.out.symm)
                  clear s1 es T9 HK HPB
                  go_wp2_with fail
                  refine (ccapped_any _ _).mono ?_
                  rintro e w9 ⟨rfl, rfl⟩
                  clear HOW2
                  go_wp2
                  go_roundw
                  case rel => exact ⟨j + 1, q, setS (capI (topS (b, r') + (131073 : Int))) (b, r'), hlt, by go_num, HK9.out, HP9.out, by rw [HLE.out]; exact HO9.out, by rw [← HEQ.out]; exact HNX.out, by rw [← HEQ.out]; exact HEC.out⟩
                  case measure => simp [intOf]; omega
              · have hBb : (xb != (pp : Int) + 1) = true := by simpa using hBk
                have e9 : (if oa ≠ xa ∨ xb ≠ pp + 1 then (201 : Int) else 0) = 201 := if_pos (.inr hBk)
                rw [e9, if_pos (by simp)] at HEC
                clear e9
                have e3 := HEC.out
                subst e3
                clear hA hBk
                repeat (first
                  | (refine wpReads_skip (by rfl) ?_; (try simp only [Act.put, List.setIfInBounds_toArray, List.set_cons_zero, List.set_cons_succ]))
                  | (refine wpReads_cons ?_ (by rfl) (by rfl) ?_ ?_; rotate_left; (intro wz hz; (try dsimp only at hz); go_simp; try with_reducible rfl); (try simp only [Act.put, List.setIfInBounds_toArray, List.set_cons_zero, List.set_cons_succ]))
                  | (refine wpReads_any ?_ (by rfl) ?_ ?_; rotate_left; (intro wz; go_simp; try with_reducible rfl); (try simp only [Act.put, List.setIfInBounds_toArray, List.set_cons_zero, List.set_cons_succ])))
                refine wpReads_nil ?_
                go_wp2
                go_ret2
                exact ⟨rfl, HB9.out⟩
            · have hAb : (oa != xa) = true := by simpa using hA
              have e9 : (if oa ≠ xa ∨ xb ≠ pp + 1 then (201 : Int) else 0) = 201 := if_pos (.inl hA)
              rw [e9, if_pos (by simp)] at HEC
              clear e9
              have e3 := HEC.out
              subst e3
              clear hA
              repeat (first
                | (refine wpReads_skip (by rfl) ?_; (try simp only [Act.put, List.setIfInBounds_toArray, List.set_cons_zero, List.set_cons_succ]))
                | (refine wpReads_cons ?_ (by rfl) (by rfl) ?_ ?_; rotate_left; (intro wz hz; (try dsimp only at hz); go_simp; try with_reducible rfl); (try simp only [Act.put, List.setIfInBounds_toArray, List.set_cons_zero, List.set_cons_succ]))
                | (refine wpReads_any ?_ (by rfl) ?_ ?_; rotate_left; (intro wz; go_simp; try with_reducible rfl); (try simp only [Act.put, List.setIfInBounds_toArray, List.set_cons_zero, List.set_cons_succ])))
              refine wpReads_nil ?_
              go_wp2
              go_ret2
              exact ⟨rfl, HB9.out⟩
        have k1i : (kd == 1) = false := by rw [beq_eq_false_iff_ne]; exact k1
        have k2i : (kd == 2) = false := by rw [beq_eq_false_iff_ne]; exact k2
        have e2 : cstepS P j ⟨kd, xa, xb⟩ st = setS (capI (topS st + 1)) st := by rw [cstepS, if_neg k1, if_neg k2]; rfl
        rw [e2] at HEC HNX
        by_cases k0 : kd = 0
        · subst k0
          by_cases hm0 : m = 0
          · have hfr : st.2 = [] := List.eq_nil_of_length_eq_zero (by omega)
            have e1 : cstepE P ⟨0, xa, xb⟩ st = 0 := by rw [cstepE, if_neg k1, if_neg k2, if_pos rfl, if_pos hfr]
            rw [e1, if_neg (by simp)] at HEC
            have hm0i : ¬ (1 : Int) < (m : Int) + 1 := by omega
            clear e1 e2 hm0 hfr
            have hbump : IntKind.i64.wrap (topS st + 1) = topS st + 1 := IntWalk.i64_in _ (by have := topS_ok HST.out; omega)
            have t1 := HOW.out.1.cells (g := g) rfl _ _ (stV_top st).2
            rw [Addr.add_lit, Nat.zero_add, hm] at t1
            have f1 := own_frozen HOW.out (m * 2 + 1)
            have s1 := (HOW.out.1.stored (m * 2 + 1) (.int .i64 (capI (topS st + 1)))).1
            rw [← hm, stV_set] at s1
            rw [hm] at s1
            have T9 : Turn q q (fun x => x = 4) w5 (w5.setCell ⟨g, m * 2 + 1, none⟩ (.int .i64 (capI (topS st + 1)))) := ⟨(Mods.refl (fun k => q k = 4) w5).setCell (p := ⟨g, m * 2 + 1, none⟩) (fun _ => HOW.out.2 g rfl) _, fun _ _ => rfl⟩
            have HK9 := Lib.hid (HK.out.turn T9 (by decide))
            have HP9 := Lib.hid (HPB.out.turn T9 (by decide))
            have HO9 : Hid (Own _ q 4 110 2 (.slice (some ⟨g, 0, none⟩) (m + 1) cap) (m + 1) (stV (setS (capI (topS st + 1)) st))) := Lib.hid ⟨s1, HOW.out.2⟩
            clear s1 T9 HK HPB
            go_wp2_with fail
            refine (ccapped_any _ _).mono ?_
            rintro e w9 ⟨rfl, rfl⟩
            clear HOW
            go_wp2
            go_roundw
            case rel => exact ⟨j + 1, q, setS (capI (topS st + 1)) st, hlt, by go_num, HK9.out, HP9.out, by rw [setS_len, HM.out]; exact HO9.out, HNX.out, HEC.out⟩
            case measure => simp [intOf]; omega
          · have hfr : ¬ st.2 = [] := fun h => by rw [h] at hm; exact hm0 hm.symm
            have e1 : cstepE P ⟨0, xa, xb⟩ st = 201 := by rw [cstepE, if_neg k1, if_neg k2, if_pos rfl, if_neg hfr]
            rw [e1, if_pos (by simp)] at HEC
            have e3 := HEC.out
            subst e3
            have hm0i : (1 : Int) < (m : Int) + 1 := by omega
            clear e1 e2 hm0 hfr
            go_wp2
            go_ret2
            exact ⟨rfl, HK.out.below⟩
        · have k0i : (kd == 0) = false := by rw [beq_eq_false_iff_ne]; exact k0
          have e1 : cstepE P ⟨kd, xa, xb⟩ st = 0 := by rw [cstepE, if_neg k1, if_neg k2, if_neg k0]
          rw [e1, if_neg (by simp)] at HEC
          clear e1 e2
          have hbump : IntKind.i64.wrap (topS st + 1) = topS st + 1 := IntWalk.i64_in _ (by have := topS_ok HST.out; omega)
          have t1 := HOW.out.1.cells (g := g) rfl _ _ (stV_top st).2
          rw [Addr.add_lit, Nat.zero_add, hm] at t1
          have f1 := own_frozen HOW.out (m * 2 + 1)
          have s1 := (HOW.out.1.stored (m * 2 + 1) (.int .i64 (capI (topS st + 1)))).1
          rw [← hm, stV_set] at s1
          rw [hm] at s1
          have T9 : Turn q q (fun x => x = 4) w5 (w5.setCell ⟨g, m * 2 + 1, none⟩ (.int .i64 (capI (topS st + 1)))) := ⟨(Mods.refl (fun k => q k = 4) w5).setCell (p := ⟨g, m * 2 + 1, none⟩) (fun _ => HOW.out.2 g rfl) _, fun _ _ => rfl⟩
          have HK9 := Lib.hid (HK.out.turn T9 (by decide))
          have HP9 := Lib.hid (HPB.out.turn T9 (by decide))
          have HO9 : Hid (Own _ q 4 110 2 (.slice (some ⟨g, 0, none⟩) (m + 1) cap) (m + 1) (stV (setS (capI (topS st + 1)) st))) := Lib.hid ⟨s1, HOW.out.2⟩
          clear s1 T9 HK HPB
          go_wp2_with fail
          refine (ccapped_any _ _).mono ?_
          rintro e w9 ⟨rfl, rfl⟩
          clear HOW
          go_wp2
          go_roundw
          case rel => exact ⟨j + 1, q, setS (capI (topS st + 1)) st, hlt, by go_num, HK9.out, HP9.out, by rw [setS_len, HM.out]; exact HO9.out, HNX.out, HEC.out⟩
          case measure => simp [intOf]; omega
    · obtain rfl : n = j := by omega
      clear hlt hj
      have hfin := HE.out
      rw [List.drop_of_length_le (by have := HN.out; omega), cwalkE] at hfin
      have y6 := HPB.out.cell 6 _ rfl
      have hln : P.ops.length = n := HN.out
      have t0 := HOW.out.1.cells (g := g) rfl 1 (.int .i64 st.1) rfl
      rw [Addr.add_lit] at t0
      unfold cendE at hfin
      rw [hln] at hfin
      have hmi : (1 : Int) ≤ (m : Int) + 1 := by omega
      have hci : (m : Int) + 1 ≤ cap := by omega
      clear HE hln
      by_cases hn0 : n = 0
      · subst hn0
        rw [if_pos (.inl rfl)] at hfin
        subst hfin
        go_wp2
        go_ret2
        exact ⟨rfl, HK.out.below⟩
      · have hl : n - 1 < P.ops.length := by have := HN.out; omega
        obtain ⟨hc9, _, bo, oo, rfl, o1, o2, o3⟩ := HasRow.opAt (HRO.out.below HK.out.below) (List.getElem?_eq_getElem hl)
        have ho : opP P (n - 1) = P.ops[n - 1] := by unfold opP; rw [List.getElem?_eq_getElem hl]; rfl
        rw [ho] at hfin
        obtain ⟨x, hx⟩ : ∃ x, P.ops[n - 1] = x := ⟨_, rfl⟩
        rw [hx] at hfin o1
        clear ho hx o2 o3
        obtain ⟨N1, hN1⟩ : ∃ N1, n - 1 = N1 := ⟨_, rfl⟩
        have hnw : IntKind.i64.wrap ((n : Int) - 1) = (N1 : Int) := by rw [IntWalk.i64_in _ (by omega)]; omega
        rw [hN1] at o1
        have hni : (N1 : Int) < n := by omega
        have hcoi : (n : Int) ≤ co := by omega
        have hn0i : ((n : Int) == 0) = false := by rw [beq_eq_false_iff_ne]; omega
        have HN0 := Lib.hid hn0
        clear hl hN1 hn0
        by_cases kx : x.kind = 0
        · rw [kx] at o1
          rw [if_neg (by intro h; rcases h with h | h; exact HN0.out h; exact h kx)] at hfin
          by_cases hb : 131072 < st.1
          · rw [if_pos hb] at hfin
            subst hfin
            clear kx
            go_wp2
            go_ret2
            exact ⟨rfl, HK.out.below⟩
          · rw [if_neg hb] at hfin
            subst hfin
            clear kx
            go_wp2
            go_ret2
            exact ⟨rfl, HK.out.below⟩
        · rw [if_pos (.inr kx)] at hfin
          subst hfin
          have kxi : (x.kind != 0) = true := by simpa using kx
          clear kx
          go_wp2
          go_ret2
          exact ⟨rfl, HK.out.below⟩
end Go.Proofs.Ytnnnpippekpibaa

/- code's Steps, Check. -/
namespace Go.Proofs.Ytnnnpippekpibaa
open Go.RowKit

def withinB (n m : Int) : Bool := decide (0 ≤ n) && decide (n ≤ m)
def partsE : List GPart → Int
  | [] => 0
  | p :: r => if goodP p.tag p.params then partsE r else errP p.tag
def lineE (mem : Int) (l : GLine) : Int := if withinB l.base mem && withinB l.size (mem - l.base) then (if l.size < l.start.length then 88 else 0) else 190
def linesE (mem : Int) : List GLine → Int
  | [] => 0
  | l :: r => if lineE mem l = 0 then linesE mem r else lineE mem l
/-- the steps of a program, and what is wrong with it -/
def cstepsE (P : GProg) : Int × Int :=
  if withinB P.memory 1024 && withinB P.counters 17 && withinB P.ins 16 && withinB P.outs 16 then
    (if 32 < P.parts.length ∨ 96 < P.lines.length ∨ 131072 < P.ops.length then (0, 81)
    else if partsE P.parts ≠ 0 then (0, partsE P.parts) else if linesE P.memory P.lines ≠ 0 then (0, linesE P.memory P.lines) else cwalkE P P.ops 0 (0, []))
  else (0, 1)
theorem within_iff {n m : Int} : withinB n m = true ↔ 0 ≤ n ∧ n ≤ m := by simp [withinB]

theorem partsE_drop {l : List GPart} {j : Nat} (h : j < l.length) : partsE (l.drop j) = if goodP l[j].tag l[j].params then partsE (l.drop (j + 1)) else errP l[j].tag := by
  rw [List.drop_eq_getElem_cons h, partsE]
theorem linesE_drop {m : Int} {l : List GLine} {j : Nat} (h : j < l.length) : linesE m (l.drop j) = if lineE m l[j] = 0 then linesE m (l.drop (j + 1)) else lineE m l[j] := by
  rw [List.drop_eq_getElem_cons h, linesE]
theorem errP_ne (t : Int) : errP t ≠ 0 := by rcases errP_some t with h | h <;> rw [h] <;> decide


set_option maxRecDepth 100000 in
set_option maxHeartbeats 4000000 in
theorem csteps_any (w : World) (v : Value) (P : GProg) (hv : HasProg w v P) (hps : ∀ p ∈ P.parts, p.params.length ≤ 17600000000000) : Calls Try.prog 17 #[v] w (PairRet (cstepsE P) w) := by
  obtain ⟨vp, vl, vo, rfl, rp, rl, ro⟩ := hv
  obtain ⟨ap, cp, rfl⟩ := rp.slice
  obtain ⟨al, cl, rfl⟩ := rl.slice
  obtain ⟨ao, co, rfl⟩ := ro.slice
  have HV : Hid (HasProg w (.agg #[.int .i64 P.memory, .int .i64 P.counters, .int .i64 P.ins, .int .i64 P.outs, .slice ap P.parts.length cp, .slice al P.lines.length cl, .slice ao P.ops.length co]) P) := Lib.hid ⟨_, _, _, rfl, rp, rl, ro⟩
  have HRP := Lib.hid rp
  have HRL := Lib.hid rl
  have HPS := Lib.hid hps
  obtain ⟨r, hr⟩ : ∃ r, cstepsE P = r := ⟨_, rfl⟩
  rw [hr]
  unfold cstepsE at hr
  obtain ⟨F1, h1⟩ : ∃ x, withinB P.memory 1024 = x := ⟨_, rfl⟩
  obtain ⟨F2, h2⟩ : ∃ x, withinB P.counters 17 = x := ⟨_, rfl⟩
  obtain ⟨F3, h3⟩ : ∃ x, withinB P.ins 16 = x := ⟨_, rfl⟩
  obtain ⟨F4, h4⟩ : ∃ x, withinB P.outs 16 = x := ⟨_, rfl⟩
  rw [h1, h2, h3, h4] at hr
  have HF1 := Lib.hid h1
  have HF2 := Lib.hid h2
  have HF3 := Lib.hid h3
  have HF4 := Lib.hid h4
  have HR := Lib.hid hr
  have hb1 := below_alloc w (.cells #[.int .i64 P.memory, .int .i64 P.counters, .int .i64 P.ins, .int .i64 P.outs, .slice ap P.parts.length cp, .slice al P.lines.length cl, .slice ao P.ops.length co] 30)
  have hX := heap_alloc_new w (.cells #[.int .i64 P.memory, .int .i64 P.counters, .int .i64 P.ins, .int .i64 P.outs, .slice ap P.parts.length cp, .slice al P.lines.length cl, .slice ao P.ops.length co] 30)
  obtain ⟨W, hW⟩ : ∃ x, w.alloc (.cells #[.int .i64 P.memory, .int .i64 P.counters, .int .i64 P.ins, .int .i64 P.outs, .slice ap P.parts.length cp, .slice al P.lines.length cl, .slice ao P.ops.length co] 30) = x := ⟨_, rfl⟩
  rw [hW] at hb1 hX
  have p0 := cells_row _ _ hX 0 _ rfl
  have p1 := cells_row _ _ hX 1 _ rfl
  have p2 := cells_row _ _ hX 2 _ rfl
  have p3 := cells_row _ _ hX 3 _ rfl
  have p4 := cells_row _ _ hX 4 _ rfl
  have p5 := cells_row _ _ hX 5 _ rfl
  have p6 := cells_row _ _ hX 6 _ rfl
  have HB := Lib.hid hb1
  have HX := Lib.hid hX
  clear rp rl ro hr hps h1 h2 h3 h4 hb1 hX
  go_enter Try.func17, Try.ntmps17
  go_wp2_with fail
  -- value P.memory, bound 1024, flag name F1
  refine (cwithin_any _ _ _).mono ?_
  rintro e w5 ⟨rfl, rfl⟩
  rw [show (decide (0 ≤ P.memory) && decide (P.memory ≤ 1024)) = F1 from HF1.out]
  cases F1 with
  | false =>
    have e1 : r = (0, 1) := by rw [← HR.out]; simp
    subst e1
    go_wp2
    go_ret2
    exact ⟨rfl, HB.out⟩
  | true =>
    go_wp2_with fail
    -- value P.counters, bound 17, flag name F2
    refine (cwithin_any _ _ _).mono ?_
    rintro e w5 ⟨rfl, rfl⟩
    rw [show (decide (0 ≤ P.counters) && decide (P.counters ≤ 17)) = F2 from HF2.out]
    cases F2 with
    | false =>
      have e1 : r = (0, 1) := by rw [← HR.out]; simp
      subst e1
      go_wp2
      go_ret2
      exact ⟨rfl, HB.out⟩
    | true =>
      go_wp2_with fail
      -- value P.ins, bound 16, flag name F3
      refine (cwithin_any _ _ _).mono ?_
      rintro e w5 ⟨rfl, rfl⟩
      rw [show (decide (0 ≤ P.ins) && decide (P.ins ≤ 16)) = F3 from HF3.out]
      cases F3 with
      | false =>
        have e1 : r = (0, 1) := by rw [← HR.out]; simp
        subst e1
        go_wp2
        go_ret2
        exact ⟨rfl, HB.out⟩
      | true =>
        go_wp2_with fail
        -- value P.outs, bound 16, flag name F4
        refine (cwithin_any _ _ _).mono ?_
        rintro e w5 ⟨rfl, rfl⟩
        rw [show (decide (0 ≤ P.outs) && decide (P.outs ≤ 16)) = F4 from HF4.out]
        cases F4 with
        | false =>
          have e1 : r = (0, 1) := by rw [← HR.out]; simp
          subst e1
          go_wp2
          go_ret2
          exact ⟨rfl, HB.out⟩
        | true =>
          simp only [Bool.and_self, if_true] at HR
          have hs1 := within_iff.1 HF1.out
          have hs2 := within_iff.1 HF2.out
          have hs3 := within_iff.1 HF3.out
          have hs4 := within_iff.1 HF4.out
          by_cases hmany : 32 < P.parts.length ∨ 96 < P.lines.length ∨ 131072 < P.ops.length
          · rw [if_pos hmany] at HR
            have e1 := HR.out
            subst e1
            by_cases m1 : 32 < P.parts.length
            · have m1i : (32 : Int) < P.parts.length := by omega
              go_wp2
              go_ret2
              exact ⟨rfl, HB.out⟩
            · have m1i : ¬ (32 : Int) < P.parts.length := by omega
              by_cases m2 : 96 < P.lines.length
              · have m2i : (96 : Int) < P.lines.length := by omega
                go_wp2
                go_ret2
                exact ⟨rfl, HB.out⟩
              · have m2i : ¬ (96 : Int) < P.lines.length := by omega
                have m3i : (131072 : Int) < P.ops.length := by omega
                go_wp2
                go_ret2
                exact ⟨rfl, HB.out⟩
          · rw [if_neg hmany] at HR
            have m1i : ¬ (32 : Int) < P.parts.length := by omega
            have m2i : ¬ (96 : Int) < P.lines.length := by omega
            have m3i : ¬ (131072 : Int) < P.ops.length := by omega
            have hz : Sized P := ⟨by omega, by omega, by omega, by omega, by omega, by omega⟩
            have HZ := Lib.hid hz
            clear hmany hz
            go_wp2_with fail
            have hW0 := HB.out.size
            have HBW := Lib.hid (Below.refl W.heap.size W)
            obtain ⟨PE, hPE⟩ : ∃ x, partsE P.parts = x := ⟨_, rfl⟩
            obtain ⟨LE, hLE⟩ : ∃ x, linesE P.memory P.lines = x := ⟨_, rfl⟩
            rw [hPE, hLE] at HR
            have HPE : Hid (partsE (P.parts.drop 0) = PE) := Lib.hid hPE
            have HLE : Hid (linesE P.memory (P.lines.drop 0) = LE) := Lib.hid hLE
            clear hPE hLE hW p0 p1 p2 p3 p4 p5 p6 HF1 HF2 HF3 HF4
            go_loopw [53] (fun i wl => ∃ (j : Nat), j ≤ P.parts.length ∧ i = .int .i64 j ∧ Below W.heap.size W wl ∧ partsE (P.parts.drop j) = PE) (fun i _ => P.parts.length - (intOf i).toNat)
            case atStart => exact ⟨0, Nat.zero_le _, rfl, HBW.out, HPE.out⟩
            case round =>
              clear HBW HPE
              obtain ⟨j, hj, rfl, hb, hE⟩ := hrel
              have HBW := Lib.hid hb
              have HE := Lib.hid hE
              clear hb hE
              have HBB := Lib.hid (HB.out.trans (HBW.out.mono hW0))
              by_cases hlt : j < P.parts.length
              · have hlti : (j : Int) < P.parts.length := by omega
                have hEc := HE.out
                rw [partsE_drop hlt] at hEc
                obtain ⟨b0, off, rfl, hcap, hb0, hrec⟩ := HRP.out.at (by omega)
                obtain ⟨cs, hcs, hPR, hcl⟩ := hrec j hlt
                obtain ⟨y, rfl, hst⟩ := hPR
                have c0 := cell_later HBB.out (hcl 0 (by omega))
                have c1 := cell_later HBB.out (hcl 1 (by omega))
                simp [partHd] at c0 c1
                have hcapi : (P.parts.length : Int) ≤ cp := by omega
                obtain ⟨sa, sc, hxs⟩ := Ints.slice hst
                subst hxs
                have HST := Lib.hid hst
                have hpl := HPS.out _ (List.getElem_mem hlt)
                clear hcl hcs hrec hst HE
                generalize P.parts[j] = a at *
                have hbX := below_alloc wr (.cells #[.int .u8 a.tag, .slice sa a.params.length sc] 81)
                have hY := heap_alloc_new wr (.cells #[.int .u8 a.tag, .slice sa a.params.length sc] 81)
                have x0 := cells_row _ _ hY 0 _ rfl
                have x1 := cells_row _ _ hY 1 _ rfl
                have HB2 := Lib.hid (HBW.out.trans (hbX.mono HBW.out.size))
                have HB3 := Lib.hid (HBB.out.trans (hbX.mono HBB.out.size))
                clear hbX hY HBW HBB
                go_wp2_with fail
                clear c0 c1
                by_cases hg : goodP a.tag a.params
                · rw [if_pos hg] at hEc
                  have HE := Lib.hid hEc
                  clear hEc
                  refine (of_ok _ a.tag sa _ sc a.params hg hpl (HST.out.below HB3.out)).mono ?_
                  rintro e w6 ⟨vti, vto, rfl, q1, q2, hb6⟩
                  have HB4 := Lib.hid (HB2.out.trans (hb6.mono HB2.out.size))
                  clear q1 q2 hb6 x0 x1 HST
                  go_wp2
                  go_roundw
                  case rel => exact ⟨j + 1, hlt, by go_num, HB4.out, HE.out⟩
                  case measure => simp [intOf]; omega
                · rw [if_neg hg] at hEc
                  have hne := errP_ne a.tag
                  have hof := of_no _ a.tag sa _ sc a.params hg hpl (HST.out.below HB3.out)
                  obtain ⟨er, her⟩ : ∃ x, errP a.tag = x := ⟨_, rfl⟩
                  rw [her] at hEc hne hof
                  rw [← hEc, if_pos hne] at HR
                  have e1 := HR.out
                  subst e1
                  have HER := Lib.hid hne
                  clear hEc her hne
                  refine hof.mono ?_
                  clear hof
                  rintro e w6 ⟨rfl, hb6⟩
                  have HB5 := Lib.hid (HB3.out.trans (hb6.mono HB3.out.size))
                  have heri : (er != 0) = true := by simpa using HER.out
                  clear hb6 x0 x1 HST
                  go_wp2
                  go_ret2
                  exact ⟨rfl, HB5.out⟩
              · obtain rfl : P.parts.length = j := by omega
                have hEc := HE.out
                rw [List.drop_length, partsE] at hEc
                subst hEc
                rw [if_neg (by simp)] at HR
                clear HE hj hlt
                have y5 := cell_later HBW.out (cells_row _ _ HX.out 5 _ rfl)
                go_wp2_with fail
                clear y5
                go_loopw [73] (fun i wl => ∃ (j : Nat), j ≤ P.lines.length ∧ i = .int .i64 j ∧ Below W.heap.size W wl ∧ linesE P.memory (P.lines.drop j) = LE) (fun i _ => P.lines.length - (intOf i).toNat)
                case atStart => exact ⟨0, Nat.zero_le _, rfl, HBW.out, HLE.out⟩
                case round =>
                  clear HBW HBB HLE
                  obtain ⟨j, hj, rfl, hb, hE⟩ := hrel
                  have HBW := Lib.hid hb
                  have HE := Lib.hid hE
                  clear hb hE
                  have HBB := Lib.hid (HB.out.trans (HBW.out.mono hW0))
                  by_cases hlt : j < P.lines.length
                  · have hlti : (j : Int) < P.lines.length := by omega
                    have hEc := HE.out
                    rw [linesE_drop hlt] at hEc
                    obtain ⟨b0, off, rfl, hcap, hb0, hrec⟩ := HRL.out.at (by omega)
                    obtain ⟨cs, hcs, hPR, hcl⟩ := hrec j hlt
                    obtain ⟨y, rfl, hst⟩ := hPR
                    have c0 := cell_later HBB.out (hcl 0 (by omega))
                    have c1 := cell_later HBB.out (hcl 1 (by omega))
                    have c2 := cell_later HBB.out (hcl 2 (by omega))
                    simp [lineHd] at c0 c1 c2
                    have hcapi : (P.lines.length : Int) ≤ cl := by omega
                    obtain ⟨sa, sc, hxs⟩ := Ints.slice hst
                    subst hxs
                    clear hcl hcs hrec hst HE
                    generalize P.lines[j] = a at *
                    have hbX := below_alloc wr (.cells #[.int .i64 a.base, .int .i64 a.size, .slice sa a.start.length sc] 76)
                    have hY := heap_alloc_new wr (.cells #[.int .i64 a.base, .int .i64 a.size, .slice sa a.start.length sc] 76)
                    have hsY : (wr.alloc (.cells #[.int .i64 a.base, .int .i64 a.size, .slice sa a.start.length sc] 76)).heap.size = wr.heap.size + 1 := by simp
                    have hY2 := block_alloc hY (.cells #[.int .i64 a.base, .int .i64 a.size] 74)
                    have hbZ := below_alloc (wr.alloc (.cells #[.int .i64 a.base, .int .i64 a.size, .slice sa a.start.length sc] 76)) (.cells #[.int .i64 a.base, .int .i64 a.size] 74)
                    have hZ := heap_alloc_new (wr.alloc (.cells #[.int .i64 a.base, .int .i64 a.size, .slice sa a.start.length sc] 76)) (.cells #[.int .i64 a.base, .int .i64 a.size] 74)
                    rw [hsY] at hZ
                    have x0 := cells_row _ _ hY 0 _ rfl
                    have x1 := cells_row _ _ hY 1 _ rfl
                    have x1' := cells_row _ _ hY2 1 _ rfl
                    have x2' := cells_row _ _ hY2 2 _ rfl
                    have r0 := cells_row _ _ hZ 0 _ rfl
                    have r1 := cells_row _ _ hZ 1 _ rfl
                    have HB2 := Lib.hid ((HBW.out.trans (hbX.mono HBW.out.size)).trans (hbZ.mono (by have := HBW.out.size; omega)))
                    have HB3 := Lib.hid ((HBB.out.trans (hbX.mono HBB.out.size)).trans (hbZ.mono (by have := HBB.out.size; omega)))
                    have m0 := cell_later HB2.out (cells_row _ _ HX.out 0 _ rfl)
                    obtain ⟨B1, b1⟩ : ∃ x, withinB a.base P.memory = x := ⟨_, rfl⟩
                    obtain ⟨B2, b2⟩ : ∃ x, withinB a.size (P.memory - a.base) = x := ⟨_, rfl⟩
                    have hLn : lineE P.memory a = if B1 && B2 then (if a.size < a.start.length then 88 else 0) else 190 := by rw [← b1, ← b2]; rfl
                    rw [hLn] at hEc
                    have HEC := Lib.hid hEc
                    have HB1 := Lib.hid b1
                    have HBT := Lib.hid b2
                    clear hbX hY hY2 hbZ hZ hsY hLn hEc b1 b2 HBW HBB
                    go_wp2_with fail
                    clear c0 c1 c2 x0 x1
                    refine (cwithin_any _ _ _).mono ?_
                    rintro e w5 ⟨rfl, rfl⟩
                    rw [show (decide (0 ≤ a.base) && decide (a.base ≤ P.memory)) = B1 from HB1.out]
                    cases B1 with
                    | false =>
                      simp at HEC
                      rw [← HEC.out, if_pos (by decide)] at HR
                      have e1 := HR.out
                      subst e1
                      go_wp2
                      go_ret2
                      exact ⟨rfl, HB3.out⟩
                    | true =>
                      have hba := within_iff.1 HB1.out
                      have hsw : IntKind.i64.wrap (P.memory - a.base) = P.memory - a.base := IntWalk.i64_in _ (by omega)
                      go_wp2_with fail
                      refine (cwithin_any _ _ _).mono ?_
                      rintro e w5 ⟨rfl, rfl⟩
                      rw [show (decide (0 ≤ a.size) && decide (a.size ≤ P.memory - a.base)) = B2 from HBT.out]
                      cases B2 with
                      | false =>
                        simp at HEC
                        rw [← HEC.out, if_pos (by decide)] at HR
                        have e1 := HR.out
                        subst e1
                        go_wp2
                        go_ret2
                        exact ⟨rfl, HB3.out⟩
                      | true =>
                        by_cases hst : a.size < a.start.length
                        · simp only [Bool.and_self, if_true] at HEC
                          rw [if_pos hst, if_neg (by decide)] at HEC
                          rw [← HEC.out, if_pos (by decide)] at HR
                          have e1 := HR.out
                          subst e1
                          go_wp2
                          go_ret2
                          exact ⟨rfl, HB3.out⟩
                        · simp only [Bool.and_self, if_true] at HEC
                          rw [if_neg hst, if_pos rfl] at HEC
                          have hsti : ¬ a.size < (a.start.length : Int) := hst
                          go_wp2
                          go_roundw
                          case rel => exact ⟨j + 1, hlt, by go_num, HB2.out, HEC.out⟩
                          case measure => simp [intOf]; omega
                  · obtain rfl : P.lines.length = j := by omega
                    have hEc := HE.out
                    rw [List.drop_length, linesE] at hEc
                    subst hEc
                    rw [if_neg (by simp)] at HR
                    clear HE hj hlt
                    have y0 := cell_later HBW.out (cells_row _ _ HX.out 0 _ rfl)
                    have y1 := cell_later HBW.out (cells_row _ _ HX.out 1 _ rfl)
                    have y2 := cell_later HBW.out (cells_row _ _ HX.out 2 _ rfl)
                    have y3 := cell_later HBW.out (cells_row _ _ HX.out 3 _ rfl)
                    have y4 := cell_later HBW.out (cells_row _ _ HX.out 4 _ rfl)
                    have y5 := cell_later HBW.out (cells_row _ _ HX.out 5 _ rfl)
                    have y6 := cell_later HBW.out (cells_row _ _ HX.out 6 _ rfl)
                    go_wp2_with fail
                    clear y0 y1 y2 y3 y4 y5 y6
                    refine (cwalk_any _ _ P (HV.out.below HBB.out) HZ.out).mono ?_
                    rintro e w9 ⟨rfl, hb9⟩
                    rw [HR.out]
                    have HB9 := Lib.hid (HBB.out.trans (hb9.mono HBB.out.size))
                    clear hb9
                    go_wp2
                    go_ret2
                    exact ⟨rfl, HB9.out⟩
def checkC (P : GProg) : Int := (cstepsE P).2
set_option maxRecDepth 100000 in
theorem ccheck_any (w : World) (v : Value) (P : GProg) (hv : HasProg w v P) (hps : ∀ p ∈ P.parts, p.params.length ≤ 17600000000000) : Calls Try.prog 28 #[v] w (Tells (.int .i64 (checkC P)) w) := by
  obtain ⟨vp, vl, vo, rfl, rp, rl, ro⟩ := hv
  have hb1 := below_alloc w (.cells #[.int .i64 P.memory, .int .i64 P.counters, .int .i64 P.ins, .int .i64 P.outs, vp, vl, vo] 30)
  have hX := heap_alloc_new w (.cells #[.int .i64 P.memory, .int .i64 P.counters, .int .i64 P.ins, .int .i64 P.outs, vp, vl, vo] 30)
  have HV : Hid (HasProg w (.agg #[.int .i64 P.memory, .int .i64 P.counters, .int .i64 P.ins, .int .i64 P.outs, vp, vl, vo]) P) := Lib.hid ⟨_, _, _, rfl, rp, rl, ro⟩
  have HPS := Lib.hid hps
  have p0 := cells_row _ _ hX 0 _ rfl
  have p1 := cells_row _ _ hX 1 _ rfl
  have p2 := cells_row _ _ hX 2 _ rfl
  have p3 := cells_row _ _ hX 3 _ rfl
  have p4 := cells_row _ _ hX 4 _ rfl
  have p5 := cells_row _ _ hX 5 _ rfl
  have p6 := cells_row _ _ hX 6 _ rfl
  have HB := Lib.hid hb1
  obtain ⟨r, hr⟩ : ∃ r, cstepsE P = r := ⟨_, rfl⟩
  have HR := Lib.hid hr
  rw [checkC, hr]
  clear rp rl ro hb1 hX hps hr
  go_enter Try.func28, Try.ntmps28
  go_wp2_with fail
  clear p0 p1 p2 p3 p4 p5 p6
  refine (csteps_any _ _ P (HV.out.below HB.out) HPS.out).mono ?_
  rintro e w9 ⟨rfl, hb9⟩
  rw [HR.out]
  have HB9 := Lib.hid (HB.out.trans (hb9.mono HB.out.size))
  clear hb9
  go_wp2
  go_ret
  exact ⟨rfl, HB9.out⟩
end Go.Proofs.Ytnnnpippekpibaa

/- The way of a period through a program, plainly: as many operations as code.Steps tells, and all counters are 0 again. No function in sight. -/
namespace Go.Proofs.Ytnnnpippekpibaa
open Go.RowKit

/-- a program's text, read as loops -/
inductive Tree where
  | nil
  | op (x : GOp) (r : Tree)
  | loop (c : Nat) (t : Int) (b r : Tree)
def Tree.len : Tree → Nat
  | .nil => 0
  | .op _ r => 1 + r.len
  | .loop _ _ b r => b.len + 2 + r.len
def Tree.flat : Tree → Nat → List GOp
  | .nil, _ => []
  | .op x r, i => x :: r.flat (i + 1)
  | .loop c t b r, i => ⟨1, c, t⟩ :: (b.flat (i + 1) ++ ⟨2, c, ((i + 1 : Nat) : Int)⟩ :: r.flat (i + b.len + 2))
def Tree.cost : Tree → Nat
  | .nil => 0
  | .op _ r => 1 + r.cost
  | .loop _ t b r => 1 + t.toNat * (b.cost + 1) + r.cost
theorem Tree.flat_len : ∀ (T : Tree) (i : Nat), (T.flat i).length = T.len
  | .nil, _ => rfl
  | .op x r, i => by rw [flat, len, List.length_cons, flat_len r]; omega
  | .loop c t b r, i => by rw [flat, len, List.length_cons, List.length_append, List.length_cons, flat_len b, flat_len r]; omega
/-- loops within one another have counters of their own, below n -/
def Tree.ok (n : Nat) : List Nat → Tree → Prop
  | _, .nil => True
  | O, .op x r => (x.kind ≠ 0 ∧ x.kind ≠ 1 ∧ x.kind ≠ 2) ∧ r.ok n O
  | O, .loop c t b r => c ∉ O ∧ c < n ∧ 1 ≤ t ∧ t ≤ 2048 ∧ b.ok n (c :: O) ∧ r.ok n O

def ctlOp (ops : List GOp) (pc : Nat) : GOp := ops[pc]?.getD ⟨0, 0, 0⟩
/-- one operation's way -/
def ctlS (ops : List GOp) (s : Nat × List Int) : Nat × List Int :=
  if (ctlOp ops s.1).kind = 1 then (s.1 + 1, s.2.set (ctlOp ops s.1).a.toNat (ctlOp ops s.1).b)
  else if (ctlOp ops s.1).kind = 2 then (if 0 < s.2[(ctlOp ops s.1).a.toNat]?.getD 0 - 1 then (ctlOp ops s.1).b.toNat else s.1 + 1, s.2.set (ctlOp ops s.1).a.toNat (s.2[(ctlOp ops s.1).a.toNat]?.getD 0 - 1))
  else (s.1 + 1, s.2)
def ctlI (ops : List GOp) (s : Nat × List Int) : Nat → Nat × List Int
  | 0 => s
  | k + 1 => ctlS ops (ctlI ops s k)
theorem ctlI_add (ops : List GOp) (s : Nat × List Int) (a : Nat) : ∀ b, ctlI ops s (a + b) = ctlI ops (ctlI ops s a) b
  | 0 => rfl
  | b + 1 => by
    show ctlS ops (ctlI ops s (a + b)) = ctlS ops _
    rw [ctlI_add ops s a b]
/-- the counters stay few, and small -/
def CtlOk (n : Nat) (cs : List Int) : Prop := cs.length = n ∧ ∀ x ∈ cs, 0 ≤ x ∧ x ≤ 2048
structure CtlAt (ops : List GOp) (n : Nat) (s : Nat × List Int) : Prop where
  lt : s.1 < ops.length
  kind : (ctlOp ops s.1).kind ≠ 0
  cs : CtlOk n s.2
structure CRuns (ops : List GOp) (n : Nat) (s : Nat × List Int) (m : Nat) (s' : Nat × List Int) : Prop where
  ok : ∀ k, k < m → CtlAt ops n (ctlI ops s k)
  is : ctlI ops s m = s'
theorem CRuns.refl (ops : List GOp) (n : Nat) (s : Nat × List Int) : CRuns ops n s 0 s := ⟨fun k h => by omega, rfl⟩
theorem CRuns.trans {ops : List GOp} {n : Nat} {s s1 s2 : Nat × List Int} {a b : Nat} (h : CRuns ops n s a s1) (k : CRuns ops n s1 b s2) : CRuns ops n s (a + b) s2 := by
  refine ⟨fun j hj => ?_, by rw [ctlI_add, h.is, k.is]⟩
  by_cases h1 : j < a
  · exact h.ok j h1
  · obtain ⟨d, rfl⟩ := Nat.exists_eq_add_of_le (Nat.le_of_not_lt h1)
    rw [ctlI_add, h.is]
    exact k.ok d (by omega)
theorem CRuns.one {ops : List GOp} {n : Nat} {s s' : Nat × List Int} (h : CtlAt ops n s) (e : ctlS ops s = s') : CRuns ops n s 1 s' := by
  refine ⟨fun k hk => ?_, e⟩
  obtain rfl : k = 0 := by omega
  exact h
theorem drop_here {α : Type} {L R : List α} {x : α} {i : Nat} (h : L.drop i = x :: R) : i < L.length ∧ L[i]? = some x ∧ L.drop (i + 1) = R := by
  have h1 : (L.drop i)[0]? = some x := by rw [h]; rfl
  rw [List.getElem?_drop] at h1
  refine ⟨?_, by simpa using h1, ?_⟩
  · have := congrArg List.length h
    rw [List.length_drop, List.length_cons] at this
    omega
  · rw [← List.drop_drop, h]
    rfl
theorem ctlOp_at {ops : List GOp} {i : Nat} {x : GOp} (h : ops[i]? = some x) : ctlOp ops i = x := by simp [ctlOp, h]
theorem ctlOk_set {n : Nat} {cs : List Int} (h : CtlOk n cs) {k : Nat} {v : Int} (h1 : 0 ≤ v ∧ v ≤ 2048) : CtlOk n (cs.set k v) :=
  ⟨by rw [List.length_set]; exact h.1, fun x hx => by
    rcases List.mem_or_eq_of_mem_set hx with hx | rfl
    · exact h.2 x hx
    · exact h1⟩
/-- what a part of a program does to the counters: those that are open stay, any other stays or is 0 -/
def Left (O : List Nat) (cs cs' : List Int) : Prop := (∀ j : Nat, j ∈ O → cs'[j]? = cs[j]?) ∧ ∀ j : Nat, cs'[j]? = cs[j]? ∨ cs'[j]? = some 0
theorem Left.refl (O : List Nat) (cs : List Int) : Left O cs cs := ⟨fun _ _ => rfl, fun _ => .inl rfl⟩
theorem Left.trans {O : List Nat} {a b c : List Int} (h : Left O a b) (k : Left O b c) : Left O a c :=
  ⟨fun j hj => (k.1 j hj).trans (h.1 j hj), fun j => by
    rcases k.2 j with e | e
    · rw [e]; exact h.2 j
    · exact .inr e⟩

theorem run_tree {ops : List GOp} {n : Nat} : ∀ (T : Tree) (O : List Nat) (i : Nat) (R : List GOp) (cs : List Int), T.ok n O → ops.drop i = T.flat i ++ R → CtlOk n cs →
    ∃ cs', CtlOk n cs' ∧ Left O cs cs' ∧ CRuns ops n (i, cs) T.cost (i + T.len, cs')
  | .nil, O, i, R, cs, _, _, hc => ⟨cs, hc, Left.refl _ _, CRuns.refl _ _ _⟩
  | .op x r, O, i, R, cs, hk, hd, hc => by
    obtain ⟨⟨k0, k1, k2⟩, hr⟩ := hk
    obtain ⟨d1, d2, d3⟩ := drop_here (R := r.flat (i + 1) ++ R) hd
    obtain ⟨cs', h1, h2, h3⟩ := run_tree r O (i + 1) R cs hr d3 hc
    refine ⟨cs', h1, h2, ?_⟩
    have hx := ctlOp_at d2
    have h4 : CRuns ops n (i, cs) 1 (i + 1, cs) := CRuns.one ⟨d1, by show (ctlOp ops i).kind ≠ 0; rw [hx]; exact k0, hc⟩ (by
      unfold ctlS
      show (if (ctlOp ops i).kind = 1 then _ else _) = _
      rw [hx, if_neg k1, if_neg k2])
    have h5 := h4.trans h3
    rw [show i + 1 + r.len = i + (Tree.op x r).len by rw [Tree.len]; omega] at h5
    exact h5
  | .loop c t b r, O, i, R, cs, hk, hd, hc => by
    obtain ⟨kO, kn, t1, t2, kb, kr⟩ := hk
    rw [Tree.flat, List.cons_append, List.append_assoc, List.cons_append] at hd
    obtain ⟨d1, d2, d3⟩ := drop_here hd
    have hx := ctlOp_at d2
    have e3 : ops.drop (i + 1 + b.len) = ⟨2, c, ((i + 1 : Nat) : Int)⟩ :: (r.flat (i + b.len + 2) ++ R) := by
      rw [← List.drop_drop, d3, List.drop_left' (Tree.flat_len b _)]
    obtain ⟨f1, f2, f3⟩ := drop_here e3
    have hy := ctlOp_at f2
    have hlen : c < cs.length := by rw [hc.1]; exact kn
    -- a round
    have hback : ∀ (cs2 : List Int) (v : Int), CtlOk n cs2 → cs2[c]? = some v → 1 ≤ v → CRuns ops n (i + 1 + b.len, cs2) 1 (if 0 < v - 1 then i + 1 else i + b.len + 2, cs2.set c (v - 1)) := by
      intro cs2 v h2 h3 h4
      refine CRuns.one ⟨f1, by show (ctlOp ops (i + 1 + b.len)).kind ≠ 0; rw [hy]; show (2 : Int) ≠ 0; omega, h2⟩ ?_
      unfold ctlS
      show (if (ctlOp ops (i + 1 + b.len)).kind = 1 then _ else _) = _
      simp only [hy]
      rw [if_neg (by show ¬ (2 : Int) = 1; omega), if_pos trivial]
      simp only [Int.toNat_natCast, h3, Option.getD_some]
      congr 1
      split <;> omega
    have hrounds : ∀ (k : Nat) (cs2 : List Int), CtlOk n cs2 → cs2[c]? = some ((k + 1 : Nat) : Int) → k + 1 ≤ 2048 →
        ∃ cs', CtlOk n cs' ∧ (∀ j : Nat, j ∈ O → cs'[j]? = cs2[j]?) ∧ (∀ j : Nat, j ≠ c → cs'[j]? = cs2[j]? ∨ cs'[j]? = some 0) ∧ cs'[c]? = some 0 ∧ CRuns ops n (i + 1, cs2) ((k + 1) * (b.cost + 1)) (i + b.len + 2, cs') := by
      intro k
      induction k with
      | zero =>
        intro cs2 h2 h3 _
        obtain ⟨cs3, m1, m2, m3⟩ := run_tree b (c :: O) (i + 1) _ cs2 kb d3 h2
        have h4 : cs3[c]? = some 1 := by rw [m2.1 c List.mem_cons_self, h3]; rfl
        have m4 := hback cs3 1 m1 h4 (Int.le_refl _)
        rw [if_neg (by omega)] at m4
        have hl3 : c < cs3.length := by rw [m1.1]; exact kn
        refine ⟨_, ctlOk_set (k := c) (v := (1 : Int) - 1) m1 (by omega), fun j hj => ?_, fun j hj => ?_, ?_, ?_⟩
        · rw [List.getElem?_set_ne (fun e => kO (by rw [e]; exact hj))]
          exact m2.1 j (List.mem_cons_of_mem _ hj)
        · rw [List.getElem?_set_ne (fun e => hj e.symm)]
          exact m2.2 j
        · rw [List.getElem?_set_self hl3]; rfl
        · have := m3.trans m4
          rw [show (0 + 1) * (b.cost + 1) = b.cost + 1 by omega]
          exact this
      | succ k ih =>
        intro cs2 h2 h3 hk
        obtain ⟨cs3, m1, m2, m3⟩ := run_tree b (c :: O) (i + 1) _ cs2 kb d3 h2
        have h4 : cs3[c]? = some ((k + 1 + 1 : Nat) : Int) := by rw [m2.1 c List.mem_cons_self, h3]
        have m4 := hback cs3 _ m1 h4 (by omega)
        rw [if_pos (by omega)] at m4
        have hl3 : c < cs3.length := by rw [m1.1]; exact kn
        obtain ⟨cs4, n1, n2, n3, n4, n5⟩ := ih (cs3.set c (((k + 1 + 1 : Nat) : Int) - 1)) (ctlOk_set m1 (by omega)) (by rw [List.getElem?_set_self hl3]; congr 1; omega) (by omega)
        refine ⟨cs4, n1, fun j hj => ?_, fun j hj => ?_, n4, ?_⟩
        · rw [n2 j hj, List.getElem?_set_ne (fun e => kO (by rw [e]; exact hj))]
          exact m2.1 j (List.mem_cons_of_mem _ hj)
        · rcases n3 j hj with e | e
          · rw [e, List.getElem?_set_ne (fun e => hj e.symm)]
            exact m2.2 j
          · exact .inr e
        · have := (m3.trans m4).trans n5
          rw [show (k + 1 + 1) * (b.cost + 1) = b.cost + 1 + (k + 1) * (b.cost + 1) by rw [Nat.add_mul (k + 1)]; omega]
          exact this
    obtain ⟨k, hkt⟩ : ∃ k : Nat, t = ((k + 1 : Nat) : Int) := ⟨(t - 1).toNat, by omega⟩
    have s1 : CRuns ops n (i, cs) 1 (i + 1, cs.set c t) := CRuns.one ⟨d1, by show (ctlOp ops i).kind ≠ 0; rw [hx]; show (1 : Int) ≠ 0; omega, hc⟩ (by
      unfold ctlS
      show (if (ctlOp ops i).kind = 1 then _ else _) = _
      simp only [hx]
      rw [if_pos trivial]
      simp)
    obtain ⟨cs5, p1, p2, p3, p4, p5⟩ := hrounds k (cs.set c t) (ctlOk_set hc (by omega)) (by rw [List.getElem?_set_self hlen, hkt]) (by omega)
    obtain ⟨cs6, q1, q2, q3⟩ := run_tree r O (i + b.len + 2) R cs5 kr (by have h := f3; rwa [show i + 1 + b.len + 1 = i + b.len + 2 by omega] at h) p1
    refine ⟨cs6, q1, Left.trans ⟨fun j hj => ?_, fun j => ?_⟩ q2, ?_⟩
    · rw [p2 j hj, List.getElem?_set_ne (fun e => kO (by rw [e]; exact hj))]
    · by_cases hj : j = c
      · rw [hj]; exact .inr p4
      · rcases p3 j hj with e | e
        · rw [e, List.getElem?_set_ne (fun e => hj e.symm)]
          exact .inl rfl
        · exact .inr e
    · have h5 := (s1.trans p5).trans q3
      have ht : t.toNat = k + 1 := by omega
      show CRuns ops n _ (1 + t.toNat * (b.cost + 1) + r.cost) _
      rw [ht, show i + (Tree.loop c t b r).len = i + b.len + 2 + r.len by rw [Tree.len]; omega]
      exact h5
end Go.Proofs.Ytnnnpippekpibaa

/- A program that passes code.Steps, read as loops. No function in sight. -/
namespace Go.Proofs.Ytnnnpippekpibaa
open Go.RowKit

def addR (k : Int) : CSt → CSt
  | (b, []) => (b + k, [])
  | (b, (p, s) :: r) => (b, (p, s + k) :: r)
def openC (P : GProg) (fr : List (Nat × Int)) : List Nat := fr.map fun f => (opP P f.1).a.toNat
inductive Par (P : GProg) (n : Nat) : List GOp → Nat → CSt → Int → Prop
  | fin {i : Nat} {b : Int} (T : Tree) (hT : T.ok n []) : Par P n (T.flat i ++ [⟨0, 0, 0⟩]) i (b, []) (b + T.cost + 1)
  | lev {i p : Nat} {b s : Int} {r : List (Nat × Int)} {L : List GOp} {S : Int} (T : Tree) (hT : T.ok n (openC P ((p, s) :: r))) (h : Par P n L (i + T.len + 1) (addR (1 + (opP P p).b * (s + T.cost + 1)) (b, r)) S) :
      Par P n (T.flat i ++ ⟨2, (opP P p).a, ((p + 1 : Nat) : Int)⟩ :: L) i (b, (p, s) :: r) S
/-- the numbers of a stack -/
structure NN (P : GProg) (n : Nat) (st : CSt) : Prop where
  bot : 0 ≤ st.1
  fr : ∀ f ∈ st.2, 0 ≤ f.2 ∧ 1 ≤ (opP P f.1).b ∧ (opP P f.1).b ≤ 2048 ∧ 0 ≤ (opP P f.1).a ∧ (opP P f.1).a < n
theorem NN.top {P : GProg} {n : Nat} {st : CSt} (h : NN P n st) : 0 ≤ topS st := by
  obtain ⟨b, fr⟩ := st
  cases fr with
  | nil => exact h.bot
  | cons f r => exact (h.fr f List.mem_cons_self).1
theorem NN.addR {P : GProg} {n : Nat} {st : CSt} (h : NN P n st) {k : Int} (hk : 0 ≤ k) : NN P n (addR k st) := by
  obtain ⟨b, fr⟩ := st
  cases fr with
  | nil => exact ⟨by have := h.bot; show 0 ≤ b + k; simp only at this; omega, fun f hf => by cases hf⟩
  | cons f r =>
    obtain ⟨p, s⟩ := f
    refine ⟨h.bot, fun g hg => ?_⟩
    rcases List.mem_cons.1 hg with rfl | hg
    · have := h.fr (p, s) List.mem_cons_self
      exact ⟨by show 0 ≤ s + k; have := this.1; simp only at this; omega, this.2⟩
    · exact h.fr g (List.mem_cons_of_mem _ hg)
theorem NN.pop {P : GProg} {n : Nat} {b : Int} {f : Nat × Int} {r : List (Nat × Int)} (h : NN P n (b, f :: r)) : NN P n (b, r) := ⟨h.bot, fun g hg => h.fr g (List.mem_cons_of_mem _ hg)⟩
theorem loop_nn {t s : Int} (ht : 1 ≤ t) (hs : 0 ≤ s) : s ≤ t * s := by
  have := Int.mul_le_mul_of_nonneg_right ht hs
  omega
theorem par_op {P : GProg} {n : Nat} {L : List GOp} {i : Nat} {st : CSt} {S : Int} {x : GOp} (hx : x.kind ≠ 0 ∧ x.kind ≠ 1 ∧ x.kind ≠ 2) (h : Par P n L (i + 1) (addR 1 st) S) : Par P n (x :: L) i st S := by
  obtain ⟨b, fr⟩ := st
  cases fr with
  | nil =>
    generalize he : addR 1 (b, []) = st' at h
    cases h with
    | fin T hT =>
      cases he
      have := Par.fin (P := P) (n := n) (i := i) (b := b) (.op x T) ⟨hx, hT⟩
      rw [show b + 1 + (T.cost : Int) + 1 = b + ((Tree.op x T).cost : Nat) + 1 by rw [Tree.cost]; omega]
      exact this
    | lev T hT h => cases he
  | cons f r =>
    obtain ⟨p, s⟩ := f
    generalize he : addR 1 (b, (p, s) :: r) = st' at h
    cases h with
    | fin T hT => cases he
    | lev T hT h =>
      cases he
      have := Par.lev (P := P) (n := n) (i := i) (b := b) (p := p) (s := s) (r := r) (S := S) (.op x T) ⟨hx, hT⟩ (by
        rw [Tree.len, Tree.cost, show i + (1 + T.len) + 1 = i + 1 + T.len + 1 by omega, show s + ((1 + T.cost : Nat) : Int) + 1 = s + 1 + (T.cost : Int) + 1 by omega]
        exact h)
      exact this
theorem par_head {P : GProg} {n : Nat} {L : List GOp} {i : Nat} {b : Int} {fr : List (Nat × Int)} {S : Int} {x : GOp} (hk : x.kind = 1) (ho : opP P i = x) (ha : 0 ≤ x.a ∧ x.a < n) (hb : 1 ≤ x.b ∧ x.b ≤ 2048) (hn : x.a.toNat ∉ openC P fr)
    (h : Par P n L (i + 1) (b, (i, 0) :: fr) S) : Par P n (x :: L) i (b, fr) S := by
  have hx : x = ⟨1, (x.a.toNat : Nat), x.b⟩ := by
    obtain ⟨k, a, b'⟩ := x
    simp only at hk ha
    rw [hk]
    congr 1
    show a = (a.toNat : Int)
    omega
  generalize he : ((b, (i, 0) :: fr) : CSt) = st' at h
  cases h with
  | fin T hT => cases he
  | @lev _ _ _ _ _ L' _ T hT h =>
    cases he
    rw [ho] at h ⊢
    have hT' : T.ok n (x.a.toNat :: openC P fr) := by
      have e : openC P ((i, (0 : Int)) :: fr) = x.a.toNat :: openC P fr := by unfold openC; rw [List.map_cons, ho]
      rw [e] at hT; exact hT
    have hcs : (0 : Int) + (T.cost : Int) + 1 = ((T.cost + 1 : Nat) : Int) := by omega
    rw [hcs] at h
    have hto : ((x.b.toNat : Nat) : Int) = x.b := by omega
    have hcost : ∀ T2 : Tree, (((Tree.loop x.a.toNat x.b T T2).cost : Nat) : Int) = 1 + x.b * ((T.cost + 1 : Nat) : Int) + (T2.cost : Int) := by
      intro T2
      rw [Tree.cost]
      push_cast
      rw [hto]
    generalize hst : addR (1 + x.b * ((T.cost + 1 : Nat) : Int)) (b, fr) = st2 at h
    generalize hi2 : i + 1 + T.len + 1 = i2 at h
    have hi3 : i2 = i + T.len + 2 := by omega
    cases h with
    | @fin _ b2 T2 hT2 =>
      cases fr with
      | cons f r => obtain ⟨p, s⟩ := f; cases hst
      | nil =>
        cases hst
        have := Par.fin (P := P) (n := n) (i := i) (b := b) (.loop x.a.toNat x.b T T2) ⟨hn, by omega, hb.1, hb.2, hT', hT2⟩
        rw [hcost, Tree.flat] at this
        rw [hi3]
        have e : x :: (T.flat (i + 1) ++ ⟨2, x.a, ((i + 1 : Nat) : Int)⟩ :: (T2.flat (i + T.len + 2) ++ [⟨0, 0, 0⟩])) = (⟨1, (x.a.toNat : Nat), x.b⟩ :: (T.flat (i + 1) ++ ⟨2, (x.a.toNat : Nat), ((i + 1 : Nat) : Int)⟩ :: T2.flat (i + T.len + 2))) ++ [⟨0, 0, 0⟩] := by
          rw [List.cons_append, List.append_assoc, List.cons_append, ← hx, show ((x.a.toNat : Nat) : Int) = x.a by omega]
        rw [e, show b + (1 + x.b * ((T.cost + 1 : Nat) : Int)) + (T2.cost : Int) + 1 = b + (1 + x.b * ((T.cost + 1 : Nat) : Int) + (T2.cost : Int)) + 1 by omega]
        exact this
    | @lev _ p2 b2 s2 r2 L2 _ T2 hT2 h =>
      cases fr with
      | nil => cases hst
      | cons f r =>
        obtain ⟨p, s⟩ := f
        cases hst
        have := Par.lev (P := P) (n := n) (i := i) (b := b) (p := p2) (s := s) (r := r2) (L := L2) (S := S) (.loop x.a.toNat x.b T T2) ⟨hn, by omega, hb.1, hb.2, hT', hT2⟩ (by
          rw [hcost, Tree.len, show i + (T.len + 2 + T2.len) + 1 = i2 + T2.len + 1 by omega, show s + (1 + x.b * ((T.cost + 1 : Nat) : Int) + (T2.cost : Int)) + 1 = s + (1 + x.b * ((T.cost + 1 : Nat) : Int)) + (T2.cost : Int) + 1 by omega]
          exact h)
        rw [Tree.flat] at this
        rw [hi3]
        have e : x :: (T.flat (i + 1) ++ ⟨2, x.a, ((i + 1 : Nat) : Int)⟩ :: (T2.flat (i + T.len + 2) ++ ⟨2, (opP P p2).a, ((p2 + 1 : Nat) : Int)⟩ :: L2)) = (⟨1, (x.a.toNat : Nat), x.b⟩ :: (T.flat (i + 1) ++ ⟨2, (x.a.toNat : Nat), ((i + 1 : Nat) : Int)⟩ :: T2.flat (i + T.len + 2))) ++ ⟨2, (opP P p2).a, ((p2 + 1 : Nat) : Int)⟩ :: L2 := by
          rw [List.cons_append, List.append_assoc, List.cons_append, ← hx, show ((x.a.toNat : Nat) : Int) = x.a by omega]
        rw [e]
        exact this

/-- the walk, with sums as they are -/
def cstepR (P : GProg) (i : Nat) (x : GOp) (st : CSt) : CSt :=
  if x.kind = 1 then (st.1, (i, 0) :: st.2)
  else if x.kind = 2 then (match st.2 with | [] => st | (p, s) :: r => addR (1 + (opP P p).b * (s + 1)) (st.1, r))
  else addR 1 st
def lastErr (P : GProg) : Int := if P.ops.length = 0 ∨ (opP P (P.ops.length - 1)).kind ≠ 0 then 200 else 0
def cwalkR (P : GProg) : List GOp → Nat → CSt → Int × Int
  | [], _, st => (st.1, lastErr P)
  | x :: r, i, st => if !soundOp P i x then (0, 200) else if cstepE P x st ≠ 0 then (0, cstepE P x st) else cwalkR P r (i + 1) (cstepR P i x st)
/-- what is told of it -/
def capE (r : Int × Int) : Int × Int := if r.2 ≠ 0 then (0, r.2) else if 131072 < r.1 then (0, 5) else r
def capSt (st : CSt) : CSt := (capI st.1, st.2.map fun f => (f.1, capI f.2))
theorem capI_eq (n : Int) : capI n = min n 131073 := by unfold capI; split <;> omega
theorem addS_cap {P : GProg} {n : Nat} {st : CSt} (h : NN P n st) {k k' : Int} (hk : k = k' ∨ (131073 ≤ k ∧ 131073 ≤ k')) (h0 : 0 ≤ k) : addS k (capSt st) = capSt (addR k' st) := by
  have ht := h.top
  obtain ⟨b, fr⟩ := st
  cases fr with
  | nil =>
    show ((capI (capI b + k), []) : CSt) = (capI (b + k'), [])
    congr 1
    have : 0 ≤ b := ht
    rw [capI_eq, capI_eq, capI_eq]
    omega
  | cons f r =>
    obtain ⟨p, s⟩ := f
    show ((capI b, (p, capI (capI s + k)) :: r.map _) : CSt) = (capI b, (p, capI (s + k')) :: r.map _)
    have e : capI (capI s + k) = capI (s + k') := by
      have : 0 ≤ s := ht
      rw [capI_eq, capI_eq, capI_eq]
      omega
    rw [e]
theorem allP_cap {t s : Int} (ht : 1 ≤ t) (hs : 0 ≤ s) : allP t (capI s + 1) = 1 + t * (s + 1) ∨ (131073 ≤ allP t (capI s + 1) ∧ 131073 ≤ 1 + t * (s + 1)) := by
  have h3 := loop_nn ht (show 0 ≤ s + 1 by omega)
  unfold allP
  by_cases h : capI s + 1 ≤ 131072 / t
  · have h1 : t * (131072 / t) ≤ 131072 := Int.mul_ediv_self_le (by omega)
    have h2 := loop_nn ht (show 0 ≤ 131072 / t from Int.ediv_nonneg (by omega) (by omega))
    have e : capI s = s := by rw [capI_eq] at h ⊢; omega
    rw [e] at h ⊢
    rw [if_pos h]
    exact .inl rfl
  · rw [if_neg h]
    refine .inr ⟨Int.le_refl _, ?_⟩
    by_cases hb : s ≤ 131072
    · have e : capI s = s := by rw [capI_eq]; omega
      rw [e] at h
      have h4 : ¬ t * (s + 1) ≤ 131072 := fun h5 => h (by rw [Int.le_ediv_iff_mul_le (by omega), Int.mul_comm]; exact h5)
      omega
    · omega
theorem any_cap (P : GProg) (a : Int) (r : List (Nat × Int)) : (r.map fun f => (f.1, capI f.2)).any (fun f => decide ((opP P f.1).a = a)) = r.any (fun f => decide ((opP P f.1).a = a)) := by
  rw [List.any_map]
  rfl
theorem cstepE_cap (P : GProg) (x : GOp) (st : CSt) : cstepE P x (capSt st) = cstepE P x st := by
  obtain ⟨b, fr⟩ := st
  unfold cstepE capSt
  simp only [any_cap]
  cases fr with
  | nil => rfl
  | cons f r => simp
theorem head_frame {P : GProg} {n i : Nat} {x : GOp} (hc : (n : Int) = P.counters) (ho : opP P i = x) (h1 : x.kind = 1) (hs : soundOp P i x = true) : 1 ≤ (opP P i).b ∧ (opP P i).b ≤ 2048 ∧ 0 ≤ (opP P i).a ∧ (opP P i).a < n := by
  unfold soundOp at hs
  rw [if_neg (by omega)] at hs
  simp only [Bool.and_eq_true, decide_eq_true_eq] at hs
  obtain ⟨⟨⟨s1, s2⟩, s3⟩, s4⟩ := hs
  simp only [limP, h1] at s2 s3 s4
  simp at s2 s3 s4
  rw [ho]
  omega
theorem cstepR_nn {P : GProg} {n i : Nat} {x : GOp} {st : CSt} (hc : (n : Int) = P.counters) (ho : opP P i = x) (hs : soundOp P i x = true) (h : NN P n st) : NN P n (cstepR P i x st) := by
  unfold cstepR
  by_cases h1 : x.kind = 1
  · rw [if_pos h1]
    refine ⟨h.bot, fun f hf => ?_⟩
    rcases List.mem_cons.1 hf with rfl | hf
    · exact ⟨Int.le_refl _, head_frame hc ho h1 hs⟩
    · exact h.fr f hf
  rw [if_neg h1]
  by_cases h2 : x.kind = 2
  · rw [if_pos h2]
    obtain ⟨b, fr⟩ := st
    cases fr with
    | nil => exact h
    | cons f r =>
      obtain ⟨p, s⟩ := f
      have hf := h.fr (p, s) List.mem_cons_self
      simp only at hf
      have := loop_nn hf.2.1 (show 0 ≤ s + 1 by omega)
      exact h.pop.addR (by omega)
  rw [if_neg h2]
  exact h.addR (by omega)
theorem cstepS_cap {P : GProg} {n i : Nat} {x : GOp} {st : CSt} (h : NN P n st) : cstepS P i x (capSt st) = capSt (cstepR P i x st) := by
  unfold cstepS cstepR
  by_cases h1 : x.kind = 1
  · rw [if_pos h1, if_pos h1]
    rfl
  rw [if_neg h1, if_neg h1]
  by_cases h2 : x.kind = 2
  · rw [if_pos h2, if_pos h2]
    obtain ⟨b, fr⟩ := st
    cases fr with
    | nil => rfl
    | cons f r =>
      obtain ⟨p, s⟩ := f
      have hf := h.fr (p, s) List.mem_cons_self
      simp only at hf
      have hall := allP_ok hf.2.1 (show 0 ≤ capI s + 1 by rw [capI_eq]; omega)
      exact addS_cap h.pop (allP_cap hf.2.1 hf.1) hall.1
  rw [if_neg h2, if_neg h2]
  exact addS_cap h (.inl rfl) (by omega)
theorem cwalk_cap {P : GProg} {n : Nat} (hc : (n : Int) = P.counters) : ∀ (L : List GOp) (i : Nat) (st : CSt), P.ops.drop i = L → NN P n st → cwalkE P L i (capSt st) = capE (cwalkR P L i st)
  | [], i, st, _, hn => by
    rw [cwalkE, cwalkR, cendE, lastErr, capE]
    simp only
    by_cases hl : P.ops.length = 0 ∨ (opP P (P.ops.length - 1)).kind ≠ 0
    · rw [if_pos hl, if_pos hl, if_pos (by decide)]
    · rw [if_neg hl, if_neg hl, if_neg (show ¬ (0 : Int) ≠ 0 by decide)]
      have hb := hn.bot
      have hcb : (capSt st).1 = min st.1 131073 := capI_eq _
      rw [hcb]
      by_cases hm : 131072 < st.1
      · rw [if_pos (by omega), if_pos hm]
      · rw [if_neg (by omega), if_neg hm]
        congr 1
        omega
  | x :: r, i, st, hd, hn => by
    obtain ⟨d1, d2, d3⟩ := drop_here hd
    have ho : opP P i = x := by unfold opP; rw [d2]; rfl
    rw [cwalkE, cwalkR, cstepE_cap]
    by_cases hs : soundOp P i x = true
    · rw [hs]
      simp only [Bool.not_true, Bool.false_eq_true, if_false]
      by_cases he : cstepE P x st = 0
      · rw [if_neg (by simp [he]), if_neg (by simp [he]), cstepS_cap hn]
        exact cwalk_cap hc r (i + 1) _ d3 (cstepR_nn hc ho hs hn)
      · rw [if_pos he, if_pos he, capE, if_pos he]
    · simp [hs, capE]

theorem parse {P : GProg} {n : Nat} (hc : (n : Int) = P.counters) : ∀ (L : List GOp) (i : Nat) (st : CSt) {S : Int}, cwalkR P L i st = (S, 0) → P.ops.drop i = L → L ≠ [] → NN P n st → Par P n L i st S
  | [], i, st, S, _, _, h, _ => absurd rfl h
  | x :: r, i, st, S, h, hd, _, hn => by
    obtain ⟨d1, d2, d3⟩ := drop_here hd
    have ho : opP P i = x := by unfold opP; rw [d2]; rfl
    rw [cwalkR] at h
    by_cases hs : soundOp P i x = true
    · rw [hs] at h
      simp only [Bool.not_true, Bool.false_eq_true, if_false] at h
      by_cases he : cstepE P x st = 0
      · rw [if_neg (by simp [he])] at h
        have hn2 := cstepR_nn (st := st) hc ho hs hn
        have hlast : r = [] → x.kind ≠ 0 → False := by
          intro h1 h2
          have h3 : i + 1 = P.ops.length := by
            have := congrArg List.length d3
            rw [h1, List.length_drop, List.length_nil] at this
            omega
          subst h1
          rw [cwalkR, lastErr, if_pos (.inr (by rw [← h3, Nat.add_sub_cancel, ho]; exact h2))] at h
          simp at h
        by_cases k0 : x.kind = 0
        · -- the end
          unfold soundOp at hs
          rw [if_pos k0] at hs
          simp only [Bool.and_eq_true, decide_eq_true_eq] at hs
          obtain ⟨⟨h1, h2⟩, h3⟩ := hs
          have hr : r = [] := by
            rw [← d3, h3]
            exact List.drop_length
          have hx : x = ⟨0, 0, 0⟩ := by
            obtain ⟨a, b, c⟩ := x
            simp only at k0 h1 h2
            rw [k0, h1, h2]
          unfold cstepE at he
          rw [if_neg (by omega), if_neg (by omega), if_pos k0] at he
          have hf : st.2 = [] := by
            by_cases hf : st.2 = []
            · exact hf
            · rw [if_neg hf] at he; omega
          obtain ⟨b, fr⟩ := st
          simp only at hf
          subst hf hr hx
          have hb2 : b + 1 = S := congrArg Prod.fst h
          have := Par.fin (P := P) (n := n) (i := i) (b := b) .nil trivial
          rw [show b + ((Tree.nil.cost : Nat) : Int) + 1 = S by rw [Tree.cost]; omega] at this
          exact this
        · have hr : r ≠ [] := fun e => hlast e k0
          by_cases k1 : x.kind = 1
          · have hfr := head_frame hc ho k1 hs
            rw [ho] at hfr
            have e1 : cstepR P i x st = (st.1, (i, 0) :: st.2) := by unfold cstepR; rw [if_pos k1]
            rw [e1] at h hn2
            unfold cstepE at he
            rw [if_pos k1] at he
            have hno : ∀ f ∈ st.2, (opP P f.1).a ≠ x.a := by
              intro f hf e
              rw [if_pos (List.any_eq_true.2 ⟨f, hf, by simp [e]⟩)] at he
              omega
            obtain ⟨b, fr⟩ := st
            refine par_head k1 ho ⟨hfr.2.2.1, hfr.2.2.2⟩ ⟨hfr.1, hfr.2.1⟩ ?_ (parse hc r (i + 1) _ h d3 hr hn2)
            intro hm
            obtain ⟨f, hf, e⟩ := List.mem_map.1 hm
            have h1 := hn.fr f hf
            exact hno f hf (by omega)
          · by_cases k2 : x.kind = 2
            · obtain ⟨b, fr⟩ := st
              unfold cstepE at he
              rw [if_neg k1, if_pos k2] at he
              cases fr with
              | nil => simp at he
              | cons f r2 =>
                obtain ⟨p, s⟩ := f
                simp only at he
                have he2 : (opP P p).a = x.a ∧ x.b = p + 1 := by
                  by_cases h1 : (opP P p).a ≠ x.a ∨ x.b ≠ p + 1
                  · rw [if_pos h1] at he; omega
                  · constructor <;> · apply Classical.byContradiction; intro hne; exact h1 (by first | exact .inl hne | exact .inr hne)
                have hx : x = ⟨2, (opP P p).a, ((p + 1 : Nat) : Int)⟩ := by
                  obtain ⟨a, b', c⟩ := x
                  simp only at k2 he2
                  rw [k2, he2.1, he2.2]
                  rfl
                have e1 : cstepR P i x (b, (p, s) :: r2) = addR (1 + (opP P p).b * (s + 1)) (b, r2) := by unfold cstepR; rw [if_neg k1, if_pos k2]
                rw [e1] at h hn2
                have h2 := parse hc r (i + 1) _ h d3 hr hn2
                rw [hx]
                have := Par.lev (P := P) (n := n) (i := i) (b := b) (p := p) (s := s) (r := r2) (L := r) (S := S) .nil trivial (by
                  rw [Tree.len, Tree.cost, show s + ((0 : Nat) : Int) + 1 = s + 1 by omega]
                  exact h2)
                exact this
            · have e1 : cstepR P i x st = addR 1 st := by unfold cstepR; rw [if_neg k1, if_neg k2]
              rw [e1] at h hn2
              exact par_op ⟨k0, k1, k2⟩ (parse hc r (i + 1) _ h d3 hr hn2)
      · rw [if_pos he] at h
        simp at h
        exact absurd h.2 he
    · simp [hs] at h
/-- a text whose loops close, as loops -/
theorem text_tree {P : GProg} (hc : 0 ≤ P.counters) {S : Int} (h : cwalkR P P.ops 0 (0, []) = (S, 0)) : ∃ T : Tree, T.ok P.counters.toNat [] ∧ P.ops = T.flat 0 ++ [⟨0, 0, 0⟩] ∧ S = T.cost + 1 := by
  have hne : P.ops ≠ [] := by
    intro e
    rw [e, cwalkR, lastErr, if_pos (.inl (by rw [e]; rfl))] at h
    simp at h
  have hp := parse (P := P) (n := P.counters.toNat) (by omega) P.ops 0 (0, []) h rfl hne ⟨Int.le_refl _, fun f hf => by cases hf⟩
  generalize hL : P.ops = L at hp
  generalize hst : ((0, []) : CSt) = st at hp
  cases hp with
  | lev T hT h => cases hst
  | fin T hT =>
    cases hst
    exact ⟨T, hT, rfl, by omega⟩
theorem cwalk_is {P : GProg} (hc : 0 ≤ P.counters) : cwalkE P P.ops 0 (0, []) = capE (cwalkR P P.ops 0 (0, [])) := by
  have := cwalk_cap (P := P) (n := P.counters.toNat) (by omega) P.ops 0 (0, []) rfl ⟨Int.le_refl _, fun f hf => by cases hf⟩
  exact this
/-- a program that passes, as loops -/
theorem prog_tree {P : GProg} {S : Int} (h : cstepsE P = (S, 0)) : ∃ T : Tree, T.ok P.counters.toNat [] ∧ P.ops = T.flat 0 ++ [⟨0, 0, 0⟩] ∧ S = T.cost + 1 ∧ S ≤ 131072 := by
  unfold cstepsE at h
  split at h
  · rename_i hw
    simp only [Bool.and_eq_true, within_iff] at hw
    split at h
    · simp at h
    · split at h
      · rename_i h1; simp at h; exact absurd h.2 h1
      · split at h
        · rename_i h1; simp at h; exact absurd h.2 h1
        · rw [cwalk_is (by omega)] at h
          unfold capE at h
          split at h
          · rename_i h1; simp at h; exact absurd h.2 h1
          · split at h
            · simp at h
            · obtain ⟨T, h1, h2, h3⟩ := text_tree (by omega) h
              have h4 : (cwalkR P P.ops 0 (0, [])).1 = S := congrArg Prod.fst h
              exact ⟨T, h1, h2, h3, by omega⟩
  · simp at h
/-- a program that passes: S - 1 operations, then the end, and all counters are 0 again -/
theorem ctl_period {P : GProg} {S : Int} (h : cstepsE P = (S, 0)) : ∃ m : Nat, S = (m : Int) + 1 ∧ m + 1 ≤ 131072 ∧ ∃ e, CRuns P.ops P.counters.toNat (0, List.replicate P.counters.toNat 0) m (e, List.replicate P.counters.toNat 0) ∧ P.ops[e]? = some ⟨0, 0, 0⟩ ∧ e + 1 = P.ops.length := by
  obtain ⟨T, hT, hL, hS, hS2⟩ := prog_tree h
  have hd : P.ops.drop 0 = T.flat 0 ++ [⟨0, 0, 0⟩] := hL
  obtain ⟨cs', h1, h2, h3⟩ := run_tree T [] 0 [⟨0, 0, 0⟩] (List.replicate P.counters.toNat 0) hT hd ⟨List.length_replicate, fun x hx => by rw [List.eq_of_mem_replicate hx]; omega⟩
  have hcs : cs' = List.replicate P.counters.toNat 0 := by
    refine List.ext_getElem? fun j => ?_
    rcases h2.2 j with e | e
    · exact e
    · rw [e]
      have hj : j < cs'.length := by
        rcases Nat.lt_or_ge j cs'.length with hj | hj
        · exact hj
        · rw [List.getElem?_eq_none hj] at e; cases e
      rw [List.getElem?_replicate, if_pos (by rw [← h1.1]; exact hj)]
  have hlen : P.ops.length = T.len + 1 := by rw [hL, List.length_append, Tree.flat_len]; rfl
  refine ⟨T.cost, by omega, by omega, T.len, ?_, ?_, hlen.symm⟩
  · rw [hcs, Nat.zero_add] at h3
    exact h3
  · rw [hL, List.getElem?_append_right (by rw [Tree.flat_len]; exact Nat.le_refl _), Tree.flat_len, Nat.sub_self]
    rfl
end Go.Proofs.Ytnnnpippekpibaa

/- The machine, plainly: what an operation does; what a run is. No function in sight. -/
namespace Go.Proofs.Ytnnnpippekpibaa
open Go.RowKit

structure LineP where
  base : Nat
  size : Nat
  pos : Nat
  cnt : Nat
structure EvP where
  op : Int
  kind : Int
  line : Int
  cells : List Int
  halt : Int
structure MachP where
  mem : List Int
  lines : List LineP
  fed : List (List Int)
  out : List (List Int)
  bods : List (List Int × Int)
  cs : List Int
  hand : List Int
  next : Nat
  periods : Nat
  last : Option EvP

def lineAt (m : MachP) (k : Nat) : LineP := m.lines[k]?.getD ⟨0, 0, 0, 0⟩
def rowAt (l : List (List Int)) (k : Nat) : List Int := l[k]?.getD []
def partAt (P : GProg) (k : Nat) : GPart := P.parts[k]?.getD ⟨0, []⟩
def bodAt (m : MachP) (k : Nat) : List Int × Int := m.bods[k]?.getD ([], 0)
/-- the places of n tokens -/
def placesP (l : LineP) (dist n : Nat) : List Nat := (List.range n).map fun k => l.base + (l.pos + dist + k) % l.size
def layP : List Int → List Nat → List Int → List Int
  | mem, c :: cs, t :: ts => layP (mem.set c t) cs ts
  | mem, _, _ => mem
def gainP (mem : List Int) (l : List Nat) : List Int := l.map fun c => mem[c]?.getD 0
def castL (l : List Nat) : List Int := l.map fun c : Nat => (c : Int)
/-- how many tokens a part takes -/
def takesP (p : GPart) : Nat := (insP p.tag p.params).sum.toNat
def dealtP : List Int → List Int → List (List Int)
  | [], _ => []
  | r :: rs, l => l.take r.toNat :: dealtP rs (l.drop r.toNat)

/-- what an operation does, but for the counters and what is next: its halt, its cells -/
def takeX (x : GOp) (m : MachP) : Int × List Nat × MachP :=
  if (lineAt m x.a.toNat).cnt < x.b.toNat ∨ 64 < m.hand.length + x.b.toNat then (4, [], m)
  else (0, placesP (lineAt m x.a.toNat) 0 x.b.toNat, { m with
    hand := m.hand ++ gainP m.mem (placesP (lineAt m x.a.toNat) 0 x.b.toNat)
    lines := m.lines.set x.a.toNat { lineAt m x.a.toNat with pos := ((lineAt m x.a.toNat).pos + x.b.toNat) % (lineAt m x.a.toNat).size, cnt := (lineAt m x.a.toNat).cnt - x.b.toNat } })
def readX (x : GOp) (m : MachP) : Int × List Nat × MachP :=
  if 64 < m.hand.length + x.b.toNat then (4, [], m)
  else if (rowAt m.fed x.a.toNat).length < x.b.toNat then (2, [], m)
  else (0, [], { m with hand := m.hand ++ (rowAt m.fed x.a.toNat).take x.b.toNat, fed := m.fed.set x.a.toNat ((rowAt m.fed x.a.toNat).drop x.b.toNat) })
def callS (P : GProg) (x : GOp) (m : MachP) : Shot := shot (partAt P x.a.toNat).tag (partAt P x.a.toNat).params (bodAt m x.a.toNat).1 (bodAt m x.a.toNat).2 (dealtP (insP (partAt P x.a.toNat).tag (partAt P x.a.toNat).params) m.hand)
def callX (P : GProg) (x : GOp) (m : MachP) : Int × List Nat × MachP :=
  if m.hand.length ≠ takesP (partAt P x.a.toNat) then (4, [], m)
  else if (callS P x m).err ≠ 0 then (3, [], m)
  else (0, [], { m with hand := (callS P x m).outs.flatten, bods := m.bods.set x.a.toNat ((callS P x m).keep, (callS P x m).n) })
def giveX (x : GOp) (m : MachP) : Int × List Nat × MachP :=
  if m.hand.length < x.b.toNat ∨ (lineAt m x.a.toNat).size < (lineAt m x.a.toNat).cnt + x.b.toNat then (4, [], m)
  else (0, placesP (lineAt m x.a.toNat) (lineAt m x.a.toNat).cnt x.b.toNat, { m with
    mem := layP m.mem (placesP (lineAt m x.a.toNat) (lineAt m x.a.toNat).cnt x.b.toNat) (m.hand.take x.b.toNat)
    lines := m.lines.set x.a.toNat { lineAt m x.a.toNat with cnt := (lineAt m x.a.toNat).cnt + x.b.toNat }
    hand := m.hand.drop x.b.toNat })
def writeX (x : GOp) (m : MachP) : Int × List Nat × MachP :=
  if m.hand.length < x.b.toNat then (4, [], m)
  else (0, [], { m with out := m.out.set x.a.toNat (rowAt m.out x.a.toNat ++ m.hand.take x.b.toNat), hand := m.hand.drop x.b.toNat })
def endX (m : MachP) : Int × List Nat × MachP :=
  if 0 < m.hand.length then (4, [], m) else (1, [], { m with periods := m.periods + 1 })
def doesX (P : GProg) (x : GOp) (m : MachP) : Int × List Nat × MachP :=
  if x.kind = 0 then endX m
  else if x.kind = 3 then takeX x m
  else if x.kind = 4 then readX x m
  else if x.kind = 5 then callX P x m
  else if x.kind = 6 then giveX x m
  else if x.kind = 7 then writeX x m
  else (0, [], m)
/-- the counters, and what is next -/
def wayX (P : GProg) (m : MachP) : Nat × List Int := if (ctlOp P.ops m.next).kind = 0 then (0, m.cs) else ctlS P.ops (m.next, m.cs)
def evX (P : GProg) (m : MachP) (h : Int) (c : List Nat) : EvP := ⟨m.next, (ctlOp P.ops m.next).kind, if (ctlOp P.ops m.next).kind = 3 ∨ (ctlOp P.ops m.next).kind = 6 then (ctlOp P.ops m.next).a else -1, castL c, h⟩
def mstep (P : GProg) (m : MachP) : EvP × MachP :=
  match m.last with
  | some e => ({ e with cells := [] }, m)
  | none =>
    if (doesX P (ctlOp P.ops m.next) m).1 = 0 ∨ (doesX P (ctlOp P.ops m.next) m).1 = 1 then
      (evX P m (doesX P (ctlOp P.ops m.next) m).1 (doesX P (ctlOp P.ops m.next) m).2.1, { (doesX P (ctlOp P.ops m.next) m).2.2 with next := (wayX P m).1, cs := (wayX P m).2 })
    else if (doesX P (ctlOp P.ops m.next) m).1 = 2 then (evX P m 2 [], m)
    else (evX P m (doesX P (ctlOp P.ops m.next) m).1 [], { m with last := some (evX P m (doesX P (ctlOp P.ops m.next) m).1 []) })
/-- so many operations -/
def mrun (P : GProg) (to : Int) : Nat → MachP → Int × MachP
  | 0, m => (1, m)
  | f + 1, m => if (m.periods : Int) < to then (if (mstep P m).1.halt ≠ 0 ∧ (mstep P m).1.halt ≠ 1 then ((mstep P m).1.halt, (mstep P m).2) else mrun P to f (mstep P m).2) else (1, m)

/-- halts are few, and what did not go on changed nothing -/
theorem doesX_cases (P : GProg) (x : GOp) (m : MachP) : (doesX P x m).1 = 0 ∨ (doesX P x m).1 = 1 ∨ ((doesX P x m) = (2, [], m)) ∨ ((doesX P x m) = (3, [], m)) ∨ ((doesX P x m) = (4, [], m)) := by
  unfold doesX endX takeX readX callX giveX writeX
  repeat' split
  all_goals first | exact .inl rfl | exact .inr (.inl rfl) | exact .inr (.inr (.inl rfl)) | exact .inr (.inr (.inr (.inl rfl))) | exact .inr (.inr (.inr (.inr rfl)))
theorem doesX_end {P : GProg} {x : GOp} {m : MachP} : (doesX P x m).1 = 1 → x.kind = 0 ∧ (doesX P x m).2.2 = { m with periods := m.periods + 1 } := by
  unfold doesX endX takeX readX callX giveX writeX
  repeat' split
  all_goals first | (intro h; simp at h; done) | (intro _; exact ⟨by assumption, rfl⟩)
theorem doesX_going {P : GProg} {x : GOp} {m : MachP} : (doesX P x m).1 = 0 → x.kind ≠ 0 ∧ (doesX P x m).2.2.periods = m.periods ∧ (doesX P x m).2.2.cs = m.cs ∧ (doesX P x m).2.2.next = m.next ∧ (doesX P x m).2.2.last = m.last := by
  unfold doesX endX takeX readX callX giveX writeX
  repeat' split
  all_goals first | (intro h; simp at h; done) | (intro _; exact ⟨by assumption, rfl, rfl, rfl, rfl⟩)
end Go.Proofs.Ytnnnpippekpibaa
