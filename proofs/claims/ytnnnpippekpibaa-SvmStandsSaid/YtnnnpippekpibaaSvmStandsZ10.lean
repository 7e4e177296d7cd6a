/- The law 'pianola SvmStands' (said): for every input it returns true, and what it was handed reads as before. The frame: arguments opened, the walk called, arguments shut. -/
import Derived.Test.YtnnnpippekpibaaSvmStandsZ9
import Derived.Test.YtnnnpippekpibaaSvmStepsZ7
import Derived.Test.YtnnnpippekpibaaSvmStepsZ4
import Derived.Test.YtnnnpippekpibaaSvmStepsZ2
import Derived.Deep.Slices
import Derived.SizedLaws
import Derived.WalkKit
import Derived.ProofKit
import Derived.OpenShut
import Derived.ChangeOld
import Derived.Below
import Derived.Test.YtnnnpippekpibaaSvmStepsZ3
import Derived.Test.YtnnnpippekpibaaRows
import Derived.ShutString
/- The reference's loops: where it tells no error all operations may be. -/
namespace Go.Proofs.Ytnnnpippekpibaa
open Go.RowKit

def LoopsPRet (w : World) (P : GProg) (e : Ending) (w' : World) : Prop := ∃ x : Int, e = .returned (.int .i64 x) ∧ (x = 0 → AllSound P) ∧ Below w.heap.size w w'
theorem owns_later {w w' : World} {base e size n : Nat} {v : Value} {xs : List Value} (h : w.ownsRow base e size v n xs) (hb : Below w.heap.size w w') : w'.ownsRow base e size v n xs := owns_kept h (Mods.of_below hb (fun _ => False)) (fun _ _ h => h)
set_option maxRecDepth 100000 in
set_option maxHeartbeats 4000000 in
theorem r20loops_any (w : World) (v : Value) (P : GProg) (hv : HasProg w v P) (hz : Sized P) : Calls Try.prog 66 #[v] w (LoopsPRet w P) := by
  obtain ⟨vp, vl, vo, rfl, rp, rl, ro⟩ := hv
  obtain ⟨ap, cp, rfl⟩ := rp.slice
  obtain ⟨al, cl, rfl⟩ := rl.slice
  obtain ⟨ao, co, rfl⟩ := ro.slice
  have HV : Hid (HasProg w (.agg #[.int .i64 P.memory, .int .i64 P.counters, .int .i64 P.ins, .int .i64 P.outs, .slice ap P.parts.length cp, .slice al P.lines.length cl, .slice ao P.ops.length co]) P) := Lib.hid ⟨_, _, _, rfl, rp, rl, ro⟩
  have HRO := Lib.hid ro
  obtain ⟨i0, hi, hz0, hz1, hz2⟩ := info_parts info_int
  have HI := Lib.hid hi
  have hb1 := below_alloc w (.cells #[.int .i64 P.memory, .int .i64 P.counters, .int .i64 P.ins, .int .i64 P.outs, .slice ap P.parts.length cp, .slice al P.lines.length cl, .slice ao P.ops.length co] 30)
  have hX := heap_alloc_new w (.cells #[.int .i64 P.memory, .int .i64 P.counters, .int .i64 P.ins, .int .i64 P.outs, .slice ap P.parts.length cp, .slice al P.lines.length cl, .slice ao P.ops.length co] 30)
  have p0 := cells_row _ _ hX 0 _ rfl
  have p1 := cells_row _ _ hX 1 _ rfl
  have p2 := cells_row _ _ hX 2 _ rfl
  have p3 := cells_row _ _ hX 3 _ rfl
  have p4 := cells_row _ _ hX 4 _ rfl
  have p5 := cells_row _ _ hX 5 _ rfl
  have p6 := cells_row _ _ hX 6 _ rfl
  have HB := Lib.hid hb1
  have HX := Lib.hid hX
  have z9 := hz.ops
  have HZ := Lib.hid hz
  clear rp rl ro hX hz hb1 hi
  generalize hW : w.alloc (.cells #[.int .i64 P.memory, .int .i64 P.counters, .int .i64 P.ins, .int .i64 P.outs, .slice ap P.parts.length cp, .slice al P.lines.length cl, .slice ao P.ops.length co] 30) = W at *
  have hsW : W.heap.size = w.heap.size + 1 := by rw [← hW]; simp
  have HSW := Lib.hid hsW
  go_enter Try.func66, Try.ntmps66
  go_wp2_with fail
  clear p0 p1 p2 p3 p4 p5 p6 hW hsW
  obtain ⟨N, hN⟩ : ∃ x, P.ops.length = x := ⟨_, rfl⟩
  have HN := Lib.hid hN
  rw [hN] at z9 HX HV HRO
  clear hN
  go_loopw [3, 4] (fun v i wl => ∃ (j : Nat) (l : List Int), j ≤ N ∧ i = .int .i64 j ∧ Below W.heap.size W wl ∧ wl.ownsRow W.heap.size 3 1 v l.length (ivs l) ∧ (∀ x ∈ l, 0 ≤ x ∧ x < j) ∧ l.length ≤ j ∧ (∀ k (h : k < P.ops.length), k < j → soundOp P k P.ops[k] = true)) (fun _ i _ => N - (intOf i).toNat)
  case atStart => exact ⟨0, [], Nat.zero_le _, rfl, Below.refl _ _, World.ownsRow_nil _ _ _ _, (fun x h => by cases h), Nat.le_refl _, fun k _ h => by omega⟩
  case round =>
    obtain ⟨j, l, hj, rfl, hB, hO, hl, hll, hsd⟩ := hrel
    obtain ⟨sa, sc, rfl⟩ := owns_slice hO
    have HBW := Lib.hid hB
    have HBB := Lib.hid (HB.out.trans (HBW.out.mono (by have := HSW.out; omega)))
    have HO := Lib.hid hO
    have HL := Lib.hid hl
    have HS := Lib.hid hsd
    clear hB hO hl hsd
    have p6 := cell_later HBW.out (cells_row _ _ HX.out 6 _ rfl)
    by_cases hlt : j < N
    · have hlti : (j : Int) < N := by omega
      have hlt2 : j < P.ops.length := by have := HN.out; omega
      obtain ⟨hc9, _, bo, oo, rfl, o1, o2, o3⟩ := HasRow.opAt (HRO.out.below HBB.out) (List.getElem?_eq_getElem hlt2)
      have hcoi : (N : Int) ≤ co := by omega
      have HAL : Hid (∀ (w : World) (v : Value), HasProg w v P → Calls Try.prog 71 #[v, .int .i64 j] w (Tells (.bool (soundOp P j P.ops[j])) w)) := Lib.hid fun w v h => allowed_any w v P j h HZ.out hlt2
      have HSN : Hid (soundOp P j P.ops[j] = true → ∀ k (h : k < P.ops.length), k < j + 1 → soundOp P k P.ops[k] = true) := Lib.hid fun h k hk hkj => by
        by_cases e : k = j
        · subst e; exact h
        · exact HS.out k hk (by omega)
      obtain ⟨x, hx⟩ : ∃ x, P.ops[j] = x := ⟨_, rfl⟩
      rw [hx] at o1 o2 o3 HAL HSN
      obtain ⟨kd, xa, xb⟩ := x
      dsimp only at o1 o2 o3
      clear hx
      have p0 := cell_later HBW.out (cells_row _ _ HX.out 0 _ rfl)
      have p1 := cell_later HBW.out (cells_row _ _ HX.out 1 _ rfl)
      have p2 := cell_later HBW.out (cells_row _ _ HX.out 2 _ rfl)
      have p3 := cell_later HBW.out (cells_row _ _ HX.out 3 _ rfl)
      have p4 := cell_later HBW.out (cells_row _ _ HX.out 4 _ rfl)
      have p5 := cell_later HBW.out (cells_row _ _ HX.out 5 _ rfl)
      go_wp2_with fail
      clear p0 p1 p2 p3 p4 p5
      refine (HAL.out _ _ (HV.out.below HBB.out)).mono ?_
      rintro e w5 ⟨rfl, hb5⟩
      have o1 := cell_later hb5 o1
      have o2 := cell_later hb5 o2
      have o3 := cell_later hb5 o3
      have p6 := cell_later hb5 p6
      have HB5 := Lib.hid (HBW.out.trans (hb5.mono HBW.out.size))
      have HO5 := Lib.hid (owns_later HO.out hb5)
      have HBB5 := Lib.hid (HBB.out.trans (hb5.mono HBB.out.size))
      clear hb5 HAL HBW HO HBB
      obtain ⟨F, hF⟩ : ∃ x, soundOp P j ⟨kd, xa, xb⟩ = x := ⟨_, rfl⟩
      rw [hF] at HSN ⊢
      clear hF
      cases F with
      | false =>
        clear o1 o2 o3 p6
        go_wp2
        go_ret
        exact ⟨200, rfl, (fun h => by cases h), HBB5.out⟩
      | true =>
        replace HSN := Lib.hid (HSN.out rfl)
        have hbX := below_alloc w5 (.cells #[.int .u8 kd, .int .i64 xa, .int .i64 xb] 43)
        have hxn := heap_alloc_new w5 (.cells #[.int .u8 kd, .int .i64 xa, .int .i64 xb] 43)
        have x0 := cells_row _ _ hxn 0 _ rfl
        have x1 := cells_row _ _ hxn 1 _ rfl
        have x2 := cells_row _ _ hxn 2 _ rfl
        have p6x := cell_later hbX p6
        have HRX := Lib.hid (HRO.out.below (HBB5.out.trans (hbX.mono HBB5.out.size)))
        have HB1 := Lib.hid (HB5.out.trans (hbX.mono HB5.out.size))
        have HBB1 := Lib.hid (HBB5.out.trans (hbX.mono HBB5.out.size))
        have HO1 := Lib.hid (owns_later HO5.out hbX)
        have HOB := Lib.hid (fun k h => (HO5.out.lt k h).2)
        have HXN := Lib.hid hxn
        have HLI : Hid (∀ x ∈ l, 0 ≤ x ∧ x < ((j + 1 : Nat) : Int)) := Lib.hid fun x h => by have := HL.out x h; omega
        have HLL : Hid (l.length ≤ j + 1) := Lib.hid (by omega)
        clear hbX hxn HB5 HBB5 HO5
        obtain ⟨m, hm⟩ : ∃ x, l.length = x := ⟨_, rfl⟩
        have HM := Lib.hid hm
        by_cases k1 : kd = 1
        · subst k1
          rw [hm] at HO1 HOB hll ⊢
          clear hm
          go_wp2_with fail
          generalize w5.alloc (.cells #[.int .u8 1, .int .i64 xa, .int .i64 xb] 43) = wx at *
          clear o1 o2 o3 p6 x0 x2
          go_loopw [6] (fun i wl => ∃ (k : Nat), k ≤ m ∧ i = .int .i64 k ∧ Below wx.heap.size wx wl) (fun i _ => m - (intOf i).toNat)
          case atStart => exact ⟨0, Nat.zero_le _, rfl, Below.refl _ _⟩
          case round =>
            obtain ⟨k, hk, rfl, hbl⟩ := hrel
            have HBL := Lib.hid hbl
            have x1' := cell_later hbl x1
            have p6' := cell_later hbl p6x
            by_cases hkm : k < m
            · have hkmi : (k : Int) < m := by omega
              obtain ⟨g, cap, eg, hgc, -⟩ := Own.addr (o := fun _ => 0) (c := 0) (⟨owns_base HO1.out (fun _ _ => Nat.zero_le _), fun _ _ => rfl⟩ : Own wx (fun _ => 0) 0 3 1 (.slice sa m sc) m (ivs l)) (by omega)
              injection eg with e1 e2 e3
              subst e1 e3
              have hmci : (m : Int) ≤ sc := by omega
              have hkl : k < l.length := by have := HM.out; omega
              have f1 := HO1.out.cells (g := g) rfl k (.int .i64 l[k]) (by simp [ivs, hkl])
              rw [Addr.add_lit, Nat.zero_add] at f1
              have hlk := HL.out l[k] (List.getElem_mem hkl)
              obtain ⟨q, hq⟩ : ∃ q : Nat, l[k] = (q : Int) := ⟨l[k].toNat, by omega⟩
              rw [hq] at f1 hlk
              have hql : q < P.ops.length := by omega
              have hqn : (q : Int) < N := by omega
              obtain ⟨_, _, bo', oo', eb, _, q2, _⟩ := HasRow.opAt HRX.out (List.getElem?_eq_getElem hql)
              cases eb
              obtain ⟨oa, hoa⟩ : ∃ x, P.ops[q].a = x := ⟨_, rfl⟩
              rw [hoa] at q2
              have f1' := cell_later hbl f1
              have q2' := cell_later hbl q2
              have HBL2 := Lib.hid (below_dr (n := 1) hbl)
              clear f1 q2 hoa hq hbl
              go_wp2_with fail
              refine wp_region_lex (fun w' => w'.cell? ⟨w.heap.size, 6, none⟩ = some (.slice (some ⟨bo, oo, none⟩) N co) ∧ w'.cell? ⟨g, k, none⟩ = some (.int .i64 q) ∧ w'.cell? ⟨bo, oo + q * 3 + 1, none⟩ = some (.int .i64 oa) ∧ w'.cell? ⟨w5.heap.size, 1, none⟩ = some (.int .i64 xa)) [0, 1, 2, 3, 4, 5, 6, 7, 8, 9, 10, 11] [] (by kernel_rfl) (by kernel_rfl) rfl (fun _ _ hx h => ⟨hx.cell h.1, hx.cell h.2.1, hx.cell h.2.2.1, hx.cell h.2.2.2⟩) ⟨p6', f1', q2', x1'⟩ ?_
              intro Q' hQ'
              simp only [pickOps, List.flatMap_cons, List.flatMap_nil, List.drop_succ_cons, List.drop_zero, List.take_succ_cons, List.take_zero, List.cons_append, List.nil_append, List.append_nil]
              by_cases hEq : oa = xa
              · have hEqb : (oa == xa) = true := by rw [beq_iff_eq]; exact hEq
                clear hEq
                repeat (first
                  | (refine wpReads_skip (by rfl) ?_; (try simp only [Act.put, List.setIfInBounds_toArray, List.set_cons_zero, List.set_cons_succ]))
                  | (refine wpReads_cons ?_ (by rfl) (by rfl) ?_ ?_; rotate_left; (intro wz hz; (try dsimp only at hz); go_simp; try with_reducible rfl); (try simp only [Act.put, List.setIfInBounds_toArray, List.set_cons_zero, List.set_cons_succ]))
                  | (refine wpReads_any ?_ (by rfl) ?_ ?_; rotate_left; (intro wz; go_simp; try with_reducible rfl); (try simp only [Act.put, List.setIfInBounds_toArray, List.set_cons_zero, List.set_cons_succ])))
                refine wpReads_nil ?_
                go_wp2
                go_ret
                exact ⟨201, rfl, (fun h => by cases h), HBB1.out.trans (HBL2.out.mono HBB1.out.size)⟩
              · have hEqb : (oa == xa) = false := by rw [beq_eq_false_iff_ne]; exact hEq
                clear hEq
                repeat (first
                  | (refine wpReads_skip (by rfl) ?_; (try simp only [Act.put, List.setIfInBounds_toArray, List.set_cons_zero, List.set_cons_succ]))
                  | (refine wpReads_cons ?_ (by rfl) (by rfl) ?_ ?_; rotate_left; (intro wz hz; (try dsimp only at hz); go_simp; try with_reducible rfl); (try simp only [Act.put, List.setIfInBounds_toArray, List.set_cons_zero, List.set_cons_succ]))
                  | (refine wpReads_any ?_ (by rfl) ?_ ?_; rotate_left; (intro wz; go_simp; try with_reducible rfl); (try simp only [Act.put, List.setIfInBounds_toArray, List.set_cons_zero, List.set_cons_succ])))
                refine wpReads_nil ?_
                go_wp2
                go_roundw
                case rel => exact ⟨k + 1, hkm, by go_num, HBL2.out⟩
                case measure => simp [intOf]; omega
            · obtain rfl : k = m := by omega
              have HO9 := Lib.hid (owns_later HO1.out hbl)
              have HB9 := Lib.hid (HB1.out.trans (hbl.mono HB1.out.size))
              have hki : ¬ (k : Int) < k := by omega
              have HBL9 := Lib.hid hbl
              clear hbl
              go_wp2_with (at_builtin; refine stop_here ?_)
              refine go_on ?_
              refine wpList_app rfl _ _ 37 rfl W.heap.size 3 i0 _ 1 8 Try.underlying37 HI.out hz0 hz1 hz2 rfl (.slice sa k sc) k _ rfl (HO9.out.alloc _) (some ⟨wr.heap.size, 0, none⟩) 1 1 [.int .i64 j] rfl rfl (fun h => by cases h) (news_at (w := wr) (n := wr.heap.size) rfl [.int .i64 j] 3) (by simp [Value.oneCell']) (by unfold maxLen; omega) (grow_ok (by omega)) (by have := HB9.out.size; (try simp at this); simp; omega) ?_
              intro v7 w7 y1 y20 _ _
              have hb7 := HB9.out.trans (below_app HO9.out y20 HB9.out.size)
              have HB7 := Lib.hid hb7
              have K1 : Hid (w7.ownsRow W.heap.size 3 1 v7 (l ++ [(j : Int)]).length (ivs (l ++ [(j : Int)]))) := Lib.hid (by
                have e1 : (l ++ [(j : Int)]).length = k + 1 := by have := HM.out; simp; omega
                rw [e1]
                have e2 : ivs (l ++ [(j : Int)]) = ivs l ++ [.int .i64 (j : Int)] := by simp [ivs]
                rw [e2]; exact y1)
              have HLI2 : Hid (∀ x ∈ l ++ [(j : Int)], 0 ≤ x ∧ x < ((j + 1 : Nat) : Int)) := Lib.hid fun x h => by
                rcases List.mem_append.1 h with h | h
                · exact HLI.out x h
                · have : x = j := by simpa using h
                  omega
              have HLL2 : Hid ((l ++ [(j : Int)]).length ≤ j + 1) := Lib.hid (by have := HM.out; simp; omega)
              have x0' := cells_row _ _ (block_grown (block_alloc (block_mods HXN.out (Mods.of_below HBL9.out (fun _ => False)) (fun h => h)) _) y20 (fun e => by have := HOB.out _ e; omega)) 0 _ rfl
              clear y1 y20 hb7
              go_wp2
              go_roundw
              case rel => exact ⟨j + 1, l ++ [(j : Int)], hlt, by go_num, HB7.out, K1.out, HLI2.out, HLL2.out, HSN.out⟩
              case measure => simp [intOf]; omega
        have k1i : (kd == 1) = false := by rw [beq_eq_false_iff_ne]; exact k1
        rw [hm] at HO1 HOB hll ⊢
        clear hm
        by_cases k2 : kd = 2
        · subst k2
          by_cases hm0 : m = 0
          · have hmb : ((m : Int) == 0) = true := by rw [beq_iff_eq]; omega
            have HB9 := Lib.hid (below_dr (n := 1) HBB1.out)
            clear k1
            go_wp2_with fail
            generalize w5.alloc (.cells #[.int .u8 2, .int .i64 xa, .int .i64 xb] 43) = wx at *
            clear o1 o2 o3 p6 x0 x1 x2 p6x
            refine wp_region_lex (fun _ => True) [0, 1, 2, 3, 4, 5, 6, 7, 8, 9, 10, 11, 12, 13, 14, 15, 16, 17, 18, 19, 20, 21, 22, 23, 24, 25, 26, 27, 28, 29, 30] [] (by kernel_rfl) (by kernel_rfl) rfl (fun _ _ _ _ => trivial) trivial ?_
            intro Q' hQ'
            simp only [pickOps, List.flatMap_cons, List.flatMap_nil, List.drop_succ_cons, List.drop_zero, List.take_succ_cons, List.take_zero, List.cons_append, List.nil_append, List.append_nil]
            repeat (first
              | (refine wpReads_skip (by rfl) ?_; (try simp only [Act.put, List.setIfInBounds_toArray, List.set_cons_zero, List.set_cons_succ]))
              | (refine wpReads_cons ?_ (by rfl) (by rfl) ?_ ?_; rotate_left; (intro wz hz; (try dsimp only at hz); go_simp; try with_reducible rfl); (try simp only [Act.put, List.setIfInBounds_toArray, List.set_cons_zero, List.set_cons_succ]))
              | (refine wpReads_any ?_ (by rfl) ?_ ?_; rotate_left; (intro wz; go_simp; try with_reducible rfl); (try simp only [Act.put, List.setIfInBounds_toArray, List.set_cons_zero, List.set_cons_succ])))
            refine wpReads_nil ?_
            go_wp2
            go_ret
            exact ⟨201, rfl, (fun h => by cases h), HB9.out⟩
          · obtain ⟨M1, hM1⟩ : ∃ x, m = x + 1 := ⟨m - 1, by omega⟩
            obtain ⟨g, cap, eg, hgc, -⟩ := Own.addr (o := fun _ => 0) (c := 0) (⟨owns_base HO1.out (fun _ _ => Nat.zero_le _), fun _ _ => rfl⟩ : Own _ (fun _ => 0) 0 3 1 (.slice sa m sc) m (ivs l)) (by omega)
            injection eg with e1 e2 e3
            subst e1 e3
            have hM1l : M1 < l.length := by have := HM.out; omega
            have f1 := HO1.out.cells (g := g) rfl M1 (.int .i64 l[M1]) (by simp [ivs, hM1l])
            rw [Addr.add_lit, Nat.zero_add] at f1
            have hlk := HL.out l[M1] (List.getElem_mem hM1l)
            obtain ⟨q, hq⟩ : ∃ q : Nat, l[M1] = (q : Int) := ⟨l[M1].toNat, by omega⟩
            rw [hq] at f1 hlk
            have hql : q < P.ops.length := by omega
            have hqn : (q : Int) < N := by omega
            obtain ⟨_, _, bo', oo', eb, _, q2, _⟩ := HasRow.opAt HRX.out (List.getElem?_eq_getElem hql)
            cases eb
            obtain ⟨oa, hoa⟩ : ∃ x, P.ops[q].a = x := ⟨_, rfl⟩
            rw [hoa] at q2
            have hmb : ((m : Int) == 0) = false := by rw [beq_eq_false_iff_ne]; omega
            have hm1w : IntKind.i64.wrap ((m : Int) - 1) = (M1 : Int) := by rw [IntWalk.i64_in _ (by omega)]; omega
            have hM1m : (M1 : Int) < m := by omega
            have hmc2 : (m : Int) ≤ sc := by omega
            have hM1c : (M1 : Int) ≤ sc := by omega
            have hqw : IntKind.i64.wrap ((q : Int) + 1) = (q : Int) + 1 := IntWalk.i64_in _ (by omega)
            have HO9 : Hid (World.ownsRow _ W.heap.size 3 1 (.slice (some ⟨g, 0, none⟩) M1 sc) (l.take M1).length (ivs (l.take M1))) := Lib.hid (by
              have h1 := owns_shrink (m := M1) HO1.out (by omega) (by omega)
              rw [Nat.mul_one] at h1
              rw [List.length_take, Nat.min_eq_left (by omega)]
              simpa [ivs, List.map_take] using h1)
            have HLI9 : Hid (∀ x ∈ l.take M1, 0 ≤ x ∧ x < ((j + 1 : Nat) : Int)) := Lib.hid fun x h => HLI.out x (List.mem_of_mem_take h)
            have HLL9 : Hid ((l.take M1).length ≤ j + 1) := Lib.hid (by rw [List.length_take]; have := HLL.out; have := HM.out; omega)
            clear hoa hq k1 hm0 hM1
            go_wp2_with fail
            generalize w5.alloc (.cells #[.int .u8 2, .int .i64 xa, .int .i64 xb] 43) = wx at *
            have HB9 := Lib.hid (below_dr (n := 1) HBB1.out)
            have HB9W := Lib.hid (below_dr (n := 1) HB1.out)
            clear o1 o2 o3 p6
            refine wp_region_lex (fun w' => w'.cell? ⟨w.heap.size, 6, none⟩ = some (.slice (some ⟨bo, oo, none⟩) N co) ∧ w'.cell? ⟨g, M1, none⟩ = some (.int .i64 q) ∧ w'.cell? ⟨bo, oo + q * 3 + 1, none⟩ = some (.int .i64 oa) ∧ w'.cell? ⟨w5.heap.size, 1, none⟩ = some (.int .i64 xa) ∧ w'.cell? ⟨w5.heap.size, 2, none⟩ = some (.int .i64 xb)) [0, 1, 2, 3, 4, 5, 6, 7, 8, 9, 10, 11, 12, 13, 14, 15, 16, 17, 18, 19, 20, 21, 22, 23, 24, 25, 26, 27, 28, 29, 30] [] (by kernel_rfl) (by kernel_rfl) rfl (fun _ _ hx h => ⟨hx.cell h.1, hx.cell h.2.1, hx.cell h.2.2.1, hx.cell h.2.2.2.1, hx.cell h.2.2.2.2⟩) ⟨p6x, f1, q2, x1, x2⟩ ?_
            intro Q' hQ'
            simp only [pickOps, List.flatMap_cons, List.flatMap_nil, List.drop_succ_cons, List.drop_zero, List.take_succ_cons, List.take_zero, List.cons_append, List.nil_append, List.append_nil]
            by_cases hA : oa = xa
            · have hAb : (oa != xa) = false := by simp [hA]
              by_cases hBk : xb = (q : Int) + 1
              · have hBb : (xb != (q : Int) + 1) = false := by simp [hBk]
                clear hA hBk
                repeat (first
                  | (refine wpReads_skip (by rfl) ?_; (try simp only [Act.put, List.setIfInBounds_toArray, List.set_cons_zero, List.set_cons_succ]))
                  | (refine wpReads_cons ?_ (by rfl) (by rfl) ?_ ?_; rotate_left; (intro wz hz; (try dsimp only at hz); go_simp; try with_reducible rfl); (try simp only [Act.put, List.setIfInBounds_toArray, List.set_cons_zero, List.set_cons_succ]))
                  | (refine wpReads_any ?_ (by rfl) ?_ ?_; rotate_left; (intro wz; go_simp; try with_reducible rfl); (try simp only [Act.put, List.setIfInBounds_toArray, List.set_cons_zero, List.set_cons_succ])))
                refine wpReads_nil ?_
                go_wp2
                go_roundw
                case rel => exact ⟨j + 1, l.take M1, hlt, by go_num, HB9W.out, HO9.out, HLI9.out, HLL9.out, HSN.out⟩
                case measure => simp [intOf]; omega
              · have hBb : (xb != (q : Int) + 1) = true := by simpa using hBk
                clear hA hBk
                repeat (first
                  | (refine wpReads_skip (by rfl) ?_; (try simp only [Act.put, List.setIfInBounds_toArray, List.set_cons_zero, List.set_cons_succ]))
                  | (refine wpReads_cons ?_ (by rfl) (by rfl) ?_ ?_; rotate_left; (intro wz hz; (try dsimp only at hz); go_simp; try with_reducible rfl); (try simp only [Act.put, List.setIfInBounds_toArray, List.set_cons_zero, List.set_cons_succ]))
                  | (refine wpReads_any ?_ (by rfl) ?_ ?_; rotate_left; (intro wz; go_simp; try with_reducible rfl); (try simp only [Act.put, List.setIfInBounds_toArray, List.set_cons_zero, List.set_cons_succ])))
                refine wpReads_nil ?_
                go_wp2
                go_ret
                exact ⟨201, rfl, (fun h => by cases h), HB9.out⟩
            · have hAb : (oa != xa) = true := by simpa using hA
              clear hA
              repeat (first
                | (refine wpReads_skip (by rfl) ?_; (try simp only [Act.put, List.setIfInBounds_toArray, List.set_cons_zero, List.set_cons_succ]))
                | (refine wpReads_cons ?_ (by rfl) (by rfl) ?_ ?_; rotate_left; (intro wz hz; (try dsimp only at hz); go_simp; try with_reducible rfl); (try simp only [Act.put, List.setIfInBounds_toArray, List.set_cons_zero, List.set_cons_succ]))
                | (refine wpReads_any ?_ (by rfl) ?_ ?_; rotate_left; (intro wz; go_simp; try with_reducible rfl); (try simp only [Act.put, List.setIfInBounds_toArray, List.set_cons_zero, List.set_cons_succ])))
              refine wpReads_nil ?_
              go_wp2
              go_ret
              exact ⟨201, rfl, (fun h => by cases h), HB9.out⟩
        have k2i : (kd == 2) = false := by rw [beq_eq_false_iff_ne]; exact k2
        have HO2 : Hid (World.ownsRow _ W.heap.size 3 1 (.slice sa m sc) l.length (ivs l)) := Lib.hid (by rw [HM.out]; exact HO1.out)
        by_cases k0 : kd = 0
        · subst k0
          by_cases hm0 : m = 0
          · subst hm0
            clear k1 k2
            go_wp2
            go_roundw
            case rel => exact ⟨j + 1, l, hlt, by go_num, HB1.out, HO2.out, HLI.out, HLL.out, HSN.out⟩
            case measure => simp [intOf]; omega
          · have hmi : (0 : Int) < m := by omega
            clear k1 k2
            go_wp2
            go_ret
            exact ⟨201, rfl, (fun h => by cases h), HBB1.out⟩
        · have k0i : (kd == 0) = false := by rw [beq_eq_false_iff_ne]; exact k0
          clear k1 k2 k0
          go_wp2
          go_roundw
          case rel => exact ⟨j + 1, l, hlt, by go_num, HB1.out, HO2.out, HLI.out, HLL.out, HSN.out⟩
          case measure => simp [intOf]; omega
    · obtain rfl : j = N := by omega
      have hji : ¬ (j : Int) < j := by omega
      have HAS : Hid (AllSound P) := Lib.hid fun k hk => HS.out k hk (by have := HN.out; omega)
      by_cases hn0 : j = 0
      · have hnb : ((j : Int) == 0) = true := by rw [beq_iff_eq]; omega
        clear hlt hj
        go_wp2
        go_ret
        exact ⟨200, rfl, (fun h => by cases h), HBB.out⟩
      · have hnb : ((j : Int) == 0) = false := by rw [beq_eq_false_iff_ne]; omega
        obtain ⟨J, hJ⟩ : ∃ x, j = x + 1 := ⟨j - 1, by omega⟩
        have hlt2 : J < P.ops.length := by have := HN.out; omega
        obtain ⟨hc9, _, bo, oo, rfl, o1, o2, o3⟩ := HasRow.opAt (HRO.out.below HBB.out) (List.getElem?_eq_getElem hlt2)
        have hcoi : (j : Int) ≤ co := by omega
        have hjw : IntKind.i64.wrap ((j : Int) - 1) = (J : Int) := by rw [IntWalk.i64_in _ (by omega)]; omega
        have hJj : (J : Int) < j := by omega
        obtain ⟨kd, hkd⟩ : ∃ x, P.ops[J].kind = x := ⟨_, rfl⟩
        rw [hkd] at o1
        clear hkd o2 o3 hlt hj hn0
        by_cases k0 : kd = 0
        · have k0i : (kd != 0) = false := by simp [k0]
          clear k0
          go_wp2
          go_ret
          exact ⟨0, rfl, fun _ => HAS.out, HBB.out⟩
        · have k0i : (kd != 0) = true := by simpa using k0
          clear k0
          go_wp2
          go_ret
          exact ⟨200, rfl, (fun h => by cases h), HBB.out⟩
end Go.Proofs.Ytnnnpippekpibaa

/- The reference's Check, Steps; great: some answer. -/
namespace Go.Proofs.Ytnnnpippekpibaa
open Go.RowKit

def CheckPRet (w : World) (P : GProg) (e : Ending) (w' : World) : Prop := ∃ x : Int, e = .returned (.int .i64 x) ∧ (x = 0 → Sized P ∧ AllSound P) ∧ Below w.heap.size w w'
set_option maxRecDepth 100000 in
set_option maxHeartbeats 4000000 in
theorem r20check_any (w : World) (v : Value) (P : GProg) (hv : HasProg w v P) (hg : GreatP P) : Calls Try.prog 52 #[v] w (CheckPRet w P) := by
  obtain ⟨vp, vl, vo, rfl, rp, rl, ro⟩ := hv
  obtain ⟨ap, cp, rfl⟩ := rp.slice
  obtain ⟨al, cl, rfl⟩ := rl.slice
  obtain ⟨ao, co, rfl⟩ := ro.slice
  have HV : Hid (HasProg w (.agg #[.int .i64 P.memory, .int .i64 P.counters, .int .i64 P.ins, .int .i64 P.outs, .slice ap P.parts.length cp, .slice al P.lines.length cl, .slice ao P.ops.length co]) P) := Lib.hid ⟨_, _, _, rfl, rp, rl, ro⟩
  have HRP := Lib.hid rp
  have HRL := Lib.hid rl
  have hb1 := below_alloc w (.cells #[.int .i64 P.memory, .int .i64 P.counters, .int .i64 P.ins, .int .i64 P.outs, .slice ap P.parts.length cp, .slice al P.lines.length cl, .slice ao P.ops.length co] 30)
  have hX := heap_alloc_new w (.cells #[.int .i64 P.memory, .int .i64 P.counters, .int .i64 P.ins, .int .i64 P.outs, .slice ap P.parts.length cp, .slice al P.lines.length cl, .slice ao P.ops.length co] 30)
  have p0 := cells_row _ _ hX 0 _ rfl
  have p1 := cells_row _ _ hX 1 _ rfl
  have p2 := cells_row _ _ hX 2 _ rfl
  have p3 := cells_row _ _ hX 3 _ rfl
  have p4 := cells_row _ _ hX 4 _ rfl
  have p5 := cells_row _ _ hX 5 _ rfl
  have p6 := cells_row _ _ hX 6 _ rfl
  have HB := Lib.hid hb1
  have HX := Lib.hid hX
  have HG := Lib.hid hg
  have g1 := hg.parts
  have g2 := hg.lines
  have g3 := hg.ops
  clear rp rl ro hX hg hb1
  generalize hW : w.alloc (.cells #[.int .i64 P.memory, .int .i64 P.counters, .int .i64 P.ins, .int .i64 P.outs, .slice ap P.parts.length cp, .slice al P.lines.length cl, .slice ao P.ops.length co] 30) = W at *
  have hsW : W.heap.size = w.heap.size + 1 := by rw [← hW]; simp
  have HSW := Lib.hid hsW
  go_enter Try.func52, Try.ntmps52
  go_wp2_with fail
  clear p0 p1 p2 p3 p4 p5 p6 hW hsW
  refine (r20small_any _ _ P (HV.out.below HB.out)).mono ?_
  rintro e w2 ⟨x, rfl, hx, hb2⟩
  have HB2 := Lib.hid (HB.out.trans (hb2.mono HB.out.size))
  have HW2 := Lib.hid hb2
  clear hb2
  by_cases hx0 : x = 0
  · subst hx0
    have hz := hx rfl
    have HZ := Lib.hid hz
    have z1 := hz.parts
    have z2 := hz.lines
    clear hx hz
    have p4 := cell_later HW2.out (cells_row _ _ HX.out 4 _ rfl)
    go_wp2_with fail
    clear p4
    obtain ⟨n, hn⟩ : ∃ x, P.parts.length = x := ⟨_, rfl⟩
    have HN := Lib.hid hn
    obtain ⟨m, hm⟩ : ∃ x, P.lines.length = x := ⟨_, rfl⟩
    have HM := Lib.hid hm
    rw [hn, hm] at HX HV
    rw [hn] at g1 z1 HRP
    rw [hm] at g2 z2 HRL
    clear hn hm
    go_loopw [4] (fun i wl => ∃ (j : Nat), j ≤ n ∧ i = .int .i64 j ∧ Below W.heap.size W wl) (fun i _ => n - (intOf i).toNat)
    case atStart => exact ⟨0, Nat.zero_le _, rfl, HW2.out⟩
    case round =>
      obtain ⟨j, hj, rfl, hb⟩ := hrel
      have HBW := Lib.hid hb
      have HBB := Lib.hid (HB.out.trans (hb.mono (by have := HSW.out; omega)))
      have p4 := cell_later hb (cells_row _ _ HX.out 4 _ rfl)
      clear hb
      by_cases hlt : j < n
      · have hlti : (j : Int) < n := by omega
        have hlt2 : j < P.parts.length := by have := HN.out; omega
        obtain ⟨b0, off, rfl, hcap, hb0, hrec⟩ := HRP.out.at (by omega)
        obtain ⟨cs, hcs, hPR, hcl⟩ := hrec j hlt2
        obtain ⟨y, rfl, hst⟩ := hPR
        have c0 := cell_later HBB.out (hcl 0 (by omega))
        have c1 := cell_later HBB.out (hcl 1 (by omega))
        simp [partHd] at c0 c1
        have hcapi : (n : Int) ≤ cp := by have := HN.out; omega
        obtain ⟨sa, sc, hxs⟩ := Ints.slice hst
        subst hxs
        have HST := Lib.hid (hst.below HBB.out)
        clear hcl hcs hrec hst
        generalize P.parts[j] = a at *
        go_wp2_with fail
        refine wp_region_drift (fun w' => w'.cell? ⟨w.heap.size, 4, none⟩ = some (.slice (some ⟨b0, off, none⟩) n cp) ∧ w'.cell? ⟨b0, off + j * 2, none⟩ = some (.int .u8 a.tag) ∧ w'.cell? ⟨b0, off + j * 2 + 1, none⟩ = some (.slice sa a.params.length sc)) [0, 1, 2, 3, 4, 5, 6, 7, 8, 9, 10, 11, 13, 14, 15, 16] [] [0, 1, 2, 3, 4, 5, 6, 7, 8, 9, 10, 11] 8 (by kernel_rfl) (by kernel_rfl) rfl ⟨p4, c0, c1⟩ ?_
        intro Q' hQ' hQ2
        simp only [pickOps, List.flatMap_cons, List.flatMap_nil, List.drop_succ_cons, List.drop_zero, List.take_succ_cons, List.take_zero, List.cons_append, List.nil_append, List.append_nil]
        repeat (first
          | (refine wpReads_skip (by rfl) ?_; (try simp only [Act.put, List.setIfInBounds_toArray, List.set_cons_zero, List.set_cons_succ]))
          | (refine wpReads_cons ?_ (by rfl) (by rfl) ?_ ?_; rotate_left; (intro wz hz; (try dsimp only at hz); go_simp; try with_reducible rfl); (try simp only [Act.put, List.setIfInBounds_toArray, List.set_cons_zero, List.set_cons_succ]))
          | (refine wpReads_any ?_ (by rfl) ?_ ?_; rotate_left; (intro wz; go_simp; try with_reducible rfl); (try simp only [Act.put, List.setIfInBounds_toArray, List.set_cons_zero, List.set_cons_succ])))
        refine wpReads_nil ?_
        refine wpAnyT_one (i := 12) (by kernel_rfl) ?_
        simp only [pickOps, List.flatMap_cons, List.flatMap_nil, List.drop_succ_cons, List.drop_zero, List.take_succ_cons, List.take_zero, List.append_nil]
        go_wp2_with fail
        by_cases hgd : goodP a.tag a.params
        · refine (rof_ok _ a.tag sa _ sc a.params hgd (HST.out.drewN 1)).mono ?_
          rintro e w6 ⟨vti, vto, rfl, q1, q2, hb6⟩
          have hb6 : Below wr.heap.size wr w6 := below_ld (n := 1) hb6
          have HB6 := Lib.hid (HBW.out.trans (hb6.mono HBW.out.size))
          replace c0 := cell_later hb6 c0
          replace c1 := cell_later hb6 c1
          replace p4 := cell_later hb6 p4
          clear q1 q2 hb6
          go_wp2_with fail
          refine ⟨(fun h => by cases h), ?_⟩
          refine wpAnyT_later (r := [13, 14, 15, 16]) (n := 3) hQ2 (by kernel_rfl) ⟨p4, c0, c1⟩ ?_
          simp only [pickOps, List.flatMap_cons, List.flatMap_nil, List.drop_succ_cons, List.drop_zero, List.take_succ_cons, List.take_zero, List.cons_append, List.nil_append, List.append_nil]
          repeat (first
            | (refine wpReads_skip (by rfl) ?_; (try simp only [Act.put, List.setIfInBounds_toArray, List.set_cons_zero, List.set_cons_succ]))
            | (refine wpReads_cons ?_ (by rfl) (by rfl) ?_ ?_; rotate_left; (intro wz hz; (try dsimp only at hz); go_simp; try with_reducible rfl); (try simp only [Act.put, List.setIfInBounds_toArray, List.set_cons_zero, List.set_cons_succ]))
            | (refine wpReads_any ?_ (by rfl) ?_ ?_; rotate_left; (intro wz; go_simp; try with_reducible rfl); (try simp only [Act.put, List.setIfInBounds_toArray, List.set_cons_zero, List.set_cons_succ])))
          refine wpReads_nil ?_
          clear hQ2
          refine wpAnyT_list (ks := [17, 18, 19]) (fun _ _ hx h => ⟨hx.cell h.1, hx.cell h.2.1, hx.cell h.2.2⟩) (by kernel_rfl) ?_
          simp only [pickOps, List.flatMap_cons, List.flatMap_nil, List.drop_succ_cons, List.drop_zero, List.take_succ_cons, List.take_zero, List.cons_append, List.nil_append, List.append_nil]
          clear c0 c1 p4
          go_wp2
          go_roundw
          case rel => exact ⟨j + 1, hlt, by go_num, HB6.out⟩
          case measure => simp [intOf]; omega
        · have hne := errP_ne a.tag
          have hof := rof_no _ a.tag sa _ sc a.params hgd (HST.out.drewN 1)
          obtain ⟨er, her⟩ : ∃ x, errP a.tag = x := ⟨_, rfl⟩
          rw [her] at hne hof
          refine hof.mono ?_
          clear hof her
          rintro e w6 ⟨rfl, hb6⟩
          have hb6 : Below wr.heap.size wr w6 := below_ld (n := 1) hb6
          have HB6 := Lib.hid (HBB.out.trans (hb6.mono HBB.out.size))
          have heri : (er != 0) = true := by simpa using hne
          replace c0 := cell_later hb6 c0
          replace c1 := cell_later hb6 c1
          replace p4 := cell_later hb6 p4
          have HNE := Lib.hid hne
          clear hb6 hne
          go_wp2_with fail
          refine ⟨(fun h => by cases h), ?_⟩
          refine wpAnyT_later (r := [13, 14, 15, 16]) (n := 3) hQ2 (by kernel_rfl) ⟨p4, c0, c1⟩ ?_
          simp only [pickOps, List.flatMap_cons, List.flatMap_nil, List.drop_succ_cons, List.drop_zero, List.take_succ_cons, List.take_zero, List.cons_append, List.nil_append, List.append_nil]
          repeat (first
            | (refine wpReads_skip (by rfl) ?_; (try simp only [Act.put, List.setIfInBounds_toArray, List.set_cons_zero, List.set_cons_succ]))
            | (refine wpReads_cons ?_ (by rfl) (by rfl) ?_ ?_; rotate_left; (intro wz hz; (try dsimp only at hz); go_simp; try with_reducible rfl); (try simp only [Act.put, List.setIfInBounds_toArray, List.set_cons_zero, List.set_cons_succ]))
            | (refine wpReads_any ?_ (by rfl) ?_ ?_; rotate_left; (intro wz; go_simp; try with_reducible rfl); (try simp only [Act.put, List.setIfInBounds_toArray, List.set_cons_zero, List.set_cons_succ])))
          refine wpReads_nil ?_
          clear hQ2
          refine wpAnyT_list (ks := [17, 18, 19]) (fun _ _ hx h => ⟨hx.cell h.1, hx.cell h.2.1, hx.cell h.2.2⟩) (by kernel_rfl) ?_
          simp only [pickOps, List.flatMap_cons, List.flatMap_nil, List.drop_succ_cons, List.drop_zero, List.take_succ_cons, List.take_zero, List.cons_append, List.nil_append, List.append_nil]
          clear c0 c1 p4
          go_wp2
          go_ret
          exact ⟨er, rfl, fun h => absurd h HNE.out, HB6.out⟩
      · obtain rfl : j = n := by omega
        have hji : ¬ (j : Int) < j := by omega
        have p5 := cell_later HBW.out (cells_row _ _ HX.out 5 _ rfl)
        clear hlt hj
        go_wp2_with fail
        clear p4 p5 HW2 HB2
        go_loopw [8] (fun i wl => ∃ (k : Nat), k ≤ m ∧ i = .int .i64 k ∧ Below W.heap.size W wl) (fun i _ => m - (intOf i).toNat)
        case atStart => exact ⟨0, Nat.zero_le _, rfl, HBW.out⟩
        case round =>
          clear HBW HBB
          obtain ⟨k, hk, rfl, hb⟩ := hrel
          have HBW := Lib.hid hb
          have HBB := Lib.hid (HB.out.trans (hb.mono (by have := HSW.out; omega)))
          have p5 := cell_later hb (cells_row _ _ HX.out 5 _ rfl)
          have p0 := cell_later hb (cells_row _ _ HX.out 0 _ rfl)
          clear hb
          by_cases hlt : k < m
          · have hlti : (k : Int) < m := by omega
            have hlt2 : k < P.lines.length := by have := HM.out; omega
            obtain ⟨b0, off, rfl, hcap, hb0, hrec⟩ := HRL.out.at (by omega)
            obtain ⟨cs, hcs, hPR, hcl⟩ := hrec k hlt2
            obtain ⟨y, rfl, hst⟩ := hPR
            have c0 := cell_later HBB.out (hcl 0 (by omega))
            have c1 := cell_later HBB.out (hcl 1 (by omega))
            have c2 := cell_later HBB.out (hcl 2 (by omega))
            simp [lineHd] at c0 c1 c2
            have hcapi : (m : Int) ≤ cl := by have := HM.out; omega
            obtain ⟨sa, sc, hxs⟩ := Ints.slice hst
            subst hxs
            have hstl := HG.out.starts _ (List.getElem_mem hlt2)
            clear hcl hcs hrec hst
            generalize P.lines[k] = a at *
            have hbX := below_alloc wr (.cells #[.int .i64 a.base, .int .i64 a.size] 74)
            have hY := heap_alloc_new wr (.cells #[.int .i64 a.base, .int .i64 a.size] 74)
            have r0 := cells_row _ _ hY 0 _ rfl
            have r1 := cells_row _ _ hY 1 _ rfl
            have p0' := cell_later hbX p0
            have p5' := cell_later hbX p5
            have c2' := cell_later hbX c2
            have HB2 := Lib.hid (HBW.out.trans (hbX.mono HBW.out.size))
            have HB3 := Lib.hid (HBB.out.trans (hbX.mono HBB.out.size))
            clear hbX hY
            by_cases a1 : a.base < 0
            · go_wp2
              go_ret
              exact ⟨190, rfl, (fun h => by cases h), HB3.out⟩
            by_cases a2 : a.size < 0
            · go_wp2
              go_ret
              exact ⟨190, rfl, (fun h => by cases h), HB3.out⟩
            by_cases a3 : P.memory < a.base
            · go_wp2
              go_ret
              exact ⟨190, rfl, (fun h => by cases h), HB3.out⟩
            obtain ⟨dd, hdd⟩ : ∃ x, wrap64 (P.memory - a.base) = x := ⟨_, rfl⟩
            by_cases a4 : dd < a.size
            · go_wp2
              go_ret
              exact ⟨190, rfl, (fun h => by cases h), HB3.out⟩
            go_wp2_with fail
            have HB4 := Lib.hid (below_dr (n := 1) HB2.out)
            have HB5 := Lib.hid (below_dr (n := 1) HB3.out)
            refine wp_region_lex (fun w' => w'.cell? ⟨w.heap.size, 5, none⟩ = some (.slice (some ⟨b0, off, none⟩) m cl) ∧ w'.cell? ⟨b0, off + k * 3 + 2, none⟩ = some (.slice sa a.start.length sc) ∧ w'.cell? ⟨wr.heap.size, 1, none⟩ = some (.int .i64 a.size)) [0, 1, 2, 3, 4, 5, 6, 7, 8, 9] [] (by kernel_rfl) (by kernel_rfl) rfl (fun _ _ hx h => ⟨hx.cell h.1, hx.cell h.2.1, hx.cell h.2.2⟩) ⟨p5', c2', r1⟩ ?_
            intro Q' hQ'
            simp only [pickOps, List.flatMap_cons, List.flatMap_nil, List.drop_succ_cons, List.drop_zero, List.take_succ_cons, List.take_zero, List.cons_append, List.nil_append, List.append_nil]
            by_cases hst : a.size < a.start.length
            · have hsti : a.size < (a.start.length : Int) := hst
              repeat (first
                | (refine wpReads_skip (by rfl) ?_; (try simp only [Act.put, List.setIfInBounds_toArray, List.set_cons_zero, List.set_cons_succ]))
                | (refine wpReads_cons ?_ (by rfl) (by rfl) ?_ ?_; rotate_left; (intro wz hz; (try dsimp only at hz); go_simp; try with_reducible rfl); (try simp only [Act.put, List.setIfInBounds_toArray, List.set_cons_zero, List.set_cons_succ]))
                | (refine wpReads_any ?_ (by rfl) ?_ ?_; rotate_left; (intro wz; go_simp; try with_reducible rfl); (try simp only [Act.put, List.setIfInBounds_toArray, List.set_cons_zero, List.set_cons_succ])))
              refine wpReads_nil ?_
              go_wp2
              go_ret
              exact ⟨88, rfl, (fun h => by cases h), HB5.out⟩
            · have hsti : ¬ a.size < (a.start.length : Int) := hst
              repeat (first
                | (refine wpReads_skip (by rfl) ?_; (try simp only [Act.put, List.setIfInBounds_toArray, List.set_cons_zero, List.set_cons_succ]))
                | (refine wpReads_cons ?_ (by rfl) (by rfl) ?_ ?_; rotate_left; (intro wz hz; (try dsimp only at hz); go_simp; try with_reducible rfl); (try simp only [Act.put, List.setIfInBounds_toArray, List.set_cons_zero, List.set_cons_succ]))
                | (refine wpReads_any ?_ (by rfl) ?_ ?_; rotate_left; (intro wz; go_simp; try with_reducible rfl); (try simp only [Act.put, List.setIfInBounds_toArray, List.set_cons_zero, List.set_cons_succ])))
              refine wpReads_nil ?_
              go_wp2
              go_roundw
              case rel => exact ⟨k + 1, hlt, by go_num, HB4.out⟩
              case measure => simp [intOf]; omega
          · obtain rfl : k = m := by omega
            have hki : ¬ (k : Int) < k := by omega
            have p1 := cell_later HBW.out (cells_row _ _ HX.out 1 _ rfl)
            have p2 := cell_later HBW.out (cells_row _ _ HX.out 2 _ rfl)
            have p3 := cell_later HBW.out (cells_row _ _ HX.out 3 _ rfl)
            have p4 := cell_later HBW.out (cells_row _ _ HX.out 4 _ rfl)
            have p6 := cell_later HBW.out (cells_row _ _ HX.out 6 _ rfl)
            clear hlt hk
            go_wp2_with fail
            clear p0 p1 p2 p3 p4 p5 p6
            refine (r20loops_any _ _ P (HV.out.below HBB.out) HZ.out).mono ?_
            rintro e w7 ⟨x, rfl, hx, hb7⟩
            have HW7 := Lib.hid (HBW.out.trans (hb7.mono HBW.out.size))
            have HB7 := Lib.hid (HBB.out.trans (hb7.mono HBB.out.size))
            clear hb7
            by_cases hx0 : x = 0
            · subst hx0
              have HAS := Lib.hid (hx rfl)
              clear hx
              have p0 := cell_later HW7.out (cells_row _ _ HX.out 0 _ rfl)
              have p1 := cell_later HW7.out (cells_row _ _ HX.out 1 _ rfl)
              have p2 := cell_later HW7.out (cells_row _ _ HX.out 2 _ rfl)
              have p3 := cell_later HW7.out (cells_row _ _ HX.out 3 _ rfl)
              have p4 := cell_later HW7.out (cells_row _ _ HX.out 4 _ rfl)
              have p5 := cell_later HW7.out (cells_row _ _ HX.out 5 _ rfl)
              have p6 := cell_later HW7.out (cells_row _ _ HX.out 6 _ rfl)
              go_wp2_with fail
              clear p0 p1 p2 p3 p4 p5 p6
              refine (r20steps_any _ _ P (HV.out.below HB7.out) HZ.out HAS.out).mono ?_
              rintro e w8 ⟨y, rfl, hb8⟩
              have HB8 := Lib.hid (HB7.out.trans (hb8.mono HB7.out.size))
              clear hb8
              by_cases hy : 131072 < y
              · go_wp2
                go_ret
                exact ⟨5, rfl, (fun h => by cases h), HB8.out⟩
              · go_wp2
                go_ret
                exact ⟨0, rfl, fun _ => ⟨HZ.out, HAS.out⟩, HB8.out⟩
            · have hxi : (x != 0) = true := by simpa using hx0
              have HX0 := Lib.hid hx0
              clear hx hx0
              go_wp2
              go_ret
              exact ⟨x, rfl, fun h => absurd h HX0.out, HB7.out⟩
  · have hxi : (x != 0) = true := by simpa using hx0
    have HX0 := Lib.hid hx0
    clear hx hx0
    go_wp2
    go_ret
    exact ⟨x, rfl, fun h => absurd h HX0.out, HB2.out⟩
set_option maxRecDepth 100000 in
theorem r20Steps_any (w : World) (v : Value) (P : GProg) (hv : HasProg w v P) (hg : GreatP P) : Calls Try.prog 35 #[v] w fun e w' => ∃ n x : Int, e = .returned (.tuple #[.int .i64 n, .int .i64 x]) ∧ Below w.heap.size w w' := by
  obtain ⟨vp, vl, vo, rfl, rp, rl, ro⟩ := hv
  obtain ⟨ap, cp, rfl⟩ := rp.slice
  obtain ⟨al, cl, rfl⟩ := rl.slice
  obtain ⟨ao, co, rfl⟩ := ro.slice
  have HV : Hid (HasProg w (.agg #[.int .i64 P.memory, .int .i64 P.counters, .int .i64 P.ins, .int .i64 P.outs, .slice ap P.parts.length cp, .slice al P.lines.length cl, .slice ao P.ops.length co]) P) := Lib.hid ⟨_, _, _, rfl, rp, rl, ro⟩
  have hb1 := below_alloc w (.cells #[.int .i64 P.memory, .int .i64 P.counters, .int .i64 P.ins, .int .i64 P.outs, .slice ap P.parts.length cp, .slice al P.lines.length cl, .slice ao P.ops.length co] 30)
  have hX := heap_alloc_new w (.cells #[.int .i64 P.memory, .int .i64 P.counters, .int .i64 P.ins, .int .i64 P.outs, .slice ap P.parts.length cp, .slice al P.lines.length cl, .slice ao P.ops.length co] 30)
  have p0 := cells_row _ _ hX 0 _ rfl
  have p1 := cells_row _ _ hX 1 _ rfl
  have p2 := cells_row _ _ hX 2 _ rfl
  have p3 := cells_row _ _ hX 3 _ rfl
  have p4 := cells_row _ _ hX 4 _ rfl
  have p5 := cells_row _ _ hX 5 _ rfl
  have p6 := cells_row _ _ hX 6 _ rfl
  have HB := Lib.hid hb1
  have HX := Lib.hid hX
  have HG := Lib.hid hg
  clear rp rl ro hX hb1 hg
  generalize hW : w.alloc (.cells #[.int .i64 P.memory, .int .i64 P.counters, .int .i64 P.ins, .int .i64 P.outs, .slice ap P.parts.length cp, .slice al P.lines.length cl, .slice ao P.ops.length co] 30) = W at *
  go_enter Try.func35, Try.ntmps35
  go_wp2_with fail
  clear p0 p1 p2 p3 p4 p5 p6 hW
  refine (r20check_any _ _ P (HV.out.below HB.out) HG.out).mono ?_
  rintro e w2 ⟨x, rfl, hx, hb2⟩
  have HB2 := Lib.hid (HB.out.trans (hb2.mono HB.out.size))
  by_cases hx0 : x = 0
  · subst hx0
    obtain ⟨hz, has⟩ := hx rfl
    have p0 := cell_later hb2 (cells_row _ _ HX.out 0 _ rfl)
    have p1 := cell_later hb2 (cells_row _ _ HX.out 1 _ rfl)
    have p2 := cell_later hb2 (cells_row _ _ HX.out 2 _ rfl)
    have p3 := cell_later hb2 (cells_row _ _ HX.out 3 _ rfl)
    have p4 := cell_later hb2 (cells_row _ _ HX.out 4 _ rfl)
    have p5 := cell_later hb2 (cells_row _ _ HX.out 5 _ rfl)
    have p6 := cell_later hb2 (cells_row _ _ HX.out 6 _ rfl)
    have HZ := Lib.hid hz
    have HAS := Lib.hid has
    clear hx hb2 hz has
    go_wp2_with fail
    clear p0 p1 p2 p3 p4 p5 p6
    refine (r20steps_any _ _ P (HV.out.below HB2.out) HZ.out HAS.out).mono ?_
    rintro e w8 ⟨y, rfl, hb8⟩
    have HB8 := Lib.hid (HB2.out.trans (hb8.mono HB2.out.size))
    clear hb8
    go_wp2
    go_ret2
    exact ⟨y, 0, rfl, HB8.out⟩
  · have hxi : (x != 0) = true := by simpa using hx0
    clear hx hx0 hb2
    go_wp2
    go_ret2
    exact ⟨0, x, rfl, HB2.out⟩
def BoolRet (w : World) (e : Ending) (w' : World) : Prop := ∃ b : Bool, e = .returned (.bool b) ∧ Below w.heap.size w w'
set_option maxRecDepth 100000 in
theorem great_any (w : World) (v : Value) (P : GProg) (k : Int) (hv : HasProg w v P) (hg : GreatP P) : Calls Try.prog 15 #[v, .int .i64 k] w (BoolRet w) := by
  obtain ⟨vp, vl, vo, rfl, rp, rl, ro⟩ := hv
  obtain ⟨ap, cp, rfl⟩ := rp.slice
  obtain ⟨al, cl, rfl⟩ := rl.slice
  obtain ⟨ao, co, rfl⟩ := ro.slice
  have HV : Hid (HasProg w (.agg #[.int .i64 P.memory, .int .i64 P.counters, .int .i64 P.ins, .int .i64 P.outs, .slice ap P.parts.length cp, .slice al P.lines.length cl, .slice ao P.ops.length co]) P) := Lib.hid ⟨_, _, _, rfl, rp, rl, ro⟩
  have hb1 := below_alloc w (.cells #[.int .i64 P.memory, .int .i64 P.counters, .int .i64 P.ins, .int .i64 P.outs, .slice ap P.parts.length cp, .slice al P.lines.length cl, .slice ao P.ops.length co] 30)
  have hX := heap_alloc_new w (.cells #[.int .i64 P.memory, .int .i64 P.counters, .int .i64 P.ins, .int .i64 P.outs, .slice ap P.parts.length cp, .slice al P.lines.length cl, .slice ao P.ops.length co] 30)
  have p0 := cells_row _ _ hX 0 _ rfl
  have p1 := cells_row _ _ hX 1 _ rfl
  have p2 := cells_row _ _ hX 2 _ rfl
  have p3 := cells_row _ _ hX 3 _ rfl
  have p4 := cells_row _ _ hX 4 _ rfl
  have p5 := cells_row _ _ hX 5 _ rfl
  have p6 := cells_row _ _ hX 6 _ rfl
  have HB := Lib.hid hb1
  have HG := Lib.hid hg
  clear rp rl ro hX hb1 hg
  go_enter Try.func15, Try.ntmps15
  go_wp2_with fail
  clear p0 p1 p2 p3 p4 p5 p6
  refine (r20Steps_any _ _ P (HV.out.below HB.out) HG.out).mono ?_
  rintro e w2 ⟨n, x, rfl, hb2⟩
  have HB2 := Lib.hid (HB.out.trans (hb2.mono HB.out.size))
  clear hb2
  by_cases hx0 : x = 0
  · have hxi : (x == 0) = true := by simpa using hx0
    by_cases hk : 0 < k
    · obtain ⟨q, hq⟩ : ∃ q, wrap64 (Int.tdiv 262144 k) = q := ⟨_, rfl⟩
      have hk0 : ¬ k = 0 := by omega
      by_cases hn : q < n
      · go_wp2
        go_ret
        exact ⟨_, rfl, HB2.out⟩
      · go_wp2
        go_ret
        exact ⟨_, rfl, HB2.out⟩
    · clear hx0
      go_wp2
      go_ret
      exact ⟨_, rfl, HB2.out⟩
  · have hxi : (x == 0) = false := by simpa using hx0
    clear hx0
    go_wp2
    go_ret
    exact ⟨_, rfl, HB2.out⟩
end Go.Proofs.Ytnnnpippekpibaa

/- SvmStands, walked. -/
namespace Go.Proofs.Ytnnnpippekpibaa
open Go.RowKit
set_option maxRecDepth 100000 in
set_option maxHeartbeats 8000000 in
theorem stands_all {om : Col} {cm : Nat} (w : World) (vp : Value) (P : GProg) (vi : Value) (xss : List (List Int)) (vm : Value) (mo : List Int) (hp : HasProg w vp P) (hg : GreatP P) (hpf : PFits P) (hsf : SFits P) (hL : LL w vi xss) (hx : ∀ x ∈ xss, x.length ≤ 17600000000000) (hxf : ∀ x ∈ xss, ∀ z ∈ x, Fits z) (hxl : xss.length ≤ 17600000000000)
    (hmo : Ints w om cm vm mo) (hml : mo.length ≤ 17600000000000) (hmf : ∀ z ∈ mo, Fits z) : Calls Try.prog 6 #[vp, vi, vm] w (Tells (.bool true) w) := by
  obtain ⟨vpp, vl, vo, rfl, rp, rl, ro⟩ := hp
  obtain ⟨ap, cp, rfl⟩ := rp.slice
  obtain ⟨al, cl, rfl⟩ := rl.slice
  obtain ⟨ao, co, rfl⟩ := ro.slice
  have HV : Hid (HasProg w (.agg #[.int .i64 P.memory, .int .i64 P.counters, .int .i64 P.ins, .int .i64 P.outs, .slice ap P.parts.length cp, .slice al P.lines.length cl, .slice ao P.ops.length co]) P) := Lib.hid ⟨_, _, _, rfl, rp, rl, ro⟩
  have hb1 := below_alloc w (.cells #[.int .i64 P.memory, .int .i64 P.counters, .int .i64 P.ins, .int .i64 P.outs, .slice ap P.parts.length cp, .slice al P.lines.length cl, .slice ao P.ops.length co] 30)
  have K1 := (Kept.start w).turn (Turn.of_below (fun _ => 0) 5 hb1) (fun h => h)
  have B1 := blk_new (w := w) (fun _ => 0) 5 #[.int .i64 P.memory, .int .i64 P.counters, .int .i64 P.ins, .int .i64 P.outs, .slice ap P.parts.length cp, .slice al P.lines.length cl, .slice ao P.ops.length co] 30
  generalize hW : w.alloc (.cells #[.int .i64 P.memory, .int .i64 P.counters, .int .i64 P.ins, .int .i64 P.outs, .slice ap P.parts.length cp, .slice al P.lines.length cl, .slice ao P.ops.length co] 30) = W at *
  generalize ext (fun _ => 0) w.heap.size 5 = q0 at *
  have HK := Lib.hid K1
  have HX := Lib.hid B1
  have HG := Lib.hid hg
  have HPF := Lib.hid hpf
  have HSF := Lib.hid hsf
  have hIn0 : P.ins = P.ins := rfl
  clear rp rl ro hb1 K1 B1 hg hpf hsf hIn0
  obtain ⟨xa, xc, rfl⟩ := hL.slice
  obtain ⟨ma, mc, rfl⟩ := hmo.slice
  have HL := Lib.hid hL
  have HXX := Lib.hid hx
  have HXF := Lib.hid hxf
  have HXL := Lib.hid hxl
  have HMO := Lib.hid hmo.has
  have HML := Lib.hid hml
  have HMF := Lib.hid hmf
  clear hL hx hxf hxl hmo hml hmf
  go_enter Try.func6, Try.ntmps6
  -- from the start to behind the call of great
  have p0 := HX.out.cell 0 _ rfl
  have p1 := HX.out.cell 1 _ rfl
  have p2 := HX.out.cell 2 _ rfl
  have p3 := HX.out.cell 3 _ rfl
  have p4 := HX.out.cell 4 _ rfl
  have p5 := HX.out.cell 5 _ rfl
  have p6 := HX.out.cell 6 _ rfl
  go_wp2_with fail
  clear p0 p1 p2 p3 p4 p5 p6
  try clear hW2
  try clear hW
  refine (heavy_prog _ _ P (HV.out.below HK.out.below) HG.out).mono ?_
  rintro e w2 ⟨bh, rfl, hbh, hb2⟩
  -- hb2: a Below from the present world, q0: the colours
  have hT9 := Turn.of_below q0 6 hb2
  replace HK := Lib.hid (HK.out.turn hT9 (fun h => h))
  replace HX := Lib.hid (HX.out.turn hT9 (fun h => h))
  try replace HY := Lib.hid (HY.out.turn hT9 (fun h => h))
  generalize ext q0 _ 6 = q0 at *
  clear hT9
  clear hb2
  obtain rfl | rfl : bh = true ∨ bh = false := by cases bh <;> simp
  · go_wp2
    go_ret
    exact ⟨rfl, HK.out.below⟩
  have HH := Lib.hid (hbh rfl)
  clear hbh
  have p0 := HX.out.cell 0 _ rfl
  have p1 := HX.out.cell 1 _ rfl
  have p2 := HX.out.cell 2 _ rfl
  have p3 := HX.out.cell 3 _ rfl
  have p4 := HX.out.cell 4 _ rfl
  have p5 := HX.out.cell 5 _ rfl
  have p6 := HX.out.cell 6 _ rfl
  go_wp2_with fail
  clear p0 p1 p2 p3 p4 p5 p6
  refine (great_any _ _ P 8 (HV.out.below HK.out.below) HG.out).mono ?_
  rintro e w3 ⟨bg, rfl, hb3⟩
  -- hb3: a Below from the present world, q0: the colours
  have hT9 := Turn.of_below q0 6 hb3
  replace HK := Lib.hid (HK.out.turn hT9 (fun h => h))
  replace HX := Lib.hid (HX.out.turn hT9 (fun h => h))
  try replace HY := Lib.hid (HY.out.turn hT9 (fun h => h))
  generalize ext q0 _ 6 = q0 at *
  clear hT9
  clear hb3
  obtain rfl | rfl : bg = true ∨ bg = false := by cases bg <;> simp
  · go_wp2
    go_ret
    exact ⟨rfl, HK.out.below⟩
  -- REFUSED: what the law does where the program is refused
  have p0 := HX.out.cell 0 _ rfl
  have p1 := HX.out.cell 1 _ rfl
  have p2 := HX.out.cell 2 _ rfl
  have p3 := HX.out.cell 3 _ rfl
  have p4 := HX.out.cell 4 _ rfl
  have p5 := HX.out.cell 5 _ rfl
  have p6 := HX.out.cell 6 _ rfl
  go_wp2_with fail
  clear p0 p1 p2 p3 p4 p5 p6
  refine (lentprog_any _ _ P (HV.out.below HK.out.below) HH.out HG.out.params HG.out.starts).mono ?_
  rintro e w4 ⟨v1, rfl, h1, hb4⟩
  -- hb4: a Below from the present world, q0: the colours
  have hT9 := Turn.of_below q0 6 hb4
  replace HK := Lib.hid (HK.out.turn hT9 (fun h => h))
  replace HX := Lib.hid (HX.out.turn hT9 (fun h => h))
  try replace HY := Lib.hid (HY.out.turn hT9 (fun h => h))
  generalize ext q0 _ 6 = q0 at *
  clear hT9
  have H1 := Lib.hid h1
  clear hb4 h1
  go_wp2_with fail
  by_cases hc : checkC P ≠ 0
  · refine (mNew_any _ q0 1000 (by omega) v1 P H1.out HG.out.params HPF.out).mono ?_
    intro e w5 H
    unfold NewRet at H
    rw [if_pos hc] at H
    obtain ⟨rfl, hb5⟩ := H
    -- hb5: a Below from the present world, q0: the colours
    have hT9 := Turn.of_below q0 6 hb5
    replace HK := Lib.hid (HK.out.turn hT9 (fun h => h))
    replace HX := Lib.hid (HX.out.turn hT9 (fun h => h))
    try replace HY := Lib.hid (HY.out.turn hT9 (fun h => h))
    generalize ext q0 _ 6 = q0 at *
    clear hT9
    clear hb5 H1
    have p0 := HX.out.cell 0 _ rfl
    have p1 := HX.out.cell 1 _ rfl
    have p2 := HX.out.cell 2 _ rfl
    have p3 := HX.out.cell 3 _ rfl
    have p4 := HX.out.cell 4 _ rfl
    have p5 := HX.out.cell 5 _ rfl
    have p6 := HX.out.cell 6 _ rfl
    go_wp2_with fail
    clear p0 p1 p2 p3 p4 p5 p6
    refine (lentprog_any _ _ P (HV.out.below HK.out.below) HH.out HG.out.params HG.out.starts).mono ?_
    rintro e w4 ⟨v1, rfl, h1, hb4⟩
    -- hb4: a Below from the present world, q0: the colours
    have hT9 := Turn.of_below q0 6 hb4
    replace HK := Lib.hid (HK.out.turn hT9 (fun h => h))
    replace HX := Lib.hid (HX.out.turn hT9 (fun h => h))
    try replace HY := Lib.hid (HY.out.turn hT9 (fun h => h))
    generalize ext q0 _ 6 = q0 at *
    clear hT9
    have H1 := Lib.hid h1
    clear hb4 h1
    go_wp2_with fail
    refine (mNew_any _ q0 1000 (by omega) v1 P H1.out HG.out.params HPF.out).mono ?_
    intro e w5 H
    unfold NewRet at H
    rw [if_pos hc] at H
    obtain ⟨rfl, hb5⟩ := H
    -- hb5: a Below from the present world, q0: the colours
    have hT9 := Turn.of_below q0 6 hb5
    replace HK := Lib.hid (HK.out.turn hT9 (fun h => h))
    replace HX := Lib.hid (HX.out.turn hT9 (fun h => h))
    try replace HY := Lib.hid (HY.out.turn hT9 (fun h => h))
    generalize ext q0 _ 6 = q0 at *
    clear hT9
    clear hb5 H1
    obtain ⟨C, hC⟩ : ∃ x, checkC P = x := ⟨_, rfl⟩
    rw [hC] at hc ⊢
    have hCi : (C != 0) = true := by simpa using hc
    have HCC := Lib.hid hC
    clear hc hC
    go_wp2_with fail
    refine (awake_yes _).mono ?_
    rintro e w9 ⟨rfl, hb9⟩
    -- hb9: a Below from the present world, q0: the colours
    have hT9 := Turn.of_below q0 6 hb9
    replace HK := Lib.hid (HK.out.turn hT9 (fun h => h))
    replace HX := Lib.hid (HX.out.turn hT9 (fun h => h))
    try replace HY := Lib.hid (HY.out.turn hT9 (fun h => h))
    generalize ext q0 _ 6 = q0 at *
    clear hT9
    go_wp2
    go_ret
    exact ⟨rfl, HK.out.below⟩
  have HC : Hid (checkC P = 0) := Lib.hid (Classical.not_not.1 hc)
  clear hc
  refine (mNew_any _ q0 1000 (by omega) v1 P H1.out HG.out.params HPF.out).mono ?_
  intro e w5 H
  unfold NewRet at H
  rw [if_neg (fun h => h HC.out)] at H
  obtain ⟨a, o5, v5, rfl, T5, M5, -⟩ := H
  replace HK := Lib.hid (HK.out.turn T5 (fun h => h))
  replace HX := Lib.hid (HX.out.turn T5 (fun h => h))
  try replace HY := Lib.hid (HY.out.turn T5 (fun h => h))
  have HA := Lib.hid M5
  clear T5 M5 H1
  have p0 := HX.out.cell 0 _ rfl
  have p1 := HX.out.cell 1 _ rfl
  have p2 := HX.out.cell 2 _ rfl
  have p3 := HX.out.cell 3 _ rfl
  have p4 := HX.out.cell 4 _ rfl
  have p5 := HX.out.cell 5 _ rfl
  have p6 := HX.out.cell 6 _ rfl
  go_wp2_with fail
  clear p0 p1 p2 p3 p4 p5 p6
  refine (lentprog_any _ _ P (HV.out.below HK.out.below) HH.out HG.out.params HG.out.starts).mono ?_
  rintro e w4 ⟨v1, rfl, h1, hb4⟩
  have T6 := Turn.of_below o5 6 hb4
  replace HK := Lib.hid (HK.out.turn T6 (fun h => h))
  replace HX := Lib.hid (HX.out.turn T6 (fun h => h))
  try replace HY := Lib.hid (HY.out.turn T6 (fun h => h))
  replace HA := Lib.hid (HA.out.turn T6 (fun _ h => h.elim))
  have H2 := Lib.hid h1
  generalize ext o5 _ 6 = o6 at *
  clear hb4 h1 T6
  go_wp2_with fail
  refine (mNew_any _ o6 2000 (by omega) v1 P H2.out HG.out.params HPF.out).mono ?_
  intro e w7 H
  unfold NewRet at H
  rw [if_neg (fun h => h HC.out)] at H
  obtain ⟨b, o7, v7, rfl, T7, M7, -⟩ := H
  have HT : Hid (Two w w7 o7 w.heap.size a b #[.int .i64 P.memory, .int .i64 P.counters, .int .i64 P.ins, .int .i64 P.outs, .slice ap P.parts.length cp, .slice al P.lines.length cl, .slice ao P.ops.length co] P (newP P) (newP P) v5 v7) := Lib.hid ⟨HK.out.turn T7 (fun h => h), HX.out.turn T7 (fun h => h), HA.out.turn T7 (fun _ h => h.elim), M7⟩
  try replace HY := Lib.hid (HY.out.turn T7 (fun h => h))
  obtain ⟨S, hS⟩ := check_some HC.out
  have HS := Lib.hid hS
  have HPO := Lib.hid (pok_of hS)
  clear HK HX HA T7 M7 H2 hS
  have HNI : Hid (P.ins = ((newP P).fed.length : Int)) := Lib.hid (by show P.ins = ((List.replicate P.ins.toNat ([] : List Int)).length : Int); rw [List.length_replicate]; have := HPO.out.ins; omega)
  have p2 := HT.out.cell 2 _ rfl
  go_wp2_with fail
  clear p2
  refine (fed_any (w0 := w) (by omega) HT.out.kept HT.out.one (.slice xa xss.length xc) xss HL.out P.ins 0 1099511627776 (Nat.zero_le _) HNI.out (fun j => Nat.le_trans (newP_rows P j) (Nat.zero_le _)) (by omega) HXX.out HXL.out).mono ?_
  rintro e w8 ⟨o8, v8, rfl, T8, M8⟩
  replace HT := Lib.hid (HT.out.turnA T8 M8)
  clear T8 M8
  have p2 := HT.out.cell 2 _ rfl
  go_wp2_with fail
  clear p2
  refine (fed_any (w0 := w) (by omega) HT.out.kept HT.out.two (.slice xa xss.length xc) xss HL.out P.ins 0 1099511627776 (Nat.zero_le _) HNI.out (fun j => Nat.le_trans (newP_rows P j) (Nat.zero_le _)) (by omega) HXX.out HXL.out).mono ?_
  rintro e w9 ⟨o9, v9, rfl, T9, M9⟩
  replace HT := Lib.hid (HT.out.turnB T9 M9)
  clear T9 M9
  obtain ⟨m1, hm1⟩ : ∃ x, feedAll (cutsL P.ins 0 1099511627776 xss) 0 (newP P) = x := ⟨_, rfl⟩
  have HM1 : Hid (MOk P (100 + 1099511627776) 0 m1) := Lib.hid (by rw [← hm1]; exact mok_fedAll (newP_ok HS.out HPF.out HSF.out) _ (cutsL_in HXF.out))
  have HP1 : Hid (m1.periods = 0) := Lib.hid (by rw [← hm1, feedAll_periods]; rfl)
  have HR1 : Hid (Ready P m1 (S.toNat - 1) ∧ S.toNat - 1 < S.toNat) := Lib.hid ⟨by rw [← hm1]; exact (newP_ready HS.out).feedAll _ _, by have := (rest_start HS.out).1; omega⟩
  rw [hm1] at HT
  clear hm1
  obtain ⟨⟨r1, m2⟩, hR⟩ : ∃ x, mrunTo P S 8 m1 = x := ⟨_, rfl⟩
  have hper : ((m1.periods : Int) + ((8 : Nat) : Int)) = 8 := by rw [HP1.out]; rfl
  have HRR : Hid (mrunTo P S ((m1.periods : Int) + ((8 : Nat) : Int)) m1 = (r1, m2)) := Lib.hid (by rw [hper]; exact hR)
  have HE := Lib.hid (ends_eight HS.out HP1.out HR1.out.1 HR1.out.2 hR)
  have HMO2 : Hid (MOk P (100 + 1099511627776) 1048576 m2) := Lib.hid (by
    have := mrunTo_ok HS.out HPF.out HM1.out (show (8 : Int) ≤ m1.periods + 8 by omega)
    rw [hR, Nat.zero_add] at this
    exact this)
  have HRO2 : Hid (∀ j, (rowAt m2.fed j).length ≤ 1200000000000) := Lib.hid fun j => Nat.le_trans (rowAt_ok (Q := fun r : List Int => r.length ≤ 100 + 1099511627776) (fun r hr => (HMO2.out.fedf r hr).1) (Nat.zero_le _) j) (by decide)
  replace HMO2 : Hid (MOk P 1200000000000 1048576 m2) := Lib.hid (HMO2.out.more (Nat.le_refl _) (by decide))
  clear hR hper
  go_wp2_with fail
  -- 8: how many, HM1 MOk, HR1 Ready, HRR.out: the run's equation
  refine (Run_any 8 HT.out.one HS.out HPF.out HM1.out (by omega) (by omega) HR1.out.1 HR1.out.2).mono ?_
  rintro e w10 ⟨o10, v10, rfl, T10, M10⟩
  rw [HRR.out] at M10 ⊢
  dsimp only at M10 ⊢
  replace HT := Lib.hid (HT.out.turnA T10 M10)
  try replace HY := Lib.hid (HY.out.turn T10 (by unfold MineS; omega))
  clear T10 M10
  go_wp2_with fail
  refine (Run_any 8 HT.out.two HS.out HPF.out HM1.out (by omega) (by omega) HR1.out.1 HR1.out.2).mono ?_
  rintro e w10 ⟨o10, v10, rfl, T10, M10⟩
  rw [HRR.out] at M10 ⊢
  dsimp only at M10 ⊢
  replace HT := Lib.hid (HT.out.turnB T10 M10)
  clear T10 M10 HM1 HR1 HRR
  rcases HE.out with ⟨e1, e8⟩ | ⟨e2, e3, e4, e5, d2, e6, e7⟩
  · try dsimp only at e1 e8
    subst e1
    have HE8 : Hid ((m2.periods : Int) = 8) := Lib.hid (by rw [e8]; rfl)
    clear e8 HE
    go_wp2_with fail
    refine (awake_yes _).mono ?_
    rintro e w9 ⟨rfl, hb9⟩
    replace HT := Lib.hid (HT.out.below hb9)
    clear hb9
    go_wp2_with fail
    refine (Periods_any HT.out.one).mono ?_
    rintro e _ ⟨rfl, rfl⟩
    rw [HE8.out]
    -- true, and the world as it was
    go_wp2
    go_ret
    exact ⟨rfl, HT.out.kept.below⟩
  · try dsimp only at e2 e3 e4 e5 e6 e7
    have HE1 := Lib.hid e3
    have HE2 := Lib.hid e4
    have HE3 := Lib.hid e5
    have HRD2 : Hid (Ready P m2 d2 ∧ d2 < S.toNat) := Lib.hid ⟨e7, e6⟩
    clear e3 e4 e5 e6 e7 HE
    rcases e2 with rfl | rfl | rfl
    · have HMO3 : Hid (MOk P 1200000000000 1048576 (feedAll [] 0 m2)) := HMO2
      have HR3 : Hid (Ready P (feedAll [] 0 m2) d2 ∧ d2 < S.toNat) := HRD2
      replace HT : Hid (Two w _ _ w.heap.size a b _ P (feedAll [] 0 m2) m2 _ _) := HT
      -- the machine one is m3 = feedAll Y 0 m2, the halt 2
      obtain ⟨evo, evk, evl, hst⟩ := stands_of (h := 2) (by decide) (by decide) HE1.out HE2.out HE3.out (Y := []) (fun _ => rfl)
      have HST := Lib.hid hst
      clear hst
      obtain ⟨m3, hm3⟩ : ∃ x, feedAll [] 0 m2 = x := ⟨_, rfl⟩
      have HM3 := Lib.hid hm3
      rw [hm3] at HT HST HMO3 HR3
      clear hm3
      go_wp2_with fail
      refine (Step_any HT.out.one HPO.out HPF.out HMO3.out (by omega)).mono ?_
      rintro e w11 ⟨o11, v11, cv, rfl, T11, M11, I11⟩
      rw [HST.out.first] at M11 I11 ⊢
      unfold evV
      dsimp only at M11 I11 ⊢
      obtain ⟨ca, cc, rfl⟩ := I11.slice
      simp only [List.length_nil]
      replace HT := Lib.hid (HT.out.turnA T11 M11)
      clear T11 M11 I11
      have hbe := below_alloc w11 (.cells #[.int .i64 evo, .int .u8 evk, .int .i64 evl, .slice ca 0 cc, .int .u8 2] 39)
      have F1 := blk_new (w := w11) o11 6 #[.int .i64 evo, .int .u8 evk, .int .i64 evl, .slice ca 0 cc, .int .u8 2] 39
      replace HT := Lib.hid (HT.out.below hbe)
      have HF1 := Lib.hid F1
      clear F1 hbe
      obtain ⟨w12, hw12⟩ : ∃ x, w11.alloc (.cells #[.int .i64 evo, .int .u8 evk, .int .i64 evl, .slice ca 0 cc, .int .u8 2] 39) = x := ⟨_, rfl⟩
      obtain ⟨E1, hE1⟩ : ∃ x, w11.heap.size = x := ⟨_, rfl⟩
      rw [hw12] at HT HF1
      generalize ext o11 w11.heap.size 6 = o12 at *
      rw [hE1] at HF1
      go_wp2_with fail
      try rw [hw12]
      clear hw12 hE1
      refine (Step_any HT.out.one HPO.out HPF.out HMO3.out (by omega)).mono ?_
      rintro e w13 ⟨o13, v13, cv, rfl, T13, M13, I13⟩
      rw [HST.out.first] at M13 I13 ⊢
      unfold evV
      dsimp only at M13 I13 ⊢
      obtain ⟨cb, cd, rfl⟩ := I13.slice
      simp only [List.length_nil]
      replace HT := Lib.hid (HT.out.turnA T13 M13)
      replace HF1 := Lib.hid (HF1.out.turn T13 (by unfold MineS; omega))
      clear T13 M13 I13
      have hbe := below_alloc w13 (.cells #[.int .i64 evo, .int .u8 evk, .int .i64 evl, .slice cb 0 cd, .int .u8 2] 39)
      have F2 := blk_new (w := w13) o13 6 #[.int .i64 evo, .int .u8 evk, .int .i64 evl, .slice cb 0 cd, .int .u8 2] 39
      replace HT := Lib.hid (HT.out.below hbe)
      replace HF1 := Lib.hid (HF1.out.turn (Turn.of_below o13 6 hbe) (fun h => h))
      have HF2 := Lib.hid F2
      clear F2 hbe
      obtain ⟨w14, hw14⟩ : ∃ x, w13.alloc (.cells #[.int .i64 evo, .int .u8 evk, .int .i64 evl, .slice cb 0 cd, .int .u8 2] 39) = x := ⟨_, rfl⟩
      obtain ⟨E2, hE2⟩ : ∃ x, w13.heap.size = x := ⟨_, rfl⟩
      rw [hw14] at HT HF1 HF2
      generalize ext o13 w13.heap.size 6 = o14 at *
      rw [hE2] at HF2
      go_wp2_with fail
      try rw [hw14]
      clear hw14 hE2
      refine (Run_any 0 HT.out.one HS.out HPF.out HMO3.out (by omega) (by omega) HR3.out.1 HR3.out.2).mono ?_
      rintro e w15 ⟨o15, v15, rfl, T15, M15⟩
      rw [mrunTo_done (show ¬ (m3.periods : Int) < m3.periods + ((0 : Nat) : Int) by omega)] at M15 ⊢
      dsimp only at M15 ⊢
      replace HT := Lib.hid (HT.out.turnA T15 M15)
      replace HF1 := Lib.hid (HF1.out.turn T15 (by unfold MineS; omega))
      replace HF2 := Lib.hid (HF2.out.turn T15 (by unfold MineS; omega))
      clear T15 M15
      go_wp2_with fail
      refine (Run_any 1 HT.out.one HS.out HPF.out HMO3.out (by omega) (by omega) HR3.out.1 HR3.out.2).mono ?_
      rintro e w16 ⟨o16, v16, rfl, T16, M16⟩
      rw [stands_run HS.out HST.out (by decide) (by decide) HR3.out.1 HR3.out.2] at M16 ⊢
      dsimp only at M16 ⊢
      replace HT := Lib.hid (HT.out.turnA T16 M16)
      replace HF1 := Lib.hid (HF1.out.turn T16 (by unfold MineS; omega))
      replace HF2 := Lib.hid (HF2.out.turn T16 (by unfold MineS; omega))
      clear T16 M16
      go_wp2_with fail
      refine (awake_yes _).mono ?_
      rintro e w17 ⟨rfl, hb17⟩
      replace HT := Lib.hid (HT.out.below hb17)
      replace HF1 := Lib.hid (HF1.out.turn (Turn.of_below o16 6 hb17) (fun h => h))
      replace HF2 := Lib.hid (HF2.out.turn (Turn.of_below o16 6 hb17) (fun h => h))
      clear hb17
      generalize ext o16 _ 6 = o17 at *
      have x0 := HF1.out.cell 0 _ rfl
      have x1 := HF1.out.cell 1 _ rfl
      have x2 := HF1.out.cell 2 _ rfl
      have x3 := HF1.out.cell 3 _ rfl
      have x4 := HF1.out.cell 4 _ rfl
      have y0 := HF2.out.cell 0 _ rfl
      have y1 := HF2.out.cell 1 _ rfl
      have y2 := HF2.out.cell 2 _ rfl
      have y3 := HF2.out.cell 3 _ rfl
      have y4 := HF2.out.cell 4 _ rfl
      go_wp2_with fail
      clear x0 x1 x2 x3 x4 y0 y1 y2 y3 y4
      refine (sameevent_yes (cs := []) (Has.nil _ _ _) (Has.nil _ _ _) (Nat.zero_le _)).mono ?_
      rintro e w18 ⟨rfl, hb18⟩
      replace HT := Lib.hid (HT.out.below hb18)
      clear hb18 HF1 HF2
      have p3 := HT.out.cell 3 _ rfl
      go_wp2_with fail
      clear p3
      refine (both_ok HT.out.one HT.out.two (by rw [← HM3.out]; exact shows_feedAll _ 0 m2) HPO.out HMO3.out HMO2.out (by omega)).mono ?_
      rintro e w19 ⟨rfl, hb19⟩
      replace HT := Lib.hid (HT.out.below hb19)
      clear hb19
      -- true, and the world as it was
      go_wp2
      go_ret
      exact ⟨rfl, HT.out.kept.below⟩
    · -- the loop that feeds more, at halt 3
      have p2 := HT.out.cell 2 _ rfl
      go_wp2_with fail
      clear p2
      go_loopw [15] (fun i wl => ∃ (k : Nat) (q : Col) (va vb : MVals), (k : Int) ≤ P.ins ∧ i = .int .i64 k ∧ Two w wl q w.heap.size a b #[.int .i64 P.memory, .int .i64 P.counters, .int .i64 P.ins, .int .i64 P.outs, .slice ap P.parts.length cp, .slice al P.lines.length cl, .slice ao P.ops.length co] P (feedAll (List.replicate k mo) 0 m2) m2 va vb) (fun i _ => P.ins.toNat - (intOf i).toNat)
      case atStart => exact ⟨0, _, _, _, by have := HPO.out.ins; omega, rfl, HT.out⟩
      case round =>
        clear HT
        obtain ⟨k, q, va, vb, hk, rfl, hT⟩ := hrel
        have HT := Lib.hid hT
        clear hT
        have p2 := HT.out.cell 2 _ rfl
        have hin16 := HPO.out.ins
        by_cases hlt : (k : Int) < P.ins
        · go_wp2_with fail
          clear p2
          refine (rints_any _ _ _ _ mo (HMO.out.below HT.out.kept.below) HML.out).mono ?_
          rintro e w20 ⟨lv, rfl, k20, hb20⟩
          obtain ⟨sa, sc, rfl⟩ := owns_slice k20
          have hts : Ints w20 (ext q wr.heap.size 6) 6 (.slice sa mo.length sc) mo := (Own.made q 6 k20).vals
          replace HT := Lib.hid (HT.out.below hb20)
          clear hb20 k20
          obtain ⟨mk, hmk⟩ : ∃ x, feedAll (List.replicate k mo) 0 m2 = x := ⟨_, rfl⟩
          have hrows := feedAll_rows (G := 17600000000000) (List.replicate k mo) 0 1200000000000 m2 (fun x hx => by rw [List.eq_of_mem_replicate hx]; exact HML.out) (fun j => Nat.le_trans (HRO2.out j) (by decide)) (fun j _ => HRO2.out j)
          have hrk := hrows.2 k (by simp)
          have hfl : mk.fed.length = P.ins.toNat := by rw [← hmk, feedAll_len]; exact HMO2.out.fed
          have hsn : feedAll (List.replicate (k + 1) mo) 0 m2 = feedAt mk k mo := by
            rw [List.replicate_succ', feedAll_snoc, hmk, List.length_replicate, Nat.zero_add]
          rw [hmk] at HT hrk hrows
          have HSN := Lib.hid hsn
          have HRK := Lib.hid hrk
          have HIN : Hid (inIn mk (k : Int)) := Lib.hid ⟨by omega, by rw [hfl]; omega⟩
          clear hrk hrows hfl hsn hmk
          go_wp2_with fail
          refine (Feed_row HT.out.one (k : Int) hts (by have h1 := HRK.out; have h2 := HML.out; show (rowAt mk.fed k).length + mo.length ≤ 20000000000000; omega)).mono ?_
          intro e w21 H
          unfold FeedRet at H
          rw [if_pos HIN.out] at H
          obtain ⟨o21, v21, rfl, T21, M21⟩ := H
          rw [show ((k : Int)).toNat = k from rfl, ← HSN.out] at M21
          replace HT := Lib.hid (HT.out.turnA T21 M21)
          clear T21 M21 hts
          go_wp2
          go_roundw
          case rel => exact ⟨k + 1, _, _, _, by omega, by go_num, HT.out⟩
          case measure => simp [intOf]; omega
        · have HMO3 : Hid (MOk P (1200000000000 + 17600000000000) 1048576 (feedAll (List.replicate k mo) 0 m2)) := Lib.hid (mok_fedAll HMO2.out _ (fun r hr => by rw [List.eq_of_mem_replicate hr]; exact ⟨HML.out, HMF.out⟩))
          have HR3 : Hid (Ready P (feedAll (List.replicate k mo) 0 m2) d2 ∧ d2 < S.toNat) := Lib.hid ⟨HRD2.out.1.feedAll _ _, HRD2.out.2⟩
          clear hk
          -- the machine one is m3 = feedAll Y 0 m2, the halt 3
          obtain ⟨evo, evk, evl, hst⟩ := stands_of (h := 3) (by decide) (by decide) HE1.out HE2.out HE3.out (Y := (List.replicate k mo)) (fun h => by cases h)
          have HST := Lib.hid hst
          clear hst
          obtain ⟨m3, hm3⟩ : ∃ x, feedAll (List.replicate k mo) 0 m2 = x := ⟨_, rfl⟩
          have HM3 := Lib.hid hm3
          rw [hm3] at HT HST HMO3 HR3
          clear hm3
          go_wp2_with fail
          refine (Step_any HT.out.one HPO.out HPF.out HMO3.out (by omega)).mono ?_
          rintro e w11 ⟨o11, v11, cv, rfl, T11, M11, I11⟩
          rw [HST.out.first] at M11 I11 ⊢
          unfold evV
          dsimp only at M11 I11 ⊢
          obtain ⟨ca, cc, rfl⟩ := I11.slice
          simp only [List.length_nil]
          replace HT := Lib.hid (HT.out.turnA T11 M11)
          clear T11 M11 I11
          have hbe := below_alloc w11 (.cells #[.int .i64 evo, .int .u8 evk, .int .i64 evl, .slice ca 0 cc, .int .u8 3] 39)
          have F1 := blk_new (w := w11) o11 6 #[.int .i64 evo, .int .u8 evk, .int .i64 evl, .slice ca 0 cc, .int .u8 3] 39
          replace HT := Lib.hid (HT.out.below hbe)
          have HF1 := Lib.hid F1
          clear F1 hbe
          obtain ⟨w12, hw12⟩ : ∃ x, w11.alloc (.cells #[.int .i64 evo, .int .u8 evk, .int .i64 evl, .slice ca 0 cc, .int .u8 3] 39) = x := ⟨_, rfl⟩
          obtain ⟨E1, hE1⟩ : ∃ x, w11.heap.size = x := ⟨_, rfl⟩
          rw [hw12] at HT HF1
          generalize ext o11 w11.heap.size 6 = o12 at *
          rw [hE1] at HF1
          go_wp2_with fail
          try rw [hw12]
          clear hw12 hE1
          refine (Step_any HT.out.one HPO.out HPF.out HMO3.out (by omega)).mono ?_
          rintro e w13 ⟨o13, v13, cv, rfl, T13, M13, I13⟩
          rw [HST.out.first] at M13 I13 ⊢
          unfold evV
          dsimp only at M13 I13 ⊢
          obtain ⟨cb, cd, rfl⟩ := I13.slice
          simp only [List.length_nil]
          replace HT := Lib.hid (HT.out.turnA T13 M13)
          replace HF1 := Lib.hid (HF1.out.turn T13 (by unfold MineS; omega))
          clear T13 M13 I13
          have hbe := below_alloc w13 (.cells #[.int .i64 evo, .int .u8 evk, .int .i64 evl, .slice cb 0 cd, .int .u8 3] 39)
          have F2 := blk_new (w := w13) o13 6 #[.int .i64 evo, .int .u8 evk, .int .i64 evl, .slice cb 0 cd, .int .u8 3] 39
          replace HT := Lib.hid (HT.out.below hbe)
          replace HF1 := Lib.hid (HF1.out.turn (Turn.of_below o13 6 hbe) (fun h => h))
          have HF2 := Lib.hid F2
          clear F2 hbe
          obtain ⟨w14, hw14⟩ : ∃ x, w13.alloc (.cells #[.int .i64 evo, .int .u8 evk, .int .i64 evl, .slice cb 0 cd, .int .u8 3] 39) = x := ⟨_, rfl⟩
          obtain ⟨E2, hE2⟩ : ∃ x, w13.heap.size = x := ⟨_, rfl⟩
          rw [hw14] at HT HF1 HF2
          generalize ext o13 w13.heap.size 6 = o14 at *
          rw [hE2] at HF2
          go_wp2_with fail
          try rw [hw14]
          clear hw14 hE2
          refine (Run_any 0 HT.out.one HS.out HPF.out HMO3.out (by omega) (by omega) HR3.out.1 HR3.out.2).mono ?_
          rintro e w15 ⟨o15, v15, rfl, T15, M15⟩
          rw [mrunTo_done (show ¬ (m3.periods : Int) < m3.periods + ((0 : Nat) : Int) by omega)] at M15 ⊢
          dsimp only at M15 ⊢
          replace HT := Lib.hid (HT.out.turnA T15 M15)
          replace HF1 := Lib.hid (HF1.out.turn T15 (by unfold MineS; omega))
          replace HF2 := Lib.hid (HF2.out.turn T15 (by unfold MineS; omega))
          clear T15 M15
          go_wp2_with fail
          refine (Run_any 1 HT.out.one HS.out HPF.out HMO3.out (by omega) (by omega) HR3.out.1 HR3.out.2).mono ?_
          rintro e w16 ⟨o16, v16, rfl, T16, M16⟩
          rw [stands_run HS.out HST.out (by decide) (by decide) HR3.out.1 HR3.out.2] at M16 ⊢
          dsimp only at M16 ⊢
          replace HT := Lib.hid (HT.out.turnA T16 M16)
          replace HF1 := Lib.hid (HF1.out.turn T16 (by unfold MineS; omega))
          replace HF2 := Lib.hid (HF2.out.turn T16 (by unfold MineS; omega))
          clear T16 M16
          go_wp2_with fail
          refine (awake_yes _).mono ?_
          rintro e w17 ⟨rfl, hb17⟩
          replace HT := Lib.hid (HT.out.below hb17)
          replace HF1 := Lib.hid (HF1.out.turn (Turn.of_below o16 6 hb17) (fun h => h))
          replace HF2 := Lib.hid (HF2.out.turn (Turn.of_below o16 6 hb17) (fun h => h))
          clear hb17
          generalize ext o16 _ 6 = o17 at *
          have x0 := HF1.out.cell 0 _ rfl
          have x1 := HF1.out.cell 1 _ rfl
          have x2 := HF1.out.cell 2 _ rfl
          have x3 := HF1.out.cell 3 _ rfl
          have x4 := HF1.out.cell 4 _ rfl
          have y0 := HF2.out.cell 0 _ rfl
          have y1 := HF2.out.cell 1 _ rfl
          have y2 := HF2.out.cell 2 _ rfl
          have y3 := HF2.out.cell 3 _ rfl
          have y4 := HF2.out.cell 4 _ rfl
          go_wp2_with fail
          clear x0 x1 x2 x3 x4 y0 y1 y2 y3 y4
          refine (sameevent_yes (cs := []) (Has.nil _ _ _) (Has.nil _ _ _) (Nat.zero_le _)).mono ?_
          rintro e w18 ⟨rfl, hb18⟩
          replace HT := Lib.hid (HT.out.below hb18)
          clear hb18 HF1 HF2
          have p3 := HT.out.cell 3 _ rfl
          go_wp2_with fail
          clear p3
          refine (both_ok HT.out.one HT.out.two (by rw [← HM3.out]; exact shows_feedAll _ 0 m2) HPO.out HMO3.out HMO2.out (by omega)).mono ?_
          rintro e w19 ⟨rfl, hb19⟩
          replace HT := Lib.hid (HT.out.below hb19)
          clear hb19
          -- true, and the world as it was
          go_wp2
          go_ret
          exact ⟨rfl, HT.out.kept.below⟩
    · -- the loop that feeds more, at halt 4
      have p2 := HT.out.cell 2 _ rfl
      go_wp2_with fail
      clear p2
      go_loopw [15] (fun i wl => ∃ (k : Nat) (q : Col) (va vb : MVals), (k : Int) ≤ P.ins ∧ i = .int .i64 k ∧ Two w wl q w.heap.size a b #[.int .i64 P.memory, .int .i64 P.counters, .int .i64 P.ins, .int .i64 P.outs, .slice ap P.parts.length cp, .slice al P.lines.length cl, .slice ao P.ops.length co] P (feedAll (List.replicate k mo) 0 m2) m2 va vb) (fun i _ => P.ins.toNat - (intOf i).toNat)
      case atStart => exact ⟨0, _, _, _, by have := HPO.out.ins; omega, rfl, HT.out⟩
      case round =>
        clear HT
        obtain ⟨k, q, va, vb, hk, rfl, hT⟩ := hrel
        have HT := Lib.hid hT
        clear hT
        have p2 := HT.out.cell 2 _ rfl
        have hin16 := HPO.out.ins
        by_cases hlt : (k : Int) < P.ins
        · go_wp2_with fail
          clear p2
          refine (rints_any _ _ _ _ mo (HMO.out.below HT.out.kept.below) HML.out).mono ?_
          rintro e w20 ⟨lv, rfl, k20, hb20⟩
          obtain ⟨sa, sc, rfl⟩ := owns_slice k20
          have hts : Ints w20 (ext q wr.heap.size 6) 6 (.slice sa mo.length sc) mo := (Own.made q 6 k20).vals
          replace HT := Lib.hid (HT.out.below hb20)
          clear hb20 k20
          obtain ⟨mk, hmk⟩ : ∃ x, feedAll (List.replicate k mo) 0 m2 = x := ⟨_, rfl⟩
          have hrows := feedAll_rows (G := 17600000000000) (List.replicate k mo) 0 1200000000000 m2 (fun x hx => by rw [List.eq_of_mem_replicate hx]; exact HML.out) (fun j => Nat.le_trans (HRO2.out j) (by decide)) (fun j _ => HRO2.out j)
          have hrk := hrows.2 k (by simp)
          have hfl : mk.fed.length = P.ins.toNat := by rw [← hmk, feedAll_len]; exact HMO2.out.fed
          have hsn : feedAll (List.replicate (k + 1) mo) 0 m2 = feedAt mk k mo := by
            rw [List.replicate_succ', feedAll_snoc, hmk, List.length_replicate, Nat.zero_add]
          rw [hmk] at HT hrk hrows
          have HSN := Lib.hid hsn
          have HRK := Lib.hid hrk
          have HIN : Hid (inIn mk (k : Int)) := Lib.hid ⟨by omega, by rw [hfl]; omega⟩
          clear hrk hrows hfl hsn hmk
          go_wp2_with fail
          refine (Feed_row HT.out.one (k : Int) hts (by have h1 := HRK.out; have h2 := HML.out; show (rowAt mk.fed k).length + mo.length ≤ 20000000000000; omega)).mono ?_
          intro e w21 H
          unfold FeedRet at H
          rw [if_pos HIN.out] at H
          obtain ⟨o21, v21, rfl, T21, M21⟩ := H
          rw [show ((k : Int)).toNat = k from rfl, ← HSN.out] at M21
          replace HT := Lib.hid (HT.out.turnA T21 M21)
          clear T21 M21 hts
          go_wp2
          go_roundw
          case rel => exact ⟨k + 1, _, _, _, by omega, by go_num, HT.out⟩
          case measure => simp [intOf]; omega
        · have HMO3 : Hid (MOk P (1200000000000 + 17600000000000) 1048576 (feedAll (List.replicate k mo) 0 m2)) := Lib.hid (mok_fedAll HMO2.out _ (fun r hr => by rw [List.eq_of_mem_replicate hr]; exact ⟨HML.out, HMF.out⟩))
          have HR3 : Hid (Ready P (feedAll (List.replicate k mo) 0 m2) d2 ∧ d2 < S.toNat) := Lib.hid ⟨HRD2.out.1.feedAll _ _, HRD2.out.2⟩
          clear hk
          -- the machine one is m3 = feedAll Y 0 m2, the halt 4
          obtain ⟨evo, evk, evl, hst⟩ := stands_of (h := 4) (by decide) (by decide) HE1.out HE2.out HE3.out (Y := (List.replicate k mo)) (fun h => by cases h)
          have HST := Lib.hid hst
          clear hst
          obtain ⟨m3, hm3⟩ : ∃ x, feedAll (List.replicate k mo) 0 m2 = x := ⟨_, rfl⟩
          have HM3 := Lib.hid hm3
          rw [hm3] at HT HST HMO3 HR3
          clear hm3
          go_wp2_with fail
          refine (Step_any HT.out.one HPO.out HPF.out HMO3.out (by omega)).mono ?_
          rintro e w11 ⟨o11, v11, cv, rfl, T11, M11, I11⟩
          rw [HST.out.first] at M11 I11 ⊢
          unfold evV
          dsimp only at M11 I11 ⊢
          obtain ⟨ca, cc, rfl⟩ := I11.slice
          simp only [List.length_nil]
          replace HT := Lib.hid (HT.out.turnA T11 M11)
          clear T11 M11 I11
          have hbe := below_alloc w11 (.cells #[.int .i64 evo, .int .u8 evk, .int .i64 evl, .slice ca 0 cc, .int .u8 4] 39)
          have F1 := blk_new (w := w11) o11 6 #[.int .i64 evo, .int .u8 evk, .int .i64 evl, .slice ca 0 cc, .int .u8 4] 39
          replace HT := Lib.hid (HT.out.below hbe)
          have HF1 := Lib.hid F1
          clear F1 hbe
          obtain ⟨w12, hw12⟩ : ∃ x, w11.alloc (.cells #[.int .i64 evo, .int .u8 evk, .int .i64 evl, .slice ca 0 cc, .int .u8 4] 39) = x := ⟨_, rfl⟩
          obtain ⟨E1, hE1⟩ : ∃ x, w11.heap.size = x := ⟨_, rfl⟩
          rw [hw12] at HT HF1
          generalize ext o11 w11.heap.size 6 = o12 at *
          rw [hE1] at HF1
          go_wp2_with fail
          try rw [hw12]
          clear hw12 hE1
          refine (Step_any HT.out.one HPO.out HPF.out HMO3.out (by omega)).mono ?_
          rintro e w13 ⟨o13, v13, cv, rfl, T13, M13, I13⟩
          rw [HST.out.first] at M13 I13 ⊢
          unfold evV
          dsimp only at M13 I13 ⊢
          obtain ⟨cb, cd, rfl⟩ := I13.slice
          simp only [List.length_nil]
          replace HT := Lib.hid (HT.out.turnA T13 M13)
          replace HF1 := Lib.hid (HF1.out.turn T13 (by unfold MineS; omega))
          clear T13 M13 I13
          have hbe := below_alloc w13 (.cells #[.int .i64 evo, .int .u8 evk, .int .i64 evl, .slice cb 0 cd, .int .u8 4] 39)
          have F2 := blk_new (w := w13) o13 6 #[.int .i64 evo, .int .u8 evk, .int .i64 evl, .slice cb 0 cd, .int .u8 4] 39
          replace HT := Lib.hid (HT.out.below hbe)
          replace HF1 := Lib.hid (HF1.out.turn (Turn.of_below o13 6 hbe) (fun h => h))
          have HF2 := Lib.hid F2
          clear F2 hbe
          obtain ⟨w14, hw14⟩ : ∃ x, w13.alloc (.cells #[.int .i64 evo, .int .u8 evk, .int .i64 evl, .slice cb 0 cd, .int .u8 4] 39) = x := ⟨_, rfl⟩
          obtain ⟨E2, hE2⟩ : ∃ x, w13.heap.size = x := ⟨_, rfl⟩
          rw [hw14] at HT HF1 HF2
          generalize ext o13 w13.heap.size 6 = o14 at *
          rw [hE2] at HF2
          go_wp2_with fail
          try rw [hw14]
          clear hw14 hE2
          refine (Run_any 0 HT.out.one HS.out HPF.out HMO3.out (by omega) (by omega) HR3.out.1 HR3.out.2).mono ?_
          rintro e w15 ⟨o15, v15, rfl, T15, M15⟩
          rw [mrunTo_done (show ¬ (m3.periods : Int) < m3.periods + ((0 : Nat) : Int) by omega)] at M15 ⊢
          dsimp only at M15 ⊢
          replace HT := Lib.hid (HT.out.turnA T15 M15)
          replace HF1 := Lib.hid (HF1.out.turn T15 (by unfold MineS; omega))
          replace HF2 := Lib.hid (HF2.out.turn T15 (by unfold MineS; omega))
          clear T15 M15
          go_wp2_with fail
          refine (Run_any 1 HT.out.one HS.out HPF.out HMO3.out (by omega) (by omega) HR3.out.1 HR3.out.2).mono ?_
          rintro e w16 ⟨o16, v16, rfl, T16, M16⟩
          rw [stands_run HS.out HST.out (by decide) (by decide) HR3.out.1 HR3.out.2] at M16 ⊢
          dsimp only at M16 ⊢
          replace HT := Lib.hid (HT.out.turnA T16 M16)
          replace HF1 := Lib.hid (HF1.out.turn T16 (by unfold MineS; omega))
          replace HF2 := Lib.hid (HF2.out.turn T16 (by unfold MineS; omega))
          clear T16 M16
          go_wp2_with fail
          refine (awake_yes _).mono ?_
          rintro e w17 ⟨rfl, hb17⟩
          replace HT := Lib.hid (HT.out.below hb17)
          replace HF1 := Lib.hid (HF1.out.turn (Turn.of_below o16 6 hb17) (fun h => h))
          replace HF2 := Lib.hid (HF2.out.turn (Turn.of_below o16 6 hb17) (fun h => h))
          clear hb17
          generalize ext o16 _ 6 = o17 at *
          have x0 := HF1.out.cell 0 _ rfl
          have x1 := HF1.out.cell 1 _ rfl
          have x2 := HF1.out.cell 2 _ rfl
          have x3 := HF1.out.cell 3 _ rfl
          have x4 := HF1.out.cell 4 _ rfl
          have y0 := HF2.out.cell 0 _ rfl
          have y1 := HF2.out.cell 1 _ rfl
          have y2 := HF2.out.cell 2 _ rfl
          have y3 := HF2.out.cell 3 _ rfl
          have y4 := HF2.out.cell 4 _ rfl
          go_wp2_with fail
          clear x0 x1 x2 x3 x4 y0 y1 y2 y3 y4
          refine (sameevent_yes (cs := []) (Has.nil _ _ _) (Has.nil _ _ _) (Nat.zero_le _)).mono ?_
          rintro e w18 ⟨rfl, hb18⟩
          replace HT := Lib.hid (HT.out.below hb18)
          clear hb18 HF1 HF2
          have p3 := HT.out.cell 3 _ rfl
          go_wp2_with fail
          clear p3
          refine (both_ok HT.out.one HT.out.two (by rw [← HM3.out]; exact shows_feedAll _ 0 m2) HPO.out HMO3.out HMO2.out (by omega)).mono ?_
          rintro e w19 ⟨rfl, hb19⟩
          replace HT := Lib.hid (HT.out.below hb19)
          clear hb19
          -- true, and the world as it was
          go_wp2
          go_ret
          exact ⟨rfl, HT.out.kept.below⟩
end Go.Proofs.Ytnnnpippekpibaa

/- What came in, said plainly for a walk: a slice of ints. No program in sight. -/
namespace Go.Proofs.Ytnnnpippekpibaa
open Go.ChangeShapes Go.WideShapes Go.ChangeAt Go.RowKit Go.Deep

/-- v is a slice of the ints zs, as it came in -/
def InInts (w : World) (v : Value) (zs : List Int) : Prop :=
  ∃ ao cap, v = .slice ao zs.length cap ∧ zs.length ≤ cap ∧ cap ≤ maxLen ∧ (ao = none → zs.length = 0) ∧ (∀ n ∈ zs, -9223372036854775808 ≤ n ∧ n ≤ 9223372036854775807) ∧
    ∀ ad, ao = some ad → ∀ j u, (zs.map (Value.int .i64))[j]? = some u → w.cell? (ad.add j) = some u

theorem wf_i64 {n : Int} (h : (Lit.int .i64 n).wf = true) : -9223372036854775808 ≤ n ∧ n ≤ 9223372036854775807 := by
  simp [Lit.wf] at h
  have h1 : IntKind.i64.min = -9223372036854775808 := rfl
  have h2 : IntKind.i64.max = 9223372036854775807 := rfl
  omega

/-- the reading of a slice of n elements -/
def DLen {H : Type} (d : DataW H) (n : Nat) : Prop := (d = .nil ∧ n = 0) ∨ ∃ el sp, d = .slice el sp ∧ el.length = n

theorem DLen.reach {H : Type} {P : Program} {ts : List TypeId} {ds : List (DataW H)} {d : DataW H} {n j : Nat} {t e : TypeId} (h : DLen d n) (hs : (DataW.weightsEach P ts ds).all (· ≤ reachBytes) = true) (ht : ts[j]? = some t) (hd : ds[j]? = some d) (hu : P.underlying t = some (.slice e)) : n * P.bytesOf e ≤ 140737488351232 := by
  rcases h with ⟨rfl, rfl⟩ | ⟨el, sp, rfl, rfl⟩
  · omega
  · have := sized_slice hs ht hd hu
    have h1 : el.length * P.bytesOf e ≤ (el.length + sp.length) * P.bytesOf e := Nat.mul_le_mul_right _ (by omega)
    have h2 : reachBytes = 140737488351232 := rfl
    omega

theorem open_in_ints {P : Program} {H : Type} {enc : TypeId × Value → H} {W : World} {t e : TypeId} {v : Value} {d : DataW H} {p : List MemPlace} (ht : P.underlying t = some (.slice e)) (he : P.underlying e = some (.int .i64)) (hc : P.cellsOf e = 1)
    (hv : ∃ a len cap, v = .slice a len cap) (h : DataW.Trod enc P W 0 (fun _ => true) true t v d p) : ∃ zs, InInts W v zs ∧ DLen d zs.length := by
  obtain ⟨a1, len1, cap1, rfl⟩ := hv
  obtain ⟨fuel, hf⟩ := h
  rcases open_ints ht he hc hf with ⟨hcs, hx⟩ | ⟨x, l, c, zs, hcs, _, hl, hm, hz, hx, hcell, hwz⟩
  · simp [Value.cells] at hcs
    obtain ⟨rfl, rfl, rfl⟩ := hcs
    obtain rfl : d = .nil := congrArg Prod.fst hx
    exact ⟨[], ⟨none, 0, rfl, Nat.le_refl _, Nat.zero_le _, fun _ => rfl, by simp, fun _ h => by cases h⟩, .inl ⟨rfl, rfl⟩⟩
  · simp [Value.cells] at hcs
    obtain ⟨rfl, rfl, rfl⟩ := hcs
    simp at hz
    obtain rfl : d = _ := congrArg Prod.fst hx
    have hlen : (zs.take len1).length = len1 := by rw [List.length_take]; omega
    refine ⟨zs.take len1, ⟨some x, cap1, by rw [hlen], by omega, hm, (fun h => by cases h), fun n hn => ?_, ?_⟩, .inr ⟨_, _, rfl, by simp [lits]⟩⟩
    · exact wf_i64 (hwz n (List.mem_of_mem_take hn))
    · intro ad had j u hu
      obtain rfl := Option.some.inj had
      have hj : j < len1 := by have := (List.getElem?_eq_some_iff.1 hu).1; simp at this; omega
      have hcz := hcell j (by omega)
      rw [hcz]
      have : ((zs.take len1).map (Value.int .i64))[j]? = some (.int .i64 (zs.getD j 0)) := by
        simp [hj, show j < zs.length by omega]
      rw [this] at hu
      exact hu

/-- plainly -/
theorem InInts.has {W : World} {v : Value} {zs : List Int} (h : InInts W v zs) : Has W v (ivs zs) := by
  obtain ⟨ao, cap, rfl, h1, h2, h3, h4, h5⟩ := h
  by_cases hp : 0 < zs.length
  · cases ao with
    | none => have := h3 rfl; omega
    | some a =>
      have hc : ∀ i, i < zs.length → W.cell? (a.add i) = some (.int .i64 (zs.getD i 0)) := fun i hi => h5 a rfl i _ (by simp [hi])
      obtain ⟨b, off, rfl, hcell⟩ := ints_at hc hp
      refine .inr ⟨by simpa using hp, b, off, cap, by simp, by simpa using h1, World.block_lt_of_cell? _ _ (hcell 0 hp), rfl, fun k hk => ?_⟩
      have hk' : k < zs.length := by simpa using hk
      have := hcell k hk'
      simpa [hk'] using this
  · obtain rfl : zs = [] := List.eq_nil_of_length_eq_zero (by omega)
    exact .inl ⟨rfl, ao, cap, rfl⟩
theorem InInts.fits {W : World} {v : Value} {zs : List Int} (h : InInts W v zs) : ∀ n ∈ zs, -9223372036854775808 ≤ n ∧ n ≤ 9223372036854775807 := h.choose_spec.choose_spec.2.2.2.2.1
end Go.Proofs.Ytnnnpippekpibaa

/- What came in, said plainly for a walk: a slice of slices of ints. No program in sight. -/
namespace Go.Proofs.Ytnnnpippekpibaa
open Go.ChangeShapes Go.WideShapes Go.ChangeAt Go.RowKit Go.Deep

theorem open_in_ints_cells {P : Program} {H : Type} {enc : TypeId × Value → H} {W : World} {t e : TypeId} {x : Value} {fuel : Nat} {y : DataW H × List MemPlace} (ht : P.underlying t = some (.slice e)) (he : P.underlying e = some (.int .i64)) (hc : P.cellsOf e = 1)
    (h : DataW.trod enc P W 0 (fun _ => true) true fuel t [x] = some y) : ∃ zs, InInts W x zs ∧ DLen y.1 zs.length := by
  have hx : ∃ a len cap, x = .slice a len cap := by
    rcases open_ints ht he hc h with ⟨hcs, _⟩ | ⟨a, len, cap, zs, hcs, _⟩
    · exact ⟨_, _, _, List.head_eq_of_cons_eq hcs⟩
    · exact ⟨_, _, _, List.head_eq_of_cons_eq hcs⟩
  obtain ⟨a, len, cap, rfl⟩ := hx
  exact open_in_ints (d := y.1) (p := y.2) ht he hc ⟨_, _, _, rfl⟩ ⟨fuel, by simpa [Value.cells] using h⟩

theorem open_in_rows {P : Program} {H : Type} {enc : TypeId × Value → H} {W : World} {t s e : TypeId} {v : Value} {d : DataW H} {p : List MemPlace} (ht : P.underlying t = some (.slice s)) (hs : P.underlying s = some (.slice e)) (he : P.underlying e = some (.int .i64)) (hce : P.cellsOf e = 1) (hcs : P.cellsOf s = 1)
    (hv : ∃ a len cap, v = .slice a len cap) (h : DataW.Trod enc P W 0 (fun _ => true) true t v d p) : ∃ xss, LL W v xss ∧ (∀ l ∈ xss, ∀ x ∈ l, -9223372036854775808 ≤ x ∧ x ≤ 9223372036854775807) ∧ DLen d xss.length := by
  obtain ⟨a1, len1, cap1, rfl⟩ := hv
  obtain ⟨fuel, hf⟩ := h
  rcases open_slice ht hf with ⟨hc, hx⟩ | ⟨a, len, cap, m, n, D, Pl, hc, _, hl, hm, hmm, hx, hel⟩
  · simp [Value.cells] at hc
    obtain ⟨rfl, rfl, rfl⟩ := hc
    exact ⟨[], ⟨[], rfl, .inl ⟨rfl, none, 0, rfl⟩, fun k hk => by simp at hk⟩, by simp, .inl ⟨congrArg Prod.fst hx, rfl⟩⟩
  · simp [Value.cells] at hc
    obtain ⟨rfl, rfl, rfl⟩ := hc
    simp at hmm
    have each : ∀ i, i < len1 → ∃ q : Value × List Int, W.cell? (a.add i) = some q.1 ∧ InInts W q.1 q.2 := by
      intro i hi
      obtain ⟨cs', hcells, htr⟩ := hel i (by omega)
      rw [hcs] at hcells
      simp only [Nat.mul_one] at hcells
      obtain ⟨_, hll, hev⟩ := World.cells?_some hcells
      match cs', hll with
      | [x0], _ =>
        obtain ⟨zs, hz, _⟩ := open_in_ints_cells hs he hce htr
        have g0 := hev 0 (by omega)
        have e0 : (a.add i).add 0 = a.add i := by cases a; simp [Addr.add]
        rw [e0] at g0
        exact ⟨(x0, zs), by simpa using g0, hz⟩
    obtain ⟨Q, hQ⟩ := choose_lt (α := Value × List Int) (p := fun i q => W.cell? (a.add i) = some q.1 ∧ InInts W q.1 q.2) each
    refine ⟨(List.range len1).map fun i => (Q i).2, ⟨(List.range len1).map fun i => (Q i).1, by simp, ?_, fun k hk => ?_⟩, fun l hl x hx => ?_, .inr ⟨_, _, congrArg Prod.fst hx, by simp⟩⟩
    · by_cases hp : 0 < len1
      · have hsp : a.spot = none := by
          have := World.cell?_spot (hQ 0 hp).1
          simpa [Addr.add] using this
        obtain ⟨b, off, spot⟩ := a
        simp at hsp
        subst hsp
        refine .inr ⟨by simpa using hp, b, off, cap1, by simp, by simp; omega, ?_, rfl, fun k hk => ?_⟩
        · have := World.block_lt_of_cell? _ _ (hQ 0 hp).1
          simpa [Addr.add] using this
        · have hk' : k < len1 := by simpa using hk
          have := (hQ k hk').1
          simp only [Addr.add_lit] at this
          simpa [hk'] using this
      · obtain rfl : len1 = 0 := by omega
        exact .inl ⟨rfl, some a, cap1, rfl⟩
    · have hk' : k < len1 := by simpa using hk
      have := (hQ k hk').2.has
      simpa [hk'] using this
    · simp only [List.mem_map, List.mem_range] at hl
      obtain ⟨i, hi, rfl⟩ := hl
      exact (hQ i hi).2.fits x hx
end Go.Proofs.Ytnnnpippekpibaa

/- What came in, said plainly for a walk: slices of slices of ints and their sizes; two of them in a struct. No program in sight. -/
namespace Go.Proofs.Ytnnnpippekpibaa
open Go.ChangeShapes Go.WideShapes Go.ChangeAt Go.RowKit Go.Deep

theorem weights_mem_all {H : Type} {P : Program} {e : TypeId} {d : DataW H} {x : Nat} : ∀ {l : List (DataW H)}, d ∈ l → x ∈ d.weights P e → x ∈ DataW.weightsAll P e l
  | [], h, _ => by cases h
  | a :: l, h, hx => by
    simp only [DataW.weightsAll, List.mem_append]
    rcases List.mem_cons.1 h with rfl | h
    · exact .inl hx
    · exact .inr (weights_mem_all h hx)

/-- all that it weighs is within reach -/
def Light {H : Type} (P : Program) (t : TypeId) (d : DataW H) : Prop := ∀ x ∈ d.weights P t, x ≤ reachBytes

theorem Light.len {H : Type} {P : Program} {t e : TypeId} {d : DataW H} {n : Nat} (h : Light P t d) (hd : DLen d n) (hu : P.underlying t = some (.slice e)) : n * P.bytesOf e ≤ reachBytes := by
  rcases hd with ⟨rfl, rfl⟩ | ⟨el, sp, rfl, rfl⟩
  · simp
  · have := h ((el.length + sp.length) * P.bytesOf e) (by simp [DataW.weights, hu])
    exact Nat.le_trans (Nat.mul_le_mul_right _ (by omega)) this

theorem open_rows_sized {P : Program} {H : Type} {enc : TypeId × Value → H} {W : World} {t s e : TypeId} {v : Value} {d : DataW H} {p : List MemPlace} (ht : P.underlying t = some (.slice s)) (hs : P.underlying s = some (.slice e)) (he : P.underlying e = some (.int .i64)) (hce : P.cellsOf e = 1) (hcs : P.cellsOf s = 1)
    (hv : ∃ a len cap, v = .slice a len cap) (h : DataW.Trod enc P W 0 (fun _ => true) true t v d p) : ∃ xss, LL W v xss ∧ (∀ l ∈ xss, ∀ x ∈ l, -9223372036854775808 ≤ x ∧ x ≤ 9223372036854775807) ∧ (Light P t d → xss.length * P.bytesOf s ≤ reachBytes ∧ ∀ l ∈ xss, l.length * P.bytesOf e ≤ reachBytes) := by
  obtain ⟨a1, len1, cap1, rfl⟩ := hv
  obtain ⟨fuel, hf⟩ := h
  rcases open_slice ht hf with ⟨hc, hx⟩ | ⟨a, len, cap, m, n, D, Pl, hc, _, hl, hm, hmm, hx, hel⟩
  · simp [Value.cells] at hc
    obtain ⟨rfl, rfl, rfl⟩ := hc
    exact ⟨[], ⟨[], rfl, .inl ⟨rfl, none, 0, rfl⟩, fun k hk => by simp at hk⟩, by simp, fun _ => ⟨by simp, by simp⟩⟩
  · simp [Value.cells] at hc
    obtain ⟨rfl, rfl, rfl⟩ := hc
    simp at hmm
    have each : ∀ i, i < len1 → ∃ q : Value × List Int, W.cell? (a.add i) = some q.1 ∧ InInts W q.1 q.2 ∧ DLen (D i) q.2.length := by
      intro i hi
      obtain ⟨cs', hcells, htr⟩ := hel i (by omega)
      rw [hcs] at hcells
      simp only [Nat.mul_one] at hcells
      obtain ⟨_, hll, hev⟩ := World.cells?_some hcells
      match cs', hll with
      | [x0], _ =>
        obtain ⟨zs, hz, hdl⟩ := open_in_ints_cells hs he hce htr
        have g0 := hev 0 (by omega)
        have e0 : (a.add i).add 0 = a.add i := by cases a; simp [Addr.add]
        rw [e0] at g0
        exact ⟨(x0, zs), by simpa using g0, hz, hdl⟩
    obtain ⟨Q, hQ⟩ := choose_lt (α := Value × List Int) (p := fun i q => W.cell? (a.add i) = some q.1 ∧ InInts W q.1 q.2 ∧ DLen (D i) q.2.length) each
    have hd : d = _ := congrArg Prod.fst hx
    refine ⟨(List.range len1).map fun i => (Q i).2, ⟨(List.range len1).map fun i => (Q i).1, by simp, ?_, fun k hk => ?_⟩, fun l hl x hx => ?_, fun hL => ⟨?_, fun l hl => ?_⟩⟩
    · by_cases hp : 0 < len1
      · have hsp : a.spot = none := by
          have := World.cell?_spot (hQ 0 hp).1
          simpa [Addr.add] using this
        obtain ⟨b, off, spot⟩ := a
        simp at hsp
        subst hsp
        refine .inr ⟨by simpa using hp, b, off, cap1, by simp, by simp; omega, ?_, rfl, fun k hk => ?_⟩
        · have := World.block_lt_of_cell? _ _ (hQ 0 hp).1
          simpa [Addr.add] using this
        · have hk' : k < len1 := by simpa using hk
          have := (hQ k hk').1
          simp only [Addr.add_lit] at this
          simpa [hk'] using this
      · obtain rfl : len1 = 0 := by omega
        exact .inl ⟨rfl, some a, cap1, rfl⟩
    · have hk' : k < len1 := by simpa using hk
      have := (hQ k hk').2.1.has
      simpa [hk'] using this
    · simp only [List.mem_map, List.mem_range] at hl
      obtain ⟨i, hi, rfl⟩ := hl
      exact (hQ i hi).2.1.fits x hx
    · exact hL.len (n := ((List.range len1).map fun i => (Q i).2).length) (.inr ⟨_, _, hd, by simp⟩) ht
    · simp only [List.mem_map, List.mem_range] at hl
      obtain ⟨i, hi, rfl⟩ := hl
      have hLi : Light P s (D i) := fun x hx => hL x (by
        rw [hd]
        simp only [DataW.weights, ht]
        exact List.mem_cons_of_mem _ (List.mem_append_left _ (weights_mem_all (List.mem_map.2 ⟨i, List.mem_range.2 hi, rfl⟩) hx)))
      exact hLi.len (hQ i hi).2.2 hs

/-- two slices of slices of ints, in a struct -/
theorem open_in_both {P : Program} {H : Type} {enc : TypeId × Value → H} {W : World} {t ts s i : TypeId} {f0 f1 : Field} {v : Value} {d : DataW H} {p : List MemPlace} (ht : P.underlying t = some (.struct #[f0, f1])) (h0 : f0.type = ts) (h1 : f1.type = ts) (hts : P.underlying ts = some (.slice s)) (hs : P.underlying s = some (.slice i)) (hi : P.underlying i = some (.int .i64)) (hci : P.cellsOf i = 1) (hcs : P.cellsOf s = 1)
    (o0 : f0.offset = 0) (o1 : f1.offset = 1) (c1 : P.cellsOf ts = 1) (hc : P.cellsOf t = 2) (hv : ∃ cs, v = .agg cs ∧ cs.size = P.cellsOf t) (h : DataW.Trod enc P W 0 (fun _ => true) true t v d p) :
    ∃ x y xss yss, v = .agg #[x, y] ∧ LL W x xss ∧ LL W y yss ∧ (∀ l ∈ xss, ∀ z ∈ l, -9223372036854775808 ≤ z ∧ z ≤ 9223372036854775807) ∧ (∀ l ∈ yss, ∀ z ∈ l, -9223372036854775808 ≤ z ∧ z ≤ 9223372036854775807) ∧
      (Light P t d → (xss.length * P.bytesOf s ≤ reachBytes ∧ ∀ l ∈ xss, l.length * P.bytesOf i ≤ reachBytes) ∧ yss.length * P.bytesOf s ≤ reachBytes ∧ ∀ l ∈ yss, l.length * P.bytesOf i ≤ reachBytes) := by
  obtain ⟨cs, rfl, hsz⟩ := hv
  obtain ⟨fuel, hf⟩ := h
  rw [hc] at hsz
  obtain ⟨l⟩ := cs
  match l, hsz with
  | [x, y], _ =>
    obtain ⟨y0, y1, n, hxe, hlen, ht0, ht1⟩ := trod_struct2 ht hf
    rw [h0, o0, c1] at ht0
    rw [h1, o1, c1] at ht1
    have ht0' : DataW.trod enc P W 0 (fun _ => true) true n ts [x] = some y0 := by simpa [Value.cells] using ht0
    have ht1' : DataW.trod enc P W 0 (fun _ => true) true n ts [y] = some y1 := by simpa [Value.cells] using ht1
    have sl : ∀ (u : Value) (z : DataW H × List MemPlace), DataW.trod enc P W 0 (fun _ => true) true n ts [u] = some z → ∃ a len cap, u = .slice a len cap := fun u z hz => by
      rcases open_slice hts hz with ⟨hc, _⟩ | ⟨a, len, cap, _, _, _, _, hc, _⟩
      · exact ⟨_, _, _, List.head_eq_of_cons_eq hc⟩
      · exact ⟨_, _, _, List.head_eq_of_cons_eq hc⟩
    obtain ⟨ax, lx, cx, rfl⟩ := sl x y0 ht0'
    obtain ⟨ay, ly, cy, rfl⟩ := sl y y1 ht1'
    obtain ⟨xss, q1, q2, q3⟩ := open_rows_sized (d := y0.1) (p := y0.2) hts hs hi hci hcs ⟨_, _, _, rfl⟩ ⟨n, by simpa [Value.cells] using ht0'⟩
    obtain ⟨yss, r1, r2, r3⟩ := open_rows_sized (d := y1.1) (p := y1.2) hts hs hi hci hcs ⟨_, _, _, rfl⟩ ⟨n, by simpa [Value.cells] using ht1'⟩
    have hd : d = .agg [y0.1, y1.1] := congrArg Prod.fst hxe
    refine ⟨_, _, xss, yss, rfl, q1, r1, q2, r2, fun hL => ⟨q3 fun x hx => hL x ?_, r3 fun x hx => hL x ?_⟩⟩
    · rw [hd]
      simp only [DataW.weights, ht]
      simp [DataW.weightsEach, h0, hx]
    · rw [hd]
      simp only [DataW.weights, ht]
      simp [DataW.weightsEach, h1, hx]
end Go.Proofs.Ytnnnpippekpibaa

/- What came in, said plainly for a walk: a slice of records. No function in sight. -/
namespace Go.Proofs.Ytnnnpippekpibaa
open Go.ChangeShapes Go.WideShapes Go.ChangeAt Go.RowKit Go.Deep

section
variable {H : Type} {enc : TypeId × Value → H} {W : World}

abbrev Trods (enc : TypeId × Value → H) (W : World) (fuel : Nat) (t : TypeId) (cs : List Value) (y : DataW H × List MemPlace) : Prop := DataW.trod enc Try.prog W 0 (fun _ => true) true fuel t cs = some y

theorem cell_int : Try.prog.cellsOf 3 = 1 := by kernel_rfl
theorem cell_ints : Try.prog.cellsOf 37 = 1 := by kernel_rfl
theorem byte_int : Try.prog.bytesOf 3 = 8 := by kernel_rfl
theorem reach_val : reachBytes = 140737488351232 := rfl

/-- the parts of a record weigh no more than it -/
theorem light_part {t : TypeId} {fs : Array Field} {xs : List (DataW H × List MemPlace)} (ht : Try.prog.underlying t = some (.struct fs)) (hL : Light Try.prog t (.agg (xs.map (·.1)))) {i : Nat} {f : Field} {y : DataW H × List MemPlace} (hf : fs[i]? = some f) (hy : xs[i]? = some y) : Light Try.prog f.type y.1 := fun x hx => hL x (by
  simp only [DataW.weights, ht]
  have h1 : (fs.toList.map (·.type))[i]? = some f.type := by simp [hf]
  have h2 : (xs.map (·.1))[i]? = some y.1 := by simp [hy]
  exact DataW.weights_mem_each h1 h2 x hx)
theorem int_at {fuel : Nat} {x : Value} {y : DataW H × List MemPlace} (h : Trods enc W fuel 3 [x] y) : ∃ n, x = .int .i64 n := by
  obtain ⟨n, h1, _⟩ := DataW.trod_int Try.underlying3 h
  exact ⟨n, by simpa using h1⟩
theorem ints_at' {fuel : Nat} {x : Value} {y : DataW H × List MemPlace} (h : Trods enc W fuel 37 [x] y) : ∃ l, Has W x (ivs l) ∧ (Light Try.prog 37 y.1 → l.length ≤ 17600000000000) := by
  obtain ⟨l, h1, h2⟩ := open_in_ints_cells Try.underlying37 Try.underlying3 cell_int h
  refine ⟨l, h1.has, fun hL => ?_⟩
  have := hL.len h2 Try.underlying37
  rw [byte_int] at this
  have h3 := reach_val
  omega

theorem list_get {cs : List Value} {n i : Nat} (hl : cs.length = n) (hi : i < n) : cs[i]? = some (cs[i]?.getD undef) := by
  rw [List.getElem?_eq_getElem (by omega)]; rfl
/-- a slice of records -/
theorem open_recs {α : Type} {R : World → α → List Value → Prop} {Z : α → Prop} {t e : TypeId} {sz : Nat} {fuel : Nat} {x : Value} {y : DataW H × List MemPlace} (ht : Try.prog.underlying t = some (.slice e)) (hc : Try.prog.cellsOf e = sz) (hsz : 0 < sz)
    (el : ∀ (fuel : Nat) (cs : List Value) (y : DataW H × List MemPlace), cs.length = sz → Trods enc W fuel e cs y → ∃ a : α, R W a cs ∧ (Light Try.prog e y.1 → Z a)) (h : Trods enc W fuel t [x] y) :
    ∃ l : List α, Recs W sz R x l ∧ (Light Try.prog t y.1 → l.length * Try.prog.bytesOf e ≤ reachBytes ∧ ∀ a ∈ l, Z a) := by
  rcases open_slice ht h with ⟨hcs', hx⟩ | ⟨a, len, cap, m, n, D, Pl, hcs', _, hl, hm, hmm, hx, hel⟩
  · obtain rfl : x = .slice none 0 0 := List.head_eq_of_cons_eq hcs'
    exact ⟨[], .inl ⟨rfl, _, _, rfl⟩, fun _ => ⟨by simp, by simp⟩⟩
  · obtain rfl := List.head_eq_of_cons_eq hcs'
    simp at hmm
    have each : ∀ j, j < len → ∃ q : α × List Value, q.2.length = sz ∧ R W q.1 q.2 ∧ (Light Try.prog e (D j) → Z q.1) ∧ ∀ i, i < sz → W.cell? ((a.add (j * sz)).add i) = some (q.2[i]?.getD undef) := by
      intro j hj
      obtain ⟨cs', hcells, htr⟩ := hel j (by omega)
      rw [hc] at hcells
      obtain ⟨_, hll, hev⟩ := World.cells?_some hcells
      obtain ⟨q, h1, h2⟩ := el _ _ _ hll htr
      exact ⟨(q, cs'), hll, h1, h2, fun i hi => (hev i hi).trans (list_get hll hi)⟩
    by_cases hp : 0 < len
    · haveI : Inhabited (α × List Value) := ⟨(each 0 hp).choose⟩
      obtain ⟨Q, hQ⟩ := choose_lt (α := α × List Value) (p := fun j q => q.2.length = sz ∧ R W q.1 q.2 ∧ (Light Try.prog e (D j) → Z q.1) ∧ ∀ i, i < sz → W.cell? ((a.add (j * sz)).add i) = some (q.2[i]?.getD undef)) each
      have hd : y.1 = _ := congrArg Prod.fst hx
      refine ⟨(List.range len).map fun j => (Q j).1, .inr ?_, fun hL => ⟨hL.len (n := ((List.range len).map fun j => (Q j).1).length) (.inr ⟨_, _, hd, by simp⟩) ht, fun z hz => ?_⟩⟩
      rotate_left
      · simp only [List.mem_map, List.mem_range] at hz
        obtain ⟨j, hj, rfl⟩ := hz
        exact (hQ j hj).2.2.1 fun x hx => hL x (by
          rw [hd]
          simp only [DataW.weights, ht]
          exact List.mem_cons_of_mem _ (List.mem_append_left _ (weights_mem_all (List.mem_map.2 ⟨j, List.mem_range.2 hj, rfl⟩) hx)))
      have hsp : a.spot = none := by
        have := World.cell?_spot ((hQ 0 hp).2.2.2 0 hsz)
        simpa [Addr.add] using this
      obtain ⟨b, off, spot⟩ := a
      simp at hsp
      subst hsp
      refine ⟨by simpa using hp, b, off, cap, by simp, by simp; omega, ?_, fun k hk => ?_⟩
      · have := World.block_lt_of_cell? _ _ ((hQ 0 hp).2.2.2 0 hsz)
        simpa [Addr.add] using this
      · have hk' : k < len := by simpa using hk
        obtain ⟨e1, e2, _, e4⟩ := hQ k hk'
        refine ⟨(Q k).2, e1, by simpa [hk'] using e2, fun i hi => ?_⟩
        have := e4 i hi
        simp only [Addr.add_lit] at this
        exact this
    · obtain rfl : len = 0 := by omega
      exact ⟨[], .inl ⟨rfl, some a, cap, rfl⟩, fun _ => ⟨by simp, by simp⟩⟩

end
end Go.Proofs.Ytnnnpippekpibaa

/- What came in, said plainly for a walk: a program. No function in sight. -/
namespace Go.Proofs.Ytnnnpippekpibaa
open Go.ChangeShapes Go.WideShapes Go.ChangeAt Go.RowKit Go.Deep

section
variable {H : Type} {enc : TypeId × Value → H} {W : World}

theorem ints_atF {fuel : Nat} {x : Value} {y : DataW H × List MemPlace} (h : Trods enc W fuel 37 [x] y) : ∃ l, Has W x (ivs l) ∧ (∀ n ∈ l, Fits n) ∧ (Light Try.prog 37 y.1 → l.length ≤ 17600000000000) := by
  obtain ⟨l, h1, h2⟩ := open_in_ints_cells Try.underlying37 Try.underlying3 cell_int h
  refine ⟨l, h1.has, h1.fits, fun hL => ?_⟩
  have := hL.len h2 Try.underlying37
  rw [byte_int] at this
  have h3 := reach_val
  omega
set_option maxRecDepth 100000 in
theorem el_part {fuel : Nat} {cs : List Value} {y : DataW H × List MemPlace} (hl : cs.length = 2) (h : Trods enc W fuel 81 cs y) : ∃ a : GPart, TailR partHd GPart.params W a cs ∧ (Light Try.prog 81 y.1 → a.params.length ≤ 17600000000000 ∧ ∀ n ∈ a.params, Fits n) := by
  obtain ⟨xs, n, _, rfl, _, hlen, hf⟩ := DataW.trod_struct Try.underlying81 h
  match cs, hl, xs, hlen with
  | [x0, x1], _, [y0, y1], _ =>
    have h0 : Trods enc W n 79 [x0] y0 := by simpa [show Try.prog.cellsOf 79 = 1 by kernel_rfl] using hf 0 _ rfl
    have h1 : Trods enc W n 37 [x1] y1 := by simpa [cell_ints] using hf 1 _ rfl
    obtain ⟨tg, t1, _⟩ := DataW.trod_int Try.underlying79 h0
    obtain rfl : x0 = .int .u8 tg := by simpa using t1
    obtain ⟨l, l1, l2, l3⟩ := ints_atF h1
    exact ⟨⟨tg, l⟩, ⟨x1, rfl, l1⟩, fun hL => ⟨l3 (light_part Try.underlying81 (xs := [y0, y1]) hL (i := 1) rfl rfl), l2⟩⟩
set_option maxRecDepth 100000 in
theorem el_line {fuel : Nat} {cs : List Value} {y : DataW H × List MemPlace} (hl : cs.length = 3) (h : Trods enc W fuel 76 cs y) : ∃ a : GLine, TailR lineHd GLine.start W a cs ∧ (Light Try.prog 76 y.1 → a.start.length ≤ 17600000000000 ∧ ∀ n ∈ a.start, Fits n) := by
  obtain ⟨xs, n, _, rfl, _, hlen, hf⟩ := DataW.trod_struct Try.underlying76 h
  match cs, hl, xs, hlen with
  | [x0, x1, x2], _, [y0, y1], _ =>
    have h0 : Trods enc W n 74 [x0, x1] y0 := by simpa [show Try.prog.cellsOf 74 = 2 by kernel_rfl] using hf 0 _ rfl
    have h1 : Trods enc W n 37 [x2] y1 := by simpa [cell_ints] using hf 1 _ rfl
    obtain ⟨zs, n2, _, -, _, hlen2, hf2⟩ := DataW.trod_struct Try.underlying74 h0
    match zs, hlen2 with
    | [z0, z1], _ =>
      have g0 : Trods enc W n2 3 [x0] z0 := by simpa [cell_int] using hf2 0 _ rfl
      have g1 : Trods enc W n2 3 [x1] z1 := by simpa [cell_int] using hf2 1 _ rfl
      obtain ⟨n0, rfl⟩ := int_at g0
      obtain ⟨n1, rfl⟩ := int_at g1
      obtain ⟨l, l1, l2, l3⟩ := ints_atF h1
      exact ⟨⟨n0, n1, l⟩, ⟨x2, rfl, l1⟩, fun hL => ⟨l3 (light_part Try.underlying76 (xs := [y0, y1]) hL (i := 1) rfl rfl), l2⟩⟩
set_option maxRecDepth 100000 in
theorem el_op {fuel : Nat} {cs : List Value} {y : DataW H × List MemPlace} (hl : cs.length = 3) (h : Trods enc W fuel 43 cs y) : ∃ a : GOp, cs = opV a ∧ (Light Try.prog 43 y.1 → True) := by
  obtain ⟨xs, n, _, rfl, _, hlen, hf⟩ := DataW.trod_struct Try.underlying43 h
  match cs, hl, xs, hlen with
  | [x0, x1, x2], _, [y0, y1, y2], _ =>
    have h0 : Trods enc W n 36 [x0] y0 := by simpa [show Try.prog.cellsOf 36 = 1 by kernel_rfl] using hf 0 _ rfl
    have h1 : Trods enc W n 3 [x1] y1 := by simpa [cell_int] using hf 1 _ rfl
    have h2 : Trods enc W n 3 [x2] y2 := by simpa [cell_int] using hf 2 _ rfl
    obtain ⟨tg, t1, _⟩ := DataW.trod_int Try.underlying36 h0
    obtain rfl : x0 = .int .u8 tg := by simpa using t1
    obtain ⟨n1, rfl⟩ := int_at h1
    obtain ⟨n2, rfl⟩ := int_at h2
    exact ⟨⟨tg, n1, n2⟩, rfl, fun _ => trivial⟩
theorem row_of_recs {v : Value} {l : List GOp} (hs : ∀ a n c, v = .slice (some a) n c → a.spot = none) (h : Recs W 3 (fun _ (a : GOp) cs => cs = opV a) v l) : HasRow W v l := by
  rcases h with ⟨rfl, ao, cap, rfl⟩ | ⟨hp, b, off, cap, rfl, hcap, hlt, hel⟩
  · refine ⟨ao, cap, rfl, fun _ => rfl, ⟨Nat.zero_le _, fun ad e => ?_⟩, fun ad e j u hu => by simp [opsV] at hu⟩
    subst e
    exact hs _ _ _ rfl
  · refine ⟨some ⟨b, off, none⟩, cap, rfl, (fun h => by cases h), ⟨hcap, fun ad e => by cases e; rfl⟩, fun ad e j u hu => ?_⟩
    cases e
    have hj : j < l.length * 3 := by
      have := (List.getElem?_eq_some_iff.1 hu).1
      rwa [opsV_len] at this
    obtain ⟨k, i, hk, hi, rfl⟩ : ∃ k i, k < l.length ∧ i < 3 ∧ j = k * 3 + i := ⟨j / 3, j % 3, by omega, by omega, by omega⟩
    obtain ⟨cs, _, rfl, hc⟩ := hel k hk
    have hc := hc i hi
    obtain ⟨g0, g1, g2⟩ := opsV_get l k hk
    rw [Addr.add_lit, ← Nat.add_assoc, hc]
    have : (opV l[k])[i]? = some u := by
      match i, hi with
      | 0, _ => rw [← hu]; exact g0.symm
      | 1, _ => rw [← hu]; exact g1.symm
      | 2, _ => rw [← hu]; exact g2.symm
    rw [this]
    rfl
set_option maxRecDepth 100000 in
/-- the operations' slice -/
theorem ops_spot {base : Nat} {v : Value} (h : Value.okWide Try.prog W .any base 30 v) : ∃ cs, v = .agg cs ∧ cs.size = Try.prog.cellsOf 30 ∧ ∀ a n c, cs[6]? = some (.slice (some a) n c) → a.spot = none := by
  unfold Value.okWide at h
  rw [Try.underlying30] at h
  obtain ⟨cs, e, hs, ts, ht, _, hr⟩ := h
  refine ⟨cs, e, hs, fun a n c hc => ?_⟩
  obtain ⟨u, hu, hk⟩ := hr 6 _ hc
  have : ts = [3, 3, 3, 3, 26, 27, 28] := Option.some.inj (ht.symm.trans (by kernel_rfl))
  subst this
  obtain rfl : 28 = u := Option.some.inj hu
  unfold Cell.okWide at hk
  rw [Try.underlying28] at hk
  unfold Cell.ok at hk
  rw [Try.underlying28] at hk
  exact hk.2.2.2.1

set_option maxRecDepth 100000 in
/-- a program that came in -/
theorem open_prog {base : Nat} {v : Value} {d : DataW H} {p : List MemPlace} (hv : Value.okWide Try.prog W .any base 30 v) (h : DataW.Trod enc Try.prog W 0 (fun _ => true) true 30 v d p) : ∃ g, HasProg W v g ∧ (Light Try.prog 30 d → GreatP g ∧ PFits g ∧ SFits g) := by
  obtain ⟨cs, rfl, hsz, hspot⟩ := ops_spot hv
  obtain ⟨fuel, hf0⟩ := h
  rw [show Try.prog.cellsOf 30 = 7 by kernel_rfl] at hsz
  obtain ⟨xs, n, _, hx, _, hlen, hf⟩ := DataW.trod_struct Try.underlying30 hf0
  obtain ⟨l⟩ := cs
  match l, hsz, xs, hlen with
  | [x0, x1, x2, x3, x4, x5, x6], _, [y0, y1, y2, y3, y4, y5, y6], _ =>
    have h0 : Trods enc W n 3 [x0] y0 := by simpa [cell_int, Value.cells] using hf 0 _ rfl
    have h1 : Trods enc W n 3 [x1] y1 := by simpa [cell_int, Value.cells] using hf 1 _ rfl
    have h2 : Trods enc W n 3 [x2] y2 := by simpa [cell_int, Value.cells] using hf 2 _ rfl
    have h3 : Trods enc W n 3 [x3] y3 := by simpa [cell_int, Value.cells] using hf 3 _ rfl
    have h4 : Trods enc W n 26 [x4] y4 := by simpa [show Try.prog.cellsOf 26 = 1 by kernel_rfl, Value.cells] using hf 4 _ rfl
    have h5 : Trods enc W n 27 [x5] y5 := by simpa [show Try.prog.cellsOf 27 = 1 by kernel_rfl, Value.cells] using hf 5 _ rfl
    have h6 : Trods enc W n 28 [x6] y6 := by simpa [show Try.prog.cellsOf 28 = 1 by kernel_rfl, Value.cells] using hf 6 _ rfl
    have hd : d = .agg ([y0, y1, y2, y3, y4, y5, y6].map (·.1)) := congrArg Prod.fst hx
    obtain ⟨m0, rfl⟩ := int_at h0
    obtain ⟨m1, rfl⟩ := int_at h1
    obtain ⟨m2, rfl⟩ := int_at h2
    obtain ⟨m3, rfl⟩ := int_at h3
    obtain ⟨la, a1, a2⟩ := open_recs (sz := 2) Try.underlying26 (by kernel_rfl) (by decide) (fun fuel cs y => el_part) h4
    obtain ⟨le, e1, e2⟩ := open_recs (sz := 3) Try.underlying27 (by kernel_rfl) (by decide) (fun fuel cs y => el_line) h5
    obtain ⟨lo, o1, o2⟩ := open_recs (R := fun _ (a : GOp) cs => cs = opV a) (sz := 3) Try.underlying28 (by kernel_rfl) (by decide) (fun fuel cs y => el_op) h6
    refine ⟨⟨m0, m1, m2, m3, la, le, lo⟩, ⟨_, _, _, rfl, a1, e1, row_of_recs (fun a n c e => hspot a n c (by rw [← e]; rfl)) o1⟩, fun hL => ?_⟩
    rw [hd] at hL
    have a3 := a2 (light_part Try.underlying30 hL (i := 4) rfl rfl)
    have e3 := e2 (light_part Try.underlying30 hL (i := 5) rfl rfl)
    have o3 := o2 (light_part Try.underlying30 hL (i := 6) rfl rfl)
    rw [show Try.prog.bytesOf 81 = 32 by kernel_rfl, reach_val] at a3
    rw [show Try.prog.bytesOf 76 = 40 by kernel_rfl, reach_val] at e3
    rw [show Try.prog.bytesOf 43 = 24 by kernel_rfl, reach_val] at o3
    exact ⟨⟨by have := a3.1; show la.length ≤ _; omega, by have := e3.1; show le.length ≤ _; omega, by have := o3.1; show lo.length ≤ _; omega, fun a ha => (a3.2 a ha).1, fun a ha => (e3.2 a ha).1⟩, fun a ha => (a3.2 a ha).2, fun a ha => (e3.2 a ha).2⟩
end
end Go.Proofs.Ytnnnpippekpibaa

namespace Go.Proofs.Ytnnnpippekpibaa.svmStands
open Go.ChangeShapes Go.WideShapes Go.ChangeAt Go.RowKit
open Go.ChangeMaps (open_string shut_string)

theorem own : ownKnob Try.prog.godebug = none := by kernel_rfl
theorem laidOut : laidOutB Try.prog = true := by kernel_rfl

set_option maxRecDepth 100000 in
theorem contract (H : Type) (enc : TypeId × Value → H) (W : World) (base : Nat) (args : Array Value) (ds gs : List (DataW H)) (before : List MemPlace)
    (hval : ∀ (j : Nat) t v, Try.f6.params[j]? = some t → args[j]? = some v → Value.okWide Try.prog W .any base t v)
    (hW : DataW.Whole enc Try.prog Try.f6.params.toList Rows.svmStandsSpec.vars false W args.toList ds gs before) (hsz0 : (DataW.weightsEach Try.prog (Try.f6.params.toList ++ Rows.svmStandsSpec.plain.varTypes Try.prog) (ds ++ gs)).all (· ≤ reachBytes) = true) :
    Calls Try.prog 6 args W fun e W' => ∃ v, e = .returned v ∧ Rows.svmStandsSpec.post enc Try.prog Try.f6 false true false false W args v W' := by
  have hW' := hW
  obtain ⟨p, q, hA0, hV, rfl, hfz, hnd⟩ := hW
  have hA : DataW.TrodAll enc Try.prog W 0 (fun _ => true) true Try.f6.params.toList args.toList ds p := hA0
  rw [Try.params6] at hA hval
  obtain ⟨v0, vs0, d0, ds0, p0, q0, hargs, rfl, rfl, h0, r0⟩ := trodAll_cons hA
  obtain ⟨v1, vs1, d1, ds1, p1, q1, rfl, rfl, rfl, h1, r1⟩ := trodAll_cons r0
  obtain ⟨v2, vs2, d2, ds2, p2, q2, rfl, rfl, rfl, h2, r2⟩ := trodAll_cons r1
  obtain ⟨rfl, rfl, rfl⟩ := trodAll_nil r2
  obtain rfl : args = #[v0, v1, v2] := by cases args; simp_all
  obtain ⟨rfl, rfl⟩ := trodVars_none hV
  have hS : (DataW.weightsEach Try.prog [30, 45, 37] [d0, d1, d2]).all (· ≤ reachBytes) = true := hsz0
  have k0 := h0
  have lt0 : ∀ x ∈ p0, x.block < W.heap.size := by obtain ⟨m, hm⟩ := k0; exact DataW.trod_lt m _ _ _ hm
  have k1 := h1
  have lt1 : ∀ x ∈ p1, x.block < W.heap.size := by obtain ⟨m, hm⟩ := k1; exact DataW.trod_lt m _ _ _ hm
  have k2 := h2
  have lt2 : ∀ x ∈ p2, x.block < W.heap.size := by obtain ⟨m, hm⟩ := k2; exact DataW.trod_lt m _ _ _ hm
  have L0 : Light Try.prog 30 d0 := fun x hx => of_decide_eq_true (List.all_eq_true.1 hS _ (DataW.weights_mem_each (j := 0) rfl rfl x hx))
  obtain ⟨g0, i0, z0⟩ := open_prog (hval 0 30 v0 rfl rfl) h0
  have z0 := z0 L0
  have L1 : Light Try.prog 45 d1 := fun x hx => of_decide_eq_true (List.all_eq_true.1 hS _ (DataW.weights_mem_each (j := 1) rfl rfl x hx))
  obtain ⟨xs1, i1, m1, z1⟩ := open_rows_sized (P := Try.prog) (t := 45) Try.underlying45 Try.underlying37 Try.underlying3 (by kernel_rfl) (by kernel_rfl) (okWide_slice Try.underlying45 (hval 1 45 v1 rfl rfl)) h1
  have z1 := z1 L1
  rw [show Try.prog.bytesOf 3 = 8 by kernel_rfl, show Try.prog.bytesOf 37 = 24 by kernel_rfl, show reachBytes = 140737488351232 from rfl] at z1
  obtain ⟨zs2, i2, l2⟩ := open_in_ints Try.underlying37 Try.underlying3 (by kernel_rfl) (okWide_slice Try.underlying37 (hval 2 37 v2 rfl rfl)) h2
  have z2 := l2.reach hS (j := 2) rfl rfl Try.underlying37
  rw [show Try.prog.bytesOf 3 = 8 by kernel_rfl] at z2
  clear hA0
  refine (stands_all W v0 g0 v1 xs1 v2 zs2 i0 z0.1 z0.2.1 z0.2.2 i1 (fun x h => by have := z1.2 x h; omega) (fun x h z hz => m1 x h z hz) (by omega) i2.has (by omega) i2.fits).mono fun e W' ⟨he, bel⟩ => ?_
  subst he
  exact ⟨_, rfl, _, _, _, [], _, [], hW', trodAll_mk1 (shut_bool Try.underlying4 _), (trodAll_cons_mk (Below.trod laidOut (by kernel_rfl) (of_decide_eq_true (by kernel_rfl)) k0 bel lt0) (trodAll_cons_mk (Below.trod laidOut (by kernel_rfl) (of_decide_eq_true (by kernel_rfl)) k1 bel lt1) (trodAll_cons_mk (Below.trod laidOut (by kernel_rfl) (of_decide_eq_true (by kernel_rfl)) k2 bel lt2) trodAll_mk0))), rfl, bel.frame _, fun h => by cases h⟩

set_option maxRecDepth 100000 in
theorem lifted (os : Os) (started : os.Started) (H : Type) (enc : TypeId × Value → H) :
    ReturnsInHanded {} Try.checked os 6 .any (Rows.svmStandsSpec.pre6 enc Try.prog Try.f6 Rows.svmStandsRow.domain false) (Rows.svmStandsSpec.post enc Try.prog Try.f6 false true false false) := by
  refine returnsInHanded_of_change_sized (C := Try.checked) own started (by kernel_rfl) Try.func6
    (ChangeSpec.witness6 (enc := enc) (C := Try.checked) false ⟨#[], #[.agg #[.int .i64 0, .int .i64 0, .int .i64 0, .int .i64 0, .slice none 0 0, .slice none 0 0, .slice none 0 0], .slice none 0 0, .slice none 0 0], []⟩ 8 (by kernel_rfl) (by kernel_rfl) (by kernel_rfl) (by kernel_rfl)) ?_
  intro W base args ds gs before hval hW _ hsz0 _
  exact contract H enc W base args ds gs before hval hW hsz0

theorem proved : Rows.SvmStandsSaid :=
  OpenClaim.holds_of_wide 6 Try.f6 rfl rfl rfl rfl rfl rfl rfl ⟨rfl, rfl, rfl, rfl, rfl⟩ rfl rfl rfl rfl rfl (by kernel_rfl) Try.func6 (by kernel_rfl)
    (of_decide_eq_true (by kernel_rfl)) (by unfold Func.isWrapper; first | (rw [if_pos (by decide +kernel)]; kernel_rfl) | (rw [if_neg (by decide +kernel)]; exact ⟨rfl, rfl⟩))
    (fun os started H enc _ => lifted os started H enc)
end Go.Proofs.Ytnnnpippekpibaa.svmStands
