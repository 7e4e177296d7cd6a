/- The law's walk through a program, walked. -/
import Derived.Test.YtbmbfifempkhgaaEmitSmallZ8
import Derived.Test.YtbmbfifempkhgaaEmitSmallZ6
import Derived.Test.YtbmbfifempkhgaaEmitSmallZ1
import Derived.Maps.Keyed
import Derived.DeepKeys3
import Derived.Test.YtbmbfifempkhgaaEmitSmallZ3
import Derived.Test.YtbmbfifempkhgaaEmitSmallZ4
namespace Go.Proofs.Ytbmbfifempkhgaa
open Go.RowKit

theorem csW_out {cs : List Int} {y a b : Int} (h : ¬ (0 ≤ a ∧ a < 64)) : csW cs ⟨y, a, b⟩ = cs := if_neg h
theorem pcW_out {cs : List Int} {y a b pc : Int} (h : ¬ (0 ≤ a ∧ a < 64)) : pcW cs ⟨y, a, b⟩ pc = pc + 1 := if_neg (fun h2 => h h2.1)
theorem csW_in {cs : List Int} {y b : Int} {a : Nat} (h : a < 64) : csW cs ⟨y, a, b⟩ = if y = 1 then cs.set a b else if y = 2 then cs.set a (cs[a]?.getD 0 - 1) else cs := by
  unfold csW
  rw [if_pos (show reachW ⟨y, a, b⟩ from ⟨by show (0 : Int) ≤ a; omega, by show (a : Int) < 64; omega⟩)]
  simp
theorem pcW_in {cs : List Int} {y b pc : Int} {a : Nat} (h : a < 64) : pcW cs ⟨y, a, b⟩ pc = if y = 2 ∧ 0 < cs[a]?.getD 0 - 1 then b else pc + 1 := by
  unfold pcW
  have hr : reachW ⟨y, a, b⟩ := ⟨by show (0 : Int) ≤ a; omega, by show (a : Int) < 64; omega⟩
  simp [hr]

def WalkRetL (w : World) (m : Nat) (c : List Int) (e : Ending) (w' : World) : Prop := ∃ v o, e = .returned (.tuple #[v, .int .i64 (m : Int)]) ∧ Ints w' o 4 v c ∧ Below w.heap.size w w'
abbrev zeros64 : Array Value := (ivs (List.replicate 64 0)).toArray
theorem make_z (w : World) : (Instr.makeSlice 52 (.int .i64 64) (.int .i64 64)).run Try.prog w = .ok (.slice (some ⟨w.heap.size, 0, none⟩) 64 64) (w.alloc (.cells zeros64 3)) := by
  obtain ⟨i0, hi, hz0, hz1, hz2⟩ := info_parts info_intX
  have hr := run_make (P := Try.prog) (w := w) 52 3 i0 _ Try.underlying52 hi hz0 .i64 .i64 (64 : Int) (64 : Int) (by omega) (Int.le_refl _) (by rw [hz2]; omega) (by omega)
  rw [hz1] at hr
  rw [hr]
  have e : madeCells (Value.cells (.int .i64 0)) ((64 : Int).toNat * 1) = zeros64 := by
    apply Array.toList_inj.1
    simp [madeCells, Value.cells, ivs, Nat.mod_one, List.map_const']
  rw [e]
  rfl

theorem ivs_set (l : List Int) (k : Nat) (b : Int) : (ivs l).toArray.setIfInBounds k (.int .i64 b) = (ivs (l.set k b)).toArray := by simp [ivs, List.map_set]
/-- what the loop holds -/
structure WAt (w0 : World) (P : GProg) (PB CB : Nat) (pv : Array Value) (k m : Nat) (v n q : Value) (w : World) : Prop where
  is : ∃ (o : Col) (c cs : List Int) (pc : Int), k ≤ m ∧ wI P.ops ⟨[], List.replicate 64 0, 0⟩ k = ⟨c, cs, pc⟩ ∧ n = .int .i64 (k : Int) ∧ q = .int .i64 pc ∧ Own w o 4 3 1 v c.length (ivs c) ∧ Blk w o 3 CB 3 (ivs cs).toArray ∧ Blk w o 2 PB 39 pv ∧ Kept w0.heap.size o w0 w ∧ c.length ≤ k

set_option maxRecDepth 100000 in
set_option maxHeartbeats 4000000 in
theorem lwalk_any (w : World) (v : Value) (P : GProg) (m : Nat) (c1 cs1 : List Int) (hv : HasProg w v P) (hl : P.ops.length ≤ 1000000) (hm : m ≤ 131072) (hr : Runs P.ops ⟨[], List.replicate 64 0, 0⟩ m ⟨c1, cs1, P.ops.length⟩) :
    Calls Try.prog 29 #[v] w (WalkRetL w m c1) := by
  obtain ⟨i0, hi, hz0, hz1, hz2⟩ := info_parts info_intX
  obtain ⟨vp, vl, vo, rfl, rp, rl, ro⟩ := hv
  obtain ⟨ao, co, rfl⟩ := ro.slice
  have hb := below_alloc w (.cells #[.int .i64 P.memory, .int .i64 P.counters, .int .i64 P.ins, .int .i64 P.outs, vp, vl, .slice ao P.ops.length co] 39)
  have hx : Blk (w.alloc (.cells #[.int .i64 P.memory, .int .i64 P.counters, .int .i64 P.ins, .int .i64 P.outs, vp, vl, .slice ao P.ops.length co] 39)) (ext (fun _ => 0) w.heap.size 2) 2 w.heap.size 39 _ := ⟨heap_alloc_new w _, ext_new (Nat.le_refl _)⟩
  have hK := (Kept.start w).of_below 2 hb
  have RO := Lib.hid ro
  have HL := Lib.hid hl
  have HM := Lib.hid hm
  have HR := Lib.hid hr
  obtain ⟨w1, hw1⟩ : ∃ x, w.alloc (.cells #[.int .i64 P.memory, .int .i64 P.counters, .int .i64 P.ins, .int .i64 P.outs, vp, vl, .slice ao P.ops.length co] 39) = x := ⟨_, rfl⟩
  rw [hw1] at hx hK
  have hmk := make_z w1
  have hb1 := below_alloc w1 (.cells zeros64 3)
  have hC : Blk (w1.alloc (.cells zeros64 3)) (ext (ext (fun _ => 0) w.heap.size 2) w1.heap.size 3) 3 w1.heap.size 3 zeros64 := ⟨heap_alloc_new w1 _, ext_new (Nat.le_refl _)⟩
  have T1 := Turn.of_below (ext (fun _ => 0) w.heap.size 2) 3 hb1
  have HX := Lib.hid (hx.turn T1 (fun h => h))
  have HK := Lib.hid (hK.turn T1 (fun h => h))
  have HC := Lib.hid hC
  clear rp rl ro hb hb1 T1 hC hx hK hl hm hr
  go_enter Try.func29, Try.ntmps29
  go_wp2_with fail
  clear hmk hw1
  obtain ⟨w2, hw2⟩ : ∃ x, w1.alloc (.cells zeros64 3) = x := ⟨_, rfl⟩
  obtain ⟨PB, hPB⟩ : ∃ x, w.heap.size = x := ⟨_, rfl⟩
  obtain ⟨CB, hCB⟩ : ∃ x, w1.heap.size = x := ⟨_, rfl⟩
  rw [hw2] at HX HK HC ⊢
  obtain ⟨o1, ho1⟩ : ∃ x, ext (ext (fun _ => 0) w.heap.size 2) w1.heap.size 3 = x := ⟨_, rfl⟩
  rw [ho1] at HX HK HC
  rw [hPB] at HX
  rw [hCB] at HC
  rw [hPB, hCB]
  clear hw2 ho1
  go_loopw [4, 6, 7] (fun v n q wr => ∃ k, WAt w P PB CB #[.int .i64 P.memory, .int .i64 P.counters, .int .i64 P.ins, .int .i64 P.outs, vp, vl, .slice ao P.ops.length co] k m v n q wr) (fun _ n _ _ => m - (intOf n).toNat)
  case atStart => exact ⟨0, ⟨_, _, _, _, Nat.zero_le _, rfl, rfl, rfl, Own.nil _ _ _ _ _, HC.out, HX.out, HK.out, Nat.le_refl _⟩⟩
  case round =>
    clear HX HK HC hPB hCB
    obtain ⟨k, o, c, cs, pc, hk, hs, rfl, rfl, hO, hC, hX, hK, hck⟩ := hrel
    have HO := Lib.hid hO
    have HC := Lib.hid hC
    have HX := Lib.hid hX
    have HK := Lib.hid hK
    have x6 := hX.cell 6 _ rfl
    obtain ⟨va, vc, rfl⟩ := hO.slice
    have hml := HM.out
    clear hO hC hX hK
    by_cases hkm : k < m
    · have hok := HR.out.ok k hkm
      rw [hs] at hok
      obtain ⟨hlo, hhi, hcs⟩ := hok
      obtain ⟨p, rfl⟩ := Int.eq_ofNat_of_zero_le hlo
      have hhi' : (p : Int) < P.ops.length := hhi
      have hplt : p < P.ops.length := by omega
      obtain ⟨-, hcap, b0, off, rfl, hcl⟩ := RO.out.at hplt
      obtain ⟨d0, d1, d2⟩ := hcl p hplt
      have d0 := cell_later HK.out.below d0
      have d1 := cell_later HK.out.below d1
      have d2 := cell_later HK.out.below d2
      have hcapi : (P.ops.length : Int) ≤ co := by omega
      have hnx : wI P.ops ⟨[], List.replicate 64 0, 0⟩ (k + 1) = ⟨if (P.ops[p]).kind = 5 then c ++ [(P.ops[p]).a] else c, csW cs P.ops[p], pcW cs P.ops[p] p⟩ := by
        rw [wI, hs, wS, opW_at (List.getElem?_eq_getElem hplt)]
      have HN := Lib.hid hnx
      have HCS := Lib.hid hcs
      clear hnx hcs hs hlo hhi hcl
      obtain ⟨x, hx⟩ : ∃ x, P.ops[p] = x := ⟨_, rfl⟩
      rw [hx] at HN d0 d1 d2
      clear hx
      obtain ⟨y, a, b⟩ := x
      dsimp only at HN d0 d1 d2
      have hll := HL.out
      have hBX := below_alloc wr (.cells #[.int .u8 y, .int .i64 a, .int .i64 b] 61)
      have hB : Blk _ (ext o wr.heap.size 8) 8 _ _ _ := ⟨heap_alloc_new wr (.cells #[.int .u8 y, .int .i64 a, .int .i64 b] 61), ext_new (Nat.le_refl _)⟩
      have TX := Turn.of_below o 8 hBX
      have HO5 := Lib.hid (HO.out.turn TX (fun h => h))
      have HC5 := Lib.hid (HC.out.turn TX (fun h => h))
      have HX5 := Lib.hid (HX.out.turn TX (fun h => h))
      have HK5 := Lib.hid (HK.out.turn TX (fun h => h))
      have HB5 := Lib.hid hB
      have u0 := hB.cell 0 _ rfl
      have u1 := hB.cell 1 _ rfl
      clear hBX hB TX HO HC HX HK
      by_cases hy : y = 5
      · subst hy
        go_wp2_with (at_builtin; refine stop_here ?_)
        refine go_on ?_
        obtain ⟨w5, hw5⟩ : ∃ x, wr.alloc (.cells #[.int .u8 5, .int .i64 a, .int .i64 b] 61) = x := ⟨_, rfl⟩
        obtain ⟨o5, ho5⟩ : ∃ x, ext o wr.heap.size 8 = x := ⟨_, rfl⟩
        obtain ⟨X, hX⟩ : ∃ x, wr.heap.size = x := ⟨_, rfl⟩
        have hs5 : w5.heap.size = X + 1 := by rw [← hw5, ← hX]; simp
        rw [hw5, ho5] at HO5 HC5 HX5 HK5 HB5
        rw [hw5]
        rw [hX] at HB5 ⊢
        clear hw5 ho5 hX u0 u1 d0 d1 d2 x6
        refine wpList_app rfl _ _ 52 rfl 0 3 i0 _ 1 8 Try.underlying52 hi hz0 hz1 hz2 rfl (.slice va c.length vc) c.length _ rfl (HO5.out.1.alloc (.cells #[.int .i64 a] 3)) (some ⟨X + 1, 0, none⟩) 1 1 [.int .i64 a] rfl rfl (fun h => by cases h) (by rw [← hs5]; exact news_alloc w5 [.int .i64 a] 3) (by simp [Value.oneCell']) (by unfold maxLen; omega) (grow_ok (by omega)) (Nat.zero_le _) ?_
        intro v7 w7 k1 k20 _ k4
        obtain ⟨sp7, cp7, rfl⟩ := owns_slice k1
        have hm7 : Mods (fun b => (Value.slice va c.length vc).ownBlock = some b) w5 w7 := ((Mods.refl _ w5).alloc _).grown k20 (fun b hb _ => hb)
        have T7 : Turn o5 (ext o5 w5.heap.size 4) (fun x => x = 4) w5 w7 := Turn.of_mods o5 4 hm7 (fun b _ hb => HO5.out.2 b hb)
        have HO6 : Hid (Own w7 (ext o5 w5.heap.size 4) 4 3 1 (.slice sp7 (c.length + 1) cp7) (c ++ [a]).length (ivs (c ++ [a]))) := Lib.hid ⟨by simpa using k1, fun b hb => by
          rcases k4 with k4 | k4
          · rw [k4] at hb
            exact (ext_old (HO5.out.1.lt b hb).2).trans (HO5.out.2 b hb)
          · rw [k4] at hb
            have := Option.some.inj hb
            simp at this
            exact ext_new (by omega)⟩
        have HC6 := Lib.hid (HC5.out.turn T7 (by decide))
        have HX6 := Lib.hid (HX5.out.turn T7 (by decide))
        have HB6 := Lib.hid (HB5.out.turn T7 (by decide))
        have HK6 := Lib.hid (HK5.out.turn T7 (by decide))
        have HLN : Hid ((c ++ [a]).length ≤ k + 1) := Lib.hid (by simp; omega)
        have HN0 : Hid (∀ cs' pc', csW cs ⟨5, a, b⟩ = cs' → pcW cs ⟨5, a, b⟩ p = pc' → wI P.ops ⟨[], List.replicate 64 0, 0⟩ (k + 1) = ⟨c ++ [a], cs', pc'⟩) := Lib.hid (by
          intro cs' pc' e1 e2
          rw [HN.out, if_pos trivial, e1, e2])
        clear HN k1 k20 k4 hm7 T7 HO5 HC5 HX5 HB5 HK5 hs5
        generalize ext o5 w5.heap.size 4 = o6 at *
        have u0 := HB6.out.cell 0 _ rfl
        have u1 := HB6.out.cell 1 _ rfl
        have u2 := HB6.out.cell 2 _ rfl
        by_cases ha : a < 0
        · have HN := Lib.hid (HN0.out _ _ (csW_out (by omega)) (pcW_out (by omega)))
          clear HN0
          go_wp2
          go_roundw
          case rel => exact ⟨k + 1, ⟨_, _, _, _, hkm, HN.out, by go_num, by go_num, HO6.out, HC6.out, HX6.out, HK6.out, by first | exact HLN.out | (have := HLN.out; omega)⟩⟩
          case measure => simp [intOf]; omega
        by_cases ha2 : 64 ≤ a
        · have HN := Lib.hid (HN0.out _ _ (csW_out (by omega)) (pcW_out (by omega)))
          clear HN0
          go_wp2
          go_roundw
          case rel => exact ⟨k + 1, ⟨_, _, _, _, hkm, HN.out, by go_num, by go_num, HO6.out, HC6.out, HX6.out, HK6.out, by first | exact HLN.out | (have := HLN.out; omega)⟩⟩
          case measure => simp [intOf]; omega
        obtain ⟨a, rfl⟩ := Int.eq_ofNat_of_zero_le (show 0 ≤ a by omega)
        have ha3 : a < 64 := by omega
        have ha4 : (a : Int) < 64 := by omega
        have HN1 := Lib.hid (HN0.out _ _ (csW_in ha3) (pcW_in ha3))
        clear HN0
        rw [if_neg (by omega), if_neg (by omega), if_neg (by omega)] at HN1
        have HN := HN1
        clear HN1
        go_wp2
        go_roundw
        case rel => exact ⟨k + 1, ⟨_, _, _, _, hkm, HN.out, by go_num, by go_num, HO6.out, HC6.out, HX6.out, HK6.out, by first | exact HLN.out | (have := HLN.out; omega)⟩⟩
        case measure => simp [intOf]; omega
      · have HO6 := HO5
        have HC6 := HC5
        have HX6 := HX5
        have HK6 := HK5
        have HB6 := HB5
        have HLN : Hid (c.length ≤ k + 1) := Lib.hid (by omega)
        have HN0 : Hid (∀ cs' pc', csW cs ⟨y, a, b⟩ = cs' → pcW cs ⟨y, a, b⟩ p = pc' → wI P.ops ⟨[], List.replicate 64 0, 0⟩ (k + 1) = ⟨c, cs', pc'⟩) := Lib.hid (by
          intro cs' pc' e1 e2
          rw [HN.out, if_neg hy, e1, e2])
        clear HN HO5 HC5 HX5 HB5 HK5 u0 u1
        have u0 := HB6.out.cell 0 _ rfl
        have u1 := HB6.out.cell 1 _ rfl
        have u2 := HB6.out.cell 2 _ rfl
        by_cases ha : a < 0
        · have HN := Lib.hid (HN0.out _ _ (csW_out (by omega)) (pcW_out (by omega)))
          clear HN0
          go_wp2
          go_roundw
          case rel => exact ⟨k + 1, ⟨_, _, _, _, hkm, HN.out, by go_num, by go_num, HO6.out, HC6.out, HX6.out, HK6.out, by first | exact HLN.out | (have := HLN.out; omega)⟩⟩
          case measure => simp [intOf]; omega
        by_cases ha2 : 64 ≤ a
        · have HN := Lib.hid (HN0.out _ _ (csW_out (by omega)) (pcW_out (by omega)))
          clear HN0
          go_wp2
          go_roundw
          case rel => exact ⟨k + 1, ⟨_, _, _, _, hkm, HN.out, by go_num, by go_num, HO6.out, HC6.out, HX6.out, HK6.out, by first | exact HLN.out | (have := HLN.out; omega)⟩⟩
          case measure => simp [intOf]; omega
        obtain ⟨a, rfl⟩ := Int.eq_ofNat_of_zero_le (show 0 ≤ a by omega)
        have ha3 : a < 64 := by omega
        have ha4 : (a : Int) < 64 := by omega
        have HN1 := Lib.hid (HN0.out _ _ (csW_in ha3) (pcW_in ha3))
        clear HN0
        have hal : a < cs.length := by rw [HCS.out.1]; exact ha3
        obtain ⟨r, hr⟩ : ∃ r, cs[a]? = some r := ⟨_, List.getElem?_eq_getElem hal⟩
        have hrb := HCS.out.2 r (List.mem_of_getElem? hr)
        have cr := HC6.out.cell a (iv r) (by simp [ivs, hr])
        have fz := HC6.out.frozen a
        by_cases hy1 : y = 1
        · subst hy1
          rw [if_pos rfl, if_neg (by omega)] at HN1
          have HN := HN1
          clear HN1
          obtain ⟨b6, T6⟩ := HC6.out.set a (iv b)
          rw [ivs_set] at b6
          have HO7 := Lib.hid (HO6.out.turn T6 (by decide))
          have HX7 := Lib.hid (HX6.out.turn T6 (by decide))
          have HK7 := Lib.hid (HK6.out.turn T6 (by decide))
          have HC7 := Lib.hid b6
          have vb := (HB6.out.turn T6 (by decide)).cell 0 _ rfl
          clear T6 b6 HO6 HX6 HK6 HC6 HB6
          go_wp2
          go_roundw
          case rel => exact ⟨k + 1, ⟨_, _, _, _, hkm, HN.out, by go_num, by go_num, HO7.out, HC7.out, HX7.out, HK7.out, HLN.out⟩⟩
          case measure => simp [intOf]; omega
        by_cases hy2 : y = 2
        · subst hy2
          rw [if_neg (by omega), if_pos rfl, hr] at HN1
          have HN2 : Hid (wI P.ops ⟨[], List.replicate 64 0, 0⟩ (k + 1) = ⟨c, cs.set a (r - 1), if 0 < r - 1 then b else (p : Int) + 1⟩) := Lib.hid (by rw [HN1.out]; simp)
          obtain ⟨b6, T6⟩ := HC6.out.set a (iv (r - 1))
          rw [ivs_set] at b6
          have HO7 := Lib.hid (HO6.out.turn T6 (by decide))
          have HX7 := Lib.hid (HX6.out.turn T6 (by decide))
          have HK7 := Lib.hid (HK6.out.turn T6 (by decide))
          have HC7 := Lib.hid b6
          have hB7 := HB6.out.turn T6 (by decide)
          have vb := hB7.cell 0 _ rfl
          have vb1 := hB7.cell 1 _ rfl
          have vb2 := hB7.cell 2 _ rfl
          have vc := b6.cell a (iv (r - 1)) (by simp [ivs, hal])
          clear T6 b6 HO6 HX6 HK6 HC6 HB6 hB7 HN1
          by_cases hpos : 0 < r - 1
          · rw [if_pos hpos] at HN2
            go_wp2
            go_roundw
            case rel => exact ⟨k + 1, ⟨_, _, _, _, hkm, HN2.out, by go_num, by go_num, HO7.out, HC7.out, HX7.out, HK7.out, HLN.out⟩⟩
            case measure => simp [intOf]; omega
          · rw [if_neg hpos] at HN2
            go_wp2
            go_roundw
            case rel => exact ⟨k + 1, ⟨_, _, _, _, hkm, HN2.out, by go_num, by go_num, HO7.out, HC7.out, HX7.out, HK7.out, HLN.out⟩⟩
            case measure => simp [intOf]; omega
        · rw [if_neg hy1, if_neg hy2, if_neg (fun h => hy2 h.1)] at HN1
          have HN := HN1
          clear HN1
          go_wp2
          go_roundw
          case rel => exact ⟨k + 1, ⟨_, _, _, _, hkm, HN.out, by go_num, by go_num, HO6.out, HC6.out, HX6.out, HK6.out, by first | exact HLN.out | (have := HLN.out; omega)⟩⟩
          case measure => simp [intOf]; omega
    · obtain rfl : k = m := by omega
      have hend := HR.out.is
      rw [hs] at hend
      injection hend with e1 e2 e3
      subst e1 e2 e3
      clear hs
      go_wp2
      go_ret2
      exact ⟨_, _, rfl, HO.out.vals, HK.out.below⟩
end Go.Proofs.Ytbmbfifempkhgaa

/- Numberings: the maps of loops.names, as lists of keys. -/
namespace Go.Proofs.Ytbmbfifempkhgaa
open Go.RowKit
open Go.Maps (Keyed IsMap Tidy)

theorem face_law : Keyed Try.prog 168 := Maps.Keyed.of_law (deep_law (m := 3) (by decide) (by kernel_rfl) (by kernel_rfl) (by kernel_rfl))
theorem link_law : Keyed Try.prog 190 := Maps.Keyed.of_law (deep_law (m := 3) (by decide) (by kernel_rfl) (by kernel_rfl) (by kernel_rfl))
def keyL (k : List Int) : Lit := .string (keyBytes (k.map (Lit.int .i64)))
def WfL (k : List Int) : Prop := ∀ x ∈ k, -9223372036854775808 ≤ x ∧ x ≤ 9223372036854775807
theorem wf_lit {x : Int} (h : -9223372036854775808 ≤ x ∧ x ≤ 9223372036854775807) : (Lit.int .i64 x).wf = true := by
  have e1 : IntKind.i64.min = -9223372036854775808 := by decide
  have e2 : IntKind.i64.max = 9223372036854775807 := by decide
  simp only [Lit.wf, e1, e2, Bool.and_eq_true, decide_eq_true_eq]
  exact h
theorem key_face {a b c : Int} (h : WfL [a, b, c]) : keyOf Try.prog 168 (.agg #[.int .i64 a, .int .i64 b, .int .i64 c]) = some (keyL [a, b, c]) := by
  have h1 := wf_lit (h a (by simp))
  have h2 := wf_lit (h b (by simp))
  have h3 := wf_lit (h c (by simp))
  have hk : Try.prog.keyType 168 = true := by kernel_rfl
  have hs : Try.prog.cellsOf 168 = 3 := by kernel_rfl
  have hi : Try.prog.cellsOf 3 = 1 := by kernel_rfl
  obtain ⟨m, hm⟩ : ∃ m, Try.prog.types.size = m + 1 := ⟨Try.prog.types.size - 1, by kernel_rfl⟩
  unfold keyOf
  simp only [Try.underlying168]
  rw [if_pos (by simp [hk, Value.formed, Try.underlying168, hs]), hm]
  simp [Program.keyLits, Try.underlying168, Try.underlying3, hs, hi, h1, h2, h3, Value.cells, keyL]
theorem key_link {a b : Int} (h : WfL [a, b]) : keyOf Try.prog 190 (.agg #[.int .i64 a, .int .i64 b]) = some (keyL [a, b]) := by
  have h1 := wf_lit (h a (by simp))
  have h2 := wf_lit (h b (by simp))
  have hk : Try.prog.keyType 190 = true := by kernel_rfl
  have hs : Try.prog.cellsOf 190 = 2 := by kernel_rfl
  have hi : Try.prog.cellsOf 3 = 1 := by kernel_rfl
  obtain ⟨m, hm⟩ : ∃ m, Try.prog.types.size = m + 1 := ⟨Try.prog.types.size - 1, by kernel_rfl⟩
  unfold keyOf
  simp only [Try.underlying190]
  rw [if_pos (by simp [hk, Value.formed, Try.underlying190, hs]), hm]
  simp [Program.keyLits, Try.underlying190, Try.underlying3, hs, hi, h1, h2, Value.cells, keyL]

def FaceK (k : List Int) : Prop := k.length = 3 ∧ WfL k
def LinkK (k : List Int) : Prop := k.length = 2 ∧ WfL k
theorem faceK_of {a b c : Int} (h : WfL [a, b, c]) : FaceK [a, b, c] := ⟨rfl, h⟩
theorem face_inj {k k' : List Int} (h : FaceK k) (h' : FaceK k') (e : keyL k = keyL k') : k = k' := by
  match k, k', h, h' with
  | [a, b, c], [a', b', c'], h, h' =>
    have e1 := key_face h.2
    have e2 := key_face h'.2
    rw [← e] at e2
    have := face_law.inj e1 e2
    simp at this
    simp [this]
theorem link_inj {k k' : List Int} (h : LinkK k) (h' : LinkK k') (e : keyL k = keyL k') : k = k' := by
  match k, k', h, h' with
  | [a, b], [a', b'], h, h' =>
    have e1 := key_link h.2
    have e2 := key_link h'.2
    rw [← e] at e2
    have := link_law.inj e1 e2
    simp at this
    simp [this]
def numT (KS : List (List Int)) (k : List Int) : Nat := if k ∈ KS then KS.idxOf k + 1 else 0
def addT (KS : List (List Int)) (k : List Int) : List (List Int) := if k ∈ KS then KS else KS ++ [k]
theorem numT_add_mem {KS : List (List Int)} {k : List Int} (h : k ∈ KS) : numT (addT KS k) k = numT KS k := by rw [addT, if_pos h]
theorem numT_new {KS : List (List Int)} {k : List Int} (h : k ∉ KS) : numT (KS ++ [k]) k = KS.length + 1 := by
  rw [numT, if_pos (by simp), List.idxOf_append, if_neg h]
  simp
theorem numT_old {KS : List (List Int)} {k k' : List Int} (h : k' ≠ k) : numT (KS ++ [k]) k' = numT KS k' := by
  unfold numT
  by_cases h1 : k' ∈ KS
  · rw [if_pos (by simp [h1]), if_pos h1, List.idxOf_append, if_pos h1]
  · rw [if_neg (by simp [h1, h]), if_neg h1]
theorem numT_pos {KS : List (List Int)} {k : List Int} (h : k ∈ KS) : 1 ≤ numT KS k := by rw [numT, if_pos h]; omega
theorem numT_zero {KS : List (List Int)} {k : List Int} (h : k ∉ KS) : numT KS k = 0 := by rw [numT, if_neg h]
theorem numT_get {KS : List (List Int)} {k : List Int} (h : k ∈ KS) : KS[numT KS k - 1]? = some k := by
  rw [numT, if_pos h, Nat.add_sub_cancel]
  rw [List.getElem?_eq_getElem (List.idxOf_lt_length_of_mem h), List.getElem_idxOf]
theorem mem_add (KS : List (List Int)) (k : List Int) : k ∈ addT KS k := by
  unfold addT
  split
  · assumption
  · simp
theorem addT_pre (KS : List (List Int)) (k : List Int) : KS <+: addT KS k := by
  unfold addT
  split
  · exact List.prefix_rfl
  · exact List.prefix_append _ _
theorem addT_len (KS : List (List Int)) (k : List Int) : (addT KS k).length ≤ KS.length + 1 := by
  unfold addT
  split
  · omega
  · simp
theorem numT_le (KS : List (List Int)) (k : List Int) : numT KS k ≤ KS.length := by
  unfold numT
  split
  · have := List.idxOf_lt_length_of_mem ‹k ∈ KS›
    omega
  · omega

structure TabAt (K : List Int → Prop) (D : DataW Unit) (KS : List (List Int)) : Prop where
  tidy : Tidy D
  size : Maps.size D = KS.length
  has : ∀ k, K k → Maps.has D (keyL k) = decide (k ∈ KS)
  num : ∀ k, K k → D.atKey (keyL k) (.lit (.int .i64 0)) = .lit (.int .i64 (numT KS k : Nat))
theorem TabAt.empty (K : List Int → Prop) : TabAt K (.map []) [] := ⟨Maps.tidy_empty, rfl, fun _ _ => rfl, fun _ _ => rfl⟩
theorem TabAt.put {K : List Int → Prop} (hi : ∀ {k k'}, K k → K k' → keyL k = keyL k' → k = k') {D : DataW Unit} {KS : List (List Int)} (h : TabAt K D KS) {k : List Int} (hk : K k) (hn : k ∉ KS) :
    TabAt K (D.put (keyL k) (.lit (.int .i64 ((KS.length + 1 : Nat) : Int)))) (addT KS k) := by
  have e : addT KS k = KS ++ [k] := by rw [addT, if_neg hn]
  rw [e]
  have hkl : WideAt.IsKeyLit (keyL k) := trivial
  refine ⟨h.tidy.put hkl _, ?_, fun k' hk' => ?_, fun k' hk' => ?_⟩
  · rw [Maps.size_put h.tidy, h.has k hk, decide_eq_false hn, if_neg (by simp), h.size]
    simp
  · by_cases ek : k' = k
    · subst ek
      rw [Maps.has_put_same h.tidy.isMap hkl]
      simp
    · rw [Maps.has_put_other (fun e2 => ek (hi hk' hk e2)), h.has k' hk']
      simp [ek]
  · by_cases ek : k' = k
    · subst ek
      rw [Maps.atKey_put_same h.tidy.isMap hkl, numT_new hn]
    · rw [Maps.atKey_put_other (fun e2 => ek (hi hk' hk e2)), h.num k' hk', numT_old ek]

/-- names in memory: colours 11 its block, 12 the faces, 13 the links -/
structure NamesAt (w : World) (o : Col) (X : Nat) (FS LS : List (List Int)) : Prop where
  st : ∃ BF BL DF DL nF nL, Blk w o 11 X 162 #[.map (some BF), .map (some BL)] ∧ w.ownsMap Try.prog 168 (plainElem Try.prog 3) BF nF DF ∧ o BF = 12 ∧ w.ownsMap Try.prog 190 (plainElem Try.prog 3) BL nL DL ∧ o BL = 13 ∧ TabAt FaceK DF FS ∧ TabAt LinkK DL LS ∧ nF ≤ FS.length ∧ nL ≤ LS.length
theorem mapT_turn {k : TypeId} {w w' : World} {o o' : Col} {C : Nat → Prop} {B n : Nat} {D : DataW Unit} (h : w.ownsMap Try.prog k (plainElem Try.prog 3) B n D) (T : Turn o o' C w w') (hc : ¬ C (o B)) : w'.ownsMap Try.prog k (plainElem Try.prog 3) B n D ∧ o' B = o B := by
  obtain ⟨es, clock, hb, r⟩ := h
  obtain ⟨h1, h2⟩ := T.block hb hc
  exact ⟨⟨es, clock, h1, r⟩, h2⟩
theorem NamesAt.turn {w w' : World} {o o' : Col} {C : Nat → Prop} {X : Nat} {FS LS : List (List Int)} (h : NamesAt w o X FS LS) (T : Turn o o' C w w') (h1 : ¬ C 11) (h2 : ¬ C 12) (h3 : ¬ C 13) : NamesAt w' o' X FS LS := by
  obtain ⟨BF, BL, DF, DL, nF, nL, a1, a2, a3, a4, a5, a6, a7, a8, a9⟩ := h.st
  obtain ⟨m1, m2⟩ := mapT_turn a2 T (by rw [a3]; exact h2)
  obtain ⟨m3, m4⟩ := mapT_turn a4 T (by rw [a5]; exact h3)
  exact ⟨BF, BL, DF, DL, nF, nL, a1.turn T h1, m1, m2.trans a3, m3, m4.trans a5, a6, a7, a8, a9⟩
def NumRet (o : Col) (X : Nat) (FS LS FS' LS' : List (List Int)) (n : Nat) (w : World) (e : Ending) (w' : World) : Prop :=
  ∃ o', e = .returned (.int .i64 (n : Int)) ∧ Turn o o' (fun x => x = 12 ∨ x = 13) w w' ∧ NamesAt w' o' X FS' LS'
end Go.Proofs.Ytbmbfifempkhgaa

/- loops.names: face and link, walked. -/
namespace Go.Proofs.Ytbmbfifempkhgaa
open Go.RowKit
open Go.Maps (Keyed IsMap Tidy)

theorem int_zero2 (w : World) : (zeroValue 3).run Try.prog w = .ok (.int .i64 0) w := by kernel_rfl

set_option maxRecDepth 100000 in
set_option maxHeartbeats 2000000 in
theorem face_any (w : World) (o : Col) (X : Nat) (FS LS : List (List Int)) (a b c : Int) (hN : NamesAt w o X FS LS) (hk : WfL [a, b, c]) (hl : FS.length ≤ 4611686018427387904) :
    Calls Try.prog 89 #[.pointer (some ⟨X, 0, none⟩), .agg #[.int .i64 a, .int .i64 b, .int .i64 c]] w (NumRet o X FS LS (addT FS [a, b, c]) LS (numT (addT FS [a, b, c]) [a, b, c]) w) := by
  have hb := below_alloc w (.cells #[.int .i64 a, .int .i64 b, .int .i64 c] 168)
  have hx := heap_alloc_new w (.cells #[.int .i64 a, .int .i64 b, .int .i64 c] 168)
  have T0 := Turn.of_below o 8 hb
  have hN1 := hN.turn T0 (fun h => h) (fun h => h) (fun h => h)
  have HT := Lib.hid T0
  have HK := Lib.hid hk
  have HL := Lib.hid hl
  obtain ⟨BF, BL, DF, DL, nF, nL, a1, a2, a3, a4, a5, a6, a7, a8, a9⟩ := hN1.st
  have HX := Lib.hid hx
  have HA1 := Lib.hid a1
  have HA2 := Lib.hid a2
  have HA3 := Lib.hid a3
  have HA4 := Lib.hid a4
  have HA5 := Lib.hid a5
  have HA6 := Lib.hid a6
  have HA7 := Lib.hid a7
  have HA8 := Lib.hid a8
  have HA9 := Lib.hid a9
  have z0 := cells_row _ _ hx 0 _ rfl
  have z1 := cells_row _ _ hx 1 _ rfl
  have z2 := cells_row _ _ hx 2 _ rfl
  obtain ⟨k, hkk⟩ : ∃ k, [a, b, c] = k := ⟨_, rfl⟩
  obtain ⟨w1, hw1⟩ : ∃ x, w.alloc (.cells #[.int .i64 a, .int .i64 b, .int .i64 c] 168) = x := ⟨_, rfl⟩
  obtain ⟨o1, ho1⟩ : ∃ x, ext o w.heap.size 8 = x := ⟨_, rfl⟩
  have hsz : w.heap.size < w1.heap.size := by rw [← hw1]; simp
  rw [hw1, ho1] at HT
  rw [ho1] at HA3 HA5
  rw [hw1] at HX HA2 HA4 z0 z1 z2
  rw [hw1, ho1] at HA1
  have HSZ := Lib.hid hsz
  have HKF : Hid (FaceK k) := Lib.hid (by rw [← hkk]; exact faceK_of HK.out)
  have HKO : Hid (keyOf Try.prog 168 (.agg #[.int .i64 a, .int .i64 b, .int .i64 c]) = some (keyL k)) := Lib.hid (by rw [← hkk]; exact key_face HK.out)
  rw [hkk]
  have y0 := HA1.out.cell 0 _ rfl
  clear hN hk hl hb hx T0 hN1 a1 a2 a3 a4 a5 a6 a7 a8 a9 hsz hkk HK ho1
  obtain ⟨n, hrun, hat, -⟩ := HA2.out.drew.lookup_int face_law Try.underlying159 Try.underlying3 (int_zero2 _) HKO.out
  rw [HA6.out.num k HKF.out] at hat
  obtain rfl : ((numT FS k : Nat) : Int) = n := by injection hat with h; injection h
  have HRUN := Lib.hid hrun
  clear hat hrun
  by_cases hm : k ∈ FS
  · obtain ⟨n, hn⟩ : ∃ n, numT FS k = n := ⟨_, rfl⟩
    have hpos : 1 ≤ n := by rw [← hn]; exact numT_pos hm
    rw [numT_add_mem hm, hn, show addT FS k = FS by rw [addT, if_pos hm]]
    rw [hn] at HRUN
    have HN := Lib.hid hn
    have hne : ¬ (n : Int) = 0 := by omega
    clear hn hm
    go_enter Try.func89, Try.ntmps89
    go_wp2_with fail
    clear hw1
    have hrun := HRUN.out
    clear HRUN
    refine wp_region_soft (fun w' => w' = w1.drew) [0, 1, 2, 3, 4, 5, 6] [] (by kernel_rfl) (by kernel_rfl) rfl rfl ?_
    simp only [pickOps, List.flatMap_cons, List.flatMap_nil, List.drop_succ_cons, List.drop_zero, List.take_succ_cons, List.take_zero, List.cons_append, List.nil_append, List.append_nil]
    refine wpHead_val ?_ (by rfl) ?_ ?_; rotate_left; (intro wz hz; subst hz; (first | (go_simp; done) | (go_simp; with_reducible rfl))); (try simp only [Act.put, List.setIfInBounds_toArray, List.set_cons_zero, List.set_cons_succ])
    refine wpHead_val ?_ (by rfl) ?_ ?_; rotate_left; (intro wz hz; subst hz; (first | (go_simp; done) | (go_simp; with_reducible rfl))); (try simp only [Act.put, List.setIfInBounds_toArray, List.set_cons_zero, List.set_cons_succ])
    refine wpHead_val ?_ (by rfl) ?_ ?_; rotate_left; (intro wz hz; subst hz; (first | (go_simp; done) | (go_simp; with_reducible rfl))); (try simp only [Act.put, List.setIfInBounds_toArray, List.set_cons_zero, List.set_cons_succ])
    refine wpHead_val ?_ (by rfl) ?_ ?_; rotate_left; (intro wz hz; subst hz; (first | (go_simp; done) | (go_simp; with_reducible rfl))); (try simp only [Act.put, List.setIfInBounds_toArray, List.set_cons_zero, List.set_cons_succ])
    refine wpHead_val ?_ (by rfl) ?_ ?_; rotate_left; (intro wz hz; subst hz; (first | (go_simp; done) | (go_simp; with_reducible rfl))); (try simp only [Act.put, List.setIfInBounds_toArray, List.set_cons_zero, List.set_cons_succ])
    refine wpHead_val ?_ (by rfl) ?_ ?_; rotate_left; (intro wz hz; subst hz; (first | (go_simp; done) | (go_simp; with_reducible rfl))); (try simp only [Act.put, List.setIfInBounds_toArray, List.set_cons_zero, List.set_cons_succ])
    refine wpHead_val ?_ (by rfl) ?_ ?_; rotate_left; (intro wz hz; subst hz; (first | (go_simp; done) | (go_simp; with_reducible rfl))); (try simp only [Act.put, List.setIfInBounds_toArray, List.set_cons_zero, List.set_cons_succ])
    refine wpHead_nil ?_
    rintro w' rfl
    clear hrun
    go_wp2_with fail
    obtain ⟨n2, hrun, hat, -⟩ := HA2.out.drew.drew.lookup_int face_law Try.underlying159 Try.underlying3 (int_zero2 _) HKO.out
    rw [HA6.out.num k HKF.out, HN.out] at hat
    obtain rfl : (n : Int) = n2 := by injection hat with h; injection h
    clear hat
    refine wp_region_soft (fun w' => w' = w1.drew.drew) [0, 1, 2, 3, 4, 5] [6] (by kernel_rfl) (by kernel_rfl) rfl rfl ?_
    simp only [pickOps, List.flatMap_cons, List.flatMap_nil, List.drop_succ_cons, List.drop_zero, List.take_succ_cons, List.take_zero, List.cons_append, List.nil_append, List.append_nil]
    refine wpHead_val ?_ (by rfl) ?_ ?_; rotate_left; (intro wz hz; subst hz; (first | (go_simp; done) | (go_simp; with_reducible rfl))); (try simp only [Act.put, List.setIfInBounds_toArray, List.set_cons_zero, List.set_cons_succ])
    refine wpHead_val ?_ (by rfl) ?_ ?_; rotate_left; (intro wz hz; subst hz; (first | (go_simp; done) | (go_simp; with_reducible rfl))); (try simp only [Act.put, List.setIfInBounds_toArray, List.set_cons_zero, List.set_cons_succ])
    refine wpHead_val ?_ (by rfl) ?_ ?_; rotate_left; (intro wz hz; subst hz; (first | (go_simp; done) | (go_simp; with_reducible rfl))); (try simp only [Act.put, List.setIfInBounds_toArray, List.set_cons_zero, List.set_cons_succ])
    refine wpHead_val ?_ (by rfl) ?_ ?_; rotate_left; (intro wz hz; subst hz; (first | (go_simp; done) | (go_simp; with_reducible rfl))); (try simp only [Act.put, List.setIfInBounds_toArray, List.set_cons_zero, List.set_cons_succ])
    refine wpHead_val ?_ (by rfl) ?_ ?_; rotate_left; (intro wz hz; subst hz; (first | (go_simp; done) | (go_simp; with_reducible rfl))); (try simp only [Act.put, List.setIfInBounds_toArray, List.set_cons_zero, List.set_cons_succ])
    refine wpHead_val ?_ (by rfl) ?_ ?_; rotate_left; (intro wz hz; subst hz; (first | (go_simp; done) | (go_simp; with_reducible rfl))); (try simp only [Act.put, List.setIfInBounds_toArray, List.set_cons_zero, List.set_cons_succ])
    refine wpHead_nil ?_
    rintro w' rfl
    clear hrun
    go_wp2
    go_ret
    exact ⟨o1, rfl, ((HT.out.drew.drew).mono (fun _ h => h.elim)), BF, BL, DF, DL, nF, nL, HA1.out, HA2.out, HA3.out, HA4.out, HA5.out, HA6.out, HA7.out, HA8.out, HA9.out⟩
  · have hn := numT_zero hm
    rw [hn] at HRUN
    have e1 : addT FS k = FS ++ [k] := by rw [addT, if_neg hm]
    have hnew : numT (addT FS k) k = FS.length + 1 := by rw [e1, numT_new hm]
    rw [hnew]
    have HNEW := Lib.hid hnew
    have HLEN : Hid ((addT FS k).length = FS.length + 1) := Lib.hid (by rw [e1]; simp)
    have HPUT := Lib.hid (HA6.out.put face_inj HKF.out hm)
    obtain ⟨FS2, hFS2⟩ : ∃ x, addT FS k = x := ⟨_, rfl⟩
    rw [hFS2] at HPUT HNEW HLEN ⊢
    clear hFS2 e1 hnew hn hm
    go_enter Try.func89, Try.ntmps89
    go_wp2_with fail
    clear hw1
    have hrun := HRUN.out
    clear HRUN
    refine wp_region_soft (fun w' => w' = w1.drew) [0, 1, 2, 3, 4, 5, 6] [] (by kernel_rfl) (by kernel_rfl) rfl rfl ?_
    simp only [pickOps, List.flatMap_cons, List.flatMap_nil, List.drop_succ_cons, List.drop_zero, List.take_succ_cons, List.take_zero, List.cons_append, List.nil_append, List.append_nil]
    refine wpHead_val ?_ (by rfl) ?_ ?_; rotate_left; (intro wz hz; subst hz; (first | (go_simp; done) | (go_simp; with_reducible rfl))); (try simp only [Act.put, List.setIfInBounds_toArray, List.set_cons_zero, List.set_cons_succ])
    refine wpHead_val ?_ (by rfl) ?_ ?_; rotate_left; (intro wz hz; subst hz; (first | (go_simp; done) | (go_simp; with_reducible rfl))); (try simp only [Act.put, List.setIfInBounds_toArray, List.set_cons_zero, List.set_cons_succ])
    refine wpHead_val ?_ (by rfl) ?_ ?_; rotate_left; (intro wz hz; subst hz; (first | (go_simp; done) | (go_simp; with_reducible rfl))); (try simp only [Act.put, List.setIfInBounds_toArray, List.set_cons_zero, List.set_cons_succ])
    refine wpHead_val ?_ (by rfl) ?_ ?_; rotate_left; (intro wz hz; subst hz; (first | (go_simp; done) | (go_simp; with_reducible rfl))); (try simp only [Act.put, List.setIfInBounds_toArray, List.set_cons_zero, List.set_cons_succ])
    refine wpHead_val ?_ (by rfl) ?_ ?_; rotate_left; (intro wz hz; subst hz; (first | (go_simp; done) | (go_simp; with_reducible rfl))); (try simp only [Act.put, List.setIfInBounds_toArray, List.set_cons_zero, List.set_cons_succ])
    refine wpHead_val ?_ (by rfl) ?_ ?_; rotate_left; (intro wz hz; subst hz; (first | (go_simp; done) | (go_simp; with_reducible rfl))); (try simp only [Act.put, List.setIfInBounds_toArray, List.set_cons_zero, List.set_cons_succ])
    refine wpHead_val ?_ (by rfl) ?_ ?_; rotate_left; (intro wz hz; subst hz; (first | (go_simp; done) | (go_simp; with_reducible rfl))); (try simp only [Act.put, List.setIfInBounds_toArray, List.set_cons_zero, List.set_cons_succ])
    refine wpHead_nil ?_
    rintro w' rfl
    clear hrun
    go_wp2_with fail
    have hlen := HA2.out.drew.drew.len Try.underlying159 3
    rw [HA6.out.size] at hlen
    have hll := HL.out
    have hwr : IntKind.i64.wrap ((FS.length : Int) + 1) = (FS.length : Int) + 1 := IntWalk.i64_in _ (by omega)
    refine wp_region_soft (fun w' => w' = w1.drew.drew) [0, 1, 2, 3, 4, 5, 6, 7, 8, 9, 10] [11] (by kernel_rfl) (by kernel_rfl) rfl rfl ?_
    simp only [pickOps, List.flatMap_cons, List.flatMap_nil, List.drop_succ_cons, List.drop_zero, List.take_succ_cons, List.take_zero, List.cons_append, List.nil_append, List.append_nil]
    refine wpHead_val ?_ (by rfl) ?_ ?_; rotate_left; (intro wz hz; subst hz; (first | (go_simp; done) | (go_simp; with_reducible rfl))); (try simp only [Act.put, List.setIfInBounds_toArray, List.set_cons_zero, List.set_cons_succ])
    refine wpHead_val ?_ (by rfl) ?_ ?_; rotate_left; (intro wz hz; subst hz; (first | (go_simp; done) | (go_simp; with_reducible rfl))); (try simp only [Act.put, List.setIfInBounds_toArray, List.set_cons_zero, List.set_cons_succ])
    refine wpHead_val ?_ (by rfl) ?_ ?_; rotate_left; (intro wz hz; subst hz; (first | (go_simp; done) | (go_simp; with_reducible rfl))); (try simp only [Act.put, List.setIfInBounds_toArray, List.set_cons_zero, List.set_cons_succ])
    refine wpHead_val ?_ (by rfl) ?_ ?_; rotate_left; (intro wz hz; subst hz; (first | (go_simp; done) | (go_simp; with_reducible rfl))); (try simp only [Act.put, List.setIfInBounds_toArray, List.set_cons_zero, List.set_cons_succ])
    refine wpHead_val ?_ (by rfl) ?_ ?_; rotate_left; (intro wz hz; subst hz; (first | (go_simp; done) | (go_simp; with_reducible rfl))); (try simp only [Act.put, List.setIfInBounds_toArray, List.set_cons_zero, List.set_cons_succ])
    refine wpHead_val ?_ (by rfl) ?_ ?_; rotate_left; (intro wz hz; subst hz; (first | (go_simp; done) | (go_simp; with_reducible rfl))); (try simp only [Act.put, List.setIfInBounds_toArray, List.set_cons_zero, List.set_cons_succ])
    refine wpHead_val ?_ (by rfl) ?_ ?_; rotate_left; (intro wz hz; subst hz; (first | (go_simp; done) | (go_simp; with_reducible rfl))); (try simp only [Act.put, List.setIfInBounds_toArray, List.set_cons_zero, List.set_cons_succ])
    refine wpHead_val ?_ (by rfl) ?_ ?_; rotate_left; (intro wz hz; subst hz; (first | (go_simp; done) | (go_simp; with_reducible rfl))); (try simp only [Act.put, List.setIfInBounds_toArray, List.set_cons_zero, List.set_cons_succ])
    refine wpHead_val ?_ (by rfl) ?_ ?_; rotate_left; (intro wz hz; subst hz; (first | (go_simp; done) | (go_simp; with_reducible rfl))); (try simp only [Act.put, List.setIfInBounds_toArray, List.set_cons_zero, List.set_cons_succ])
    refine wpHead_val ?_ (by rfl) ?_ ?_; rotate_left; (intro wz hz; subst hz; (first | (go_simp; done) | (go_simp; with_reducible rfl))); (try simp only [Act.put, List.setIfInBounds_toArray, List.set_cons_zero, List.set_cons_succ])
    refine wpHead_val ?_ (by rfl) ?_ ?_; rotate_left; (intro wz hz; subst hz; (first | (go_simp; done) | (go_simp; with_reducible rfl))); (try simp only [Act.put, List.setIfInBounds_toArray, List.set_cons_zero, List.set_cons_succ])
    refine wpHead_nil ?_
    rintro w' rfl
    clear hlen hwr
    refine wpList_mapUpdate_own _ rfl _ _ _ 159 rfl 168 3 face_law Try.underlying159 _ BF nF DF rfl HA2.out.drew.drew (by have := HA8.out; unfold maxLen; omega) (.agg #[.int .i64 a, .int .i64 b, .int .i64 c]) (.int .i64 ((FS.length : Int) + 1)) (keyL k) rfl rfl HKO.out _ [] (plainElem_int Try.underlying3 (wf_lit (by omega))) ?_
    intro w2 hown2 hgrow2
    have hm2 : Mods (fun k => some BF = some k) w1 w2 := Mods.of_grownBy (grown_drew (grown_drew hgrow2))
    have T2 : Turn o1 (ext o1 w1.heap.size 0) (fun x => x = 12) w1 w2 := Turn.of_mods o1 0 hm2 (fun b _ hb => by injection hb with hb; rw [← hb]; exact HA3.out)
    have HB1 := Lib.hid (HA1.out.turn T2 (by decide))
    obtain ⟨m3, m4⟩ := mapT_turn HA4.out T2 (by rw [HA5.out]; decide)
    have HB4 := Lib.hid m3
    have HB5 := Lib.hid (m4.trans HA5.out)
    have HB2 := Lib.hid hown2
    have HB3 : Hid (ext o1 w1.heap.size 0 BF = 12) := Lib.hid ((T2.same BF HA2.out.lt).trans HA3.out)
    have HT2 := Lib.hid ((HT.out.mono (D := fun x => x = 12 ∨ x = 13) (fun _ h => h.elim)).trans T2 (fun _ h => .inl h))
    have hcell : ∀ i v, (#[Value.int .i64 a, .int .i64 b, .int .i64 c] : Array Value)[i]? = some v → w2.cell? ⟨w.heap.size, i, none⟩ = some v := fun i v hv => cells_row _ _ (block_mods HX.out hm2 (fun e => by
      injection e with e
      have hx := HX.out
      obtain ⟨es, ck, hb, _⟩ := HA2.out
      rw [e, hx] at hb
      cases hb)) i v hv
    have z0 := hcell 0 _ rfl
    have z1 := hcell 1 _ rfl
    have z2 := hcell 2 _ rfl
    have y0 := HB1.out.cell 0 _ rfl
    obtain ⟨n2, hrun, hat, -⟩ := HB2.out.drew.lookup_int face_law Try.underlying159 Try.underlying3 (int_zero2 _) HKO.out
    rw [show ((FS.length : Int) + 1) = ((FS.length + 1 : Nat) : Int) from by omega] at hat
    rw [HPUT.out.num k HKF.out, HNEW.out] at hat
    obtain rfl : ((FS.length + 1 : Nat) : Int) = n2 := by injection hat with h; injection h
    clear hat hcell hm2 T2 m3 m4 hown2 hgrow2 HA1 HA2 HA3 HA4 HA5
    go_wp2_with fail
    refine wp_region_soft (fun w' => w' = w2.drew) [0, 1, 2, 3, 4, 5] [6] (by kernel_rfl) (by kernel_rfl) rfl rfl ?_
    simp only [pickOps, List.flatMap_cons, List.flatMap_nil, List.drop_succ_cons, List.drop_zero, List.take_succ_cons, List.take_zero, List.cons_append, List.nil_append, List.append_nil]
    refine wpHead_val ?_ (by rfl) ?_ ?_; rotate_left; (intro wz hz; subst hz; (first | (go_simp; done) | (go_simp; with_reducible rfl))); (try simp only [Act.put, List.setIfInBounds_toArray, List.set_cons_zero, List.set_cons_succ])
    refine wpHead_val ?_ (by rfl) ?_ ?_; rotate_left; (intro wz hz; subst hz; (first | (go_simp; done) | (go_simp; with_reducible rfl))); (try simp only [Act.put, List.setIfInBounds_toArray, List.set_cons_zero, List.set_cons_succ])
    refine wpHead_val ?_ (by rfl) ?_ ?_; rotate_left; (intro wz hz; subst hz; (first | (go_simp; done) | (go_simp; with_reducible rfl))); (try simp only [Act.put, List.setIfInBounds_toArray, List.set_cons_zero, List.set_cons_succ])
    refine wpHead_val ?_ (by rfl) ?_ ?_; rotate_left; (intro wz hz; subst hz; (first | (go_simp; done) | (go_simp; with_reducible rfl))); (try simp only [Act.put, List.setIfInBounds_toArray, List.set_cons_zero, List.set_cons_succ])
    refine wpHead_val ?_ (by rfl) ?_ ?_; rotate_left; (intro wz hz; subst hz; (first | (go_simp; done) | (go_simp; with_reducible rfl))); (try simp only [Act.put, List.setIfInBounds_toArray, List.set_cons_zero, List.set_cons_succ])
    refine wpHead_val ?_ (by rfl) ?_ ?_; rotate_left; (intro wz hz; subst hz; (first | (go_simp; done) | (go_simp; with_reducible rfl))); (try simp only [Act.put, List.setIfInBounds_toArray, List.set_cons_zero, List.set_cons_succ])
    refine wpHead_nil ?_
    rintro w' rfl
    clear hrun
    go_wp2
    go_ret
    exact ⟨_, rfl, HT2.out.drew, BF, BL, _, DL, _, nL, HB1.out, HB2.out, HB3.out, HB4.out, HB5.out, HPUT.out, HA7.out, by have := HA8.out; have := HLEN.out; omega, HA9.out⟩
set_option maxRecDepth 100000 in
set_option maxHeartbeats 2000000 in
theorem link_any (w : World) (o : Col) (X : Nat) (FS LS : List (List Int)) (a b : Int) (hN : NamesAt w o X FS LS) (hk : WfL [a, b]) (hl : LS.length ≤ 4611686018427387904) :
    Calls Try.prog 88 #[.pointer (some ⟨X, 0, none⟩), .int .i64 a, .int .i64 b] w (NumRet o X FS LS FS (addT LS [a, b]) (numT (addT LS [a, b]) [a, b]) w) := by
  have hb := below_alloc w (.cells #[.int .i64 a, .int .i64 b] 190)
  have hx := heap_alloc_new w (.cells #[.int .i64 a, .int .i64 b] 190)
  have T0 := Turn.of_below o 8 hb
  have hN1 := hN.turn T0 (fun h => h) (fun h => h) (fun h => h)
  have HT := Lib.hid T0
  have HK := Lib.hid hk
  have HL := Lib.hid hl
  obtain ⟨BF, BL, DF, DL, nF, nL, a1, a2, a3, a4, a5, a6, a7, a8, a9⟩ := hN1.st
  have HX := Lib.hid hx
  have HA1 := Lib.hid a1
  have HA2 := Lib.hid a2
  have HA3 := Lib.hid a3
  have HA4 := Lib.hid a4
  have HA5 := Lib.hid a5
  have HA6 := Lib.hid a6
  have HA7 := Lib.hid a7
  have HA8 := Lib.hid a8
  have HA9 := Lib.hid a9
  have z0 := cells_row _ _ hx 0 _ rfl
  have z1 := cells_row _ _ hx 1 _ rfl
  obtain ⟨k, hkk⟩ : ∃ k, [a, b] = k := ⟨_, rfl⟩
  obtain ⟨w1, hw1⟩ : ∃ x, w.alloc (.cells #[.int .i64 a, .int .i64 b] 190) = x := ⟨_, rfl⟩
  obtain ⟨o1, ho1⟩ : ∃ x, ext o w.heap.size 8 = x := ⟨_, rfl⟩
  have hsz : w.heap.size < w1.heap.size := by rw [← hw1]; simp
  rw [hw1, ho1] at HT
  rw [ho1] at HA3 HA5
  rw [hw1] at HX HA2 HA4 z0 z1
  rw [hw1, ho1] at HA1
  have HSZ := Lib.hid hsz
  have HKF : Hid (LinkK k) := Lib.hid (by rw [← hkk]; exact (⟨rfl, HK.out⟩ : LinkK [a, b]))
  have HKO : Hid (keyOf Try.prog 190 (.agg #[.int .i64 a, .int .i64 b]) = some (keyL k)) := Lib.hid (by rw [← hkk]; exact key_link HK.out)
  rw [hkk]
  have y0 := HA1.out.cell 1 _ rfl
  clear hN hk hl hb hx T0 hN1 a1 a2 a3 a4 a5 a6 a7 a8 a9 hsz hkk HK ho1
  obtain ⟨n, hrun, hat, -⟩ := HA4.out.drew.lookup_int link_law Try.underlying160 Try.underlying3 (int_zero2 _) HKO.out
  rw [HA7.out.num k HKF.out] at hat
  obtain rfl : ((numT LS k : Nat) : Int) = n := by injection hat with h; injection h
  have HRUN := Lib.hid hrun
  clear hat hrun
  by_cases hm : k ∈ LS
  · obtain ⟨n, hn⟩ : ∃ n, numT LS k = n := ⟨_, rfl⟩
    have hpos : 1 ≤ n := by rw [← hn]; exact numT_pos hm
    rw [numT_add_mem hm, hn, show addT LS k = LS by rw [addT, if_pos hm]]
    rw [hn] at HRUN
    have HN := Lib.hid hn
    have hne : ¬ (n : Int) = 0 := by omega
    clear hn hm
    go_enter Try.func88, Try.ntmps88
    go_wp2_with fail
    clear hw1
    have hrun := HRUN.out
    clear HRUN
    refine wp_region_soft (fun w' => w' = w1.drew) [0, 1, 2, 3, 4, 5, 6] [] (by kernel_rfl) (by kernel_rfl) rfl rfl ?_
    simp only [pickOps, List.flatMap_cons, List.flatMap_nil, List.drop_succ_cons, List.drop_zero, List.take_succ_cons, List.take_zero, List.cons_append, List.nil_append, List.append_nil]
    refine wpHead_val ?_ (by rfl) ?_ ?_; rotate_left; (intro wz hz; subst hz; (first | (go_simp; done) | (go_simp; with_reducible rfl))); (try simp only [Act.put, List.setIfInBounds_toArray, List.set_cons_zero, List.set_cons_succ])
    refine wpHead_val ?_ (by rfl) ?_ ?_; rotate_left; (intro wz hz; subst hz; (first | (go_simp; done) | (go_simp; with_reducible rfl))); (try simp only [Act.put, List.setIfInBounds_toArray, List.set_cons_zero, List.set_cons_succ])
    refine wpHead_val ?_ (by rfl) ?_ ?_; rotate_left; (intro wz hz; subst hz; (first | (go_simp; done) | (go_simp; with_reducible rfl))); (try simp only [Act.put, List.setIfInBounds_toArray, List.set_cons_zero, List.set_cons_succ])
    refine wpHead_val ?_ (by rfl) ?_ ?_; rotate_left; (intro wz hz; subst hz; (first | (go_simp; done) | (go_simp; with_reducible rfl))); (try simp only [Act.put, List.setIfInBounds_toArray, List.set_cons_zero, List.set_cons_succ])
    refine wpHead_val ?_ (by rfl) ?_ ?_; rotate_left; (intro wz hz; subst hz; (first | (go_simp; done) | (go_simp; with_reducible rfl))); (try simp only [Act.put, List.setIfInBounds_toArray, List.set_cons_zero, List.set_cons_succ])
    refine wpHead_val ?_ (by rfl) ?_ ?_; rotate_left; (intro wz hz; subst hz; (first | (go_simp; done) | (go_simp; with_reducible rfl))); (try simp only [Act.put, List.setIfInBounds_toArray, List.set_cons_zero, List.set_cons_succ])
    refine wpHead_val ?_ (by rfl) ?_ ?_; rotate_left; (intro wz hz; subst hz; (first | (go_simp; done) | (go_simp; with_reducible rfl))); (try simp only [Act.put, List.setIfInBounds_toArray, List.set_cons_zero, List.set_cons_succ])
    refine wpHead_nil ?_
    rintro w' rfl
    clear hrun
    go_wp2_with fail
    obtain ⟨n2, hrun, hat, -⟩ := HA4.out.drew.drew.lookup_int link_law Try.underlying160 Try.underlying3 (int_zero2 _) HKO.out
    rw [HA7.out.num k HKF.out, HN.out] at hat
    obtain rfl : (n : Int) = n2 := by injection hat with h; injection h
    clear hat
    refine wp_region_soft (fun w' => w' = w1.drew.drew) [0, 1, 2, 3, 4, 5] [6] (by kernel_rfl) (by kernel_rfl) rfl rfl ?_
    simp only [pickOps, List.flatMap_cons, List.flatMap_nil, List.drop_succ_cons, List.drop_zero, List.take_succ_cons, List.take_zero, List.cons_append, List.nil_append, List.append_nil]
    refine wpHead_val ?_ (by rfl) ?_ ?_; rotate_left; (intro wz hz; subst hz; (first | (go_simp; done) | (go_simp; with_reducible rfl))); (try simp only [Act.put, List.setIfInBounds_toArray, List.set_cons_zero, List.set_cons_succ])
    refine wpHead_val ?_ (by rfl) ?_ ?_; rotate_left; (intro wz hz; subst hz; (first | (go_simp; done) | (go_simp; with_reducible rfl))); (try simp only [Act.put, List.setIfInBounds_toArray, List.set_cons_zero, List.set_cons_succ])
    refine wpHead_val ?_ (by rfl) ?_ ?_; rotate_left; (intro wz hz; subst hz; (first | (go_simp; done) | (go_simp; with_reducible rfl))); (try simp only [Act.put, List.setIfInBounds_toArray, List.set_cons_zero, List.set_cons_succ])
    refine wpHead_val ?_ (by rfl) ?_ ?_; rotate_left; (intro wz hz; subst hz; (first | (go_simp; done) | (go_simp; with_reducible rfl))); (try simp only [Act.put, List.setIfInBounds_toArray, List.set_cons_zero, List.set_cons_succ])
    refine wpHead_val ?_ (by rfl) ?_ ?_; rotate_left; (intro wz hz; subst hz; (first | (go_simp; done) | (go_simp; with_reducible rfl))); (try simp only [Act.put, List.setIfInBounds_toArray, List.set_cons_zero, List.set_cons_succ])
    refine wpHead_val ?_ (by rfl) ?_ ?_; rotate_left; (intro wz hz; subst hz; (first | (go_simp; done) | (go_simp; with_reducible rfl))); (try simp only [Act.put, List.setIfInBounds_toArray, List.set_cons_zero, List.set_cons_succ])
    refine wpHead_nil ?_
    rintro w' rfl
    clear hrun
    go_wp2
    go_ret
    exact ⟨o1, rfl, ((HT.out.drew.drew).mono (fun _ h => h.elim)), BF, BL, DF, DL, nF, nL, HA1.out, HA2.out, HA3.out, HA4.out, HA5.out, HA6.out, HA7.out, HA8.out, HA9.out⟩
  · have hn := numT_zero hm
    rw [hn] at HRUN
    have e1 : addT LS k = LS ++ [k] := by rw [addT, if_neg hm]
    have hnew : numT (addT LS k) k = LS.length + 1 := by rw [e1, numT_new hm]
    rw [hnew]
    have HNEW := Lib.hid hnew
    have HLEN : Hid ((addT LS k).length = LS.length + 1) := Lib.hid (by rw [e1]; simp)
    have HPUT := Lib.hid (HA7.out.put link_inj HKF.out hm)
    obtain ⟨LS2, hLS2⟩ : ∃ x, addT LS k = x := ⟨_, rfl⟩
    rw [hLS2] at HPUT HNEW HLEN ⊢
    clear hLS2 e1 hnew hn hm
    go_enter Try.func88, Try.ntmps88
    go_wp2_with fail
    clear hw1
    have hrun := HRUN.out
    clear HRUN
    refine wp_region_soft (fun w' => w' = w1.drew) [0, 1, 2, 3, 4, 5, 6] [] (by kernel_rfl) (by kernel_rfl) rfl rfl ?_
    simp only [pickOps, List.flatMap_cons, List.flatMap_nil, List.drop_succ_cons, List.drop_zero, List.take_succ_cons, List.take_zero, List.cons_append, List.nil_append, List.append_nil]
    refine wpHead_val ?_ (by rfl) ?_ ?_; rotate_left; (intro wz hz; subst hz; (first | (go_simp; done) | (go_simp; with_reducible rfl))); (try simp only [Act.put, List.setIfInBounds_toArray, List.set_cons_zero, List.set_cons_succ])
    refine wpHead_val ?_ (by rfl) ?_ ?_; rotate_left; (intro wz hz; subst hz; (first | (go_simp; done) | (go_simp; with_reducible rfl))); (try simp only [Act.put, List.setIfInBounds_toArray, List.set_cons_zero, List.set_cons_succ])
    refine wpHead_val ?_ (by rfl) ?_ ?_; rotate_left; (intro wz hz; subst hz; (first | (go_simp; done) | (go_simp; with_reducible rfl))); (try simp only [Act.put, List.setIfInBounds_toArray, List.set_cons_zero, List.set_cons_succ])
    refine wpHead_val ?_ (by rfl) ?_ ?_; rotate_left; (intro wz hz; subst hz; (first | (go_simp; done) | (go_simp; with_reducible rfl))); (try simp only [Act.put, List.setIfInBounds_toArray, List.set_cons_zero, List.set_cons_succ])
    refine wpHead_val ?_ (by rfl) ?_ ?_; rotate_left; (intro wz hz; subst hz; (first | (go_simp; done) | (go_simp; with_reducible rfl))); (try simp only [Act.put, List.setIfInBounds_toArray, List.set_cons_zero, List.set_cons_succ])
    refine wpHead_val ?_ (by rfl) ?_ ?_; rotate_left; (intro wz hz; subst hz; (first | (go_simp; done) | (go_simp; with_reducible rfl))); (try simp only [Act.put, List.setIfInBounds_toArray, List.set_cons_zero, List.set_cons_succ])
    refine wpHead_val ?_ (by rfl) ?_ ?_; rotate_left; (intro wz hz; subst hz; (first | (go_simp; done) | (go_simp; with_reducible rfl))); (try simp only [Act.put, List.setIfInBounds_toArray, List.set_cons_zero, List.set_cons_succ])
    refine wpHead_nil ?_
    rintro w' rfl
    clear hrun
    go_wp2_with fail
    have hlen := HA4.out.drew.drew.len Try.underlying160 3
    rw [HA7.out.size] at hlen
    have hll := HL.out
    have hwr : IntKind.i64.wrap ((LS.length : Int) + 1) = (LS.length : Int) + 1 := IntWalk.i64_in _ (by omega)
    refine wp_region_soft (fun w' => w' = w1.drew.drew) [0, 1, 2, 3, 4, 5, 6, 7, 8, 9, 10] [11] (by kernel_rfl) (by kernel_rfl) rfl rfl ?_
    simp only [pickOps, List.flatMap_cons, List.flatMap_nil, List.drop_succ_cons, List.drop_zero, List.take_succ_cons, List.take_zero, List.cons_append, List.nil_append, List.append_nil]
    refine wpHead_val ?_ (by rfl) ?_ ?_; rotate_left; (intro wz hz; subst hz; (first | (go_simp; done) | (go_simp; with_reducible rfl))); (try simp only [Act.put, List.setIfInBounds_toArray, List.set_cons_zero, List.set_cons_succ])
    refine wpHead_val ?_ (by rfl) ?_ ?_; rotate_left; (intro wz hz; subst hz; (first | (go_simp; done) | (go_simp; with_reducible rfl))); (try simp only [Act.put, List.setIfInBounds_toArray, List.set_cons_zero, List.set_cons_succ])
    refine wpHead_val ?_ (by rfl) ?_ ?_; rotate_left; (intro wz hz; subst hz; (first | (go_simp; done) | (go_simp; with_reducible rfl))); (try simp only [Act.put, List.setIfInBounds_toArray, List.set_cons_zero, List.set_cons_succ])
    refine wpHead_val ?_ (by rfl) ?_ ?_; rotate_left; (intro wz hz; subst hz; (first | (go_simp; done) | (go_simp; with_reducible rfl))); (try simp only [Act.put, List.setIfInBounds_toArray, List.set_cons_zero, List.set_cons_succ])
    refine wpHead_val ?_ (by rfl) ?_ ?_; rotate_left; (intro wz hz; subst hz; (first | (go_simp; done) | (go_simp; with_reducible rfl))); (try simp only [Act.put, List.setIfInBounds_toArray, List.set_cons_zero, List.set_cons_succ])
    refine wpHead_val ?_ (by rfl) ?_ ?_; rotate_left; (intro wz hz; subst hz; (first | (go_simp; done) | (go_simp; with_reducible rfl))); (try simp only [Act.put, List.setIfInBounds_toArray, List.set_cons_zero, List.set_cons_succ])
    refine wpHead_val ?_ (by rfl) ?_ ?_; rotate_left; (intro wz hz; subst hz; (first | (go_simp; done) | (go_simp; with_reducible rfl))); (try simp only [Act.put, List.setIfInBounds_toArray, List.set_cons_zero, List.set_cons_succ])
    refine wpHead_val ?_ (by rfl) ?_ ?_; rotate_left; (intro wz hz; subst hz; (first | (go_simp; done) | (go_simp; with_reducible rfl))); (try simp only [Act.put, List.setIfInBounds_toArray, List.set_cons_zero, List.set_cons_succ])
    refine wpHead_val ?_ (by rfl) ?_ ?_; rotate_left; (intro wz hz; subst hz; (first | (go_simp; done) | (go_simp; with_reducible rfl))); (try simp only [Act.put, List.setIfInBounds_toArray, List.set_cons_zero, List.set_cons_succ])
    refine wpHead_val ?_ (by rfl) ?_ ?_; rotate_left; (intro wz hz; subst hz; (first | (go_simp; done) | (go_simp; with_reducible rfl))); (try simp only [Act.put, List.setIfInBounds_toArray, List.set_cons_zero, List.set_cons_succ])
    refine wpHead_val ?_ (by rfl) ?_ ?_; rotate_left; (intro wz hz; subst hz; (first | (go_simp; done) | (go_simp; with_reducible rfl))); (try simp only [Act.put, List.setIfInBounds_toArray, List.set_cons_zero, List.set_cons_succ])
    refine wpHead_nil ?_
    rintro w' rfl
    clear hlen hwr
    refine wpList_mapUpdate_own _ rfl _ _ _ 160 rfl 190 3 link_law Try.underlying160 _ BL nL DL rfl HA4.out.drew.drew (by have := HA9.out; unfold maxLen; omega) (.agg #[.int .i64 a, .int .i64 b]) (.int .i64 ((LS.length : Int) + 1)) (keyL k) rfl rfl HKO.out _ [] (plainElem_int Try.underlying3 (wf_lit (by omega))) ?_
    intro w2 hown2 hgrow2
    have hm2 : Mods (fun k => some BL = some k) w1 w2 := Mods.of_grownBy (grown_drew (grown_drew hgrow2))
    have T2 : Turn o1 (ext o1 w1.heap.size 0) (fun x => x = 13) w1 w2 := Turn.of_mods o1 0 hm2 (fun b _ hb => by injection hb with hb; rw [← hb]; exact HA5.out)
    have HB1 := Lib.hid (HA1.out.turn T2 (by decide))
    obtain ⟨m3, m4⟩ := mapT_turn HA2.out T2 (by rw [HA3.out]; decide)
    have HB2 := Lib.hid m3
    have HB3 := Lib.hid (m4.trans HA3.out)
    have HB4 := Lib.hid hown2
    have HB5 : Hid (ext o1 w1.heap.size 0 BL = 13) := Lib.hid ((T2.same BL HA4.out.lt).trans HA5.out)
    have HT2 := Lib.hid ((HT.out.mono (D := fun x => x = 12 ∨ x = 13) (fun _ h => h.elim)).trans T2 (fun _ h => .inr h))
    have hcell : ∀ i v, (#[Value.int .i64 a, .int .i64 b] : Array Value)[i]? = some v → w2.cell? ⟨w.heap.size, i, none⟩ = some v := fun i v hv => cells_row _ _ (block_mods HX.out hm2 (fun e => by
      injection e with e
      have hx := HX.out
      obtain ⟨es, ck, hb, _⟩ := HA4.out
      rw [e, hx] at hb
      cases hb)) i v hv
    have z0 := hcell 0 _ rfl
    have z1 := hcell 1 _ rfl
    have y0 := HB1.out.cell 1 _ rfl
    obtain ⟨n2, hrun, hat, -⟩ := HB4.out.drew.lookup_int link_law Try.underlying160 Try.underlying3 (int_zero2 _) HKO.out
    rw [show ((LS.length : Int) + 1) = ((LS.length + 1 : Nat) : Int) from by omega] at hat
    rw [HPUT.out.num k HKF.out, HNEW.out] at hat
    obtain rfl : ((LS.length + 1 : Nat) : Int) = n2 := by injection hat with h; injection h
    clear hat hcell hm2 T2 m3 m4 hown2 hgrow2 HA1 HA4 HA5 HA2 HA3
    go_wp2_with fail
    refine wp_region_soft (fun w' => w' = w2.drew) [0, 1, 2, 3, 4, 5] [6] (by kernel_rfl) (by kernel_rfl) rfl rfl ?_
    simp only [pickOps, List.flatMap_cons, List.flatMap_nil, List.drop_succ_cons, List.drop_zero, List.take_succ_cons, List.take_zero, List.cons_append, List.nil_append, List.append_nil]
    refine wpHead_val ?_ (by rfl) ?_ ?_; rotate_left; (intro wz hz; subst hz; (first | (go_simp; done) | (go_simp; with_reducible rfl))); (try simp only [Act.put, List.setIfInBounds_toArray, List.set_cons_zero, List.set_cons_succ])
    refine wpHead_val ?_ (by rfl) ?_ ?_; rotate_left; (intro wz hz; subst hz; (first | (go_simp; done) | (go_simp; with_reducible rfl))); (try simp only [Act.put, List.setIfInBounds_toArray, List.set_cons_zero, List.set_cons_succ])
    refine wpHead_val ?_ (by rfl) ?_ ?_; rotate_left; (intro wz hz; subst hz; (first | (go_simp; done) | (go_simp; with_reducible rfl))); (try simp only [Act.put, List.setIfInBounds_toArray, List.set_cons_zero, List.set_cons_succ])
    refine wpHead_val ?_ (by rfl) ?_ ?_; rotate_left; (intro wz hz; subst hz; (first | (go_simp; done) | (go_simp; with_reducible rfl))); (try simp only [Act.put, List.setIfInBounds_toArray, List.set_cons_zero, List.set_cons_succ])
    refine wpHead_val ?_ (by rfl) ?_ ?_; rotate_left; (intro wz hz; subst hz; (first | (go_simp; done) | (go_simp; with_reducible rfl))); (try simp only [Act.put, List.setIfInBounds_toArray, List.set_cons_zero, List.set_cons_succ])
    refine wpHead_val ?_ (by rfl) ?_ ?_; rotate_left; (intro wz hz; subst hz; (first | (go_simp; done) | (go_simp; with_reducible rfl))); (try simp only [Act.put, List.setIfInBounds_toArray, List.set_cons_zero, List.set_cons_succ])
    refine wpHead_nil ?_
    rintro w' rfl
    clear hrun
    go_wp2
    go_ret
    exact ⟨_, rfl, HT2.out.drew, BF, BL, DF, _, nF, _, HB1.out, HB2.out, HB3.out, HB4.out, HB5.out, HA6.out, HPUT.out, HA8.out, by have := HA9.out; have := HLEN.out; omega⟩
end Go.Proofs.Ytbmbfifempkhgaa

/- Folding a list into loops, plainly. No function in sight. -/
namespace Go.Proofs.Ytbmbfifempkhgaa
open Go.RowKit

def ofItems : List LItem → Nest
  | [] => .nil
  | x :: r => .cons x.1 x.2.1 x.2.2 (ofItems r)
theorem ofItems_items : ∀ l : List LItem, (ofItems l).items = l
  | [] => rfl
  | x :: r => by rw [ofItems, Nest.items, ofItems_items r]
theorem ofItems_nil (l : List LItem) : (ofItems l).isNil = decide (l = []) := by
  cases l <;> simp [ofItems, Nest.isNil]
theorem expand_ofItems (l : List LItem) : expandP (ofItems l) = l.flatMap oneX := by rw [expandP_items, ofItems_items]

/-! names that stand for loops -/
abbrev dBody := List (List LItem)
def NamesL (dF : List LItem) (k : Nat) (x : LItem) : Prop := 1 ≤ k ∧ dF[k - 1]? = some x
def NamesB (dB : dBody) (b : Nat) (B : List LItem) : Prop := (b = 0 ∧ B = []) ∨ (1 ≤ b ∧ dB[b - 1]? = some B)
theorem NamesL.fun_ {dF : List LItem} {k : Nat} {x y : LItem} (h : NamesL dF k x) (h' : NamesL dF k y) : x = y := by
  have := h.2.symm.trans h'.2
  exact Option.some.inj this
theorem NamesB.fun_ {dB : dBody} {b : Nat} {X Y : List LItem} (h : NamesB dB b X) (h' : NamesB dB b Y) : X = Y := by
  rcases h with ⟨h1, h2⟩ | ⟨h1, h2⟩ <;> rcases h' with ⟨k1, k2⟩ | ⟨k1, k2⟩
  · rw [h2, k2]
  · omega
  · omega
  · exact Option.some.inj (h2.symm.trans k2)
theorem get_pre {α : Type} {l l' : List α} (h : l <+: l') {i : Nat} {x : α} (hx : l[i]? = some x) : l'[i]? = some x := by
  obtain ⟨r, rfl⟩ := h
  rw [List.getElem?_append_left (List.getElem?_eq_some_iff.1 hx).1]
  exact hx
theorem NamesL.pre {dF dF' : List LItem} {k : Nat} {x : LItem} (h : NamesL dF k x) (hp : dF <+: dF') : NamesL dF' k x := ⟨h.1, get_pre hp h.2⟩
theorem NamesB.pre {dB dB' : dBody} {b : Nat} {B : List LItem} (h : NamesB dB b B) (hp : dB <+: dB') : NamesB dB' b B := by
  rcases h with h | ⟨h1, h2⟩
  · exact .inl h
  · exact .inr ⟨h1, get_pre hp h2⟩
/-- the tables tell what each number stands for -/
structure Dec (FS LS : List (List Int)) (dF : List LItem) (dB : dBody) : Prop where
  lenF : dF.length = FS.length
  lenB : dB.length = LS.length
  face : ∀ (i : Nat) (t nd : Int) (b : Nat) (x : LItem), FS[i]? = some [t, nd, (b : Int)] → dF[i]? = some x → ∃ B, NamesB dB b B ∧ x = (t, nd, ofItems B)
  link : ∀ (i b k : Nat) (ys : List LItem), LS[i]? = some [(b : Int), (k : Int)] → dB[i]? = some ys → ∃ B y, NamesB dB b B ∧ NamesL dF k y ∧ ys = B ++ [y]
theorem Dec.empty : Dec [] [] [] [] := ⟨rfl, rfl, fun _ _ _ _ _ h => by simp at h, fun _ _ _ _ h => by simp at h⟩
theorem snoc_get {α : Type} {l : List α} {x y : α} {i : Nat} (h : (l ++ [x])[i]? = some y) : l[i]? = some y ∨ (i = l.length ∧ y = x) := by
  by_cases hi : i < l.length
  · rw [List.getElem?_append_left hi] at h
    exact .inl h
  · rw [List.getElem?_append_right (Nat.le_of_not_lt hi)] at h
    have hlt := (List.getElem?_eq_some_iff.1 h).1
    simp at hlt
    have : i = l.length := by omega
    subst this
    simp at h
    exact .inr ⟨rfl, h.symm⟩
/-- a loop is named -/
theorem Dec.nameF {FS LS : List (List Int)} {dF : List LItem} {dB : dBody} (h : Dec FS LS dF dB) {t nd : Int} {b : Nat} {B : List LItem} (hb : NamesB dB b B) :
    ∃ dF', dF <+: dF' ∧ Dec (addT FS [t, nd, (b : Int)]) LS dF' dB ∧ NamesL dF' (numT (addT FS [t, nd, (b : Int)]) [t, nd, (b : Int)]) (t, nd, ofItems B) := by
  by_cases hm : [t, nd, (b : Int)] ∈ FS
  · rw [addT, if_pos hm]
    have h1 := numT_get hm
    have h2 := numT_pos hm
    have h3 : numT FS [t, nd, (b : Int)] - 1 < dF.length := by rw [h.lenF]; exact (List.getElem?_eq_some_iff.1 h1).1
    obtain ⟨B', e1, e2⟩ := h.face _ t nd b _ h1 (List.getElem?_eq_getElem h3)
    refine ⟨dF, List.prefix_rfl, h, h2, ?_⟩
    rw [List.getElem?_eq_getElem h3, e2, hb.fun_ e1]
  · rw [addT, if_neg hm, numT_new hm]
    refine ⟨dF ++ [(t, nd, ofItems B)], List.prefix_append _ _, ⟨by simp [h.lenF], h.lenB, fun i t' nd' b' x h1 h2 => ?_, fun i b' k ys h1 h2 => ?_⟩, by omega, ?_⟩
    · rcases snoc_get h1 with h1 | ⟨h1, e1⟩ <;> rcases snoc_get h2 with h2 | ⟨h2, e2⟩
      · exact h.face i t' nd' b' x h1 h2
      · have := (List.getElem?_eq_some_iff.1 h1).1
        have := h.lenF
        omega
      · have := (List.getElem?_eq_some_iff.1 h2).1
        have := h.lenF
        omega
      · simp at e1
        obtain ⟨rfl, rfl, e3⟩ := e1
        obtain rfl : b' = b := by omega
        exact ⟨B, hb, e2⟩
    · obtain ⟨B1, y, k1, k2, k3⟩ := h.link i b' k ys h1 h2
      exact ⟨B1, y, k1, k2.pre (List.prefix_append _ _), k3⟩
    · rw [Nat.add_sub_cancel, ← h.lenF]
      simp
/-- a body is named -/
theorem Dec.nameB {FS LS : List (List Int)} {dF : List LItem} {dB : dBody} (h : Dec FS LS dF dB) {b k : Nat} {B : List LItem} {y : LItem} (hb : NamesB dB b B) (hk : NamesL dF k y) :
    ∃ dB', dB <+: dB' ∧ Dec FS (addT LS [(b : Int), (k : Int)]) dF dB' ∧ NamesB dB' (numT (addT LS [(b : Int), (k : Int)]) [(b : Int), (k : Int)]) (B ++ [y]) := by
  by_cases hm : [(b : Int), (k : Int)] ∈ LS
  · rw [addT, if_pos hm]
    have h1 := numT_get hm
    have h2 := numT_pos hm
    have h3 : numT LS [(b : Int), (k : Int)] - 1 < dB.length := by rw [h.lenB]; exact (List.getElem?_eq_some_iff.1 h1).1
    obtain ⟨B', y', e1, e2, e3⟩ := h.link _ b k _ h1 (List.getElem?_eq_getElem h3)
    refine ⟨dB, List.prefix_rfl, h, .inr ⟨h2, ?_⟩⟩
    rw [List.getElem?_eq_getElem h3, e3, hb.fun_ e1, hk.fun_ e2]
  · rw [addT, if_neg hm, numT_new hm]
    refine ⟨dB ++ [B ++ [y]], List.prefix_append _ _, ⟨h.lenF, by simp [h.lenB], fun i t' nd' b' x h1 h2 => ?_, fun i b' k' ys h1 h2 => ?_⟩, .inr ⟨by omega, ?_⟩⟩
    · obtain ⟨B1, k1, k2⟩ := h.face i t' nd' b' x h1 h2
      exact ⟨B1, k1.pre (List.prefix_append _ _), k2⟩
    · rcases snoc_get h1 with h1 | ⟨h1, e1⟩ <;> rcases snoc_get h2 with h2 | ⟨h2, e2⟩
      · obtain ⟨B1, y1, k1, k2, k3⟩ := h.link i b' k' ys h1 h2
        exact ⟨B1, y1, k1.pre (List.prefix_append _ _), k2, k3⟩
      · have := (List.getElem?_eq_some_iff.1 h1).1
        have := h.lenB
        omega
      · have := (List.getElem?_eq_some_iff.1 h2).1
        have := h.lenB
        omega
      · simp at e1
        obtain rfl : b' = b := by omega
        obtain rfl : k' = k := by omega
        exact ⟨B, y, hb.pre (List.prefix_append _ _), hk, e2⟩
    · rw [Nat.add_sub_cancel, ← h.lenB]
      simp
/-- a row of loops, each with its number -/
def NumRow (dF : List LItem) (N : List Nat) (X : List LItem) : Prop := N.length = X.length ∧ ∀ (i : Nat) (x : LItem) (k : Nat), X[i]? = some x → N[i]? = some k → NamesL dF k x
theorem NumRow.pre {dF dF' : List LItem} {N : List Nat} {X : List LItem} (h : NumRow dF N X) (hp : dF <+: dF') : NumRow dF' N X := ⟨h.1, fun i x k h1 h2 => (h.2 i x k h1 h2).pre hp⟩
theorem NumRow.nil (dF : List LItem) : NumRow dF [] [] := ⟨rfl, fun _ _ _ h => by simp at h⟩
theorem NumRow.snoc {dF : List LItem} {N : List Nat} {X : List LItem} (h : NumRow dF N X) {k : Nat} {x : LItem} (hx : NamesL dF k x) : NumRow dF (N ++ [k]) (X ++ [x]) := by
  refine ⟨by simp [h.1], fun i y j h1 h2 => ?_⟩
  rcases snoc_get h1 with h1 | ⟨h1, e1⟩ <;> rcases snoc_get h2 with h2 | ⟨h2, e2⟩
  · exact h.2 i y j h1 h2
  · have := (List.getElem?_eq_some_iff.1 h1).1
    have := h.1
    omega
  · have := (List.getElem?_eq_some_iff.1 h2).1
    have := h.1
    omega
  · rw [e1, e2]; exact hx
end Go.Proofs.Ytbmbfifempkhgaa

/- Folding a row, plainly: what it keeps. -/
namespace Go.Proofs.Ytbmbfifempkhgaa
open Go.RowKit

def headsI (x : LItem) : Nat := (if 1 < x.1 then 1 else 0) + headsN x.2.2
def leafI (x : LItem) : Nat := if x.2.2.isNil then 1 else leafN x.2.2
def nodesI (x : LItem) : Nat := 1 + nodesN x.2.2
theorem headsN_of : ∀ l : List LItem, headsN (ofItems l) = (l.map headsI).sum
  | [] => rfl
  | x :: r => by rw [ofItems, headsN, headsN_of r, List.map_cons, List.sum_cons]; rfl
theorem leafN_of : ∀ l : List LItem, leafN (ofItems l) = (l.map leafI).sum
  | [] => rfl
  | x :: r => by rw [ofItems, leafN, leafN_of r, List.map_cons, List.sum_cons]; rfl
theorem nodesN_of : ∀ l : List LItem, nodesN (ofItems l) = (l.map nodesI).sum
  | [] => rfl
  | x :: r => by rw [ofItems, nodesN, nodesN_of r, List.map_cons, List.sum_cons]; rfl

/-- a loop that stands for r runs at least -/
def Wt1 (x : LItem) (r : Nat) : Prop := 1 ≤ r ∧ headsI x ≤ r ∧ leafI x ≤ r ∧ nodesI x + 1 ≤ 2 * r
inductive Wt : List LItem → List Nat → Prop
  | nil : Wt [] []
  | cons {x : LItem} {r : Nat} {X : List LItem} {R : List Nat} : Wt1 x r → Wt X R → Wt (x :: X) (r :: R)
theorem Wt.len {X : List LItem} {R : List Nat} (h : Wt X R) : X.length = R.length := by
  induction h with
  | nil => rfl
  | cons _ _ ih => simp [ih]
theorem Wt.app {X X' : List LItem} {R R' : List Nat} (h : Wt X R) (h' : Wt X' R') : Wt (X ++ X') (R ++ R') := by
  induction h with
  | nil => exact h'
  | cons a _ ih => exact .cons a ih
theorem Wt.take {X : List LItem} {R : List Nat} (h : Wt X R) : ∀ k, Wt (X.take k) (R.take k) := by
  induction h with
  | nil => intro k; simp; exact .nil
  | cons a _ ih =>
    intro k
    cases k with
    | zero => exact .nil
    | succ k => exact .cons a (ih k)
theorem Wt.drop {X : List LItem} {R : List Nat} (h : Wt X R) : ∀ k, Wt (X.drop k) (R.drop k) := by
  induction h with
  | nil => intro k; simp; exact .nil
  | cons a h ih =>
    intro k
    cases k with
    | zero => exact .cons a h
    | succ k => exact ih k
theorem Wt.sums {X : List LItem} {R : List Nat} (h : Wt X R) : (X.map headsI).sum ≤ R.sum ∧ (X.map leafI).sum ≤ R.sum ∧ (X.map nodesI).sum + X.length ≤ 2 * R.sum ∧ X.length ≤ R.sum := by
  induction h with
  | nil => simp
  | cons a _ ih =>
    obtain ⟨a1, a2, a3, a4⟩ := a
    simp only [List.map_cons, List.sum_cons, List.length_cons]
    omega
/-- a group that stands m times, folded -/
theorem fold_wt {G : List LItem} {R1 R2 : List Nat} {m : Int} (hG : Wt G R1) (hg : 1 ≤ G.length) (hm : 2 ≤ m) (h2 : 1 ≤ R2.sum) : Wt1 (m, 0, ofItems G) (R1.sum + R2.sum) := by
  obtain ⟨s1, s2, s3, s4⟩ := hG.sums
  have hnil : (ofItems G).isNil = false := by
    rw [ofItems_nil]
    exact decide_eq_false (by intro e; rw [e] at hg; simp at hg)
  refine ⟨by omega, ?_, ?_, ?_⟩
  · show (if 1 < m then 1 else 0) + headsN (ofItems G) ≤ _
    rw [headsN_of, if_pos (by omega)]
    omega
  · show (if (ofItems G).isNil then 1 else leafN (ofItems G)) ≤ _
    rw [hnil, if_neg (by simp), leafN_of]
    omega
  · show 1 + nodesN (ofItems G) + 1 ≤ _
    rw [nodesN_of]
    omega
theorem fold_one {G : List LItem} {m : Nat} (hg : 1 ≤ G.length) : oneX ((m : Int), 0, ofItems G) = (List.replicate m (G.flatMap oneX)).flatten := by
  have hnil : (ofItems G).isNil = false := by
    rw [ofItems_nil]
    exact decide_eq_false (by intro e; rw [e] at hg; simp at hg)
  unfold oneX repsP innerP
  rw [hnil, if_neg (by simp), expand_ofItems]
  rfl
/-- groups that are the same -/
theorem same_groups {α : Type} {X : List α} {i w m : Nat} (hl : i + m * w ≤ X.length) (h : ∀ j, j < m → (X.drop (i + j * w)).take w = (X.drop i).take w) : (X.drop i).take (m * w) = (List.replicate m ((X.drop i).take w)).flatten := by
  induction m with
  | zero => simp
  | succ m ih =>
    have h1 : i + m * w ≤ X.length := by rw [Nat.add_mul] at hl; omega
    have h2 := h m (by omega)
    rw [List.replicate_succ', List.flatten_append, List.flatten_cons, List.flatten_nil, List.append_nil, ← ih h1 (fun j hj => h j (by omega)), ← h2, Nat.add_mul, Nat.one_mul, List.take_add, List.drop_drop]
theorem take_eq_of {α : Type} {X : List α} {i k w : Nat} (h1 : i + w ≤ X.length) (h2 : k + w ≤ X.length) (h : ∀ j, j < w → X[i + j]? = X[k + j]?) : (X.drop i).take w = (X.drop k).take w := by
  apply List.ext_getElem?
  intro j
  by_cases hj : j < w
  · rw [List.getElem?_take_of_lt hj, List.getElem?_take_of_lt hj, List.getElem?_drop, List.getElem?_drop]
    exact h j hj
  · rw [List.getElem?_take_eq_none (by omega), List.getElem?_take_eq_none (by omega)]
/-- same numbers, same loops -/
theorem NumRow.same {dF : List LItem} {N : List Nat} {X : List LItem} (h : NumRow dF N X) {a b : Nat} (hn : N[a]? = N[b]?) (ha : a < X.length) (hb : b < X.length) : X[a]? = X[b]? := by
  have h1 : a < N.length := by rw [h.1]; exact ha
  have h2 : b < N.length := by rw [h.1]; exact hb
  have e1 := h.2 a X[a] N[a] (List.getElem?_eq_getElem ha) (List.getElem?_eq_getElem h1)
  have e2 := h.2 b X[b] N[b] (List.getElem?_eq_getElem hb) (List.getElem?_eq_getElem h2)
  rw [List.getElem?_eq_getElem h1, List.getElem?_eq_getElem h2] at hn
  have hn := Option.some.inj hn
  rw [hn] at e1
  rw [List.getElem?_eq_getElem ha, List.getElem?_eq_getElem hb, e1.fun_ e2]

theorem Wt.at {X : List LItem} {R : List Nat} (h : Wt X R) {i : Nat} (hi : i < X.length) (hr : i < R.length) : Wt1 X[i] R[i] := by
  have h1 := (h.drop i).take 1
  rw [List.drop_eq_getElem_cons hi, List.drop_eq_getElem_cons hr] at h1
  cases h1 with
  | cons a _ => exact a
/-- what a folded beginning of a row is -/
structure FoldPure (FS LS : List (List Int)) (X : List LItem) (R : List Nat) (i : Nat) (FS' LS' : List (List Int)) (dF' : List LItem) (X' : List LItem) (N' R' : List Nat) : Prop where
  row : NumRow dF' N' X'
  wt : Wt X' R'
  sum : R'.sum = (R.take i).sum
  ex : X'.flatMap oneX = (X.take i).flatMap oneX
  len : X'.length ≤ i
  lenF : FS'.length ≤ FS.length + i
  lenL : LS'.length ≤ LS.length + i
theorem FoldPure.one {FS LS : List (List Int)} {X : List LItem} {R : List Nat} {i : Nat} {FS' LS' : List (List Int)} {dF' : List LItem} {X' : List LItem} {N' R' : List Nat} (h : FoldPure FS LS X R i FS' LS' dF' X' N' R') {dF : List LItem} {N : List Nat} (hN : NumRow dF N X) (hp : dF <+: dF') (hW : Wt X R) (hi : i < X.length) (hn : i < N.length) (hr : i < R.length) :
    FoldPure FS LS X R (i + 1) FS' LS' dF' (X' ++ [X[i]]) (N' ++ [N[i]]) (R' ++ [R[i]]) := by
  refine ⟨h.row.snoc ((hN.2 i _ _ (List.getElem?_eq_getElem hi) (List.getElem?_eq_getElem hn)).pre hp), h.wt.app (.cons (hW.at hi hr) .nil), ?_, ?_, by have := h.len; simp; omega, by have := h.lenF; omega, by have := h.lenL; omega⟩
  · rw [List.take_succ_eq_append_getElem hr, List.sum_append, List.sum_append, h.sum]
  · rw [List.take_succ_eq_append_getElem hi, List.flatMap_append, List.flatMap_append, h.ex]
theorem sum_pos {R : List Nat} (h : ∀ r ∈ R, 1 ≤ r) (hl : 1 ≤ R.length) : 1 ≤ R.sum := by
  cases R with
  | nil => simp at hl
  | cons a r => have := h a List.mem_cons_self; rw [List.sum_cons]; omega
theorem Wt.pos {X : List LItem} {R : List Nat} (h : Wt X R) : ∀ r ∈ R, 1 ≤ r := by
  induction h with
  | nil => intro r hr; cases hr
  | cons a _ ih =>
    intro r hr
    rcases List.mem_cons.1 hr with rfl | hr
    · exact a.1
    · exact ih r hr
theorem rep_flat {α β : Type} (f : α → List β) (G : List α) : ∀ m : Nat, (List.replicate m G).flatten.flatMap f = (List.replicate m (G.flatMap f)).flatten
  | 0 => rfl
  | m + 1 => by
    rw [List.replicate_succ, List.replicate_succ, List.flatten_cons, List.flatten_cons, List.flatMap_append, rep_flat f G m]
theorem FoldPure.many {FS LS : List (List Int)} {X : List LItem} {R : List Nat} {i : Nat} {FS1 LS1 FS' LS' : List (List Int)} {dF1 dF' : List LItem} {X' : List LItem} {N' R' : List Nat} (h : FoldPure FS LS X R i FS1 LS1 dF1 X' N' R') (hp : dF1 <+: dF') (hW : Wt X R) {m wd k : Nat} (hm : 2 ≤ m) (hw : 1 ≤ wd) (hl : i + m * wd ≤ X.length)
    (hg : ∀ j, j < m → (X.drop (i + j * wd)).take wd = (X.drop i).take wd) (hk : NamesL dF' k ((m : Int), 0, ofItems ((X.drop i).take wd))) (hF : FS'.length ≤ FS1.length + 1) (hL : LS'.length ≤ LS1.length + wd) :
    ∃ r, FoldPure FS LS X R (i + m * wd) FS' LS' dF' (X' ++ [((m : Int), 0, ofItems ((X.drop i).take wd))]) (N' ++ [k]) (R' ++ [r]) := by
  have hmw : 2 * wd ≤ m * wd := Nat.mul_le_mul_right wd hm
  have hR := hW.len
  have hG := (hW.drop i).take wd
  have hgl : ((X.drop i).take wd).length = wd := by rw [List.length_take, List.length_drop]; omega
  have hR2 : 1 ≤ ((R.drop (i + wd)).take (m * wd - wd)).sum := sum_pos (fun r hr => hW.pos r (List.mem_of_mem_drop (List.mem_of_mem_take hr))) (by rw [List.length_take, List.length_drop]; omega)
  have hsplit : (R.drop i).take (m * wd) = (R.drop i).take wd ++ (R.drop (i + wd)).take (m * wd - wd) := by
    rw [← List.drop_drop, ← List.take_add]
    congr 1
    omega
  refine ⟨((R.drop i).take wd).sum + ((R.drop (i + wd)).take (m * wd - wd)).sum, (h.row.pre hp).snoc hk, h.wt.app (.cons (fold_wt hG (by omega) (by omega) hR2) .nil), ?_, ?_, ?_, ?_, ?_⟩
  · rw [List.sum_append, h.sum, List.take_add, List.sum_append, hsplit, List.sum_append]
    simp
  · rw [List.flatMap_append, h.ex, List.take_add, List.flatMap_append, same_groups hl hg]
    congr 1
    rw [List.flatMap_cons, List.flatMap_nil, List.append_nil, fold_one (by omega), rep_flat]
  · have := h.len
    simp
    omega
  · have := h.lenF
    omega
  · have := h.lenL
    omega
end Go.Proofs.Ytbmbfifempkhgaa

/- loops.names: a leaf's number, and named. -/
namespace Go.Proofs.Ytbmbfifempkhgaa
open Go.RowKit

theorem loopleaf_any (w : World) (o : Col) (X : Nat) (FS LS : List (List Int)) (t nd : Int) (a : Option Addr) (c : Nat) (hN : NamesAt w o X FS LS) (hk : WfL [t, nd, 0]) (hl : FS.length ≤ 4611686018427387904) :
    Calls Try.prog 86 #[.pointer (some ⟨X, 0, none⟩), .agg #[.int .i64 t, .int .i64 nd, .slice a 0 c]] w (NumRet o X FS LS (addT FS [t, nd, 0]) LS (numT (addT FS [t, nd, 0]) [t, nd, 0]) w) := by
  have hb := below_alloc w (.cells #[.int .i64 t, .int .i64 nd, .slice a 0 c] 51)
  have hx := heap_alloc_new w (.cells #[.int .i64 t, .int .i64 nd, .slice a 0 c] 51)
  have T0 := Turn.of_below o 8 hb
  have HN := Lib.hid (hN.turn T0 (fun h => h) (fun h => h) (fun h => h))
  have HT := Lib.hid T0
  have HK := Lib.hid hk
  have HL := Lib.hid hl
  obtain ⟨w1, hw1⟩ : ∃ x, w.alloc (.cells #[.int .i64 t, .int .i64 nd, .slice a 0 c] 51) = x := ⟨_, rfl⟩
  rw [hw1] at hx HN HT
  have z0 := cells_row _ _ hx 0 _ rfl
  have z1 := cells_row _ _ hx 1 _ rfl
  have z2 := cells_row _ _ hx 2 _ rfl
  clear hN hk hl hb hx T0
  go_enter Try.func86, Try.ntmps86
  go_wp2_with fail
  clear hw1
  go_loopw [5, 11] (fun b i wr => b = .int .i64 0 ∧ i = .int .i64 0 ∧ wr = w1) (fun _ _ _ => 0)
  case atStart => exact ⟨rfl, rfl, rfl⟩
  case round =>
    obtain ⟨rfl, rfl, rfl⟩ := hrel
    go_wp2_with fail
    refine (face_any _ _ X FS LS t nd 0 HN.out HK.out HL.out).mono ?_
    rintro e w2 ⟨o2, rfl, hT, hN2⟩
    have HT2 := Lib.hid hT
    have HN2 := Lib.hid hN2
    clear hT hN2
    go_wp2
    go_ret
    exact ⟨o2, rfl, (HT.out.mono (D := fun x => x = 12 ∨ x = 13) (fun _ h => h.elim)).trans HT2.out (fun _ h => h), HN2.out⟩

/-- what a function of loops keeps of a colouring -/
def norm (o : Col) : Col := fun k => if o k = 5 ∨ o k = 11 ∨ o k = 12 ∨ o k = 13 then o k else 0
theorem norm_at {o : Col} {k c : Nat} (h : o k = c) (hc : c = 5 ∨ c = 11 ∨ c = 12 ∨ c = 13) : norm o k = c := by
  unfold norm
  rw [if_pos (by rw [h]; exact hc), h]
theorem norm_inv {o : Col} {k c : Nat} (h : norm o k = c) (hc : c ≠ 0) : o k = c := by
  unfold norm at h
  split at h
  · exact h
  · exact absurd h.symm hc
theorem NamesAt.recol {w : World} {o o' : Col} {X : Nat} {FS LS : List (List Int)} (h : NamesAt w o X FS LS) (ho : ∀ k, k < w.heap.size → o k = 11 ∨ o k = 12 ∨ o k = 13 → o' k = o k) : NamesAt w o' X FS LS := by
  obtain ⟨BF, BL, DF, DL, nF, nL, a1, a2, a3, a4, a5, a6, a7, a8, a9⟩ := h.st
  exact ⟨BF, BL, DF, DL, nF, nL, ⟨a1.1, (ho X a1.lt (.inl a1.2)).trans a1.2⟩, a2, (ho BF a2.lt (.inr (.inl a3))).trans a3, a4, (ho BL a4.lt (.inr (.inr a5))).trans a5, a6, a7, a8, a9⟩
theorem Held.recol {D : Nat} {w : World} {q q' : Col} {y : Value} {b : Nest} (h : Held D w q y b) (ho : ∀ k, k < w.heap.size → q k = 5 → q' k = 5) : Held D w q' y b := fun q'' w'' T => h (fun k => if k < w.heap.size then q k else q'' k) w'' ⟨T.mods.mono (fun k hk hf e => hf (ho k hk e)), fun k hk => by rw [if_pos hk]⟩
/-- back to the colouring of the caller: what was made for the answer gets colour 5 -/
def back (o q : Col) (n : Nat) : Col := fun k => if k < n then o k else if q k = 4 ∨ q k = 6 then 5 else q k
theorem back_turn {o q : Col} {w w' : World} {C : Nat → Prop} (T : Turn (norm o) q C w w') (h0 : ¬ C 0) (h5 : ¬ C 5) (h11 : ¬ C 11) : Turn o (back o q w.heap.size) (fun x => x = 12 ∨ x = 13) w w' := by
  refine ⟨T.mods.mono fun k hk hc => ?_, fun k hk => by unfold back; rw [if_pos hk]⟩
  obtain ⟨c, hcc⟩ : ∃ c, norm o k = c := ⟨_, rfl⟩
  rw [hcc] at hc
  have h1 : c ≠ 0 := fun e => h0 (e ▸ hc)
  have h2 := norm_inv hcc h1
  unfold norm at hcc
  split at hcc
  · rename_i h3
    rcases h3 with h3 | h3 | h3 | h3
    · exact absurd (show C 5 by rw [← h3, h2]; exact hc) h5
    · exact absurd (show C 11 by rw [← h3, h2]; exact hc) h11
    · exact .inl h3
    · exact .inr h3
  · exact absurd hcc.symm h1
theorem norm_ne {o : Col} {k c : Nat} (h : norm o k = c) : c = 0 ∨ c = 5 ∨ c = 11 ∨ c = 12 ∨ c = 13 := by
  unfold norm at h
  split at h
  · rename_i h1
    rw [h] at h1
    exact .inr h1
  · exact .inl h.symm
theorem back_own {o q : Col} {n k : Nat} (hs : ∀ k, k < n → q k = norm o k) (h : q k = 4 ∨ q k = 6) : back o q n k = 5 := by
  unfold back
  by_cases hk : k < n
  · have := norm_ne (hs k hk).symm
    omega
  · rw [if_neg hk, if_pos h]
theorem back_keep {o q : Col} {n k : Nat} (hs : ∀ k, k < n → q k = norm o k) (h : q k = 5 ∨ q k = 11 ∨ q k = 12 ∨ q k = 13) : back o q n k = q k := by
  unfold back
  by_cases hk : k < n
  · rw [if_pos hk]
    exact norm_inv (hs k hk).symm (by omega)
  · rw [if_neg hk, if_neg (by omega)]
def NamedC (x : Nat) : Prop := x = 6 ∨ x = 12 ∨ x = 13 ∨ x = 14
def NamedRet (o : Col) (NX : Nat) (FS LS : List (List Int)) (dF : List LItem) (dB : dBody) (lv : Value) (X : List LItem) (w : World) (e : Ending) (w' : World) : Prop :=
  ∃ nv o' FS' dF' N, e = .returned (.agg #[lv, nv]) ∧ Turn o o' (fun x => x = 12 ∨ x = 13) w w' ∧ NamesAt w' o' NX FS' LS ∧ Dec FS' LS dF' dB ∧ dF <+: dF' ∧ Ints w' o' 5 nv (N.map Int.ofNat) ∧ NumRow dF' N X ∧ FS'.length ≤ FS.length + X.length
structure NamedAt (o q : Col) (NX RB RES : Nat) (FS LS : List (List Int)) (dF : List LItem) (dB : dBody) (lv : Value) (X : List LItem) (j : Nat) (w wr : World) : Prop where
  is : ∃ nv FS' dF' N, Turn (norm o) q NamedC w wr ∧ NamesAt wr q NX FS' LS ∧ Dec FS' LS dF' dB ∧ dF <+: dF' ∧ Blk wr q 14 RB 129 #[lv, nv] ∧ Blk wr q 14 RES 129 #[.slice none 0 0, .slice none 0 0] ∧ Own wr q 6 3 1 nv N.length (ivs (N.map Int.ofNat)) ∧ NumRow dF' N (X.take j) ∧ FS'.length ≤ FS.length + j ∧ N.length = j

set_option maxRecDepth 100000 in
set_option maxHeartbeats 2000000 in
theorem named_any (w : World) (o : Col) (NX : Nat) (FS LS : List (List Int)) (dF : List LItem) (dB : dBody) (lv : Value) (X : List LItem) (hN : NamesAt w o NX FS LS) (hD : Dec FS LS dF dB) (hH : Held 1 w o lv (ofItems X)) (hX : ∀ x ∈ X, x.2.2 = .nil ∧ WfL [x.1, x.2.1, 0]) (hl : FS.length ≤ 1000000000000 ∧ X.length ≤ 2048) :
    Calls Try.prog 67 #[.pointer (some ⟨NX, 0, none⟩), lv] w (NamedRet o NX FS LS dF dB lv X w) := by
  obtain ⟨i0, hi, hz0, hz1, hz2⟩ := info_parts info_intX
  obtain ⟨ao, cap, rfl⟩ := nestD_slice 1 (hH o w (Turn.refl _ _ _))
  rw [ofItems_items] at hH ⊢
  have HN0 := hN.recol (o' := norm o) (fun k _ h => norm_at rfl (.inr h) ▸ rfl)
  have HH0 : Held 1 w (norm o) (.slice ao X.length cap) (ofItems X) := hH.recol (fun k _ h => norm_at h (.inl rfl))
  have hb1 := below_alloc w (.cells #[.slice none 0 0, .slice none 0 0] 129)
  have T1 := Turn.of_below (norm o) 14 hb1
  have hR1 : Blk (w.alloc (.cells #[.slice none 0 0, .slice none 0 0] 129)) (ext (norm o) w.heap.size 14) 14 w.heap.size 129 #[.slice none 0 0, .slice none 0 0] := ⟨heap_alloc_new w _, ext_new (Nat.le_refl _)⟩
  obtain ⟨w1, hw1⟩ : ∃ x, w.alloc (.cells #[.slice none 0 0, .slice none 0 0] 129) = x := ⟨_, rfl⟩
  rw [hw1] at hR1 T1 hb1
  have hb2 := below_alloc w1 (.cells #[.slice ao X.length cap, .slice none 0 0] 129)
  have T2 := Turn.of_below (ext (norm o) w.heap.size 14) 14 hb2
  have hR2 : Blk (w1.alloc (.cells #[.slice ao X.length cap, .slice none 0 0] 129)) (ext (ext (norm o) w.heap.size 14) w1.heap.size 14) 14 w1.heap.size 129 #[.slice ao X.length cap, .slice none 0 0] := ⟨heap_alloc_new w1 _, ext_new (Nat.le_refl _)⟩
  have hs1 : w1.heap.size = w.heap.size + 1 := by rw [← hw1]; simp
  have HT := Lib.hid ((T1.mono (D := NamedC) (fun _ h => h.elim)).trans (T2.mono (D := NamedC) (fun _ h => h.elim)) (fun _ h => h))
  have HN := Lib.hid ((HN0.turn T1 (fun h => h) (fun h => h) (fun h => h)).turn T2 (fun h => h) (fun h => h) (fun h => h))
  have HR1 := Lib.hid (hR1.turn T2 (fun h => h))
  have HR2 := Lib.hid hR2
  have HH := Lib.hid HH0
  have HD := Lib.hid hD
  have HX := Lib.hid hX
  have HL := Lib.hid hl
  obtain ⟨w2, hw2⟩ : ∃ x, w1.alloc (.cells #[.slice ao X.length cap, .slice none 0 0] 129) = x := ⟨_, rfl⟩
  rw [hw2] at HT HN HR1 HR2
  generalize ext (ext (norm o) w.heap.size 14) w1.heap.size 14 = q2 at *
  have HS1 := Lib.hid hs1
  have HW2 := Lib.hid hw2
  clear hw2
  clear hN hD hH hX hl HN0 HH0 hb1 hb2 T1 T2 hR1 hR2
  rw [hs1] at HR2
  have hXl : X.length ≤ 2048 := HL.out.2
  go_enter Try.func67, Try.ntmps67
  go_wp2_with fail
  rw [HW2.out]
  clear hw1 hs1 HW2
  go_loopw [12] (fun i wr => ∃ (j : Nat) (q : Col), j ≤ X.length ∧ i = .int .i64 j ∧ NamedAt o q NX (w.heap.size + 1) w.heap.size FS LS dF dB (.slice ao X.length cap) X j w wr) (fun i _ => X.length - (intOf i).toNat)
  case atStart => exact ⟨0, q2, Nat.zero_le _, rfl, ⟨_, FS, dF, [], HT.out, HN.out, HD.out, List.prefix_rfl, HR2.out, HR1.out, Own.nil _ _ _ _ _, NumRow.nil _, by omega, rfl⟩⟩
  case round =>
    clear HT HN HR1 HR2 HD
    obtain ⟨j, q, hj, rfl, nv, FS', dF', N, hT, hN, hD, hpre, hRB, hRES, hO, hNR, hlen, hNl⟩ := hrel
    have HT := Lib.hid hT
    have HN := Lib.hid hN
    have HD := Lib.hid hD
    have HPRE := Lib.hid hpre
    have HRB := Lib.hid hRB
    have HRES := Lib.hid hRES
    have HO := Lib.hid hO
    have HNR := Lib.hid hNR
    have HLEN := Lib.hid hlen
    have HNL := Lib.hid hNl
    obtain ⟨na, nc, rfl⟩ := hO.slice
    clear hT hN hD hpre hRB hRES hO hNR hlen hNl
    by_cases hlt : j < X.length
    · have hlti : (j : Int) < X.length := by omega
      have hHr := HH.out.turn HT.out (by unfold NamedC; decide)
      have hrec : Recs wr 3 (fun w x cs => ∃ y, cs = [.int .i64 x.1, .int .i64 x.2.1, y] ∧ HasNestD 0 w y x.2.2) (.slice ao X.length cap) (ofItems X).items := hHr q wr (Turn.refl _ _ _)
      rw [ofItems_items] at hrec
      obtain ⟨b0, off, hao, hcap, hb0, hrc⟩ := hrec.at (by omega)
      subst hao
      obtain ⟨cs, hcs, hPR, hcl⟩ := hrc j hlt
      obtain ⟨y, rfl, hy⟩ := hPR
      obtain ⟨hy0, ya, yc, rfl⟩ := hy
      have hxj := HX.out _ (List.getElem_mem hlt)
      have c0 := hcl 0 (by omega)
      have c1 := hcl 1 (by omega)
      have c2 := hcl 2 (by omega)
      simp at c0 c1 c2
      have hcapi : (X.length : Int) ≤ cap := by omega
      have HTK : Hid (X.take (j + 1) = X.take j ++ [X[j]]) := Lib.hid (List.take_succ_eq_append_getElem hlt)
      clear hcl hcs hrc hrec hHr hy0
      obtain ⟨it, hit⟩ : ∃ x, X[j] = x := ⟨_, rfl⟩
      rw [hit] at HTK hxj c0 c1
      clear hit
      obtain ⟨t, nd, b⟩ := it
      dsimp only at hxj c0 c1
      obtain ⟨rfl, hwf⟩ := hxj
      have HWF := Lib.hid hwf
      have hbX := below_alloc wr (.cells #[.int .i64 t, .int .i64 nd, .slice ya 0 yc] 51)
      have TX := Turn.of_below q 8 hbX
      have hcx := heap_alloc_new wr (.cells #[.int .i64 t, .int .i64 nd, .slice ya 0 yc] 51)
      have HT1 := Lib.hid (HT.out.trans TX (fun _ h => h.elim))
      have HN1 := Lib.hid (HN.out.turn TX (fun h => h) (fun h => h) (fun h => h))
      have HRB1 := Lib.hid (HRB.out.turn TX (fun h => h))
      have HRES1 := Lib.hid (HRES.out.turn TX (fun h => h))
      have HO1 := Lib.hid (HO.out.turn TX (fun h => h))
      have HCX := Lib.hid hcx
      have HCX8 : Hid (ext q wr.heap.size 8 wr.heap.size = 8) := Lib.hid (ext_new (Nat.le_refl _))
      clear hwf hbX TX hcx HT HN HRB HRES HO
      go_wp2_with fail
      obtain ⟨w3, hw3⟩ : ∃ x, wr.alloc (.cells #[.int .i64 t, .int .i64 nd, .slice ya 0 yc] 51) = x := ⟨_, rfl⟩
      obtain ⟨q3, hq3⟩ : ∃ x, ext q wr.heap.size 8 = x := ⟨_, rfl⟩
      obtain ⟨XB, hXB⟩ : ∃ x, wr.heap.size = x := ⟨_, rfl⟩
      rw [hw3, hq3] at HT1 HN1 HRB1 HRES1 HO1
      rw [hw3, hXB] at HCX
      rw [hq3, hXB] at HCX8
      rw [hw3, hXB]
      clear hw3 hq3 hXB c0 c1 c2
      have r1 := HRB1.out.cell 1 _ rfl
      have x0 := cells_row _ _ HCX.out 0 _ rfl
      have x1 := cells_row _ _ HCX.out 1 _ rfl
      have x2 := cells_row _ _ HCX.out 2 _ rfl
      refine wp_region_lex1 (fun w' => w'.cell? ⟨w.heap.size + 1, 1, none⟩ = some (.slice na N.length nc) ∧ w'.cell? ⟨XB, 0, none⟩ = some (.int .i64 t) ∧ w'.cell? ⟨XB, 1, none⟩ = some (.int .i64 nd) ∧ w'.cell? ⟨XB, 2, none⟩ = some (.slice ya 0 yc)) [0, 1, 2, 3] [] 4 [5, 6, 7, 8] (by kernel_rfl) (by kernel_rfl) (by kernel_rfl) rfl (fun _ _ hx h => ⟨hx.cell h.1, hx.cell h.2.1, hx.cell h.2.2.1, hx.cell h.2.2.2⟩) ⟨r1, x0, x1, x2⟩ ?_
      intro Q' hQ'
      simp only [pickOps, List.flatMap_cons, List.flatMap_nil, List.drop_succ_cons, List.drop_zero, List.take_succ_cons, List.take_zero, List.cons_append, List.nil_append, List.append_nil]
      repeat (first
        | (refine wpReads_skip (by rfl) ?_; (try simp only [Act.put, List.setIfInBounds_toArray, List.set_cons_zero, List.set_cons_succ]))
        | (refine wpReads_cons ?_ (by rfl) (by rfl) ?_ ?_; rotate_left; (intro wz hz; (try dsimp only at hz); go_simp; try with_reducible rfl); (try simp only [Act.put, List.setIfInBounds_toArray, List.set_cons_zero, List.set_cons_succ]))
        | (refine wpReads_any ?_ (by rfl) ?_ ?_; rotate_left; (intro wz; go_simp; try with_reducible rfl); (try simp only [Act.put, List.setIfInBounds_toArray, List.set_cons_zero, List.set_cons_succ])))
      refine wpReads_nil ?_
      clear r1 x0 x1 x2
      go_wp2_with fail
      have hlf : FS'.length ≤ 4611686018427387904 := by have := HLEN.out; have := HL.out; omega
      refine (loopleaf_any _ q3 NX FS' LS t nd ya yc (HN1.out.turn ((Turn.refl q3 (fun _ => False) w3).drew) (fun h => h) (fun h => h) (fun h => h)) HWF.out hlf).mono ?_
      rintro e w4 ⟨q4, rfl, hT4, hN4⟩
      obtain ⟨dF2, hp2, hD2, hNm⟩ := HD.out.nameF (t := t) (nd := nd) (b := 0) (B := []) (.inl ⟨rfl, rfl⟩)
      have T4 : Turn q3 q4 (fun x => x = 12 ∨ x = 13) w3 w4 := ((Turn.refl q3 (fun _ => False) w3).drew.mono (fun _ h => h.elim)).trans hT4 (fun _ h => h)
      have HT4 := Lib.hid (HT1.out.trans T4 (fun c h => by unfold NamedC; rcases h with rfl | rfl <;> simp))
      have HN4 := Lib.hid hN4
      have HRB4 := Lib.hid (HRB1.out.turn T4 (by decide))
      have HRES4 := Lib.hid (HRES1.out.turn T4 (by decide))
      have HO4 := Lib.hid (HO1.out.turn T4 (by decide))
      have HD4 := Lib.hid hD2
      have HP4 := Lib.hid hp2
      have HNM := Lib.hid hNm
      have hx4 := block_mods HCX.out T4.mods (fun e => by
        have h1 := HCX8.out
        rw [h1] at e
        rcases e with e | e <;> cases e)
      have HCX4 := Lib.hid hx4
      clear T4 hx4 hT4 hN4 hD2 hp2 hNm HT1 HN1 HRB1 HRES1 HO1 hlf
      go_wp2_with fail
      refine ⟨⟨HRB4.out.cell 1 _ rfl, cells_row _ _ HCX4.out 0 _ rfl, cells_row _ _ HCX4.out 1 _ rfl, cells_row _ _ HCX4.out 2 _ rfl⟩, ?_⟩
      go_wp2_with (at_builtin; refine stop_here ?_)
      refine go_on ?_
      refine wpList_app rfl _ _ 52 rfl 0 3 i0 _ 1 8 Try.underlying52 hi hz0 hz1 hz2 rfl (.slice na N.length nc) N.length _ rfl (HO4.out.1.alloc (.cells #[.int .i64 ((numT (addT FS' [t, nd, 0]) [t, nd, 0] : Nat) : Int)] 3)) (some ⟨w4.heap.size, 0, none⟩) 1 1 [.int .i64 ((numT (addT FS' [t, nd, 0]) [t, nd, 0] : Nat) : Int)] rfl rfl (fun h => by cases h) (news_alloc w4 _ 3) (by simp [Value.oneCell']) (by have := HNL.out; unfold maxLen; omega) (grow_ok (by have := HNL.out; omega)) (Nat.zero_le _) ?_
      intro v7 w7 k1 k20 _ k4
      obtain ⟨sp7, cp7, rfl⟩ := owns_slice k1
      have hm7 : Mods (fun b => (Value.slice na N.length nc).ownBlock = some b) w4 w7 := ((Mods.refl _ w4).alloc _).grown k20 (fun b hb _ => hb)
      have T7 : Turn q4 (ext q4 w4.heap.size 6) (fun x => x = 6) w4 w7 := Turn.of_mods q4 6 hm7 (fun b _ hb => HO4.out.2 b hb)
      have HO7 : Hid (Own w7 (ext q4 w4.heap.size 6) 6 3 1 (.slice sp7 (N.length + 1) cp7) (N ++ [numT (addT FS' [t, nd, 0]) [t, nd, 0]]).length (ivs ((N ++ [numT (addT FS' [t, nd, 0]) [t, nd, 0]]).map Int.ofNat))) := Lib.hid ⟨by simpa using k1, fun b hb => by
        rcases k4 with k4 | k4
        · rw [k4] at hb
          exact (ext_old (HO4.out.1.lt b hb).2).trans (HO4.out.2 b hb)
        · rw [k4] at hb
          have := Option.some.inj hb
          simp at this
          exact ext_new (by omega)⟩
      have HN7 := Lib.hid (HN4.out.turn T7 (by decide) (by decide) (by decide))
      have hRB7 := HRB4.out.turn T7 (by decide)
      have HRES7 := Lib.hid (HRES4.out.turn T7 (by decide))
      have HT7 := Lib.hid (HT4.out.trans T7 (fun c h => by unfold NamedC; rw [h]; simp))
      have r1 := hRB7.cell 1 _ rfl
      have f1 := hRB7.frozen 1
      obtain ⟨b8, T8⟩ := hRB7.set 1 (.slice sp7 (N.length + 1) cp7)
      generalize ext q4 w4.heap.size 6 = q7 at *
      have HO8 := Lib.hid (HO7.out.turn T8 (by decide))
      have HN8 := Lib.hid (HN7.out.turn T8 (by decide) (by decide) (by decide))
      have HRES8 : Hid (Blk (w7.setCell ⟨w.heap.size + 1, 1, none⟩ (.slice sp7 (N.length + 1) cp7)) q7 14 w.heap.size 129 #[.slice none 0 0, .slice none 0 0]) := Lib.hid ⟨block_setCell_ne HRES7.out.1 (by show w.heap.size ≠ w.heap.size + 1; omega) _, HRES7.out.2⟩
      have HRB8 := Lib.hid b8
      have HT8 := Lib.hid (HT7.out.trans T8 (fun c h => by unfold NamedC; rw [h]; simp))
      have HNR8 : Hid (NumRow dF2 (N ++ [numT (addT FS' [t, nd, 0]) [t, nd, 0]]) (X.take (j + 1))) := Lib.hid (by rw [HTK.out]; exact (HNR.out.pre HP4.out).snoc HNM.out)
      have HL8 : Hid ((addT FS' [t, nd, 0]).length ≤ FS.length + (j + 1)) := Lib.hid (by have := addT_len FS' [t, nd, 0]; have := HLEN.out; omega)
      have HP8 := Lib.hid (HPRE.out.trans HP4.out)
      clear k1 k20 k4 hm7 T7 T8 b8 hRB7 HO4 HN4 HRB4 HRES4 HT4 HO7 HN7 HRES7 HT7 HCX4 HCX HNR HLEN HP4 HPRE HNM
      go_wp2
      go_roundw
      case rel => exact ⟨j + 1, q7, hlt, by go_num, _, _, _, _, HT8.out, HN8.out, HD4.out, HP8.out, HRB8.out, HRES8.out, HO8.out, HNR8.out, HL8.out, by have := HNL.out; simp; omega⟩
      case measure => simp [intOf]; omega
    · obtain rfl : X.length = j := by omega
      have r0 := HRB.out.cell 0 _ rfl
      have r1 := HRB.out.cell 1 _ rfl
      have s0 := HRES.out.cell 0 _ rfl
      have s1 := HRES.out.cell 1 _ rfl
      have f0 := HRES.out.frozen 0
      have f1 := HRES.out.frozen 1
      obtain ⟨b8, T8⟩ := HRES.out.set 0 (.slice ao X.length cap)
      obtain ⟨b9, T9⟩ := b8.set 1 (.slice na N.length nc)
      have HN9 := Lib.hid ((HN.out.turn T8 (by decide) (by decide) (by decide)).turn T9 (by decide) (by decide) (by decide))
      have HO9 := Lib.hid ((HO.out.turn T8 (by decide)).turn T9 (by decide))
      have HT9 := Lib.hid ((HT.out.trans T8 (fun c h => by unfold NamedC; rw [h]; simp)).trans T9 (fun c h => by unfold NamedC; rw [h]; simp))
      have HB9 := Lib.hid b9
      clear b8 T8 b9 T9
      go_wp2
      refine bodyPost_ret_by (results_cell_row rfl _ _ _ _ _ _ _ rfl HB9.out.1 Try.underlying129 rfl (by kernel_rfl)) rfl ?_
      have hsm : ∀ k, k < w.heap.size → q k = norm o k := HT9.out.same
      refine ⟨_, back o q w.heap.size, FS', dF', N, rfl, back_turn HT9.out (by unfold NamedC; omega) (by unfold NamedC; omega) (by unfold NamedC; omega), HN9.out.recol (fun k _ h => back_keep hsm (.inr h)), HD.out, HPRE.out, Own.vals (HO9.out.recol (fun k hk => back_own hsm (.inr (HO9.out.2 k hk)))), ?_, HLEN.out⟩
      have := HNR.out
      rwa [List.take_of_length_le (Nat.le_refl _)] at this
end Go.Proofs.Ytbmbfifempkhgaa

/- loops: are two groups of a row the same? -/
namespace Go.Proofs.Ytbmbfifempkhgaa
open Go.RowKit

def sameN (N : List Nat) (a b wd : Nat) : Prop := ∀ k, k < wd → N[a + k]? = N[b + k]?
instance (N : List Nat) (a b wd : Nat) : Decidable (sameN N a b wd) := inferInstanceAs (Decidable (∀ k, k < wd → _))

set_option maxRecDepth 100000 in
set_option maxHeartbeats 2000000 in
theorem lsame_any (w : World) (o : Col) (c RB : Nat) (nv : Value) (N : List Nat) (a b wd : Nat) (hr : w.cell? ⟨RB, 1, none⟩ = some nv) (hN : Ints w o c nv (N.map Int.ofNat)) (ha : a + wd ≤ N.length) (hb : b + wd ≤ N.length) (hl : N.length ≤ 2048) :
    Calls Try.prog 87 #[.pointer (some ⟨RB, 0, none⟩), .int .i64 (a : Int), .int .i64 (b : Int), .int .i64 (wd : Int)] w (Hush (.bool (decide (sameN N a b wd))) w) := by
  obtain ⟨ao, cap, rfl⟩ := hN.slice
  rw [List.length_map] at hN hr
  have HN := Lib.hid hN
  obtain ⟨S, hS⟩ : ∃ x, decide (sameN N a b wd) = x := ⟨_, rfl⟩
  rw [hS]
  have HS := Lib.hid hS
  clear hN hS
  go_enter Try.func87, Try.ntmps87
  go_wp2_with fail
  go_loopw [11] (fun i wr => ∃ k : Nat, k ≤ wd ∧ i = .int .i64 k ∧ (∀ j, j < k → N[a + j]? = N[b + j]?) ∧ ∃ m, wr = w.drewN m) (fun i _ => wd - (intOf i).toNat)
  case atStart => exact ⟨0, Nat.zero_le _, rfl, fun j hj => by omega, 0, rfl⟩
  case round =>
    obtain ⟨k, hk, rfl, hall, m, rfl⟩ := hrel
    have HA := Lib.hid hall
    clear hall
    by_cases hlt : k < wd
    · have hlti : (k : Int) < wd := by omega
      obtain ⟨b0, off, hao, -, hcap, -, -, hc⟩ := HN.out.at (by rw [List.length_map]; omega)
      subst hao
      have e1 : a + k < N.length := by omega
      have e2 : b + k < N.length := by omega
      have c1 := hc (a + k) (by rw [List.length_map]; omega)
      have c2 := hc (b + k) (by rw [List.length_map]; omega)
      rw [List.getElem?_map, List.getElem?_eq_getElem e1] at c1
      rw [List.getElem?_map, List.getElem?_eq_getElem e2] at c2
      have h1 : N[a + k]? = some N[a + k] := List.getElem?_eq_getElem e1
      have h2 : N[b + k]? = some N[b + k] := List.getElem?_eq_getElem e2
      obtain ⟨x, hx⟩ : ∃ x, N[a + k] = x := ⟨_, rfl⟩
      obtain ⟨y, hy⟩ : ∃ x, N[b + k] = x := ⟨_, rfl⟩
      rw [hx] at c1 h1
      rw [hy] at c2 h2
      simp only [Option.map_some, Option.getD_some] at c1 c2
      have H1 := Lib.hid h1
      have H2 := Lib.hid h2
      have s1 : IntKind.i64.wrap ((a : Int) + k) = (a : Int) + k := IntWalk.i64_in _ (by omega)
      have s2 : IntKind.i64.wrap ((b : Int) + k) = (b : Int) + k := IntWalk.i64_in _ (by omega)
      have e1i : (a : Int) + k < N.length := by omega
      have e2i : (b : Int) + k < N.length := by omega
      have e3i : 0 ≤ (a : Int) + k := by omega
      have e4i : 0 ≤ (b : Int) + k := by omega
      have t1 : ((a : Int) + k).toNat = a + k := by omega
      have t2 : ((b : Int) + k).toNat = b + k := by omega
      have hcapi : (N.length : Int) ≤ cap := by omega
      clear hc hx hy h1 h2
      go_wp2_with fail
      refine wp_region_soft (fun w' => w' = (w.drewN m).drew) [0, 1, 2, 3, 4, 5, 6, 7, 8, 9, 10, 11, 12, 13, 14, 15, 16, 17, 18] [] (by kernel_rfl) (by kernel_rfl) rfl rfl ?_
      simp only [pickOps, List.flatMap_cons, List.flatMap_nil, List.drop_succ_cons, List.drop_zero, List.take_succ_cons, List.take_zero, List.cons_append, List.nil_append, List.append_nil]
      repeat (refine wpHead_val ?_ (by rfl) ?_ ?_; rotate_left; (intro wz hz; subst hz; (first | (go_simp; done) | (go_simp; with_reducible rfl))); (try simp only [Act.put, List.setIfInBounds_toArray, List.set_cons_zero, List.set_cons_succ]))
      refine wpHead_nil ?_
      rintro w' rfl
      clear s1 s2 t1 t2 e3i e4i
      by_cases hxy : x = y
      · subst hxy
        have HA2 : Hid (∀ j, j < k + 1 → N[a + j]? = N[b + j]?) := Lib.hid (fun j hj => by
          by_cases hjk : j = k
          · rw [hjk, H1.out, H2.out]
          · exact HA.out j (by omega))
        go_wp2
        go_roundw
        case rel => exact ⟨k + 1, by omega, by go_num, HA2.out, m + 1, rfl⟩
        case measure => simp [intOf]; omega
      · have hT : S = false := by
          rw [← HS.out]
          refine decide_eq_false (fun h => hxy ?_)
          have := h k hlt
          rw [H1.out, H2.out] at this
          exact Option.some.inj this
        subst hT
        go_wp2
        go_ret
        exact ⟨rfl, m + 1, rfl⟩
    · obtain rfl : wd = k := by omega
      have hT : S = true := by rw [← HS.out]; exact decide_eq_true HA.out
      subst hT
      go_wp2
      go_ret
      exact ⟨rfl, _, rfl⟩
theorem groups_of {dF : List LItem} {N : List Nat} {X : List LItem} (h : NumRow dF N X) {i m wd : Nat} (hl : i + m * wd ≤ X.length) (hs : ∀ j, 1 ≤ j → j < m → sameN N i (i + j * wd) wd) : ∀ j, j < m → (X.drop (i + j * wd)).take wd = (X.drop i).take wd := by
  intro j hj
  by_cases h0 : j = 0
  · subst h0; simp
  · have h1 : (j + 1) * wd ≤ m * wd := Nat.mul_le_mul_right wd (by omega)
    have h2 : (j + 1) * wd = j * wd + wd := by rw [Nat.add_mul, Nat.one_mul]
    refine take_eq_of (by omega) (by omega) (fun k hk => ?_)
    exact (h.same (hs j (by omega) hj k hk) (by omega) (by omega)).symm
theorem lsame_int (w : World) (o : Col) (c RB : Nat) (nv : Value) (N : List Nat) (a b wd : Nat) (bi : Int) (hbi : bi = (b : Int)) (hr : w.cell? ⟨RB, 1, none⟩ = some nv) (hN : Ints w o c nv (N.map Int.ofNat)) (ha : a + wd ≤ N.length) (hb : b + wd ≤ N.length) (hl : N.length ≤ 2048) :
    Calls Try.prog 87 #[.pointer (some ⟨RB, 0, none⟩), .int .i64 (a : Int), .int .i64 bi, .int .i64 (wd : Int)] w (Hush (.bool (decide (sameN N a b wd))) w) := by
  subst hbi
  exact lsame_any w o c RB nv N a b wd hr hN ha hb hl
end Go.Proofs.Ytbmbfifempkhgaa

/- Rows of loops that stay. No function in sight. -/
namespace Go.Proofs.Ytbmbfifempkhgaa
open Go.RowKit

theorem recs_imp {α : Type} {w : World} {sz : Nat} {R R' : World → α → List Value → Prop} {v : Value} {l : List α} (h : Recs w sz R v l) (hi : ∀ a cs, R w a cs → R' w a cs) : Recs w sz R' v l := by
  rcases h with h | ⟨hp, b, off, cap, e, hl, hlt, h⟩
  · exact .inl h
  · refine .inr ⟨hp, b, off, cap, e, hl, hlt, fun k hk => ?_⟩
    obtain ⟨cs, h1, h2, h3⟩ := h k hk
    exact ⟨cs, h1, hi _ _ h2, h3⟩
theorem nestD_mono : ∀ (D : Nat) {w : World} {v : Value} {l : Nest}, HasNestD D w v l → HasNestD (D + 1) w v l
  | 0, _, _, _, ⟨e, ao, cap, h⟩ => by
    subst e
    exact .inl ⟨rfl, ao, cap, h⟩
  | D + 1, _, _, _, h => recs_imp h (fun a cs ⟨y, h1, h2⟩ => ⟨y, h1, nestD_mono D h2⟩)
theorem Held.up {D : Nat} {w : World} {q : Col} {y : Value} {b : Nest} (h : Held D w q y b) : Held (D + 1) w q y b := fun q'' w'' T => nestD_mono D (h q'' w'' T)
theorem vals_recol {w : World} {o o' : Col} {c d : Nat} {v : Value} {vs : List Value} (h : Vals w o c v vs) (ho : ∀ k, k < w.heap.size → o k = c → o' k = d) : Vals w o' d v vs := by
  rcases h with h | ⟨hp, b, off, cap, h1, h2, h3, h4, h5⟩
  · exact .inl h
  · exact .inr ⟨hp, b, off, cap, h1, h2, h3, ho b h3 h4, h5⟩
/-- a part of a row -/
theorem recs_part {α : Type} {w : World} {sz : Nat} {R : World → α → List Value → Prop} {b off n cap : Nat} {l : List α} (h : Recs w sz R (.slice (some ⟨b, off, none⟩) n cap) l) {i k : Nat} (hk : 0 < k) (hik : i + k ≤ l.length) :
    Recs w sz R (.slice (some ⟨b, off + i * sz, none⟩) k (cap - i)) ((l.drop i).take k) := by
  have hlen : ((l.drop i).take k).length = k := by rw [List.length_take, List.length_drop]; omega
  rcases h with ⟨rfl, _⟩ | ⟨hp, b', off', cap', e, hl, hlt, h⟩
  · simp at hik; omega
  · cases e
    refine .inr ⟨by omega, b, off + i * sz, cap - i, by rw [hlen], by omega, hlt, fun j hj => ?_⟩
    rw [hlen] at hj
    obtain ⟨cs, h1, h2, h3⟩ := h (i + j) (by omega)
    refine ⟨cs, h1, ?_, fun x hx => ?_⟩
    · rw [List.getElem_take, List.getElem_drop]
      exact h2
    · rw [← h3 x hx]
      congr 2
      rw [Nat.add_mul]
      omega
theorem Held.part {D : Nat} {w : World} {q : Col} {b off n cap : Nat} {X : List LItem} (h : Held (D + 1) w q (.slice (some ⟨b, off, none⟩) n cap) (ofItems X)) {i k : Nat} (hk : 0 < k) (hik : i + k ≤ X.length) :
    Held (D + 1) w q (.slice (some ⟨b, off + i * 3, none⟩) k (cap - i)) (ofItems ((X.drop i).take k)) := fun q'' w'' T => by
  have h1 : Recs w'' 3 (fun w x cs => ∃ y, cs = [.int .i64 x.1, .int .i64 x.2.1, y] ∧ HasNestD D w y x.2.2) (.slice (some ⟨b, off, none⟩) n cap) (ofItems X).items := h q'' w'' T
  rw [ofItems_items] at h1
  show Recs w'' 3 _ _ (ofItems ((X.drop i).take k)).items
  rw [ofItems_items]
  exact recs_part h1 hk hik
/-- what stands at a place of a row that stays -/
theorem Held.at {D : Nat} {w : World} {q : Col} {v : Value} {X : List LItem} (h : Held (D + 1) w q v (ofItems X)) {j : Nat} (hj : j < X.length) :
    ∃ b off cap y, v = .slice (some ⟨b, off, none⟩) X.length cap ∧ X.length ≤ cap ∧ w.cell? ⟨b, off + j * 3, none⟩ = some (.int .i64 (X[j]).1) ∧ w.cell? ⟨b, off + j * 3 + 1, none⟩ = some (.int .i64 (X[j]).2.1) ∧ w.cell? ⟨b, off + j * 3 + 2, none⟩ = some y ∧ Held D w q y (X[j]).2.2 := by
  have hR : ∀ q'' w'', Turn q q'' (fun x => x ≠ 5) w w'' → Recs w'' 3 (fun w x cs => ∃ y, cs = [.int .i64 x.1, .int .i64 x.2.1, y] ∧ HasNestD D w y x.2.2) v X := fun q'' w'' T => by
    have h1 : Recs w'' 3 _ v (ofItems X).items := h q'' w'' T
    rwa [ofItems_items] at h1
  obtain ⟨ao, cap, rfl⟩ := (hR q w (Turn.refl _ _ _)).slice
  obtain ⟨b0, off, hao, hcap, hb0, hrec⟩ := (hR q w (Turn.refl _ _ _)).at (by omega)
  subst hao
  obtain ⟨cs, hcs, hPR, hcl⟩ := hrec j hj
  obtain ⟨y, rfl, hy⟩ := hPR
  have c0 := hcl 0 (by omega)
  have c1 := hcl 1 (by omega)
  have c2 := hcl 2 (by omega)
  simp at c0 c1 c2
  refine ⟨_, _, _, y, rfl, hcap, c0, c1, c2, fun q'' w'' T => ?_⟩
  obtain ⟨b1, off1, e1, -, -, hrec1⟩ := (hR q'' w'' T).at (by omega)
  obtain ⟨cs1, hcs1, hPR1, hcl1⟩ := hrec1 j hj
  obtain ⟨y1, rfl, hy1⟩ := hPR1
  have d2 := hcl1 2 (by omega)
  cases e1
  have h5 : q b0 = 5 := by
    refine Classical.byContradiction fun hne => ?_
    have hm : Mods (fun k => some b0 = some k) w (w.putObj b0 (.cells #[] 0 (0, 0))) := Mods.of_grownBy (grownBy_putObj' w b0 _)
    have Tb : Turn q q (fun x => x ≠ 5) w (w.putObj b0 (.cells #[] 0 (0, 0))) := ⟨hm.mono (fun k _ e => by injection e with e; rw [← e]; exact hne), fun _ _ => rfl⟩
    obtain ⟨b2, off2, e2, -, -, hrec2⟩ := (hR q _ Tb).at (by omega)
    obtain ⟨cs2, hcs2, _, hcl2⟩ := hrec2 j hj
    cases e2
    have := hcl2 0 (by omega)
    simp [World.cell?, World.putObj, hb0] at this
  have e3 := T.mods.cell (p := ⟨b0, off + j * 3 + 2, none⟩) hb0 (fun hf => hf h5)
  rw [e3, c2] at d2
  simp at d2
  subst d2
  exact hy1
theorem TailN.up {D : Nat} {w : World} {q : Col} {v : Value} {ps : List (LItem × Value)} (h : TailN D w q v ps) : TailN (D + 1) w q v ps := ⟨h.own, fun x hx => (h.held x hx).up⟩
/-- a row that was built, and stays from now on -/
theorem TailN.stays {D : Nat} {w : World} {q q' : Col} {v : Value} {ps : List (LItem × Value)} (h : TailN D w q v ps) (h4 : ∀ k, k < w.heap.size → q k = 4 → q' k = 5) (h5 : ∀ k, k < w.heap.size → q k = 5 → q' k = 5) : Held (D + 1) w q' v (ofItems (ps.map Prod.fst)) := fun q'' w'' T => by
  have T2 : Turn q (fun k => if k < w.heap.size then q k else q'' k) (fun x => x ≠ 4 ∧ x ≠ 5) w w'' := ⟨T.mods.mono (fun k hk hf => ⟨fun e => hf (h4 k hk e), fun e => hf (h5 k hk e)⟩), fun k hk => by rw [if_pos hk]⟩
  have h1 := (h.turn T2 (fun e => e.1 rfl) (fun e => e.2 rfl)).recs
  show Recs w'' 3 _ _ (ofItems (ps.map Prod.fst)).items
  rw [ofItems_items]
  exact h1
end Go.Proofs.Ytbmbfifempkhgaa
