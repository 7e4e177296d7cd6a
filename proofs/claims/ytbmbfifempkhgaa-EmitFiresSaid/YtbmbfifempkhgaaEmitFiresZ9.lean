/- The law 'pianola EmitFires' (said): for every input it returns true, and what it was handed reads as before. The frame: arguments opened, the walk called, arguments shut. -/
import Derived.Test.YtbmbfifempkhgaaEmitFiresZ8
import Derived.Test.YtbmbfifempkhgaaEmitFiresZ6
import Derived.Test.YtbmbfifempkhgaaEmitFiresZ1
import Derived.Deep.Slices
import Derived.SizedLaws
import Derived.WalkKit
import Derived.ProofKit
import Derived.OpenShut
import Derived.ChangeOld
import Derived.Below
import Derived.Test.YtbmbfifempkhgaaEmitFiresZ5
import Derived.Test.YtbmbfifempkhgaaEmitFiresZ2
import Derived.Test.YtbmbfifempkhgaaRows
import Derived.ShutString
/- The law's walk through a program, walked. -/
namespace Go.Proofs.Ytbmbfifempkhgaa
open Go.RowKit

theorem csW_out {cs : List Int} {y a b : Int} (h : ¬ (0 ≤ a ∧ a < 64)) : csW cs ⟨y, a, b⟩ = cs := if_neg h
theorem pcW_out {cs : List Int} {y a b pc : Int} (h : ¬ (0 ≤ a ∧ a < 64)) : pcW cs ⟨y, a, b⟩ pc = pc + 1 := if_neg (fun h2 => h h2.1)
theorem csW_in {cs : List Int} {y b : Int} {a : Nat} (h : a < 64) : csW cs ⟨y, a, b⟩ = if y = 1 then cs.set a b else if y = 2 then cs.set a (cs[a]?.getD 0 - 1) else cs := by
  unfold csW
  rw [if_pos (show reachW ⟨y, a, b⟩ from ⟨by show (0 : Int) ≤ a; omega, by show (a : Int) < 64; omega⟩)]
  simp
theorem pcW_in {cs : List Int} {y b pc : Int} {a : Nat} (h : a < 64) : pcW cs ⟨y, a, b⟩ pc = if y = 2 ∧ 0 < cs[a]?.getD 0 - 1 then b else pc + 1 := by
  unfold pcW
  have hr : reachW ⟨y, a, b⟩ := ⟨by show (0 : Int) ≤ a; omega, by show (a : Int) < 64; omega⟩
  simp [hr]

def WalkRetL (w : World) (m : Nat) (c : List Int) (e : Ending) (w' : World) : Prop := ∃ v o, e = .returned (.tuple #[v, .int .i64 (m : Int)]) ∧ Ints w' o 4 v c ∧ Below w.heap.size w w'
abbrev zeros64 : Array Value := (ivs (List.replicate 64 0)).toArray
theorem make_z (w : World) : (Instr.makeSlice 52 (.int .i64 64) (.int .i64 64)).run Try.prog w = .ok (.slice (some ⟨w.heap.size, 0, none⟩) 64 64) (w.alloc (.cells zeros64 3)) := by
  obtain ⟨i0, hi, hz0, hz1, hz2⟩ := info_parts info_intX
  have hr := run_make (P := Try.prog) (w := w) 52 3 i0 _ Try.underlying52 hi hz0 .i64 .i64 (64 : Int) (64 : Int) (by omega) (Int.le_refl _) (by rw [hz2]; omega) (by omega)
  rw [hz1] at hr
  rw [hr]
  have e : madeCells (Value.cells (.int .i64 0)) ((64 : Int).toNat * 1) = zeros64 := by
    apply Array.toList_inj.1
    simp [madeCells, Value.cells, ivs, Nat.mod_one, List.map_const']
  rw [e]
  rfl

theorem ivs_set (l : List Int) (k : Nat) (b : Int) : (ivs l).toArray.setIfInBounds k (.int .i64 b) = (ivs (l.set k b)).toArray := by simp [ivs, List.map_set]
/-- what the loop holds -/
structure WAt (w0 : World) (P : GProg) (PB CB : Nat) (pv : Array Value) (k m : Nat) (v n q : Value) (w : World) : Prop where
  is : ∃ (o : Col) (c cs : List Int) (pc : Int), k ≤ m ∧ wI P.ops ⟨[], List.replicate 64 0, 0⟩ k = ⟨c, cs, pc⟩ ∧ n = .int .i64 (k : Int) ∧ q = .int .i64 pc ∧ Own w o 4 3 1 v c.length (ivs c) ∧ Blk w o 3 CB 3 (ivs cs).toArray ∧ Blk w o 2 PB 39 pv ∧ Kept w0.heap.size o w0 w ∧ c.length ≤ k

set_option maxRecDepth 100000 in
set_option maxHeartbeats 4000000 in
theorem lwalk_any (w : World) (v : Value) (P : GProg) (m : Nat) (c1 cs1 : List Int) (hv : HasProg w v P) (hl : P.ops.length ≤ 1000000) (hm : m ≤ 131072) (hr : Runs P.ops ⟨[], List.replicate 64 0, 0⟩ m ⟨c1, cs1, P.ops.length⟩) :
    Calls Try.prog 29 #[v] w (WalkRetL w m c1) := by
  obtain ⟨i0, hi, hz0, hz1, hz2⟩ := info_parts info_intX
  obtain ⟨vp, vl, vo, rfl, rp, rl, ro⟩ := hv
  obtain ⟨ao, co, rfl⟩ := ro.slice
  have hb := below_alloc w (.cells #[.int .i64 P.memory, .int .i64 P.counters, .int .i64 P.ins, .int .i64 P.outs, vp, vl, .slice ao P.ops.length co] 39)
  have hx : Blk (w.alloc (.cells #[.int .i64 P.memory, .int .i64 P.counters, .int .i64 P.ins, .int .i64 P.outs, vp, vl, .slice ao P.ops.length co] 39)) (ext (fun _ => 0) w.heap.size 2) 2 w.heap.size 39 _ := ⟨heap_alloc_new w _, ext_new (Nat.le_refl _)⟩
  have hK := (Kept.start w).of_below 2 hb
  have RO := Lib.hid ro
  have HL := Lib.hid hl
  have HM := Lib.hid hm
  have HR := Lib.hid hr
  obtain ⟨w1, hw1⟩ : ∃ x, w.alloc (.cells #[.int .i64 P.memory, .int .i64 P.counters, .int .i64 P.ins, .int .i64 P.outs, vp, vl, .slice ao P.ops.length co] 39) = x := ⟨_, rfl⟩
  rw [hw1] at hx hK
  have hmk := make_z w1
  have hb1 := below_alloc w1 (.cells zeros64 3)
  have hC : Blk (w1.alloc (.cells zeros64 3)) (ext (ext (fun _ => 0) w.heap.size 2) w1.heap.size 3) 3 w1.heap.size 3 zeros64 := ⟨heap_alloc_new w1 _, ext_new (Nat.le_refl _)⟩
  have T1 := Turn.of_below (ext (fun _ => 0) w.heap.size 2) 3 hb1
  have HX := Lib.hid (hx.turn T1 (fun h => h))
  have HK := Lib.hid (hK.turn T1 (fun h => h))
  have HC := Lib.hid hC
  clear rp rl ro hb hb1 T1 hC hx hK hl hm hr
  go_enter Try.func29, Try.ntmps29
  go_wp2_with fail
  clear hmk hw1
  obtain ⟨w2, hw2⟩ : ∃ x, w1.alloc (.cells zeros64 3) = x := ⟨_, rfl⟩
  obtain ⟨PB, hPB⟩ : ∃ x, w.heap.size = x := ⟨_, rfl⟩
  obtain ⟨CB, hCB⟩ : ∃ x, w1.heap.size = x := ⟨_, rfl⟩
  rw [hw2] at HX HK HC ⊢
  obtain ⟨o1, ho1⟩ : ∃ x, ext (ext (fun _ => 0) w.heap.size 2) w1.heap.size 3 = x := ⟨_, rfl⟩
  rw [ho1] at HX HK HC
  rw [hPB] at HX
  rw [hCB] at HC
  rw [hPB, hCB]
  clear hw2 ho1
  go_loopw [4, 6, 7] (fun v n q wr => ∃ k, WAt w P PB CB #[.int .i64 P.memory, .int .i64 P.counters, .int .i64 P.ins, .int .i64 P.outs, vp, vl, .slice ao P.ops.length co] k m v n q wr) (fun _ n _ _ => m - (intOf n).toNat)
  case atStart => exact ⟨0, ⟨_, _, _, _, Nat.zero_le _, rfl, rfl, rfl, Own.nil _ _ _ _ _, HC.out, HX.out, HK.out, Nat.le_refl _⟩⟩
  case round =>
    clear HX HK HC hPB hCB
    obtain ⟨k, o, c, cs, pc, hk, hs, rfl, rfl, hO, hC, hX, hK, hck⟩ := hrel
    have HO := Lib.hid hO
    have HC := Lib.hid hC
    have HX := Lib.hid hX
    have HK := Lib.hid hK
    have x6 := hX.cell 6 _ rfl
    obtain ⟨va, vc, rfl⟩ := hO.slice
    have hml := HM.out
    clear hO hC hX hK
    by_cases hkm : k < m
    · have hok := HR.out.ok k hkm
      rw [hs] at hok
      obtain ⟨hlo, hhi, hcs⟩ := hok
      obtain ⟨p, rfl⟩ := Int.eq_ofNat_of_zero_le hlo
      have hhi' : (p : Int) < P.ops.length := hhi
      have hplt : p < P.ops.length := by omega
      obtain ⟨-, hcap, b0, off, rfl, hcl⟩ := RO.out.at hplt
      obtain ⟨d0, d1, d2⟩ := hcl p hplt
      have d0 := cell_later HK.out.below d0
      have d1 := cell_later HK.out.below d1
      have d2 := cell_later HK.out.below d2
      have hcapi : (P.ops.length : Int) ≤ co := by omega
      have hnx : wI P.ops ⟨[], List.replicate 64 0, 0⟩ (k + 1) = ⟨if (P.ops[p]).kind = 5 then c ++ [(P.ops[p]).a] else c, csW cs P.ops[p], pcW cs P.ops[p] p⟩ := by
        rw [wI, hs, wS, opW_at (List.getElem?_eq_getElem hplt)]
      have HN := Lib.hid hnx
      have HCS := Lib.hid hcs
      clear hnx hcs hs hlo hhi hcl
      obtain ⟨x, hx⟩ : ∃ x, P.ops[p] = x := ⟨_, rfl⟩
      rw [hx] at HN d0 d1 d2
      clear hx
      obtain ⟨y, a, b⟩ := x
      dsimp only at HN d0 d1 d2
      have hll := HL.out
      have hBX := below_alloc wr (.cells #[.int .u8 y, .int .i64 a, .int .i64 b] 61)
      have hB : Blk _ (ext o wr.heap.size 8) 8 _ _ _ := ⟨heap_alloc_new wr (.cells #[.int .u8 y, .int .i64 a, .int .i64 b] 61), ext_new (Nat.le_refl _)⟩
      have TX := Turn.of_below o 8 hBX
      have HO5 := Lib.hid (HO.out.turn TX (fun h => h))
      have HC5 := Lib.hid (HC.out.turn TX (fun h => h))
      have HX5 := Lib.hid (HX.out.turn TX (fun h => h))
      have HK5 := Lib.hid (HK.out.turn TX (fun h => h))
      have HB5 := Lib.hid hB
      have u0 := hB.cell 0 _ rfl
      have u1 := hB.cell 1 _ rfl
      clear hBX hB TX HO HC HX HK
      by_cases hy : y = 5
      · subst hy
        go_wp2_with (at_builtin; refine stop_here ?_)
        refine go_on ?_
        obtain ⟨w5, hw5⟩ : ∃ x, wr.alloc (.cells #[.int .u8 5, .int .i64 a, .int .i64 b] 61) = x := ⟨_, rfl⟩
        obtain ⟨o5, ho5⟩ : ∃ x, ext o wr.heap.size 8 = x := ⟨_, rfl⟩
        obtain ⟨X, hX⟩ : ∃ x, wr.heap.size = x := ⟨_, rfl⟩
        have hs5 : w5.heap.size = X + 1 := by rw [← hw5, ← hX]; simp
        rw [hw5, ho5] at HO5 HC5 HX5 HK5 HB5
        rw [hw5]
        rw [hX] at HB5 ⊢
        clear hw5 ho5 hX u0 u1 d0 d1 d2 x6
        refine wpList_app rfl _ _ 52 rfl 0 3 i0 _ 1 8 Try.underlying52 hi hz0 hz1 hz2 rfl (.slice va c.length vc) c.length _ rfl (HO5.out.1.alloc (.cells #[.int .i64 a] 3)) (some ⟨X + 1, 0, none⟩) 1 1 [.int .i64 a] rfl rfl (fun h => by cases h) (by rw [← hs5]; exact news_alloc w5 [.int .i64 a] 3) (by simp [Value.oneCell']) (by unfold maxLen; omega) (grow_ok (by omega)) (Nat.zero_le _) ?_
        intro v7 w7 k1 k20 _ k4
        obtain ⟨sp7, cp7, rfl⟩ := owns_slice k1
        have hm7 : Mods (fun b => (Value.slice va c.length vc).ownBlock = some b) w5 w7 := ((Mods.refl _ w5).alloc _).grown k20 (fun b hb _ => hb)
        have T7 : Turn o5 (ext o5 w5.heap.size 4) (fun x => x = 4) w5 w7 := Turn.of_mods o5 4 hm7 (fun b _ hb => HO5.out.2 b hb)
        have HO6 : Hid (Own w7 (ext o5 w5.heap.size 4) 4 3 1 (.slice sp7 (c.length + 1) cp7) (c ++ [a]).length (ivs (c ++ [a]))) := Lib.hid ⟨by simpa using k1, fun b hb => by
          rcases k4 with k4 | k4
          · rw [k4] at hb
            exact (ext_old (HO5.out.1.lt b hb).2).trans (HO5.out.2 b hb)
          · rw [k4] at hb
            have := Option.some.inj hb
            simp at this
            exact ext_new (by omega)⟩
        have HC6 := Lib.hid (HC5.out.turn T7 (by decide))
        have HX6 := Lib.hid (HX5.out.turn T7 (by decide))
        have HB6 := Lib.hid (HB5.out.turn T7 (by decide))
        have HK6 := Lib.hid (HK5.out.turn T7 (by decide))
        have HLN : Hid ((c ++ [a]).length ≤ k + 1) := Lib.hid (by simp; omega)
        have HN0 : Hid (∀ cs' pc', csW cs ⟨5, a, b⟩ = cs' → pcW cs ⟨5, a, b⟩ p = pc' → wI P.ops ⟨[], List.replicate 64 0, 0⟩ (k + 1) = ⟨c ++ [a], cs', pc'⟩) := Lib.hid (by
          intro cs' pc' e1 e2
          rw [HN.out, if_pos trivial, e1, e2])
        clear HN k1 k20 k4 hm7 T7 HO5 HC5 HX5 HB5 HK5 hs5
        generalize ext o5 w5.heap.size 4 = o6 at *
        have u0 := HB6.out.cell 0 _ rfl
        have u1 := HB6.out.cell 1 _ rfl
        have u2 := HB6.out.cell 2 _ rfl
        by_cases ha : a < 0
        · have HN := Lib.hid (HN0.out _ _ (csW_out (by omega)) (pcW_out (by omega)))
          clear HN0
          go_wp2
          go_roundw
          case rel => exact ⟨k + 1, ⟨_, _, _, _, hkm, HN.out, by go_num, by go_num, HO6.out, HC6.out, HX6.out, HK6.out, by first | exact HLN.out | (have := HLN.out; omega)⟩⟩
          case measure => simp [intOf]; omega
        by_cases ha2 : 64 ≤ a
        · have HN := Lib.hid (HN0.out _ _ (csW_out (by omega)) (pcW_out (by omega)))
          clear HN0
          go_wp2
          go_roundw
          case rel => exact ⟨k + 1, ⟨_, _, _, _, hkm, HN.out, by go_num, by go_num, HO6.out, HC6.out, HX6.out, HK6.out, by first | exact HLN.out | (have := HLN.out; omega)⟩⟩
          case measure => simp [intOf]; omega
        obtain ⟨a, rfl⟩ := Int.eq_ofNat_of_zero_le (show 0 ≤ a by omega)
        have ha3 : a < 64 := by omega
        have ha4 : (a : Int) < 64 := by omega
        have HN1 := Lib.hid (HN0.out _ _ (csW_in ha3) (pcW_in ha3))
        clear HN0
        rw [if_neg (by omega), if_neg (by omega), if_neg (by omega)] at HN1
        have HN := HN1
        clear HN1
        go_wp2
        go_roundw
        case rel => exact ⟨k + 1, ⟨_, _, _, _, hkm, HN.out, by go_num, by go_num, HO6.out, HC6.out, HX6.out, HK6.out, by first | exact HLN.out | (have := HLN.out; omega)⟩⟩
        case measure => simp [intOf]; omega
      · have HO6 := HO5
        have HC6 := HC5
        have HX6 := HX5
        have HK6 := HK5
        have HB6 := HB5
        have HLN : Hid (c.length ≤ k + 1) := Lib.hid (by omega)
        have HN0 : Hid (∀ cs' pc', csW cs ⟨y, a, b⟩ = cs' → pcW cs ⟨y, a, b⟩ p = pc' → wI P.ops ⟨[], List.replicate 64 0, 0⟩ (k + 1) = ⟨c, cs', pc'⟩) := Lib.hid (by
          intro cs' pc' e1 e2
          rw [HN.out, if_neg hy, e1, e2])
        clear HN HO5 HC5 HX5 HB5 HK5 u0 u1
        have u0 := HB6.out.cell 0 _ rfl
        have u1 := HB6.out.cell 1 _ rfl
        have u2 := HB6.out.cell 2 _ rfl
        by_cases ha : a < 0
        · have HN := Lib.hid (HN0.out _ _ (csW_out (by omega)) (pcW_out (by omega)))
          clear HN0
          go_wp2
          go_roundw
          case rel => exact ⟨k + 1, ⟨_, _, _, _, hkm, HN.out, by go_num, by go_num, HO6.out, HC6.out, HX6.out, HK6.out, by first | exact HLN.out | (have := HLN.out; omega)⟩⟩
          case measure => simp [intOf]; omega
        by_cases ha2 : 64 ≤ a
        · have HN := Lib.hid (HN0.out _ _ (csW_out (by omega)) (pcW_out (by omega)))
          clear HN0
          go_wp2
          go_roundw
          case rel => exact ⟨k + 1, ⟨_, _, _, _, hkm, HN.out, by go_num, by go_num, HO6.out, HC6.out, HX6.out, HK6.out, by first | exact HLN.out | (have := HLN.out; omega)⟩⟩
          case measure => simp [intOf]; omega
        obtain ⟨a, rfl⟩ := Int.eq_ofNat_of_zero_le (show 0 ≤ a by omega)
        have ha3 : a < 64 := by omega
        have ha4 : (a : Int) < 64 := by omega
        have HN1 := Lib.hid (HN0.out _ _ (csW_in ha3) (pcW_in ha3))
        clear HN0
        have hal : a < cs.length := by rw [HCS.out.1]; exact ha3
        obtain ⟨r, hr⟩ : ∃ r, cs[a]? = some r := ⟨_, List.getElem?_eq_getElem hal⟩
        have hrb := HCS.out.2 r (List.mem_of_getElem? hr)
        have cr := HC6.out.cell a (iv r) (by simp [ivs, hr])
        have fz := HC6.out.frozen a
        by_cases hy1 : y = 1
        · subst hy1
          rw [if_pos rfl, if_neg (by omega)] at HN1
          have HN := HN1
          clear HN1
          obtain ⟨b6, T6⟩ := HC6.out.set a (iv b)
          rw [ivs_set] at b6
          have HO7 := Lib.hid (HO6.out.turn T6 (by decide))
          have HX7 := Lib.hid (HX6.out.turn T6 (by decide))
          have HK7 := Lib.hid (HK6.out.turn T6 (by decide))
          have HC7 := Lib.hid b6
          have vb := (HB6.out.turn T6 (by decide)).cell 0 _ rfl
          clear T6 b6 HO6 HX6 HK6 HC6 HB6
          go_wp2
          go_roundw
          case rel => exact ⟨k + 1, ⟨_, _, _, _, hkm, HN.out, by go_num, by go_num, HO7.out, HC7.out, HX7.out, HK7.out, HLN.out⟩⟩
          case measure => simp [intOf]; omega
        by_cases hy2 : y = 2
        · subst hy2
          rw [if_neg (by omega), if_pos rfl, hr] at HN1
          have HN2 : Hid (wI P.ops ⟨[], List.replicate 64 0, 0⟩ (k + 1) = ⟨c, cs.set a (r - 1), if 0 < r - 1 then b else (p : Int) + 1⟩) := Lib.hid (by rw [HN1.out]; simp)
          obtain ⟨b6, T6⟩ := HC6.out.set a (iv (r - 1))
          rw [ivs_set] at b6
          have HO7 := Lib.hid (HO6.out.turn T6 (by decide))
          have HX7 := Lib.hid (HX6.out.turn T6 (by decide))
          have HK7 := Lib.hid (HK6.out.turn T6 (by decide))
          have HC7 := Lib.hid b6
          have hB7 := HB6.out.turn T6 (by decide)
          have vb := hB7.cell 0 _ rfl
          have vb1 := hB7.cell 1 _ rfl
          have vb2 := hB7.cell 2 _ rfl
          have vc := b6.cell a (iv (r - 1)) (by simp [ivs, hal])
          clear T6 b6 HO6 HX6 HK6 HC6 HB6 hB7 HN1
          by_cases hpos : 0 < r - 1
          · rw [if_pos hpos] at HN2
            go_wp2
            go_roundw
            case rel => exact ⟨k + 1, ⟨_, _, _, _, hkm, HN2.out, by go_num, by go_num, HO7.out, HC7.out, HX7.out, HK7.out, HLN.out⟩⟩
            case measure => simp [intOf]; omega
          · rw [if_neg hpos] at HN2
            go_wp2
            go_roundw
            case rel => exact ⟨k + 1, ⟨_, _, _, _, hkm, HN2.out, by go_num, by go_num, HO7.out, HC7.out, HX7.out, HK7.out, HLN.out⟩⟩
            case measure => simp [intOf]; omega
        · rw [if_neg hy1, if_neg hy2, if_neg (fun h => hy2 h.1)] at HN1
          have HN := HN1
          clear HN1
          go_wp2
          go_roundw
          case rel => exact ⟨k + 1, ⟨_, _, _, _, hkm, HN.out, by go_num, by go_num, HO6.out, HC6.out, HX6.out, HK6.out, by first | exact HLN.out | (have := HLN.out; omega)⟩⟩
          case measure => simp [intOf]; omega
    · obtain rfl : k = m := by omega
      have hend := HR.out.is
      rw [hs] at hend
      injection hend with e1 e2 e3
      subst e1 e2 e3
      clear hs
      go_wp2
      go_ret2
      exact ⟨_, _, rfl, HO.out.vals, HK.out.below⟩
end Go.Proofs.Ytbmbfifempkhgaa

/- EmitFires, walked. -/
namespace Go.Proofs.Ytbmbfifempkhgaa
open Go.RowKit


set_option maxRecDepth 100000 in
set_option maxHeartbeats 4000000 in
theorem fires_all (D : Nat) (w : World) (vg vp v : Value) (g : GGraph) (p : GPlan) (l : Nest) (hg : HasGraph w vg g) (hp : HasPlan w vp p) (hv : HasNestD D w v l) (hgs : GSized g) (hgr : Great g) (hns : NSized l) (hrl : p.regions.length ≤ 17600000000000) : Calls Try.prog 8 #[vg, vp, v] w (Tells (.bool true) w) := by
  obtain ⟨va, ve, vi, vo, rfl, ra, re, ri, ro⟩ := hg.shape
  obtain ⟨vr, rfl, rr⟩ := hp
  obtain ⟨aa, ac, rfl⟩ := ra.slice
  obtain ⟨ae, ec, rfl⟩ := re.slice
  obtain ⟨ai, ic, rfl⟩ := ri.slice
  obtain ⟨ao, oc, rfl⟩ := ro.slice
  obtain ⟨ar, rc, rfl⟩ := rr.slice
  obtain ⟨an, nc, rfl⟩ := nestD_slice D hv
  have RG := Lib.hid hg
  have RP : Hid (HasPlan w (.agg #[.slice ar p.regions.length rc, .int .i64 p.total]) p) := Lib.hid ⟨_, rfl, rr⟩
  have RN := Lib.hid hv
  have HGS := Lib.hid hgs
  have HGR := Lib.hid hgr
  have HNS := Lib.hid hns
  have HRL := Lib.hid hrl
  have RE := Lib.hid re
  have RR := Lib.hid rr
  have hb1 := below_alloc w (.cells #[.string g.name, .slice aa g.actors.length ac, .slice ae g.edges.length ec, .slice ai g.ins.length ic, .slice ao g.outs.length oc] 26)
  have h1 := heap_alloc_new w (.cells #[.string g.name, .slice aa g.actors.length ac, .slice ae g.edges.length ec, .slice ai g.ins.length ic, .slice ao g.outs.length oc] 26)
  have hs1 : (w.alloc (.cells #[.string g.name, .slice aa g.actors.length ac, .slice ae g.edges.length ec, .slice ai g.ins.length ic, .slice ao g.outs.length oc] 26)).heap.size = w.heap.size + 1 := by simp
  have hb2 := below_alloc (w.alloc (.cells #[.string g.name, .slice aa g.actors.length ac, .slice ae g.edges.length ec, .slice ai g.ins.length ic, .slice ao g.outs.length oc] 26)) (.cells #[.slice ar p.regions.length rc, .int .i64 p.total] 29)
  have h2 := heap_alloc_new (w.alloc (.cells #[.string g.name, .slice aa g.actors.length ac, .slice ae g.edges.length ec, .slice ai g.ins.length ic, .slice ao g.outs.length oc] 26)) (.cells #[.slice ar p.regions.length rc, .int .i64 p.total] 29)
  have h3 := block_alloc h1 (.cells #[.slice ar p.regions.length rc, .int .i64 p.total] 29)
  have HT := Lib.hid (((Then.refl w).step hb1).step hb2)
  rw [hs1] at h2
  obtain ⟨W, hW⟩ : ∃ x, (w.alloc (.cells #[.string g.name, .slice aa g.actors.length ac, .slice ae g.edges.length ec, .slice ai g.ins.length ic, .slice ao g.outs.length oc] 26)).alloc (.cells #[.slice ar p.regions.length rc, .int .i64 p.total] 29) = x := ⟨_, rfl⟩
  rw [hW] at h2 h3 HT
  have HGB := Lib.hid h3
  have HPB := Lib.hid h2
  have y0 := cells_row _ _ h3 0 _ rfl
  have y1 := cells_row _ _ h3 1 _ rfl
  have y2 := cells_row _ _ h3 2 _ rfl
  have y3 := cells_row _ _ h3 3 _ rfl
  have y4 := cells_row _ _ h3 4 _ rfl
  have y5 := cells_row _ _ h2 0 _ rfl
  have y6 := cells_row _ _ h2 1 _ rfl
  clear ra re ri ro rr hg hgs hgr hns hrl hv hb1 hb2 h1 h2 h3 hs1
  go_enter Try.func8, Try.ntmps8
  go_wp2_with fail
  clear hW y0 y1 y2 y3 y4 y5 y6
  refine (heavyl_any D _ _ _ _ g p l (RG.out.below HT.out.below) (RP.out.below HT.out.below) (nestD_below D RN.out HT.out.below) HGR.out HNS.out HRL.out).mono ?_
  rintro e wc ⟨b, rfl, hbl, hb⟩
  replace HT := Lib.hid (HT.out.step hb)
  replace HGB := Lib.hid ((hb.block _ (block_lt HGB.out)).trans HGB.out)
  replace HPB := Lib.hid ((hb.block _ (block_lt HPB.out)).trans HPB.out)
  clear hb
  cases b with
  | true =>
    go_wp2
    go_ret
    exact ⟨rfl, HT.out.below⟩
  | false =>
    have HH := Lib.hid (hbl rfl)
    clear hbl
    have HPS := Lib.hid HGR.out.params
    have HES := Lib.hid HGR.out.starts
    go_wp2_with fail
    go_cut [7, 8] from 19 to 29 (fun pp ee wx => ∃ X, pp = .pointer (some ⟨X, 0, none⟩) ∧ ee = .int .i64 (makeE g p l) ∧ Then w wx ∧ wx.heap[w.heap.size]? = some (.cells #[.string g.name, .slice aa g.actors.length ac, .slice ae g.edges.length ec, .slice ai g.ins.length ic, .slice ao g.outs.length oc] 26 (0, 0)) ∧ wx.heap[w.heap.size + 1]? = some (.cells #[.slice ar p.regions.length rc, .int .i64 p.total] 29 (0, 0)) ∧ ProgAt wx X (makeP g p l))
    case first =>
      have hb : Below wc.heap.size wc wc.drew := below_dr (n := 1) (Below.refl _ _)
      replace HT := Lib.hid (HT.out.step hb)
      replace HGB := Lib.hid ((hb.block _ (block_lt HGB.out)).trans HGB.out)
      replace HPB := Lib.hid ((hb.block _ (block_lt HPB.out)).trans HPB.out)
      clear hb
      refine wp_region_drift (fun w' => w'.cell? ⟨w.heap.size, 0, none⟩ = some (.string g.name) ∧ w'.cell? ⟨w.heap.size, 1, none⟩ = some (.slice aa g.actors.length ac) ∧ w'.cell? ⟨w.heap.size, 2, none⟩ = some (.slice ae g.edges.length ec) ∧ w'.cell? ⟨w.heap.size, 3, none⟩ = some (.slice ai g.ins.length ic) ∧ w'.cell? ⟨w.heap.size, 4, none⟩ = some (.slice ao g.outs.length oc) ∧ w'.cell? ⟨w.heap.size + 1, 0, none⟩ = some (.slice ar p.regions.length rc) ∧ w'.cell? ⟨w.heap.size + 1, 1, none⟩ = some (.int .i64 p.total)) [0, 2, 4, 7, 8, 9] [1, 3, 5, 6] [0, 2, 4] 10 (by kernel_rfl) (by kernel_rfl) rfl ⟨cells_row _ _ HGB.out 0 _ rfl, cells_row _ _ HGB.out 1 _ rfl, cells_row _ _ HGB.out 2 _ rfl, cells_row _ _ HGB.out 3 _ rfl, cells_row _ _ HGB.out 4 _ rfl, cells_row _ _ HPB.out 0 _ rfl, cells_row _ _ HPB.out 1 _ rfl⟩ ?_
      intro Q' hQ' hQ2
      simp only [pickOps, List.flatMap_cons, List.flatMap_nil, List.drop_succ_cons, List.drop_zero, List.take_succ_cons, List.take_zero, List.cons_append, List.nil_append, List.append_nil]
      repeat (first
        | (refine wpReads_skip (by rfl) ?_; (try simp only [Act.put, List.setIfInBounds_toArray, List.set_cons_zero, List.set_cons_succ]))
        | (refine wpReads_cons ?_ (by rfl) (by rfl) ?_ ?_; rotate_left; (intro wz hz; (try dsimp only at hz); go_simp; try with_reducible rfl); (try simp only [Act.put, List.setIfInBounds_toArray, List.set_cons_zero, List.set_cons_succ]))
        | (refine wpReads_any ?_ (by rfl) ?_ ?_; rotate_left; (intro wz; go_simp; try with_reducible rfl); (try simp only [Act.put, List.setIfInBounds_toArray, List.set_cons_zero, List.set_cons_succ])))
      refine wpReads_nil ?_
      obtain ⟨wd, hwd⟩ : ∃ x, wc.drew = x := ⟨_, rfl⟩
      rw [hwd] at HT HGB HPB ⊢
      clear hwd
      obtain ⟨wc, hwc⟩ : ∃ x, x = wd := ⟨_, rfl⟩
      subst hwc
      refine wpAnyT_two (i := 1) (k := 10) (by kernel_rfl) ?_ ?_
      · skip
        simp only [pickOps, List.flatMap_cons, List.flatMap_nil, List.drop_succ_cons, List.drop_zero, List.take_succ_cons, List.take_zero, List.append_nil]
        go_wp2_with fail
        refine (lentgraph_any _ _ g (RG.out.below HT.out.below) HH.out.1 HPS.out HES.out).mono ?_
        rintro e wc ⟨vgl, rfl, hgl, hb⟩
        replace HT := Lib.hid (HT.out.step hb)
        replace HGB := Lib.hid ((hb.block _ (block_lt HGB.out)).trans HGB.out)
        replace HPB := Lib.hid ((hb.block _ (block_lt HPB.out)).trans HPB.out)
        try replace HGL := Lib.hid (HGL.out.below hb)
        try replace HPL := Lib.hid (HPL.out.below hb)
        try replace HNL := Lib.hid (nestD_below D HNL.out hb)
        try replace HX := Lib.hid ((hb.block _ (block_lt HX.out)).trans HX.out)
        have HGL := Lib.hid hgl
        clear hgl hb
        go_wp2_with fail
        refine ⟨fun _ _ => ⟨cells_row _ _ HGB.out 0 _ rfl, cells_row _ _ HGB.out 1 _ rfl, cells_row _ _ HGB.out 2 _ rfl, cells_row _ _ HGB.out 3 _ rfl, cells_row _ _ HGB.out 4 _ rfl, cells_row _ _ HPB.out 0 _ rfl, cells_row _ _ HPB.out 1 _ rfl⟩, ?_⟩
        refine wpAnyT_two (i := 3) (k := 10) (by kernel_rfl) ?_ ?_
        · skip
          simp only [pickOps, List.flatMap_cons, List.flatMap_nil, List.drop_succ_cons, List.drop_zero, List.take_succ_cons, List.take_zero, List.append_nil]
          go_wp2_with fail
          refine (lentplan_any _ _ p (RP.out.below HT.out.below) (by have := HH.out; omega)).mono ?_
          rintro e wc ⟨vpl, rfl, hpl, hb⟩
          replace HT := Lib.hid (HT.out.step hb)
          replace HGB := Lib.hid ((hb.block _ (block_lt HGB.out)).trans HGB.out)
          replace HPB := Lib.hid ((hb.block _ (block_lt HPB.out)).trans HPB.out)
          try replace HGL := Lib.hid (HGL.out.below hb)
          try replace HPL := Lib.hid (HPL.out.below hb)
          try replace HNL := Lib.hid (nestD_below D HNL.out hb)
          try replace HX := Lib.hid ((hb.block _ (block_lt HX.out)).trans HX.out)
          have HPL := Lib.hid hpl
          clear hpl hb
          go_wp2_with fail
          refine ⟨fun _ _ => ⟨cells_row _ _ HGB.out 0 _ rfl, cells_row _ _ HGB.out 1 _ rfl, cells_row _ _ HGB.out 2 _ rfl, cells_row _ _ HGB.out 3 _ rfl, cells_row _ _ HGB.out 4 _ rfl, cells_row _ _ HPB.out 0 _ rfl, cells_row _ _ HPB.out 1 _ rfl⟩, ?_⟩
          refine wpAnyT_two (i := 5) (k := 10) (by kernel_rfl) ?_ ?_
          · skip
            simp only [pickOps, List.flatMap_cons, List.flatMap_nil, List.drop_succ_cons, List.drop_zero, List.take_succ_cons, List.take_zero, List.append_nil]
            go_wp2_with fail
            refine (lentN_any D _ _ l (nestD_below D RN.out HT.out.below) HH.out.2.2).mono ?_
            rintro e wc ⟨vnl, rfl, hnl, hb⟩
            replace HT := Lib.hid (HT.out.step hb)
            replace HGB := Lib.hid ((hb.block _ (block_lt HGB.out)).trans HGB.out)
            replace HPB := Lib.hid ((hb.block _ (block_lt HPB.out)).trans HPB.out)
            try replace HGL := Lib.hid (HGL.out.below hb)
            try replace HPL := Lib.hid (HPL.out.below hb)
            try replace HNL := Lib.hid (nestD_below D HNL.out hb)
            try replace HX := Lib.hid ((hb.block _ (block_lt HX.out)).trans HX.out)
            have HNL := Lib.hid (hnl _ (Mods.refl _ _))
            clear hnl hb
            go_wp2_with fail
            refine ⟨fun _ _ => ⟨cells_row _ _ HGB.out 0 _ rfl, cells_row _ _ HGB.out 1 _ rfl, cells_row _ _ HGB.out 2 _ rfl, cells_row _ _ HGB.out 3 _ rfl, cells_row _ _ HGB.out 4 _ rfl, cells_row _ _ HPB.out 0 _ rfl, cells_row _ _ HPB.out 1 _ rfl⟩, ?_⟩
            refine wpAnyT_two (i := 6) (k := 10) (by kernel_rfl) ?_ ?_
            · skip
              simp only [pickOps, List.flatMap_cons, List.flatMap_nil, List.drop_succ_cons, List.drop_zero, List.take_succ_cons, List.take_zero, List.append_nil]
              go_wp2_with fail
              try have HXL := Lib.hid (block_lt HX.out)
              refine (make_fresh D _ _ _ _ g p l HGL.out HPL.out HNL.out HGS.out HNS.out).mono ?_
              rintro e wm ⟨v4, rfl, hpf, hb⟩
              obtain ⟨vp, vl, vo, rfl, rp, rl, ro⟩ := hpf _ (Mods.refl _ _)
              obtain ⟨ap, cp, rfl⟩ := rp.slice
              obtain ⟨al, cl, rfl⟩ := rl.slice
              obtain ⟨ao2, co, rfl⟩ := ro.slice
              have HPF := Lib.hid hpf
              clear rp rl ro hpf HGL HPL HNL
              replace HT := Lib.hid (HT.out.step hb)
              replace HGB := Lib.hid ((hb.block _ (block_lt HGB.out)).trans HGB.out)
              replace HPB := Lib.hid ((hb.block _ (block_lt HPB.out)).trans HPB.out)
              try replace HGL := Lib.hid (HGL.out.below hb)
              try replace HPL := Lib.hid (HPL.out.below hb)
              try replace HNL := Lib.hid (nestD_below D HNL.out hb)
              try replace HX := Lib.hid ((hb.block _ (block_lt HX.out)).trans HX.out)
              clear hb
              go_wp2_with fail
              refine ⟨fun _ _ => ⟨cells_row _ _ HGB.out 0 _ rfl, cells_row _ _ HGB.out 1 _ rfl, cells_row _ _ HGB.out 2 _ rfl, cells_row _ _ HGB.out 3 _ rfl, cells_row _ _ HGB.out 4 _ rfl, cells_row _ _ HPB.out 0 _ rfl, cells_row _ _ HPB.out 1 _ rfl⟩, ?_⟩
              refine wpAnyT_later (r := [7, 8, 9]) (n := 3) hQ2 (by kernel_rfl) ⟨cells_row _ _ HGB.out 0 _ rfl, cells_row _ _ HGB.out 1 _ rfl, cells_row _ _ HGB.out 2 _ rfl, cells_row _ _ HGB.out 3 _ rfl, cells_row _ _ HGB.out 4 _ rfl, cells_row _ _ HPB.out 0 _ rfl, cells_row _ _ HPB.out 1 _ rfl⟩ ?_
              simp only [pickOps, List.flatMap_cons, List.flatMap_nil, List.drop_succ_cons, List.drop_zero, List.take_succ_cons, List.take_zero, List.cons_append, List.nil_append, List.append_nil]
              repeat (first
                | (refine wpReads_skip (by rfl) ?_; (try simp only [Act.put, List.setIfInBounds_toArray, List.set_cons_zero, List.set_cons_succ]))
                | (refine wpReads_cons ?_ (by rfl) (by rfl) ?_ ?_; rotate_left; (intro wz hz; (try dsimp only at hz); go_simp; try with_reducible rfl); (try simp only [Act.put, List.setIfInBounds_toArray, List.set_cons_zero, List.set_cons_succ]))
                | (refine wpReads_any ?_ (by rfl) ?_ ?_; rotate_left; (intro wz; go_simp; try with_reducible rfl); (try simp only [Act.put, List.setIfInBounds_toArray, List.set_cons_zero, List.set_cons_succ])))
              refine wpReads_nil ?_
              clear hQ2
              refine wpAnyT_list (ks := [10, 11, 12]) (fun _ _ hx h => ⟨hx.cell h.1, hx.cell h.2.1, hx.cell h.2.2.1, hx.cell h.2.2.2.1, hx.cell h.2.2.2.2.1, hx.cell h.2.2.2.2.2.1, hx.cell h.2.2.2.2.2.2⟩) (by kernel_rfl) ?_
              simp only [pickOps, List.flatMap_cons, List.flatMap_nil, List.drop_succ_cons, List.drop_zero, List.take_succ_cons, List.take_zero, List.cons_append, List.nil_append, List.append_nil]
              go_wp2
              go_meet
              case rel => exact ⟨wm.heap.size, rfl, rfl, HT.out.step (below_alloc wm (.cells #[.int .i64 (makeP g p l).memory, .int .i64 (makeP g p l).counters, .int .i64 (makeP g p l).ins, .int .i64 (makeP g p l).outs, .slice ap (makeP g p l).parts.length cp, .slice al (makeP g p l).lines.length cl, .slice ao2 (makeP g p l).ops.length co] 39)), block_alloc HGB.out _, block_alloc HPB.out _, _, _, _, _, _, _, heap_alloc_new wm _, HPF.out _ ((Mods.refl _ wm).alloc _)⟩
            · skip
              simp only [pickOps, List.flatMap_cons, List.flatMap_nil, List.drop_succ_cons, List.drop_zero, List.take_succ_cons, List.take_zero, List.append_nil]
              have hb := below_alloc wc (.cells progZ 39)
              have hx := heap_alloc_new wc (.cells progZ 39)
              have hxw := block_lt HPB.out
              go_wp2
              replace HT := Lib.hid (HT.out.step hb)
              replace HGB := Lib.hid ((hb.block _ (block_lt HGB.out)).trans HGB.out)
              replace HPB := Lib.hid ((hb.block _ (block_lt HPB.out)).trans HPB.out)
              try replace HGL := Lib.hid (HGL.out.below hb)
              try replace HPL := Lib.hid (HPL.out.below hb)
              try replace HNL := Lib.hid (nestD_below D HNL.out hb)
              try replace HX := Lib.hid ((hb.block _ (block_lt HX.out)).trans HX.out)
              have HX := Lib.hid hx
              have HXW : Hid (w.heap.size + 1 < wc.heap.size) := Lib.hid hxw
              clear hb hx hxw
              refine ⟨fun _ _ => ⟨cells_row _ _ HGB.out 0 _ rfl, cells_row _ _ HGB.out 1 _ rfl, cells_row _ _ HGB.out 2 _ rfl, cells_row _ _ HGB.out 3 _ rfl, cells_row _ _ HGB.out 4 _ rfl, cells_row _ _ HPB.out 0 _ rfl, cells_row _ _ HPB.out 1 _ rfl⟩, ?_⟩
              obtain ⟨wd, hwd⟩ : ∃ x, wc.alloc (.cells progZ 39) = x := ⟨_, rfl⟩
              rw [hwd] at HT HGB HPB HX ⊢
              try rw [hwd] at HGL
              try rw [hwd] at HPL
              try rw [hwd] at HNL
              clear hwd
              obtain ⟨X, hX⟩ : ∃ x, wc.heap.size = x := ⟨_, rfl⟩
              rw [hX] at HX HXW ⊢
              clear hX
              obtain ⟨wc, hwc⟩ : ∃ x, x = wd := ⟨_, rfl⟩
              subst hwc
              refine wpAnyT_one (i := 6) (by kernel_rfl) ?_
              simp only [pickOps, List.flatMap_cons, List.flatMap_nil, List.drop_succ_cons, List.drop_zero, List.take_succ_cons, List.take_zero, List.append_nil]
              go_wp2_with fail
              try have HXL := Lib.hid (block_lt HX.out)
              refine (make_fresh D _ _ _ _ g p l HGL.out HPL.out HNL.out HGS.out HNS.out).mono ?_
              rintro e wm ⟨v4, rfl, hpf, hb⟩
              obtain ⟨vp, vl, vo, rfl, rp, rl, ro⟩ := hpf _ (Mods.refl _ _)
              obtain ⟨ap, cp, rfl⟩ := rp.slice
              obtain ⟨al, cl, rfl⟩ := rl.slice
              obtain ⟨ao2, co, rfl⟩ := ro.slice
              have HPF := Lib.hid hpf
              clear rp rl ro hpf HGL HPL HNL
              replace HT := Lib.hid (HT.out.step hb)
              replace HGB := Lib.hid ((hb.block _ (block_lt HGB.out)).trans HGB.out)
              replace HPB := Lib.hid ((hb.block _ (block_lt HPB.out)).trans HPB.out)
              try replace HGL := Lib.hid (HGL.out.below hb)
              try replace HPL := Lib.hid (HPL.out.below hb)
              try replace HNL := Lib.hid (nestD_below D HNL.out hb)
              try replace HX := Lib.hid ((hb.block _ (block_lt HX.out)).trans HX.out)
              clear hb
              go_wp2_with fail
              refine ⟨fun _ _ => ⟨cells_row _ _ HGB.out 0 _ rfl, cells_row _ _ HGB.out 1 _ rfl, cells_row _ _ HGB.out 2 _ rfl, cells_row _ _ HGB.out 3 _ rfl, cells_row _ _ HGB.out 4 _ rfl, cells_row _ _ HPB.out 0 _ rfl, cells_row _ _ HPB.out 1 _ rfl⟩, ?_⟩
              refine wpAnyT_later (r := [7, 8, 9]) (n := 2) hQ2 (by kernel_rfl) ⟨cells_row _ _ HGB.out 0 _ rfl, cells_row _ _ HGB.out 1 _ rfl, cells_row _ _ HGB.out 2 _ rfl, cells_row _ _ HGB.out 3 _ rfl, cells_row _ _ HGB.out 4 _ rfl, cells_row _ _ HPB.out 0 _ rfl, cells_row _ _ HPB.out 1 _ rfl⟩ ?_
              simp only [pickOps, List.flatMap_cons, List.flatMap_nil, List.drop_succ_cons, List.drop_zero, List.take_succ_cons, List.take_zero, List.cons_append, List.nil_append, List.append_nil]
              repeat (first
                | (refine wpReads_skip (by rfl) ?_; (try simp only [Act.put, List.setIfInBounds_toArray, List.set_cons_zero, List.set_cons_succ]))
                | (refine wpReads_cons ?_ (by rfl) (by rfl) ?_ ?_; rotate_left; (intro wz hz; (try dsimp only at hz); go_simp; try with_reducible rfl); (try simp only [Act.put, List.setIfInBounds_toArray, List.set_cons_zero, List.set_cons_succ]))
                | (refine wpReads_any ?_ (by rfl) ?_ ?_; rotate_left; (intro wz; go_simp; try with_reducible rfl); (try simp only [Act.put, List.setIfInBounds_toArray, List.set_cons_zero, List.set_cons_succ])))
              refine wpReads_nil ?_
              clear hQ2
              refine wpAnyT_list (ks := [11, 12]) (fun _ _ hx h => ⟨hx.cell h.1, hx.cell h.2.1, hx.cell h.2.2.1, hx.cell h.2.2.2.1, hx.cell h.2.2.2.2.1, hx.cell h.2.2.2.2.2.1, hx.cell h.2.2.2.2.2.2⟩) (by kernel_rfl) ?_
              simp only [pickOps, List.flatMap_cons, List.flatMap_nil, List.drop_succ_cons, List.drop_zero, List.take_succ_cons, List.take_zero, List.cons_append, List.nil_append, List.append_nil]
              have z0 := cells_row _ _ HX.out 0 _ rfl
              have z1 := cells_row _ _ HX.out 1 _ rfl
              have z2 := cells_row _ _ HX.out 2 _ rfl
              have z3 := cells_row _ _ HX.out 3 _ rfl
              have z4 := cells_row _ _ HX.out 4 _ rfl
              have z5 := cells_row _ _ HX.out 5 _ rfl
              have z6 := cells_row _ _ HX.out 6 _ rfl
              have f0 := frozen_of_block HX.out 0
              have f1 := frozen_of_block HX.out 1
              have f2 := frozen_of_block HX.out 2
              have f3 := frozen_of_block HX.out 3
              have f4 := frozen_of_block HX.out 4
              have f5 := frozen_of_block HX.out 5
              have f6 := frozen_of_block HX.out 6
              go_wp2
              have mm := prog_mods wm X (.int .i64 (makeP g p l).memory) (.int .i64 (makeP g p l).counters) (.int .i64 (makeP g p l).ins) (.int .i64 (makeP g p l).outs) (.slice ap (makeP g p l).parts.length cp) (.slice al (makeP g p l).lines.length cl) (.slice ao2 (makeP g p l).ops.length co)
              go_meet
              case rel => exact ⟨X, rfl, rfl, ⟨HT.out.below.trans (mm.below HT.out.size (fun k hk e => by have := HXW.out; omega)), Nat.le_trans HT.out.size mm.size⟩, block_mods HGB.out mm (by have := HXW.out; omega), block_mods HPB.out mm (by have := HXW.out; omega), _, _, _, _, _, _, prog_set HX.out _ _ _ _ _ _ _, HPF.out _ (mm.mono (fun k _ e => by subst e; exact HXL.out))⟩
          · skip
            simp only [pickOps, List.flatMap_cons, List.flatMap_nil, List.drop_succ_cons, List.drop_zero, List.take_succ_cons, List.take_zero, List.append_nil]
            have hb := below_alloc wc (.cells progZ 39)
            have hx := heap_alloc_new wc (.cells progZ 39)
            have hxw := block_lt HPB.out
            go_wp2
            replace HT := Lib.hid (HT.out.step hb)
            replace HGB := Lib.hid ((hb.block _ (block_lt HGB.out)).trans HGB.out)
            replace HPB := Lib.hid ((hb.block _ (block_lt HPB.out)).trans HPB.out)
            try replace HGL := Lib.hid (HGL.out.below hb)
            try replace HPL := Lib.hid (HPL.out.below hb)
            try replace HNL := Lib.hid (nestD_below D HNL.out hb)
            try replace HX := Lib.hid ((hb.block _ (block_lt HX.out)).trans HX.out)
            have HX := Lib.hid hx
            have HXW : Hid (w.heap.size + 1 < wc.heap.size) := Lib.hid hxw
            clear hb hx hxw
            refine ⟨fun _ _ => ⟨cells_row _ _ HGB.out 0 _ rfl, cells_row _ _ HGB.out 1 _ rfl, cells_row _ _ HGB.out 2 _ rfl, cells_row _ _ HGB.out 3 _ rfl, cells_row _ _ HGB.out 4 _ rfl, cells_row _ _ HPB.out 0 _ rfl, cells_row _ _ HPB.out 1 _ rfl⟩, ?_⟩
            obtain ⟨wd, hwd⟩ : ∃ x, wc.alloc (.cells progZ 39) = x := ⟨_, rfl⟩
            rw [hwd] at HT HGB HPB HX ⊢
            try rw [hwd] at HGL
            try rw [hwd] at HPL
            try rw [hwd] at HNL
            clear hwd
            obtain ⟨X, hX⟩ : ∃ x, wc.heap.size = x := ⟨_, rfl⟩
            rw [hX] at HX HXW ⊢
            clear hX
            obtain ⟨wc, hwc⟩ : ∃ x, x = wd := ⟨_, rfl⟩
            subst hwc
            refine wpAnyT_one (i := 5) (by kernel_rfl) ?_
            simp only [pickOps, List.flatMap_cons, List.flatMap_nil, List.drop_succ_cons, List.drop_zero, List.take_succ_cons, List.take_zero, List.append_nil]
            go_wp2_with fail
            refine (lentN_any D _ _ l (nestD_below D RN.out HT.out.below) HH.out.2.2).mono ?_
            rintro e wc ⟨vnl, rfl, hnl, hb⟩
            replace HT := Lib.hid (HT.out.step hb)
            replace HGB := Lib.hid ((hb.block _ (block_lt HGB.out)).trans HGB.out)
            replace HPB := Lib.hid ((hb.block _ (block_lt HPB.out)).trans HPB.out)
            try replace HGL := Lib.hid (HGL.out.below hb)
            try replace HPL := Lib.hid (HPL.out.below hb)
            try replace HNL := Lib.hid (nestD_below D HNL.out hb)
            try replace HX := Lib.hid ((hb.block _ (block_lt HX.out)).trans HX.out)
            have HNL := Lib.hid (hnl _ (Mods.refl _ _))
            clear hnl hb
            go_wp2_with fail
            refine ⟨fun _ _ => ⟨cells_row _ _ HGB.out 0 _ rfl, cells_row _ _ HGB.out 1 _ rfl, cells_row _ _ HGB.out 2 _ rfl, cells_row _ _ HGB.out 3 _ rfl, cells_row _ _ HGB.out 4 _ rfl, cells_row _ _ HPB.out 0 _ rfl, cells_row _ _ HPB.out 1 _ rfl⟩, ?_⟩
            refine wpAnyT_one (i := 6) (by kernel_rfl) ?_
            simp only [pickOps, List.flatMap_cons, List.flatMap_nil, List.drop_succ_cons, List.drop_zero, List.take_succ_cons, List.take_zero, List.append_nil]
            go_wp2_with fail
            try have HXL := Lib.hid (block_lt HX.out)
            refine (make_fresh D _ _ _ _ g p l HGL.out HPL.out HNL.out HGS.out HNS.out).mono ?_
            rintro e wm ⟨v4, rfl, hpf, hb⟩
            obtain ⟨vp, vl, vo, rfl, rp, rl, ro⟩ := hpf _ (Mods.refl _ _)
            obtain ⟨ap, cp, rfl⟩ := rp.slice
            obtain ⟨al, cl, rfl⟩ := rl.slice
            obtain ⟨ao2, co, rfl⟩ := ro.slice
            have HPF := Lib.hid hpf
            clear rp rl ro hpf HGL HPL HNL
            replace HT := Lib.hid (HT.out.step hb)
            replace HGB := Lib.hid ((hb.block _ (block_lt HGB.out)).trans HGB.out)
            replace HPB := Lib.hid ((hb.block _ (block_lt HPB.out)).trans HPB.out)
            try replace HGL := Lib.hid (HGL.out.below hb)
            try replace HPL := Lib.hid (HPL.out.below hb)
            try replace HNL := Lib.hid (nestD_below D HNL.out hb)
            try replace HX := Lib.hid ((hb.block _ (block_lt HX.out)).trans HX.out)
            clear hb
            go_wp2_with fail
            refine ⟨fun _ _ => ⟨cells_row _ _ HGB.out 0 _ rfl, cells_row _ _ HGB.out 1 _ rfl, cells_row _ _ HGB.out 2 _ rfl, cells_row _ _ HGB.out 3 _ rfl, cells_row _ _ HGB.out 4 _ rfl, cells_row _ _ HPB.out 0 _ rfl, cells_row _ _ HPB.out 1 _ rfl⟩, ?_⟩
            refine wpAnyT_later (r := [7, 8, 9]) (n := 2) hQ2 (by kernel_rfl) ⟨cells_row _ _ HGB.out 0 _ rfl, cells_row _ _ HGB.out 1 _ rfl, cells_row _ _ HGB.out 2 _ rfl, cells_row _ _ HGB.out 3 _ rfl, cells_row _ _ HGB.out 4 _ rfl, cells_row _ _ HPB.out 0 _ rfl, cells_row _ _ HPB.out 1 _ rfl⟩ ?_
            simp only [pickOps, List.flatMap_cons, List.flatMap_nil, List.drop_succ_cons, List.drop_zero, List.take_succ_cons, List.take_zero, List.cons_append, List.nil_append, List.append_nil]
            repeat (first
              | (refine wpReads_skip (by rfl) ?_; (try simp only [Act.put, List.setIfInBounds_toArray, List.set_cons_zero, List.set_cons_succ]))
              | (refine wpReads_cons ?_ (by rfl) (by rfl) ?_ ?_; rotate_left; (intro wz hz; (try dsimp only at hz); go_simp; try with_reducible rfl); (try simp only [Act.put, List.setIfInBounds_toArray, List.set_cons_zero, List.set_cons_succ]))
              | (refine wpReads_any ?_ (by rfl) ?_ ?_; rotate_left; (intro wz; go_simp; try with_reducible rfl); (try simp only [Act.put, List.setIfInBounds_toArray, List.set_cons_zero, List.set_cons_succ])))
            refine wpReads_nil ?_
            clear hQ2
            refine wpAnyT_list (ks := [11, 12]) (fun _ _ hx h => ⟨hx.cell h.1, hx.cell h.2.1, hx.cell h.2.2.1, hx.cell h.2.2.2.1, hx.cell h.2.2.2.2.1, hx.cell h.2.2.2.2.2.1, hx.cell h.2.2.2.2.2.2⟩) (by kernel_rfl) ?_
            simp only [pickOps, List.flatMap_cons, List.flatMap_nil, List.drop_succ_cons, List.drop_zero, List.take_succ_cons, List.take_zero, List.cons_append, List.nil_append, List.append_nil]
            have z0 := cells_row _ _ HX.out 0 _ rfl
            have z1 := cells_row _ _ HX.out 1 _ rfl
            have z2 := cells_row _ _ HX.out 2 _ rfl
            have z3 := cells_row _ _ HX.out 3 _ rfl
            have z4 := cells_row _ _ HX.out 4 _ rfl
            have z5 := cells_row _ _ HX.out 5 _ rfl
            have z6 := cells_row _ _ HX.out 6 _ rfl
            have f0 := frozen_of_block HX.out 0
            have f1 := frozen_of_block HX.out 1
            have f2 := frozen_of_block HX.out 2
            have f3 := frozen_of_block HX.out 3
            have f4 := frozen_of_block HX.out 4
            have f5 := frozen_of_block HX.out 5
            have f6 := frozen_of_block HX.out 6
            go_wp2
            have mm := prog_mods wm X (.int .i64 (makeP g p l).memory) (.int .i64 (makeP g p l).counters) (.int .i64 (makeP g p l).ins) (.int .i64 (makeP g p l).outs) (.slice ap (makeP g p l).parts.length cp) (.slice al (makeP g p l).lines.length cl) (.slice ao2 (makeP g p l).ops.length co)
            go_meet
            case rel => exact ⟨X, rfl, rfl, ⟨HT.out.below.trans (mm.below HT.out.size (fun k hk e => by have := HXW.out; omega)), Nat.le_trans HT.out.size mm.size⟩, block_mods HGB.out mm (by have := HXW.out; omega), block_mods HPB.out mm (by have := HXW.out; omega), _, _, _, _, _, _, prog_set HX.out _ _ _ _ _ _ _, HPF.out _ (mm.mono (fun k _ e => by subst e; exact HXL.out))⟩
        · skip
          simp only [pickOps, List.flatMap_cons, List.flatMap_nil, List.drop_succ_cons, List.drop_zero, List.take_succ_cons, List.take_zero, List.append_nil]
          have hb := below_alloc wc (.cells progZ 39)
          have hx := heap_alloc_new wc (.cells progZ 39)
          have hxw := block_lt HPB.out
          go_wp2
          replace HT := Lib.hid (HT.out.step hb)
          replace HGB := Lib.hid ((hb.block _ (block_lt HGB.out)).trans HGB.out)
          replace HPB := Lib.hid ((hb.block _ (block_lt HPB.out)).trans HPB.out)
          try replace HGL := Lib.hid (HGL.out.below hb)
          try replace HPL := Lib.hid (HPL.out.below hb)
          try replace HNL := Lib.hid (nestD_below D HNL.out hb)
          try replace HX := Lib.hid ((hb.block _ (block_lt HX.out)).trans HX.out)
          have HX := Lib.hid hx
          have HXW : Hid (w.heap.size + 1 < wc.heap.size) := Lib.hid hxw
          clear hb hx hxw
          refine ⟨fun _ _ => ⟨cells_row _ _ HGB.out 0 _ rfl, cells_row _ _ HGB.out 1 _ rfl, cells_row _ _ HGB.out 2 _ rfl, cells_row _ _ HGB.out 3 _ rfl, cells_row _ _ HGB.out 4 _ rfl, cells_row _ _ HPB.out 0 _ rfl, cells_row _ _ HPB.out 1 _ rfl⟩, ?_⟩
          obtain ⟨wd, hwd⟩ : ∃ x, wc.alloc (.cells progZ 39) = x := ⟨_, rfl⟩
          rw [hwd] at HT HGB HPB HX ⊢
          try rw [hwd] at HGL
          try rw [hwd] at HPL
          try rw [hwd] at HNL
          clear hwd
          obtain ⟨X, hX⟩ : ∃ x, wc.heap.size = x := ⟨_, rfl⟩
          rw [hX] at HX HXW ⊢
          clear hX
          obtain ⟨wc, hwc⟩ : ∃ x, x = wd := ⟨_, rfl⟩
          subst hwc
          refine wpAnyT_one (i := 3) (by kernel_rfl) ?_
          simp only [pickOps, List.flatMap_cons, List.flatMap_nil, List.drop_succ_cons, List.drop_zero, List.take_succ_cons, List.take_zero, List.append_nil]
          go_wp2_with fail
          refine (lentplan_any _ _ p (RP.out.below HT.out.below) (by have := HH.out; omega)).mono ?_
          rintro e wc ⟨vpl, rfl, hpl, hb⟩
          replace HT := Lib.hid (HT.out.step hb)
          replace HGB := Lib.hid ((hb.block _ (block_lt HGB.out)).trans HGB.out)
          replace HPB := Lib.hid ((hb.block _ (block_lt HPB.out)).trans HPB.out)
          try replace HGL := Lib.hid (HGL.out.below hb)
          try replace HPL := Lib.hid (HPL.out.below hb)
          try replace HNL := Lib.hid (nestD_below D HNL.out hb)
          try replace HX := Lib.hid ((hb.block _ (block_lt HX.out)).trans HX.out)
          have HPL := Lib.hid hpl
          clear hpl hb
          go_wp2_with fail
          refine ⟨fun _ _ => ⟨cells_row _ _ HGB.out 0 _ rfl, cells_row _ _ HGB.out 1 _ rfl, cells_row _ _ HGB.out 2 _ rfl, cells_row _ _ HGB.out 3 _ rfl, cells_row _ _ HGB.out 4 _ rfl, cells_row _ _ HPB.out 0 _ rfl, cells_row _ _ HPB.out 1 _ rfl⟩, ?_⟩
          refine wpAnyT_one (i := 5) (by kernel_rfl) ?_
          simp only [pickOps, List.flatMap_cons, List.flatMap_nil, List.drop_succ_cons, List.drop_zero, List.take_succ_cons, List.take_zero, List.append_nil]
          go_wp2_with fail
          refine (lentN_any D _ _ l (nestD_below D RN.out HT.out.below) HH.out.2.2).mono ?_
          rintro e wc ⟨vnl, rfl, hnl, hb⟩
          replace HT := Lib.hid (HT.out.step hb)
          replace HGB := Lib.hid ((hb.block _ (block_lt HGB.out)).trans HGB.out)
          replace HPB := Lib.hid ((hb.block _ (block_lt HPB.out)).trans HPB.out)
          try replace HGL := Lib.hid (HGL.out.below hb)
          try replace HPL := Lib.hid (HPL.out.below hb)
          try replace HNL := Lib.hid (nestD_below D HNL.out hb)
          try replace HX := Lib.hid ((hb.block _ (block_lt HX.out)).trans HX.out)
          have HNL := Lib.hid (hnl _ (Mods.refl _ _))
          clear hnl hb
          go_wp2_with fail
          refine ⟨fun _ _ => ⟨cells_row _ _ HGB.out 0 _ rfl, cells_row _ _ HGB.out 1 _ rfl, cells_row _ _ HGB.out 2 _ rfl, cells_row _ _ HGB.out 3 _ rfl, cells_row _ _ HGB.out 4 _ rfl, cells_row _ _ HPB.out 0 _ rfl, cells_row _ _ HPB.out 1 _ rfl⟩, ?_⟩
          refine wpAnyT_one (i := 6) (by kernel_rfl) ?_
          simp only [pickOps, List.flatMap_cons, List.flatMap_nil, List.drop_succ_cons, List.drop_zero, List.take_succ_cons, List.take_zero, List.append_nil]
          go_wp2_with fail
          try have HXL := Lib.hid (block_lt HX.out)
          refine (make_fresh D _ _ _ _ g p l HGL.out HPL.out HNL.out HGS.out HNS.out).mono ?_
          rintro e wm ⟨v4, rfl, hpf, hb⟩
          obtain ⟨vp, vl, vo, rfl, rp, rl, ro⟩ := hpf _ (Mods.refl _ _)
          obtain ⟨ap, cp, rfl⟩ := rp.slice
          obtain ⟨al, cl, rfl⟩ := rl.slice
          obtain ⟨ao2, co, rfl⟩ := ro.slice
          have HPF := Lib.hid hpf
          clear rp rl ro hpf HGL HPL HNL
          replace HT := Lib.hid (HT.out.step hb)
          replace HGB := Lib.hid ((hb.block _ (block_lt HGB.out)).trans HGB.out)
          replace HPB := Lib.hid ((hb.block _ (block_lt HPB.out)).trans HPB.out)
          try replace HGL := Lib.hid (HGL.out.below hb)
          try replace HPL := Lib.hid (HPL.out.below hb)
          try replace HNL := Lib.hid (nestD_below D HNL.out hb)
          try replace HX := Lib.hid ((hb.block _ (block_lt HX.out)).trans HX.out)
          clear hb
          go_wp2_with fail
          refine ⟨fun _ _ => ⟨cells_row _ _ HGB.out 0 _ rfl, cells_row _ _ HGB.out 1 _ rfl, cells_row _ _ HGB.out 2 _ rfl, cells_row _ _ HGB.out 3 _ rfl, cells_row _ _ HGB.out 4 _ rfl, cells_row _ _ HPB.out 0 _ rfl, cells_row _ _ HPB.out 1 _ rfl⟩, ?_⟩
          refine wpAnyT_later (r := [7, 8, 9]) (n := 2) hQ2 (by kernel_rfl) ⟨cells_row _ _ HGB.out 0 _ rfl, cells_row _ _ HGB.out 1 _ rfl, cells_row _ _ HGB.out 2 _ rfl, cells_row _ _ HGB.out 3 _ rfl, cells_row _ _ HGB.out 4 _ rfl, cells_row _ _ HPB.out 0 _ rfl, cells_row _ _ HPB.out 1 _ rfl⟩ ?_
          simp only [pickOps, List.flatMap_cons, List.flatMap_nil, List.drop_succ_cons, List.drop_zero, List.take_succ_cons, List.take_zero, List.cons_append, List.nil_append, List.append_nil]
          repeat (first
            | (refine wpReads_skip (by rfl) ?_; (try simp only [Act.put, List.setIfInBounds_toArray, List.set_cons_zero, List.set_cons_succ]))
            | (refine wpReads_cons ?_ (by rfl) (by rfl) ?_ ?_; rotate_left; (intro wz hz; (try dsimp only at hz); go_simp; try with_reducible rfl); (try simp only [Act.put, List.setIfInBounds_toArray, List.set_cons_zero, List.set_cons_succ]))
            | (refine wpReads_any ?_ (by rfl) ?_ ?_; rotate_left; (intro wz; go_simp; try with_reducible rfl); (try simp only [Act.put, List.setIfInBounds_toArray, List.set_cons_zero, List.set_cons_succ])))
          refine wpReads_nil ?_
          clear hQ2
          refine wpAnyT_list (ks := [11, 12]) (fun _ _ hx h => ⟨hx.cell h.1, hx.cell h.2.1, hx.cell h.2.2.1, hx.cell h.2.2.2.1, hx.cell h.2.2.2.2.1, hx.cell h.2.2.2.2.2.1, hx.cell h.2.2.2.2.2.2⟩) (by kernel_rfl) ?_
          simp only [pickOps, List.flatMap_cons, List.flatMap_nil, List.drop_succ_cons, List.drop_zero, List.take_succ_cons, List.take_zero, List.cons_append, List.nil_append, List.append_nil]
          have z0 := cells_row _ _ HX.out 0 _ rfl
          have z1 := cells_row _ _ HX.out 1 _ rfl
          have z2 := cells_row _ _ HX.out 2 _ rfl
          have z3 := cells_row _ _ HX.out 3 _ rfl
          have z4 := cells_row _ _ HX.out 4 _ rfl
          have z5 := cells_row _ _ HX.out 5 _ rfl
          have z6 := cells_row _ _ HX.out 6 _ rfl
          have f0 := frozen_of_block HX.out 0
          have f1 := frozen_of_block HX.out 1
          have f2 := frozen_of_block HX.out 2
          have f3 := frozen_of_block HX.out 3
          have f4 := frozen_of_block HX.out 4
          have f5 := frozen_of_block HX.out 5
          have f6 := frozen_of_block HX.out 6
          go_wp2
          have mm := prog_mods wm X (.int .i64 (makeP g p l).memory) (.int .i64 (makeP g p l).counters) (.int .i64 (makeP g p l).ins) (.int .i64 (makeP g p l).outs) (.slice ap (makeP g p l).parts.length cp) (.slice al (makeP g p l).lines.length cl) (.slice ao2 (makeP g p l).ops.length co)
          go_meet
          case rel => exact ⟨X, rfl, rfl, ⟨HT.out.below.trans (mm.below HT.out.size (fun k hk e => by have := HXW.out; omega)), Nat.le_trans HT.out.size mm.size⟩, block_mods HGB.out mm (by have := HXW.out; omega), block_mods HPB.out mm (by have := HXW.out; omega), _, _, _, _, _, _, prog_set HX.out _ _ _ _ _ _ _, HPF.out _ (mm.mono (fun k _ e => by subst e; exact HXL.out))⟩
      · skip
        simp only [pickOps, List.flatMap_cons, List.flatMap_nil, List.drop_succ_cons, List.drop_zero, List.take_succ_cons, List.take_zero, List.append_nil]
        have hb := below_alloc wc (.cells progZ 39)
        have hx := heap_alloc_new wc (.cells progZ 39)
        have hxw := block_lt HPB.out
        go_wp2
        replace HT := Lib.hid (HT.out.step hb)
        replace HGB := Lib.hid ((hb.block _ (block_lt HGB.out)).trans HGB.out)
        replace HPB := Lib.hid ((hb.block _ (block_lt HPB.out)).trans HPB.out)
        try replace HGL := Lib.hid (HGL.out.below hb)
        try replace HPL := Lib.hid (HPL.out.below hb)
        try replace HNL := Lib.hid (nestD_below D HNL.out hb)
        try replace HX := Lib.hid ((hb.block _ (block_lt HX.out)).trans HX.out)
        have HX := Lib.hid hx
        have HXW : Hid (w.heap.size + 1 < wc.heap.size) := Lib.hid hxw
        clear hb hx hxw
        refine ⟨fun _ _ => ⟨cells_row _ _ HGB.out 0 _ rfl, cells_row _ _ HGB.out 1 _ rfl, cells_row _ _ HGB.out 2 _ rfl, cells_row _ _ HGB.out 3 _ rfl, cells_row _ _ HGB.out 4 _ rfl, cells_row _ _ HPB.out 0 _ rfl, cells_row _ _ HPB.out 1 _ rfl⟩, ?_⟩
        obtain ⟨wd, hwd⟩ : ∃ x, wc.alloc (.cells progZ 39) = x := ⟨_, rfl⟩
        rw [hwd] at HT HGB HPB HX ⊢
        try rw [hwd] at HGL
        try rw [hwd] at HPL
        try rw [hwd] at HNL
        clear hwd
        obtain ⟨X, hX⟩ : ∃ x, wc.heap.size = x := ⟨_, rfl⟩
        rw [hX] at HX HXW ⊢
        clear hX
        obtain ⟨wc, hwc⟩ : ∃ x, x = wd := ⟨_, rfl⟩
        subst hwc
        refine wpAnyT_one (i := 1) (by kernel_rfl) ?_
        simp only [pickOps, List.flatMap_cons, List.flatMap_nil, List.drop_succ_cons, List.drop_zero, List.take_succ_cons, List.take_zero, List.append_nil]
        go_wp2_with fail
        refine (lentgraph_any _ _ g (RG.out.below HT.out.below) HH.out.1 HPS.out HES.out).mono ?_
        rintro e wc ⟨vgl, rfl, hgl, hb⟩
        replace HT := Lib.hid (HT.out.step hb)
        replace HGB := Lib.hid ((hb.block _ (block_lt HGB.out)).trans HGB.out)
        replace HPB := Lib.hid ((hb.block _ (block_lt HPB.out)).trans HPB.out)
        try replace HGL := Lib.hid (HGL.out.below hb)
        try replace HPL := Lib.hid (HPL.out.below hb)
        try replace HNL := Lib.hid (nestD_below D HNL.out hb)
        try replace HX := Lib.hid ((hb.block _ (block_lt HX.out)).trans HX.out)
        have HGL := Lib.hid hgl
        clear hgl hb
        go_wp2_with fail
        refine ⟨fun _ _ => ⟨cells_row _ _ HGB.out 0 _ rfl, cells_row _ _ HGB.out 1 _ rfl, cells_row _ _ HGB.out 2 _ rfl, cells_row _ _ HGB.out 3 _ rfl, cells_row _ _ HGB.out 4 _ rfl, cells_row _ _ HPB.out 0 _ rfl, cells_row _ _ HPB.out 1 _ rfl⟩, ?_⟩
        refine wpAnyT_one (i := 3) (by kernel_rfl) ?_
        simp only [pickOps, List.flatMap_cons, List.flatMap_nil, List.drop_succ_cons, List.drop_zero, List.take_succ_cons, List.take_zero, List.append_nil]
        go_wp2_with fail
        refine (lentplan_any _ _ p (RP.out.below HT.out.below) (by have := HH.out; omega)).mono ?_
        rintro e wc ⟨vpl, rfl, hpl, hb⟩
        replace HT := Lib.hid (HT.out.step hb)
        replace HGB := Lib.hid ((hb.block _ (block_lt HGB.out)).trans HGB.out)
        replace HPB := Lib.hid ((hb.block _ (block_lt HPB.out)).trans HPB.out)
        try replace HGL := Lib.hid (HGL.out.below hb)
        try replace HPL := Lib.hid (HPL.out.below hb)
        try replace HNL := Lib.hid (nestD_below D HNL.out hb)
        try replace HX := Lib.hid ((hb.block _ (block_lt HX.out)).trans HX.out)
        have HPL := Lib.hid hpl
        clear hpl hb
        go_wp2_with fail
        refine ⟨fun _ _ => ⟨cells_row _ _ HGB.out 0 _ rfl, cells_row _ _ HGB.out 1 _ rfl, cells_row _ _ HGB.out 2 _ rfl, cells_row _ _ HGB.out 3 _ rfl, cells_row _ _ HGB.out 4 _ rfl, cells_row _ _ HPB.out 0 _ rfl, cells_row _ _ HPB.out 1 _ rfl⟩, ?_⟩
        refine wpAnyT_one (i := 5) (by kernel_rfl) ?_
        simp only [pickOps, List.flatMap_cons, List.flatMap_nil, List.drop_succ_cons, List.drop_zero, List.take_succ_cons, List.take_zero, List.append_nil]
        go_wp2_with fail
        refine (lentN_any D _ _ l (nestD_below D RN.out HT.out.below) HH.out.2.2).mono ?_
        rintro e wc ⟨vnl, rfl, hnl, hb⟩
        replace HT := Lib.hid (HT.out.step hb)
        replace HGB := Lib.hid ((hb.block _ (block_lt HGB.out)).trans HGB.out)
        replace HPB := Lib.hid ((hb.block _ (block_lt HPB.out)).trans HPB.out)
        try replace HGL := Lib.hid (HGL.out.below hb)
        try replace HPL := Lib.hid (HPL.out.below hb)
        try replace HNL := Lib.hid (nestD_below D HNL.out hb)
        try replace HX := Lib.hid ((hb.block _ (block_lt HX.out)).trans HX.out)
        have HNL := Lib.hid (hnl _ (Mods.refl _ _))
        clear hnl hb
        go_wp2_with fail
        refine ⟨fun _ _ => ⟨cells_row _ _ HGB.out 0 _ rfl, cells_row _ _ HGB.out 1 _ rfl, cells_row _ _ HGB.out 2 _ rfl, cells_row _ _ HGB.out 3 _ rfl, cells_row _ _ HGB.out 4 _ rfl, cells_row _ _ HPB.out 0 _ rfl, cells_row _ _ HPB.out 1 _ rfl⟩, ?_⟩
        refine wpAnyT_one (i := 6) (by kernel_rfl) ?_
        simp only [pickOps, List.flatMap_cons, List.flatMap_nil, List.drop_succ_cons, List.drop_zero, List.take_succ_cons, List.take_zero, List.append_nil]
        go_wp2_with fail
        try have HXL := Lib.hid (block_lt HX.out)
        refine (make_fresh D _ _ _ _ g p l HGL.out HPL.out HNL.out HGS.out HNS.out).mono ?_
        rintro e wm ⟨v4, rfl, hpf, hb⟩
        obtain ⟨vp, vl, vo, rfl, rp, rl, ro⟩ := hpf _ (Mods.refl _ _)
        obtain ⟨ap, cp, rfl⟩ := rp.slice
        obtain ⟨al, cl, rfl⟩ := rl.slice
        obtain ⟨ao2, co, rfl⟩ := ro.slice
        have HPF := Lib.hid hpf
        clear rp rl ro hpf HGL HPL HNL
        replace HT := Lib.hid (HT.out.step hb)
        replace HGB := Lib.hid ((hb.block _ (block_lt HGB.out)).trans HGB.out)
        replace HPB := Lib.hid ((hb.block _ (block_lt HPB.out)).trans HPB.out)
        try replace HGL := Lib.hid (HGL.out.below hb)
        try replace HPL := Lib.hid (HPL.out.below hb)
        try replace HNL := Lib.hid (nestD_below D HNL.out hb)
        try replace HX := Lib.hid ((hb.block _ (block_lt HX.out)).trans HX.out)
        clear hb
        go_wp2_with fail
        refine ⟨fun _ _ => ⟨cells_row _ _ HGB.out 0 _ rfl, cells_row _ _ HGB.out 1 _ rfl, cells_row _ _ HGB.out 2 _ rfl, cells_row _ _ HGB.out 3 _ rfl, cells_row _ _ HGB.out 4 _ rfl, cells_row _ _ HPB.out 0 _ rfl, cells_row _ _ HPB.out 1 _ rfl⟩, ?_⟩
        refine wpAnyT_later (r := [7, 8, 9]) (n := 2) hQ2 (by kernel_rfl) ⟨cells_row _ _ HGB.out 0 _ rfl, cells_row _ _ HGB.out 1 _ rfl, cells_row _ _ HGB.out 2 _ rfl, cells_row _ _ HGB.out 3 _ rfl, cells_row _ _ HGB.out 4 _ rfl, cells_row _ _ HPB.out 0 _ rfl, cells_row _ _ HPB.out 1 _ rfl⟩ ?_
        simp only [pickOps, List.flatMap_cons, List.flatMap_nil, List.drop_succ_cons, List.drop_zero, List.take_succ_cons, List.take_zero, List.cons_append, List.nil_append, List.append_nil]
        repeat (first
          | (refine wpReads_skip (by rfl) ?_; (try simp only [Act.put, List.setIfInBounds_toArray, List.set_cons_zero, List.set_cons_succ]))
          | (refine wpReads_cons ?_ (by rfl) (by rfl) ?_ ?_; rotate_left; (intro wz hz; (try dsimp only at hz); go_simp; try with_reducible rfl); (try simp only [Act.put, List.setIfInBounds_toArray, List.set_cons_zero, List.set_cons_succ]))
          | (refine wpReads_any ?_ (by rfl) ?_ ?_; rotate_left; (intro wz; go_simp; try with_reducible rfl); (try simp only [Act.put, List.setIfInBounds_toArray, List.set_cons_zero, List.set_cons_succ])))
        refine wpReads_nil ?_
        clear hQ2
        refine wpAnyT_list (ks := [11, 12]) (fun _ _ hx h => ⟨hx.cell h.1, hx.cell h.2.1, hx.cell h.2.2.1, hx.cell h.2.2.2.1, hx.cell h.2.2.2.2.1, hx.cell h.2.2.2.2.2.1, hx.cell h.2.2.2.2.2.2⟩) (by kernel_rfl) ?_
        simp only [pickOps, List.flatMap_cons, List.flatMap_nil, List.drop_succ_cons, List.drop_zero, List.take_succ_cons, List.take_zero, List.cons_append, List.nil_append, List.append_nil]
        have z0 := cells_row _ _ HX.out 0 _ rfl
        have z1 := cells_row _ _ HX.out 1 _ rfl
        have z2 := cells_row _ _ HX.out 2 _ rfl
        have z3 := cells_row _ _ HX.out 3 _ rfl
        have z4 := cells_row _ _ HX.out 4 _ rfl
        have z5 := cells_row _ _ HX.out 5 _ rfl
        have z6 := cells_row _ _ HX.out 6 _ rfl
        have f0 := frozen_of_block HX.out 0
        have f1 := frozen_of_block HX.out 1
        have f2 := frozen_of_block HX.out 2
        have f3 := frozen_of_block HX.out 3
        have f4 := frozen_of_block HX.out 4
        have f5 := frozen_of_block HX.out 5
        have f6 := frozen_of_block HX.out 6
        go_wp2
        have mm := prog_mods wm X (.int .i64 (makeP g p l).memory) (.int .i64 (makeP g p l).counters) (.int .i64 (makeP g p l).ins) (.int .i64 (makeP g p l).outs) (.slice ap (makeP g p l).parts.length cp) (.slice al (makeP g p l).lines.length cl) (.slice ao2 (makeP g p l).ops.length co)
        go_meet
        case rel => exact ⟨X, rfl, rfl, ⟨HT.out.below.trans (mm.below HT.out.size (fun k hk e => by have := HXW.out; omega)), Nat.le_trans HT.out.size mm.size⟩, block_mods HGB.out mm (by have := HXW.out; omega), block_mods HPB.out mm (by have := HXW.out; omega), _, _, _, _, _, _, prog_set HX.out _ _ _ _ _ _ _, HPF.out _ (mm.mono (fun k _ e => by subst e; exact HXL.out))⟩
    case rest =>
      obtain ⟨X, rfl, rfl, hT, hG, hPl, hP⟩ := hcut
      have HT := Lib.hid hT
      have HGB := Lib.hid hG
      have HPB := Lib.hid hPl
      have HP := Lib.hid hP
      clear hT hG hPl hP
      obtain ⟨E, hE⟩ : ∃ x, makeE g p l = x := ⟨_, rfl⟩
      rw [hE]
      by_cases h0 : E = 0
      · subst h0
        have HE := Lib.hid hE
        have hmp : makeP g p l = makeG g p l := by rw [makeP, if_pos hE]
        rw [hmp] at HP
        clear hmp hE
        have hmo := made_ok HE.out HGS.out HPS.out
        have hst := make_sound HE.out HGS.out
        have hck : checkC (makeG g p l) = 0 := hmo.check
        obtain ⟨cs9, hrun, -⟩ := make_run HE.out HGS.out
        have hm9 : stN (firP g) l + 1 ≤ 131072 := by
          have h2 := (stN_le (firP_row (firOk_of (make_facts HE.out).1 HGS.out)) l (nest_total (make_facts HE.out).2.1).1).1
          have h3 := (nest_total (make_facts HE.out).2.1).2
          omega
        have HNE := Lib.hid (make_facts HE.out).2.1
        have hops := hmo.ops
        have hpar := hmo.params
        obtain ⟨M, hM⟩ : ∃ x, stN (firP g) l + 1 = x := ⟨_, rfl⟩
        obtain ⟨PP, hPP⟩ : ∃ x, makeG g p l = x := ⟨_, rfl⟩
        rw [hPP] at hst hrun HP hck hops hpar
        rw [hM] at hst hrun hm9
        have HST := Lib.hid hst
        have HRUN := Lib.hid hrun
        have HM9 := Lib.hid hm9
        have HCK := Lib.hid hck
        have HOPS := Lib.hid hops
        have HPAR := Lib.hid hpar
        clear hmo hst hrun hm9 hM hPP hck hops hpar
        have HEL : Hid ((expandP l).length ≤ 2048) := Lib.hid (by rw [expandP_len]; exact (nest_total HNE.out).2)
        obtain ⟨ap, cp, al, cl, ao2, co, hX, hPG⟩ := HP.out
        have HX := Lib.hid hX
        have HPG := Lib.hid hPG
        clear hX hPG HP
        obtain ⟨LP, hLP⟩ : ∃ x, PP.parts.length = x := ⟨_, rfl⟩
        obtain ⟨LL, hLL⟩ : ∃ x, PP.lines.length = x := ⟨_, rfl⟩
        obtain ⟨LO, hLO⟩ : ∃ x, PP.ops.length = x := ⟨_, rfl⟩
        rw [hLP, hLL, hLO] at HX HPG
        clear hLP hLL hLO
        have x0 := cells_row _ _ HX.out 0 _ rfl
        have x1 := cells_row _ _ HX.out 1 _ rfl
        have x2 := cells_row _ _ HX.out 2 _ rfl
        have x3 := cells_row _ _ HX.out 3 _ rfl
        have x4 := cells_row _ _ HX.out 4 _ rfl
        have x5 := cells_row _ _ HX.out 5 _ rfl
        have x6 := cells_row _ _ HX.out 6 _ rfl
        go_wp2_with fail
        clear x0 x1 x2 x3 x4 x5 x6
        refine (ccheck_any _ _ PP HPG.out HPAR.out).mono ?_
        rintro e wg ⟨rfl, hb⟩
        rw [HCK.out]
        replace HT := Lib.hid (HT.out.step hb)
        replace HGB := Lib.hid ((hb.block _ (block_lt HGB.out)).trans HGB.out)
        replace HPB := Lib.hid ((hb.block _ (block_lt HPB.out)).trans HPB.out)
        replace HX := Lib.hid ((hb.block _ (block_lt HX.out)).trans HX.out)
        replace HPG := Lib.hid (HPG.out.below hb)
        clear hb
        go_wp2_with fail
        refine (lentN_any D _ _ l (nestD_below D RN.out HT.out.below) HH.out.2.2).mono ?_
        rintro e wd ⟨vnl, rfl, hnl, hb⟩
        replace HT := Lib.hid (HT.out.step hb)
        replace HGB := Lib.hid ((hb.block _ (block_lt HGB.out)).trans HGB.out)
        replace HPB := Lib.hid ((hb.block _ (block_lt HPB.out)).trans HPB.out)
        replace HX := Lib.hid ((hb.block _ (block_lt HX.out)).trans HX.out)
        replace HPG := Lib.hid (HPG.out.below hb)
        have HNL := Lib.hid (hnl _ (Mods.refl _ _))
        clear hnl hb
        go_wp2_with fail
        refine (expand_any D _ _ l HNL.out HNS.out HH.out.2.2).mono ?_
        rintro e we ⟨ve, rfl, hve, -, hb⟩
        rw [HNE.out]
        have hve := hve HNE.out
        obtain ⟨ea, ec9, rfl⟩ := owns_slice hve
        have HVE : Hid (Ints we (fun _ => 0) 0 (.slice ea (expandP l).length ec9) (expandP l)) := Lib.hid (Own.vals ⟨owns_base hve (fun _ _ => Nat.zero_le _), fun _ _ => rfl⟩)
        replace HT := Lib.hid (HT.out.step hb)
        replace HGB := Lib.hid ((hb.block _ (block_lt HGB.out)).trans HGB.out)
        replace HPB := Lib.hid ((hb.block _ (block_lt HPB.out)).trans HPB.out)
        replace HX := Lib.hid ((hb.block _ (block_lt HX.out)).trans HX.out)
        replace HPG := Lib.hid (HPG.out.below hb)
        clear hve hb HNL
        have x0 := cells_row _ _ HX.out 0 _ rfl
        have x1 := cells_row _ _ HX.out 1 _ rfl
        have x2 := cells_row _ _ HX.out 2 _ rfl
        have x3 := cells_row _ _ HX.out 3 _ rfl
        have x4 := cells_row _ _ HX.out 4 _ rfl
        have x5 := cells_row _ _ HX.out 5 _ rfl
        have x6 := cells_row _ _ HX.out 6 _ rfl
        go_wp2_with fail
        clear x0 x1 x2 x3 x4 x5 x6
        refine (lwalk_any _ _ PP M _ cs9 HPG.out HOPS.out HM9.out HRUN.out).mono ?_
        rintro e wh ⟨vw, ow, rfl, hvw, hb⟩
        obtain ⟨wa, wc9, rfl⟩ := hvw.slice
        have HVW := Lib.hid hvw.has
        replace HVE := Lib.hid (HVE.out.below hb)
        replace HT := Lib.hid (HT.out.step hb)
        replace HGB := Lib.hid ((hb.block _ (block_lt HGB.out)).trans HGB.out)
        replace HPB := Lib.hid ((hb.block _ (block_lt HPB.out)).trans HPB.out)
        replace HX := Lib.hid ((hb.block _ (block_lt HX.out)).trans HX.out)
        replace HPG := Lib.hid (HPG.out.below hb)
        clear hvw hb
        have x0 := cells_row _ _ HX.out 0 _ rfl
        have x1 := cells_row _ _ HX.out 1 _ rfl
        have x2 := cells_row _ _ HX.out 2 _ rfl
        have x3 := cells_row _ _ HX.out 3 _ rfl
        have x4 := cells_row _ _ HX.out 4 _ rfl
        have x5 := cells_row _ _ HX.out 5 _ rfl
        have x6 := cells_row _ _ HX.out 6 _ rfl
        go_wp2_with fail
        clear x0 x1 x2 x3 x4 x5 x6
        refine (csteps_any _ _ PP HPG.out HPAR.out).mono ?_
        rintro e wi ⟨rfl, hb⟩
        rw [HST.out]
        replace HVE := Lib.hid (HVE.out.below hb)
        replace HVW := Lib.hid (HVW.out.below hb)
        replace HT := Lib.hid (HT.out.step hb)
        replace HGB := Lib.hid ((hb.block _ (block_lt HGB.out)).trans HGB.out)
        replace HPB := Lib.hid ((hb.block _ (block_lt HPB.out)).trans HPB.out)
        replace HX := Lib.hid ((hb.block _ (block_lt HX.out)).trans HX.out)
        replace HPG := Lib.hid (HPG.out.below hb)
        clear hb HX HPG
        dsimp only
        go_wp2_with fail
        refine (awake_yes _).mono ?_
        rintro e wj ⟨rfl, hb⟩
        replace HVE := Lib.hid (HVE.out.below hb)
        replace HVW := Lib.hid (HVW.out.below hb)
        replace HT := Lib.hid (HT.out.step hb)
        clear hb
        go_wp2_with fail
        refine (sameints_yes HVW.out HVE.out (by have := HEL.out; omega)).mono ?_
        rintro e wk ⟨rfl, hq⟩
        have hb : Below wj.heap.size wj wk := by obtain ⟨m, rfl⟩ := hq; exact below_dr (Below.refl _ _)
        replace HT := Lib.hid (HT.out.step hb)
        clear hb hq
        have hd : decide (((M : Nat) : Int) = ((M : Nat) : Int)) = true := by simp
        go_wp2
        go_ret
        exact ⟨by first | rfl | simp, HT.out.below⟩
      · have hmp : makeP g p l = .zero := by rw [makeP, if_neg (by rw [hE]; exact h0)]
        rw [hmp] at HP
        clear hmp hE
        obtain ⟨ap, cp, al, cl, ao2, co, hX, -⟩ := HP.out
        have HX := Lib.hid hX
        clear hX HP
        go_wp2_with fail
        refine (awake_yes _).mono ?_
        rintro e w2 ⟨rfl, hb⟩
        replace HT := Lib.hid (HT.out.step hb)
        have hx2 := (hb.block _ (block_lt HX.out)).trans HX.out
        clear hb
        have x6 : World.cell? w2 _ = some (.slice ao2 0 co) := cells_row _ _ hx2 6 _ rfl
        clear hx2
        go_wp2
        go_ret
        exact ⟨rfl, HT.out.below⟩
end Go.Proofs.Ytbmbfifempkhgaa

/- What came in, said plainly for a walk: a slice of ints. No program in sight. -/
namespace Go.Proofs.Ytbmbfifempkhgaa
open Go.ChangeShapes Go.WideShapes Go.ChangeAt Go.RowKit Go.Deep

/-- v is a slice of the ints zs, as it came in -/
def InInts (w : World) (v : Value) (zs : List Int) : Prop :=
  ∃ ao cap, v = .slice ao zs.length cap ∧ zs.length ≤ cap ∧ cap ≤ maxLen ∧ (ao = none → zs.length = 0) ∧ (∀ n ∈ zs, -9223372036854775808 ≤ n ∧ n ≤ 9223372036854775807) ∧
    ∀ ad, ao = some ad → ∀ j u, (zs.map (Value.int .i64))[j]? = some u → w.cell? (ad.add j) = some u

theorem wf_i64 {n : Int} (h : (Lit.int .i64 n).wf = true) : -9223372036854775808 ≤ n ∧ n ≤ 9223372036854775807 := by
  simp [Lit.wf] at h
  have h1 : IntKind.i64.min = -9223372036854775808 := rfl
  have h2 : IntKind.i64.max = 9223372036854775807 := rfl
  omega

/-- the reading of a slice of n elements -/
def DLen {H : Type} (d : DataW H) (n : Nat) : Prop := (d = .nil ∧ n = 0) ∨ ∃ el sp, d = .slice el sp ∧ el.length = n

theorem DLen.reach {H : Type} {P : Program} {ts : List TypeId} {ds : List (DataW H)} {d : DataW H} {n j : Nat} {t e : TypeId} (h : DLen d n) (hs : (DataW.weightsEach P ts ds).all (· ≤ reachBytes) = true) (ht : ts[j]? = some t) (hd : ds[j]? = some d) (hu : P.underlying t = some (.slice e)) : n * P.bytesOf e ≤ 140737488351232 := by
  rcases h with ⟨rfl, rfl⟩ | ⟨el, sp, rfl, rfl⟩
  · omega
  · have := sized_slice hs ht hd hu
    have h1 : el.length * P.bytesOf e ≤ (el.length + sp.length) * P.bytesOf e := Nat.mul_le_mul_right _ (by omega)
    have h2 : reachBytes = 140737488351232 := rfl
    omega

theorem open_in_ints {P : Program} {H : Type} {enc : TypeId × Value → H} {W : World} {t e : TypeId} {v : Value} {d : DataW H} {p : List MemPlace} (ht : P.underlying t = some (.slice e)) (he : P.underlying e = some (.int .i64)) (hc : P.cellsOf e = 1)
    (hv : ∃ a len cap, v = .slice a len cap) (h : DataW.Trod enc P W 0 (fun _ => true) true t v d p) : ∃ zs, InInts W v zs ∧ DLen d zs.length := by
  obtain ⟨a1, len1, cap1, rfl⟩ := hv
  obtain ⟨fuel, hf⟩ := h
  rcases open_ints ht he hc hf with ⟨hcs, hx⟩ | ⟨x, l, c, zs, hcs, _, hl, hm, hz, hx, hcell, hwz⟩
  · simp [Value.cells] at hcs
    obtain ⟨rfl, rfl, rfl⟩ := hcs
    obtain rfl : d = .nil := congrArg Prod.fst hx
    exact ⟨[], ⟨none, 0, rfl, Nat.le_refl _, Nat.zero_le _, fun _ => rfl, by simp, fun _ h => by cases h⟩, .inl ⟨rfl, rfl⟩⟩
  · simp [Value.cells] at hcs
    obtain ⟨rfl, rfl, rfl⟩ := hcs
    simp at hz
    obtain rfl : d = _ := congrArg Prod.fst hx
    have hlen : (zs.take len1).length = len1 := by rw [List.length_take]; omega
    refine ⟨zs.take len1, ⟨some x, cap1, by rw [hlen], by omega, hm, (fun h => by cases h), fun n hn => ?_, ?_⟩, .inr ⟨_, _, rfl, by simp [lits]⟩⟩
    · exact wf_i64 (hwz n (List.mem_of_mem_take hn))
    · intro ad had j u hu
      obtain rfl := Option.some.inj had
      have hj : j < len1 := by have := (List.getElem?_eq_some_iff.1 hu).1; simp at this; omega
      have hcz := hcell j (by omega)
      rw [hcz]
      have : ((zs.take len1).map (Value.int .i64))[j]? = some (.int .i64 (zs.getD j 0)) := by
        simp [hj, show j < zs.length by omega]
      rw [this] at hu
      exact hu

/-- plainly -/
theorem InInts.has {W : World} {v : Value} {zs : List Int} (h : InInts W v zs) : Has W v (ivs zs) := by
  obtain ⟨ao, cap, rfl, h1, h2, h3, h4, h5⟩ := h
  by_cases hp : 0 < zs.length
  · cases ao with
    | none => have := h3 rfl; omega
    | some a =>
      have hc : ∀ i, i < zs.length → W.cell? (a.add i) = some (.int .i64 (zs.getD i 0)) := fun i hi => h5 a rfl i _ (by simp [hi])
      obtain ⟨b, off, rfl, hcell⟩ := ints_at hc hp
      refine .inr ⟨by simpa using hp, b, off, cap, by simp, by simpa using h1, World.block_lt_of_cell? _ _ (hcell 0 hp), rfl, fun k hk => ?_⟩
      have hk' : k < zs.length := by simpa using hk
      have := hcell k hk'
      simpa [hk'] using this
  · obtain rfl : zs = [] := List.eq_nil_of_length_eq_zero (by omega)
    exact .inl ⟨rfl, ao, cap, rfl⟩
theorem InInts.fits {W : World} {v : Value} {zs : List Int} (h : InInts W v zs) : ∀ n ∈ zs, -9223372036854775808 ≤ n ∧ n ≤ 9223372036854775807 := h.choose_spec.choose_spec.2.2.2.2.1
end Go.Proofs.Ytbmbfifempkhgaa

/- What came in, said plainly for a walk: a slice of slices of ints. No program in sight. -/
namespace Go.Proofs.Ytbmbfifempkhgaa
open Go.ChangeShapes Go.WideShapes Go.ChangeAt Go.RowKit Go.Deep

theorem open_in_ints_cells {P : Program} {H : Type} {enc : TypeId × Value → H} {W : World} {t e : TypeId} {x : Value} {fuel : Nat} {y : DataW H × List MemPlace} (ht : P.underlying t = some (.slice e)) (he : P.underlying e = some (.int .i64)) (hc : P.cellsOf e = 1)
    (h : DataW.trod enc P W 0 (fun _ => true) true fuel t [x] = some y) : ∃ zs, InInts W x zs ∧ DLen y.1 zs.length := by
  have hx : ∃ a len cap, x = .slice a len cap := by
    rcases open_ints ht he hc h with ⟨hcs, _⟩ | ⟨a, len, cap, zs, hcs, _⟩
    · exact ⟨_, _, _, List.head_eq_of_cons_eq hcs⟩
    · exact ⟨_, _, _, List.head_eq_of_cons_eq hcs⟩
  obtain ⟨a, len, cap, rfl⟩ := hx
  exact open_in_ints (d := y.1) (p := y.2) ht he hc ⟨_, _, _, rfl⟩ ⟨fuel, by simpa [Value.cells] using h⟩

theorem open_in_rows {P : Program} {H : Type} {enc : TypeId × Value → H} {W : World} {t s e : TypeId} {v : Value} {d : DataW H} {p : List MemPlace} (ht : P.underlying t = some (.slice s)) (hs : P.underlying s = some (.slice e)) (he : P.underlying e = some (.int .i64)) (hce : P.cellsOf e = 1) (hcs : P.cellsOf s = 1)
    (hv : ∃ a len cap, v = .slice a len cap) (h : DataW.Trod enc P W 0 (fun _ => true) true t v d p) : ∃ xss, LL W v xss ∧ (∀ l ∈ xss, ∀ x ∈ l, -9223372036854775808 ≤ x ∧ x ≤ 9223372036854775807) ∧ DLen d xss.length := by
  obtain ⟨a1, len1, cap1, rfl⟩ := hv
  obtain ⟨fuel, hf⟩ := h
  rcases open_slice ht hf with ⟨hc, hx⟩ | ⟨a, len, cap, m, n, D, Pl, hc, _, hl, hm, hmm, hx, hel⟩
  · simp [Value.cells] at hc
    obtain ⟨rfl, rfl, rfl⟩ := hc
    exact ⟨[], ⟨[], rfl, .inl ⟨rfl, none, 0, rfl⟩, fun k hk => by simp at hk⟩, by simp, .inl ⟨congrArg Prod.fst hx, rfl⟩⟩
  · simp [Value.cells] at hc
    obtain ⟨rfl, rfl, rfl⟩ := hc
    simp at hmm
    have each : ∀ i, i < len1 → ∃ q : Value × List Int, W.cell? (a.add i) = some q.1 ∧ InInts W q.1 q.2 := by
      intro i hi
      obtain ⟨cs', hcells, htr⟩ := hel i (by omega)
      rw [hcs] at hcells
      simp only [Nat.mul_one] at hcells
      obtain ⟨_, hll, hev⟩ := World.cells?_some hcells
      match cs', hll with
      | [x0], _ =>
        obtain ⟨zs, hz, _⟩ := open_in_ints_cells hs he hce htr
        have g0 := hev 0 (by omega)
        have e0 : (a.add i).add 0 = a.add i := by cases a; simp [Addr.add]
        rw [e0] at g0
        exact ⟨(x0, zs), by simpa using g0, hz⟩
    obtain ⟨Q, hQ⟩ := choose_lt (α := Value × List Int) (p := fun i q => W.cell? (a.add i) = some q.1 ∧ InInts W q.1 q.2) each
    refine ⟨(List.range len1).map fun i => (Q i).2, ⟨(List.range len1).map fun i => (Q i).1, by simp, ?_, fun k hk => ?_⟩, fun l hl x hx => ?_, .inr ⟨_, _, congrArg Prod.fst hx, by simp⟩⟩
    · by_cases hp : 0 < len1
      · have hsp : a.spot = none := by
          have := World.cell?_spot (hQ 0 hp).1
          simpa [Addr.add] using this
        obtain ⟨b, off, spot⟩ := a
        simp at hsp
        subst hsp
        refine .inr ⟨by simpa using hp, b, off, cap1, by simp, by simp; omega, ?_, rfl, fun k hk => ?_⟩
        · have := World.block_lt_of_cell? _ _ (hQ 0 hp).1
          simpa [Addr.add] using this
        · have hk' : k < len1 := by simpa using hk
          have := (hQ k hk').1
          simp only [Addr.add_lit] at this
          simpa [hk'] using this
      · obtain rfl : len1 = 0 := by omega
        exact .inl ⟨rfl, some a, cap1, rfl⟩
    · have hk' : k < len1 := by simpa using hk
      have := (hQ k hk').2.has
      simpa [hk'] using this
    · simp only [List.mem_map, List.mem_range] at hl
      obtain ⟨i, hi, rfl⟩ := hl
      exact (hQ i hi).2.fits x hx
end Go.Proofs.Ytbmbfifempkhgaa

/- What came in, said plainly for a walk: slices of slices of ints and their sizes; two of them in a struct. No program in sight. -/
namespace Go.Proofs.Ytbmbfifempkhgaa
open Go.ChangeShapes Go.WideShapes Go.ChangeAt Go.RowKit Go.Deep

theorem weights_mem_all {H : Type} {P : Program} {e : TypeId} {d : DataW H} {x : Nat} : ∀ {l : List (DataW H)}, d ∈ l → x ∈ d.weights P e → x ∈ DataW.weightsAll P e l
  | [], h, _ => by cases h
  | a :: l, h, hx => by
    simp only [DataW.weightsAll, List.mem_append]
    rcases List.mem_cons.1 h with rfl | h
    · exact .inl hx
    · exact .inr (weights_mem_all h hx)

/-- all that it weighs is within reach -/
def Light {H : Type} (P : Program) (t : TypeId) (d : DataW H) : Prop := ∀ x ∈ d.weights P t, x ≤ reachBytes

theorem Light.len {H : Type} {P : Program} {t e : TypeId} {d : DataW H} {n : Nat} (h : Light P t d) (hd : DLen d n) (hu : P.underlying t = some (.slice e)) : n * P.bytesOf e ≤ reachBytes := by
  rcases hd with ⟨rfl, rfl⟩ | ⟨el, sp, rfl, rfl⟩
  · simp
  · have := h ((el.length + sp.length) * P.bytesOf e) (by simp [DataW.weights, hu])
    exact Nat.le_trans (Nat.mul_le_mul_right _ (by omega)) this

theorem open_rows_sized {P : Program} {H : Type} {enc : TypeId × Value → H} {W : World} {t s e : TypeId} {v : Value} {d : DataW H} {p : List MemPlace} (ht : P.underlying t = some (.slice s)) (hs : P.underlying s = some (.slice e)) (he : P.underlying e = some (.int .i64)) (hce : P.cellsOf e = 1) (hcs : P.cellsOf s = 1)
    (hv : ∃ a len cap, v = .slice a len cap) (h : DataW.Trod enc P W 0 (fun _ => true) true t v d p) : ∃ xss, LL W v xss ∧ (∀ l ∈ xss, ∀ x ∈ l, -9223372036854775808 ≤ x ∧ x ≤ 9223372036854775807) ∧ (Light P t d → xss.length * P.bytesOf s ≤ reachBytes ∧ ∀ l ∈ xss, l.length * P.bytesOf e ≤ reachBytes) := by
  obtain ⟨a1, len1, cap1, rfl⟩ := hv
  obtain ⟨fuel, hf⟩ := h
  rcases open_slice ht hf with ⟨hc, hx⟩ | ⟨a, len, cap, m, n, D, Pl, hc, _, hl, hm, hmm, hx, hel⟩
  · simp [Value.cells] at hc
    obtain ⟨rfl, rfl, rfl⟩ := hc
    exact ⟨[], ⟨[], rfl, .inl ⟨rfl, none, 0, rfl⟩, fun k hk => by simp at hk⟩, by simp, fun _ => ⟨by simp, by simp⟩⟩
  · simp [Value.cells] at hc
    obtain ⟨rfl, rfl, rfl⟩ := hc
    simp at hmm
    have each : ∀ i, i < len1 → ∃ q : Value × List Int, W.cell? (a.add i) = some q.1 ∧ InInts W q.1 q.2 ∧ DLen (D i) q.2.length := by
      intro i hi
      obtain ⟨cs', hcells, htr⟩ := hel i (by omega)
      rw [hcs] at hcells
      simp only [Nat.mul_one] at hcells
      obtain ⟨_, hll, hev⟩ := World.cells?_some hcells
      match cs', hll with
      | [x0], _ =>
        obtain ⟨zs, hz, hdl⟩ := open_in_ints_cells hs he hce htr
        have g0 := hev 0 (by omega)
        have e0 : (a.add i).add 0 = a.add i := by cases a; simp [Addr.add]
        rw [e0] at g0
        exact ⟨(x0, zs), by simpa using g0, hz, hdl⟩
    obtain ⟨Q, hQ⟩ := choose_lt (α := Value × List Int) (p := fun i q => W.cell? (a.add i) = some q.1 ∧ InInts W q.1 q.2 ∧ DLen (D i) q.2.length) each
    have hd : d = _ := congrArg Prod.fst hx
    refine ⟨(List.range len1).map fun i => (Q i).2, ⟨(List.range len1).map fun i => (Q i).1, by simp, ?_, fun k hk => ?_⟩, fun l hl x hx => ?_, fun hL => ⟨?_, fun l hl => ?_⟩⟩
    · by_cases hp : 0 < len1
      · have hsp : a.spot = none := by
          have := World.cell?_spot (hQ 0 hp).1
          simpa [Addr.add] using this
        obtain ⟨b, off, spot⟩ := a
        simp at hsp
        subst hsp
        refine .inr ⟨by simpa using hp, b, off, cap1, by simp, by simp; omega, ?_, rfl, fun k hk => ?_⟩
        · have := World.block_lt_of_cell? _ _ (hQ 0 hp).1
          simpa [Addr.add] using this
        · have hk' : k < len1 := by simpa using hk
          have := (hQ k hk').1
          simp only [Addr.add_lit] at this
          simpa [hk'] using this
      · obtain rfl : len1 = 0 := by omega
        exact .inl ⟨rfl, some a, cap1, rfl⟩
    · have hk' : k < len1 := by simpa using hk
      have := (hQ k hk').2.1.has
      simpa [hk'] using this
    · simp only [List.mem_map, List.mem_range] at hl
      obtain ⟨i, hi, rfl⟩ := hl
      exact (hQ i hi).2.1.fits x hx
    · exact hL.len (n := ((List.range len1).map fun i => (Q i).2).length) (.inr ⟨_, _, hd, by simp⟩) ht
    · simp only [List.mem_map, List.mem_range] at hl
      obtain ⟨i, hi, rfl⟩ := hl
      have hLi : Light P s (D i) := fun x hx => hL x (by
        rw [hd]
        simp only [DataW.weights, ht]
        exact List.mem_cons_of_mem _ (List.mem_append_left _ (weights_mem_all (List.mem_map.2 ⟨i, List.mem_range.2 hi, rfl⟩) hx)))
      exact hLi.len (hQ i hi).2.2 hs

/-- two slices of slices of ints, in a struct -/
theorem open_in_both {P : Program} {H : Type} {enc : TypeId × Value → H} {W : World} {t ts s i : TypeId} {f0 f1 : Field} {v : Value} {d : DataW H} {p : List MemPlace} (ht : P.underlying t = some (.struct #[f0, f1])) (h0 : f0.type = ts) (h1 : f1.type = ts) (hts : P.underlying ts = some (.slice s)) (hs : P.underlying s = some (.slice i)) (hi : P.underlying i = some (.int .i64)) (hci : P.cellsOf i = 1) (hcs : P.cellsOf s = 1)
    (o0 : f0.offset = 0) (o1 : f1.offset = 1) (c1 : P.cellsOf ts = 1) (hc : P.cellsOf t = 2) (hv : ∃ cs, v = .agg cs ∧ cs.size = P.cellsOf t) (h : DataW.Trod enc P W 0 (fun _ => true) true t v d p) :
    ∃ x y xss yss, v = .agg #[x, y] ∧ LL W x xss ∧ LL W y yss ∧ (∀ l ∈ xss, ∀ z ∈ l, -9223372036854775808 ≤ z ∧ z ≤ 9223372036854775807) ∧ (∀ l ∈ yss, ∀ z ∈ l, -9223372036854775808 ≤ z ∧ z ≤ 9223372036854775807) ∧
      (Light P t d → (xss.length * P.bytesOf s ≤ reachBytes ∧ ∀ l ∈ xss, l.length * P.bytesOf i ≤ reachBytes) ∧ yss.length * P.bytesOf s ≤ reachBytes ∧ ∀ l ∈ yss, l.length * P.bytesOf i ≤ reachBytes) := by
  obtain ⟨cs, rfl, hsz⟩ := hv
  obtain ⟨fuel, hf⟩ := h
  rw [hc] at hsz
  obtain ⟨l⟩ := cs
  match l, hsz with
  | [x, y], _ =>
    obtain ⟨y0, y1, n, hxe, hlen, ht0, ht1⟩ := trod_struct2 ht hf
    rw [h0, o0, c1] at ht0
    rw [h1, o1, c1] at ht1
    have ht0' : DataW.trod enc P W 0 (fun _ => true) true n ts [x] = some y0 := by simpa [Value.cells] using ht0
    have ht1' : DataW.trod enc P W 0 (fun _ => true) true n ts [y] = some y1 := by simpa [Value.cells] using ht1
    have sl : ∀ (u : Value) (z : DataW H × List MemPlace), DataW.trod enc P W 0 (fun _ => true) true n ts [u] = some z → ∃ a len cap, u = .slice a len cap := fun u z hz => by
      rcases open_slice hts hz with ⟨hc, _⟩ | ⟨a, len, cap, _, _, _, _, hc, _⟩
      · exact ⟨_, _, _, List.head_eq_of_cons_eq hc⟩
      · exact ⟨_, _, _, List.head_eq_of_cons_eq hc⟩
    obtain ⟨ax, lx, cx, rfl⟩ := sl x y0 ht0'
    obtain ⟨ay, ly, cy, rfl⟩ := sl y y1 ht1'
    obtain ⟨xss, q1, q2, q3⟩ := open_rows_sized (d := y0.1) (p := y0.2) hts hs hi hci hcs ⟨_, _, _, rfl⟩ ⟨n, by simpa [Value.cells] using ht0'⟩
    obtain ⟨yss, r1, r2, r3⟩ := open_rows_sized (d := y1.1) (p := y1.2) hts hs hi hci hcs ⟨_, _, _, rfl⟩ ⟨n, by simpa [Value.cells] using ht1'⟩
    have hd : d = .agg [y0.1, y1.1] := congrArg Prod.fst hxe
    refine ⟨_, _, xss, yss, rfl, q1, r1, q2, r2, fun hL => ⟨q3 fun x hx => hL x ?_, r3 fun x hx => hL x ?_⟩⟩
    · rw [hd]
      simp only [DataW.weights, ht]
      simp [DataW.weightsEach, h0, hx]
    · rw [hd]
      simp only [DataW.weights, ht]
      simp [DataW.weightsEach, h1, hx]
end Go.Proofs.Ytbmbfifempkhgaa

/- What came in, said plainly for a walk: graphs and plans. No function in sight. -/
namespace Go.Proofs.Ytbmbfifempkhgaa
open Go.ChangeShapes Go.WideShapes Go.ChangeAt Go.RowKit Go.Deep

section
variable {H : Type} {enc : TypeId × Value → H} {W : World}

abbrev Trods (enc : TypeId × Value → H) (W : World) (fuel : Nat) (t : TypeId) (cs : List Value) (y : DataW H × List MemPlace) : Prop := DataW.trod enc Try.prog W 0 (fun _ => true) true fuel t cs = some y

theorem cell_string : Try.prog.cellsOf 9 = 1 := by kernel_rfl
theorem cell_int : Try.prog.cellsOf 3 = 1 := by kernel_rfl
theorem cell_tag : Try.prog.cellsOf 55 = 1 := by kernel_rfl
theorem cell_ints : Try.prog.cellsOf 52 = 1 := by kernel_rfl
theorem byte_int : Try.prog.bytesOf 3 = 8 := by kernel_rfl
theorem reach_val : reachBytes = 140737488351232 := rfl

/-- the parts of a record weigh no more than it -/
theorem light_part {t : TypeId} {fs : Array Field} {xs : List (DataW H × List MemPlace)} (ht : Try.prog.underlying t = some (.struct fs)) (hL : Light Try.prog t (.agg (xs.map (·.1)))) {i : Nat} {f : Field} {y : DataW H × List MemPlace} (hf : fs[i]? = some f) (hy : xs[i]? = some y) : Light Try.prog f.type y.1 := fun x hx => hL x (by
  simp only [DataW.weights, ht]
  have h1 : (fs.toList.map (·.type))[i]? = some f.type := by simp [hf]
  have h2 : (xs.map (·.1))[i]? = some y.1 := by simp [hy]
  exact DataW.weights_mem_each h1 h2 x hx)
theorem string_at {fuel : Nat} {x : Value} {y : DataW H × List MemPlace} (h : Trods enc W fuel 9 [x] y) : ∃ s : ByteArray, x = .string s ∧ (Light Try.prog 9 y.1 → s.size ≤ 4611686018427387904) := by
  obtain ⟨s, h1, h2, _⟩ := DataW.trod_string Try.underlying9 h
  refine ⟨s, by simpa using h1, fun hL => ?_⟩
  have := hL s.data.toList.length (by rw [h2]; simp [DataW.weights])
  have h3 := reach_val
  have h4 : s.data.toList.length = s.size := by simp
  omega
theorem int_at {fuel : Nat} {x : Value} {y : DataW H × List MemPlace} (h : Trods enc W fuel 3 [x] y) : ∃ n, x = .int .i64 n := by
  obtain ⟨n, h1, _⟩ := DataW.trod_int Try.underlying3 h
  exact ⟨n, by simpa using h1⟩
theorem ints_at' {fuel : Nat} {x : Value} {y : DataW H × List MemPlace} (h : Trods enc W fuel 52 [x] y) : ∃ l, Has W x (ivs l) ∧ (Light Try.prog 52 y.1 → l.length ≤ 17600000000000) := by
  obtain ⟨l, h1, h2⟩ := open_in_ints_cells Try.underlying52 Try.underlying3 cell_int h
  refine ⟨l, h1.has, fun hL => ?_⟩
  have := hL.len h2 Try.underlying52
  rw [byte_int] at this
  have h3 := reach_val
  omega

set_option maxRecDepth 100000 in
theorem el_actor {fuel : Nat} {cs : List Value} {y : DataW H × List MemPlace} (hl : cs.length = 3) (h : Trods enc W fuel 57 cs y) : ∃ a : GActor, ActorR W a cs ∧ (Light Try.prog 57 y.1 → a.name.size ≤ 4611686018427387904 ∧ a.params.length ≤ 17600000000000) := by
  obtain ⟨xs, n, _, rfl, _, hlen, hf⟩ := DataW.trod_struct Try.underlying57 h
  match cs, hl, xs, hlen with
  | [x0, x1, x2], _, [y0, y1, y2], _ =>
    have h0 : Trods enc W n 9 [x0] y0 := by simpa [cell_string] using hf 0 _ rfl
    have h1 : Trods enc W n 55 [x1] y1 := by simpa [cell_tag] using hf 1 _ rfl
    have h2 : Trods enc W n 52 [x2] y2 := by simpa [cell_ints] using hf 2 _ rfl
    obtain ⟨s, rfl, s2⟩ := string_at h0
    obtain ⟨tg, t1, _⟩ := DataW.trod_int Try.underlying55 h1
    obtain rfl : x1 = .int .u8 tg := by simpa using t1
    obtain ⟨l, l1, l2⟩ := ints_at' h2
    exact ⟨⟨s, tg, l⟩, ⟨x2, rfl, l1⟩, fun hL => ⟨s2 (light_part Try.underlying57 (xs := [y0, y1, y2]) hL (i := 0) rfl rfl), l2 (light_part Try.underlying57 (xs := [y0, y1, y2]) hL (i := 2) rfl rfl)⟩⟩
set_option maxRecDepth 100000 in
theorem el_edge {fuel : Nat} {cs : List Value} {y : DataW H × List MemPlace} (hl : cs.length = 5) (h : Trods enc W fuel 63 cs y) : ∃ a : GEdge, EdgeR W a cs ∧ (Light Try.prog 63 y.1 → a.start.length ≤ 17600000000000) := by
  obtain ⟨xs, n, _, rfl, _, hlen, hf⟩ := DataW.trod_struct Try.underlying63 h
  match cs, hl, xs, hlen with
  | [x0, x1, x2, x3, x4], _, [y0, y1, y2, y3, y4], _ =>
    have h0 : Trods enc W n 3 [x0] y0 := by simpa [cell_int] using hf 0 _ rfl
    have h1 : Trods enc W n 3 [x1] y1 := by simpa [cell_int] using hf 1 _ rfl
    have h2 : Trods enc W n 3 [x2] y2 := by simpa [cell_int] using hf 2 _ rfl
    have h3 : Trods enc W n 3 [x3] y3 := by simpa [cell_int] using hf 3 _ rfl
    have h4 : Trods enc W n 52 [x4] y4 := by simpa [cell_ints] using hf 4 _ rfl
    obtain ⟨n0, rfl⟩ := int_at h0
    obtain ⟨n1, rfl⟩ := int_at h1
    obtain ⟨n2, rfl⟩ := int_at h2
    obtain ⟨n3, rfl⟩ := int_at h3
    obtain ⟨l, l1, l2⟩ := ints_at' h4
    exact ⟨⟨n0, n1, n2, n3, l⟩, ⟨x4, rfl, l1⟩, fun hL => l2 (light_part Try.underlying63 (xs := [y0, y1, y2, y3, y4]) hL (i := 4) rfl rfl)⟩
set_option maxRecDepth 100000 in
theorem el_port {fuel : Nat} {cs : List Value} {y : DataW H × List MemPlace} (hl : cs.length = 3) (h : Trods enc W fuel 65 cs y) : ∃ a : GPort, PortR W a cs ∧ (Light Try.prog 65 y.1 → a.name.size ≤ 4611686018427387904) := by
  obtain ⟨xs, n, _, rfl, _, hlen, hf⟩ := DataW.trod_struct Try.underlying65 h
  match cs, hl, xs, hlen with
  | [x0, x1, x2], _, [y0, y1, y2], _ =>
    have h0 : Trods enc W n 9 [x0] y0 := by simpa [cell_string] using hf 0 _ rfl
    have h1 : Trods enc W n 3 [x1] y1 := by simpa [cell_int] using hf 1 _ rfl
    have h2 : Trods enc W n 3 [x2] y2 := by simpa [cell_int] using hf 2 _ rfl
    obtain ⟨s, rfl, s2⟩ := string_at h0
    obtain ⟨n1, rfl⟩ := int_at h1
    obtain ⟨n2, rfl⟩ := int_at h2
    exact ⟨⟨s, n1, n2⟩, rfl, fun hL => s2 (light_part Try.underlying65 (xs := [y0, y1, y2]) hL (i := 0) rfl rfl)⟩
set_option maxRecDepth 100000 in
theorem el_region {fuel : Nat} {cs : List Value} {y : DataW H × List MemPlace} (hl : cs.length = 2) (h : Trods enc W fuel 70 cs y) : ∃ a : GRegion, RegionR W a cs ∧ (Light Try.prog 70 y.1 → True) := by
  obtain ⟨xs, n, _, rfl, _, hlen, hf⟩ := DataW.trod_struct Try.underlying70 h
  match cs, hl, xs, hlen with
  | [x0, x1], _, [y0, y1], _ =>
    have h0 : Trods enc W n 3 [x0] y0 := by simpa [cell_int] using hf 0 _ rfl
    have h1 : Trods enc W n 3 [x1] y1 := by simpa [cell_int] using hf 1 _ rfl
    obtain ⟨n0, rfl⟩ := int_at h0
    obtain ⟨n1, rfl⟩ := int_at h1
    exact ⟨⟨n0, n1⟩, rfl, fun _ => trivial⟩

theorem list_get {cs : List Value} {n i : Nat} (hl : cs.length = n) (hi : i < n) : cs[i]? = some (cs[i]?.getD undef) := by
  rw [List.getElem?_eq_getElem (by omega)]; rfl
/-- a slice of records -/
theorem open_recs {α : Type} {R : World → α → List Value → Prop} {Z : α → Prop} {t e : TypeId} {sz : Nat} {fuel : Nat} {x : Value} {y : DataW H × List MemPlace} (ht : Try.prog.underlying t = some (.slice e)) (hc : Try.prog.cellsOf e = sz) (hsz : 0 < sz)
    (el : ∀ (fuel : Nat) (cs : List Value) (y : DataW H × List MemPlace), cs.length = sz → Trods enc W fuel e cs y → ∃ a : α, R W a cs ∧ (Light Try.prog e y.1 → Z a)) (h : Trods enc W fuel t [x] y) :
    ∃ l : List α, Recs W sz R x l ∧ (Light Try.prog t y.1 → l.length * Try.prog.bytesOf e ≤ reachBytes ∧ ∀ a ∈ l, Z a) := by
  rcases open_slice ht h with ⟨hcs', hx⟩ | ⟨a, len, cap, m, n, D, Pl, hcs', _, hl, hm, hmm, hx, hel⟩
  · obtain rfl : x = .slice none 0 0 := List.head_eq_of_cons_eq hcs'
    exact ⟨[], .inl ⟨rfl, _, _, rfl⟩, fun _ => ⟨by simp, by simp⟩⟩
  · obtain rfl := List.head_eq_of_cons_eq hcs'
    simp at hmm
    have each : ∀ j, j < len → ∃ q : α × List Value, q.2.length = sz ∧ R W q.1 q.2 ∧ (Light Try.prog e (D j) → Z q.1) ∧ ∀ i, i < sz → W.cell? ((a.add (j * sz)).add i) = some (q.2[i]?.getD undef) := by
      intro j hj
      obtain ⟨cs', hcells, htr⟩ := hel j (by omega)
      rw [hc] at hcells
      obtain ⟨_, hll, hev⟩ := World.cells?_some hcells
      obtain ⟨q, h1, h2⟩ := el _ _ _ hll htr
      exact ⟨(q, cs'), hll, h1, h2, fun i hi => (hev i hi).trans (list_get hll hi)⟩
    by_cases hp : 0 < len
    · haveI : Inhabited (α × List Value) := ⟨(each 0 hp).choose⟩
      obtain ⟨Q, hQ⟩ := choose_lt (α := α × List Value) (p := fun j q => q.2.length = sz ∧ R W q.1 q.2 ∧ (Light Try.prog e (D j) → Z q.1) ∧ ∀ i, i < sz → W.cell? ((a.add (j * sz)).add i) = some (q.2[i]?.getD undef)) each
      have hd : y.1 = _ := congrArg Prod.fst hx
      refine ⟨(List.range len).map fun j => (Q j).1, .inr ?_, fun hL => ⟨hL.len (n := ((List.range len).map fun j => (Q j).1).length) (.inr ⟨_, _, hd, by simp⟩) ht, fun z hz => ?_⟩⟩
      rotate_left
      · simp only [List.mem_map, List.mem_range] at hz
        obtain ⟨j, hj, rfl⟩ := hz
        exact (hQ j hj).2.2.1 fun x hx => hL x (by
          rw [hd]
          simp only [DataW.weights, ht]
          exact List.mem_cons_of_mem _ (List.mem_append_left _ (weights_mem_all (List.mem_map.2 ⟨j, List.mem_range.2 hj, rfl⟩) hx)))
      have hsp : a.spot = none := by
        have := World.cell?_spot ((hQ 0 hp).2.2.2 0 hsz)
        simpa [Addr.add] using this
      obtain ⟨b, off, spot⟩ := a
      simp at hsp
      subst hsp
      refine ⟨by simpa using hp, b, off, cap, by simp, by simp; omega, ?_, fun k hk => ?_⟩
      · have := World.block_lt_of_cell? _ _ ((hQ 0 hp).2.2.2 0 hsz)
        simpa [Addr.add] using this
      · have hk' : k < len := by simpa using hk
        obtain ⟨e1, e2, _, e4⟩ := hQ k hk'
        refine ⟨(Q k).2, e1, by simpa [hk'] using e2, fun i hi => ?_⟩
        have := e4 i hi
        simp only [Addr.add_lit] at this
        exact this
    · obtain rfl : len = 0 := by omega
      exact ⟨[], .inl ⟨rfl, some a, cap, rfl⟩, fun _ => ⟨by simp, by simp⟩⟩

theorem byte_actor : Try.prog.bytesOf 57 = 48 := by kernel_rfl
theorem byte_edge : Try.prog.bytesOf 63 = 56 := by kernel_rfl
theorem byte_port : Try.prog.bytesOf 65 = 32 := by kernel_rfl
theorem byte_region : Try.prog.bytesOf 70 = 16 := by kernel_rfl
theorem cell_rows : Try.prog.cellsOf 22 = 1 ∧ Try.prog.cellsOf 23 = 1 ∧ Try.prog.cellsOf 24 = 1 ∧ Try.prog.cellsOf 27 = 1 := ⟨by kernel_rfl, by kernel_rfl, by kernel_rfl, by kernel_rfl⟩

set_option maxRecDepth 100000 in
/-- a graph that came in -/
theorem open_graph {v : Value} {d : DataW H} {p : List MemPlace} (hv : ∃ cs, v = .agg cs ∧ cs.size = Try.prog.cellsOf 26) (h : DataW.Trod enc Try.prog W 0 (fun _ => true) true 26 v d p) : ∃ g, HasGraph W v g ∧ (Light Try.prog 26 d → GSized g ∧ Great g) := by
  obtain ⟨cs, rfl, hsz⟩ := hv
  obtain ⟨fuel, hf0⟩ := h
  rw [show Try.prog.cellsOf 26 = 5 by kernel_rfl] at hsz
  obtain ⟨xs, n, _, hx, _, hlen, hf⟩ := DataW.trod_struct Try.underlying26 hf0
  obtain ⟨l⟩ := cs
  match l, hsz, xs, hlen with
  | [x0, x1, x2, x3, x4], _, [y0, y1, y2, y3, y4], _ =>
    have h0 : Trods enc W n 9 [x0] y0 := by simpa [cell_string, Value.cells] using hf 0 _ rfl
    have h1 : Trods enc W n 22 [x1] y1 := by simpa [cell_rows.1, Value.cells] using hf 1 _ rfl
    have h2 : Trods enc W n 23 [x2] y2 := by simpa [cell_rows.2.1, Value.cells] using hf 2 _ rfl
    have h3 : Trods enc W n 24 [x3] y3 := by simpa [cell_rows.2.2.1, Value.cells] using hf 3 _ rfl
    have h4 : Trods enc W n 24 [x4] y4 := by simpa [cell_rows.2.2.1, Value.cells] using hf 4 _ rfl
    have hd : d = .agg ([y0, y1, y2, y3, y4].map (·.1)) := congrArg Prod.fst hx
    obtain ⟨s, rfl, s2⟩ := string_at h0
    obtain ⟨la, a1, a2⟩ := open_recs (sz := 3) Try.underlying22 (by kernel_rfl) (by decide) (fun fuel cs y => el_actor) h1
    obtain ⟨le, e1, e2⟩ := open_recs (sz := 5) Try.underlying23 (by kernel_rfl) (by decide) (fun fuel cs y => el_edge) h2
    obtain ⟨li, i1, i2⟩ := open_recs (sz := 3) Try.underlying24 (by kernel_rfl) (by decide) (fun fuel cs y => el_port) h3
    obtain ⟨lo, o1, o2⟩ := open_recs (sz := 3) Try.underlying24 (by kernel_rfl) (by decide) (fun fuel cs y => el_port) h4
    refine ⟨⟨s, la, le, li, lo⟩, ⟨_, _, _, _, rfl, a1, e1, i1, o1⟩, fun hL => ?_⟩
    rw [hd] at hL
    have s3 := s2 (light_part Try.underlying26 hL (i := 0) rfl rfl)
    have a3 := a2 (light_part Try.underlying26 hL (i := 1) rfl rfl)
    have e3 := e2 (light_part Try.underlying26 hL (i := 2) rfl rfl)
    have i3 := i2 (light_part Try.underlying26 hL (i := 3) rfl rfl)
    have o3 := o2 (light_part Try.underlying26 hL (i := 4) rfl rfl)
    rw [byte_actor, reach_val] at a3
    rw [byte_edge, reach_val] at e3
    rw [byte_port, reach_val] at i3 o3
    exact ⟨⟨s3, a3.2, i3.2, o3.2⟩, ⟨by have := a3.1; show la.length ≤ _; omega, by have := e3.1; show le.length ≤ _; omega, by have := i3.1; show li.length ≤ _; omega, by have := o3.1; show lo.length ≤ _; omega, fun a ha => (a3.2 a ha).2, e3.2⟩⟩

set_option maxRecDepth 100000 in
/-- a plan that came in -/
theorem open_plan {v : Value} {d : DataW H} {p : List MemPlace} (hv : ∃ cs, v = .agg cs ∧ cs.size = Try.prog.cellsOf 29) (h : DataW.Trod enc Try.prog W 0 (fun _ => true) true 29 v d p) : ∃ q, HasPlan W v q ∧ (Light Try.prog 29 d → q.regions.length ≤ 17600000000000) := by
  obtain ⟨cs, rfl, hsz⟩ := hv
  obtain ⟨fuel, hf0⟩ := h
  rw [show Try.prog.cellsOf 29 = 2 by kernel_rfl] at hsz
  obtain ⟨xs, n, _, hx, _, hlen, hf⟩ := DataW.trod_struct Try.underlying29 hf0
  obtain ⟨l⟩ := cs
  match l, hsz, xs, hlen with
  | [x0, x1], _, [y0, y1], _ =>
    have h0 : Trods enc W n 27 [x0] y0 := by simpa [cell_rows.2.2.2, Value.cells] using hf 0 _ rfl
    have h1 : Trods enc W n 3 [x1] y1 := by simpa [cell_int, Value.cells] using hf 1 _ rfl
    have hd : d = .agg ([y0, y1].map (·.1)) := congrArg Prod.fst hx
    obtain ⟨lr, r1, r2⟩ := open_recs (sz := 2) Try.underlying27 (by kernel_rfl) (by decide) (fun fuel cs y => el_region) h0
    obtain ⟨tot, rfl⟩ := int_at h1
    refine ⟨⟨lr, tot⟩, ⟨_, rfl, r1⟩, fun hL => ?_⟩
    rw [hd] at hL
    have r3 := r2 (light_part Try.underlying29 hL (i := 0) rfl rfl)
    rw [byte_region, reach_val] at r3
    have := r3.1
    show lr.length ≤ _
    omega
end
end Go.Proofs.Ytbmbfifempkhgaa

/- What came in, said plainly for a walk: nests. No function in sight. -/
namespace Go.Proofs.Ytbmbfifempkhgaa
open Go.ChangeShapes Go.WideShapes Go.ChangeAt Go.RowKit Go.Deep

section
variable {H : Type} {enc : TypeId × Value → H} {W : World}
/-- a slice of records -/
theorem open_recs_in {α : Type} {R : World → α → List Value → Prop} {Z : α → Prop} {t e : TypeId} {sz : Nat} {fuel : Nat} {x : Value} {y : DataW H × List MemPlace} (ht : Try.prog.underlying t = some (.slice e)) (hc : Try.prog.cellsOf e = sz) (hsz : 0 < sz)
    (el : ∀ (fuel : Nat) (cs : List Value) (z : DataW H × List MemPlace), cs.length = sz → SizeOf.sizeOf z.1 < SizeOf.sizeOf y.1 → Trods enc W fuel e cs z → ∃ a : α, R W a cs ∧ (Light Try.prog e z.1 → Z a)) (h : Trods enc W fuel t [x] y) :
    ∃ l : List α, Recs W sz R x l ∧ (Light Try.prog t y.1 → l.length * Try.prog.bytesOf e ≤ reachBytes ∧ ∀ a ∈ l, Z a) := by
  rcases open_slice ht h with ⟨hcs', hx⟩ | ⟨a, len, cap, m, n, D, Pl, hcs', _, hl, hm, hmm, hx, hel⟩
  · obtain rfl : x = .slice none 0 0 := List.head_eq_of_cons_eq hcs'
    exact ⟨[], .inl ⟨rfl, _, _, rfl⟩, fun _ => ⟨by simp, by simp⟩⟩
  · obtain rfl := List.head_eq_of_cons_eq hcs'
    simp at hmm
    have hd : y.1 = _ := congrArg Prod.fst hx
    have each : ∀ j, j < len → ∃ q : α × List Value, q.2.length = sz ∧ R W q.1 q.2 ∧ (Light Try.prog e (D j) → Z q.1) ∧ ∀ i, i < sz → W.cell? ((a.add (j * sz)).add i) = some (q.2[i]?.getD undef) := by
      intro j hj
      obtain ⟨cs', hcells, htr⟩ := hel j (by omega)
      rw [hc] at hcells
      obtain ⟨_, hll, hev⟩ := World.cells?_some hcells
      have hsd : SizeOf.sizeOf (D j) < SizeOf.sizeOf y.1 := by
        rw [hd]
        have : D j ∈ (List.range len).map D := List.mem_map.2 ⟨j, List.mem_range.2 hj, rfl⟩
        have := List.sizeOf_lt_of_mem this
        simp only [DataW.slice.sizeOf_spec]
        omega
      obtain ⟨q, h1, h2⟩ := el _ _ _ hll hsd htr
      exact ⟨(q, cs'), hll, h1, h2, fun i hi => (hev i hi).trans (list_get hll hi)⟩
    by_cases hp : 0 < len
    · haveI : Inhabited (α × List Value) := ⟨(each 0 hp).choose⟩
      obtain ⟨Q, hQ⟩ := choose_lt (α := α × List Value) (p := fun j q => q.2.length = sz ∧ R W q.1 q.2 ∧ (Light Try.prog e (D j) → Z q.1) ∧ ∀ i, i < sz → W.cell? ((a.add (j * sz)).add i) = some (q.2[i]?.getD undef)) each
      refine ⟨(List.range len).map fun j => (Q j).1, .inr ?_, fun hL => ⟨hL.len (n := ((List.range len).map fun j => (Q j).1).length) (.inr ⟨_, _, hd, by simp⟩) ht, fun z hz => ?_⟩⟩
      rotate_left
      · simp only [List.mem_map, List.mem_range] at hz
        obtain ⟨j, hj, rfl⟩ := hz
        exact (hQ j hj).2.2.1 fun x hx => hL x (by
          rw [hd]
          simp only [DataW.weights, ht]
          exact List.mem_cons_of_mem _ (List.mem_append_left _ (weights_mem_all (List.mem_map.2 ⟨j, List.mem_range.2 hj, rfl⟩) hx)))
      have hsp : a.spot = none := by
        have := World.cell?_spot ((hQ 0 hp).2.2.2 0 hsz)
        simpa [Addr.add] using this
      obtain ⟨b, off, spot⟩ := a
      simp at hsp
      subst hsp
      refine ⟨by simpa using hp, b, off, cap, by simp, by simp; omega, ?_, fun k hk => ?_⟩
      · have := World.block_lt_of_cell? _ _ ((hQ 0 hp).2.2.2 0 hsz)
        simpa [Addr.add] using this
      · have hk' : k < len := by simpa using hk
        obtain ⟨e1, e2, _, e4⟩ := hQ k hk'
        refine ⟨(Q k).2, e1, by simpa [hk'] using e2, fun i hi => ?_⟩
        have := e4 i hi
        simp only [Addr.add_lit] at this
        exact this
    · obtain rfl : len = 0 := by omega
      exact ⟨[], .inl ⟨rfl, some a, cap, rfl⟩, fun _ => ⟨by simp, by simp⟩⟩

def Nest.of : List (Int × Int × Nest) → Nest
  | [] => .nil
  | (t, n, b) :: r => .cons t n b (Nest.of r)
theorem nest_of_items : ∀ l, (Nest.of l).items = l
  | [] => rfl
  | (t, n, b) :: r => by simp [Nest.of, Nest.items, nest_of_items r]
theorem nsized_of : ∀ (l : List (Int × Int × Nest)), l.length ≤ 17600000000000 → (∀ x ∈ l, NSized x.2.2) → NSized (Nest.of l)
  | [], _, _ => trivial
  | (t, n, b) :: r, h, hs => by
    simp only [List.length_cons] at h
    exact ⟨hs _ List.mem_cons_self, nsized_of r (by omega) (fun x hx => hs x (List.mem_cons_of_mem _ hx)), by rw [nest_of_items]; exact h⟩
theorem byte_loop : Try.prog.bytesOf 51 = 40 := by kernel_rfl
theorem cell_loops : Try.prog.cellsOf 30 = 1 := by kernel_rfl

set_option maxRecDepth 100000 in
theorem open_nest_in : ∀ (N fuel : Nat) (x : Value) (y : DataW H × List MemPlace), SizeOf.sizeOf y.1 < N → Trods enc W fuel 30 [x] y → ∃ l, HasNestD N W x l ∧ (Light Try.prog 30 y.1 → NSized l)
  | 0, _, _, _, h, _ => by omega
  | N + 1, fuel, x, y, hN, h => by
    obtain ⟨l, h1, h2⟩ := open_recs_in (α := Int × Int × Nest) (sz := 3) (R := fun w x cs => ∃ y, cs = [.int .i64 x.1, .int .i64 x.2.1, y] ∧ HasNestD N w y x.2.2) (Z := fun x => NSized x.2.2) Try.underlying30 (by kernel_rfl) (by decide) (fun fuel cs z hl hz hf => by
      obtain ⟨xs, n, _, rfl, _, hlen, hf⟩ := DataW.trod_struct Try.underlying51 hf
      match cs, hl, xs, hlen with
      | [x0, x1, x2], _, [y0, y1, y2], _ =>
        have g0 : Trods enc W n 3 [x0] y0 := by simpa [cell_int] using hf 0 _ rfl
        have g1 : Trods enc W n 3 [x1] y1 := by simpa [cell_int] using hf 1 _ rfl
        have g2 : Trods enc W n 30 [x2] y2 := by simpa [cell_loops] using hf 2 _ rfl
        obtain ⟨n0, rfl⟩ := int_at g0
        obtain ⟨n1, rfl⟩ := int_at g1
        have hs : SizeOf.sizeOf y2.1 < N := by
          have hm : y2.1 ∈ [y0, y1, y2].map (·.1) := by simp
          have := List.sizeOf_lt_of_mem hm
          simp only [DataW.agg.sizeOf_spec] at hz
          omega
        obtain ⟨b, b1, b2⟩ := open_nest_in N n x2 y2 hs g2
        exact ⟨(n0, n1, b), ⟨x2, rfl, b1⟩, fun hL => b2 (light_part Try.underlying51 (xs := [y0, y1, y2]) hL (i := 2) rfl rfl)⟩) h
    refine ⟨Nest.of l, ?_, fun hL => ?_⟩
    · show Recs W 3 _ x (Nest.of l).items
      rw [nest_of_items]
      exact h1
    · have h3 := h2 hL
      rw [byte_loop, reach_val] at h3
      exact nsized_of l (by omega) h3.2
/-- a nest that came in -/
theorem open_nest {v : Value} {d : DataW H} {p : List MemPlace} (hv : ∃ a len cap, v = .slice a len cap) (h : DataW.Trod enc Try.prog W 0 (fun _ => true) true 30 v d p) : ∃ D l, HasNestD D W v l ∧ (Light Try.prog 30 d → NSized l) := by
  obtain ⟨a, len, cap, rfl⟩ := hv
  obtain ⟨fuel, hf⟩ := h
  have hf' : Trods enc W fuel 30 [.slice a len cap] (d, p) := by simpa [Value.cells] using hf
  obtain ⟨l, h1, h2⟩ := open_nest_in (SizeOf.sizeOf d + 1) fuel _ (d, p) (by simp) hf'
  exact ⟨_, l, h1, h2⟩
end
end Go.Proofs.Ytbmbfifempkhgaa

namespace Go.Proofs.Ytbmbfifempkhgaa.emitFires
open Go.ChangeShapes Go.WideShapes Go.ChangeAt Go.RowKit
open Go.ChangeMaps (open_string shut_string)

theorem own : ownKnob Try.prog.godebug = none := by kernel_rfl
theorem laidOut : laidOutB Try.prog = true := by kernel_rfl

set_option maxRecDepth 100000 in
theorem contract (H : Type) (enc : TypeId × Value → H) (W : World) (base : Nat) (args : Array Value) (ds gs : List (DataW H)) (before : List MemPlace)
    (hval : ∀ (j : Nat) t v, Try.f8.params[j]? = some t → args[j]? = some v → Value.okWide Try.prog W .any base t v)
    (hW : DataW.Whole enc Try.prog Try.f8.params.toList Rows.emitFiresSpec.vars false W args.toList ds gs before) (hsz0 : (DataW.weightsEach Try.prog (Try.f8.params.toList ++ Rows.emitFiresSpec.plain.varTypes Try.prog) (ds ++ gs)).all (· ≤ reachBytes) = true) :
    Calls Try.prog 8 args W fun e W' => ∃ v, e = .returned v ∧ Rows.emitFiresSpec.post enc Try.prog Try.f8 false true false false W args v W' := by
  have hW' := hW
  obtain ⟨p, q, hA0, hV, rfl, hfz, hnd⟩ := hW
  have hA : DataW.TrodAll enc Try.prog W 0 (fun _ => true) true Try.f8.params.toList args.toList ds p := hA0
  rw [Try.params8] at hA hval
  obtain ⟨v0, vs0, d0, ds0, p0, q0, hargs, rfl, rfl, h0, r0⟩ := trodAll_cons hA
  obtain ⟨v1, vs1, d1, ds1, p1, q1, rfl, rfl, rfl, h1, r1⟩ := trodAll_cons r0
  obtain ⟨v2, vs2, d2, ds2, p2, q2, rfl, rfl, rfl, h2, r2⟩ := trodAll_cons r1
  obtain ⟨rfl, rfl, rfl⟩ := trodAll_nil r2
  obtain rfl : args = #[v0, v1, v2] := by cases args; simp_all
  obtain ⟨rfl, rfl⟩ := trodVars_none hV
  have hS : (DataW.weightsEach Try.prog [26, 29, 30] [d0, d1, d2]).all (· ≤ reachBytes) = true := hsz0
  have k0 := h0
  have lt0 : ∀ x ∈ p0, x.block < W.heap.size := by obtain ⟨m, hm⟩ := k0; exact DataW.trod_lt m _ _ _ hm
  have k1 := h1
  have lt1 : ∀ x ∈ p1, x.block < W.heap.size := by obtain ⟨m, hm⟩ := k1; exact DataW.trod_lt m _ _ _ hm
  have k2 := h2
  have lt2 : ∀ x ∈ p2, x.block < W.heap.size := by obtain ⟨m, hm⟩ := k2; exact DataW.trod_lt m _ _ _ hm
  have L0 : Light Try.prog 26 d0 := fun x hx => of_decide_eq_true (List.all_eq_true.1 hS _ (DataW.weights_mem_each (j := 0) rfl rfl x hx))
  obtain ⟨g0, i0, z0⟩ := open_graph (okWide_struct Try.underlying26 (hval 0 26 v0 rfl rfl)) h0
  have z0 := z0 L0
  have L1 : Light Try.prog 29 d1 := fun x hx => of_decide_eq_true (List.all_eq_true.1 hS _ (DataW.weights_mem_each (j := 1) rfl rfl x hx))
  obtain ⟨g1, i1, z1⟩ := open_plan (okWide_struct Try.underlying29 (hval 1 29 v1 rfl rfl)) h1
  have z1 := z1 L1
  have L2 : Light Try.prog 30 d2 := fun x hx => of_decide_eq_true (List.all_eq_true.1 hS _ (DataW.weights_mem_each (j := 2) rfl rfl x hx))
  obtain ⟨D2, l2, i2, z2⟩ := open_nest (okWide_slice Try.underlying30 (hval 2 30 v2 rfl rfl)) h2
  have z2 := z2 L2
  clear hA0
  refine (fires_all D2 W v0 v1 v2 g0 g1 l2 i0 i1 i2 z0.1 z0.2 z2 z1).mono fun e W' ⟨he, bel⟩ => ?_
  subst he
  exact ⟨_, rfl, _, _, _, [], _, [], hW', trodAll_mk1 (shut_bool Try.underlying4 _), (trodAll_cons_mk (Below.trod laidOut (by kernel_rfl) (of_decide_eq_true (by kernel_rfl)) k0 bel lt0) (trodAll_cons_mk (Below.trod laidOut (by kernel_rfl) (of_decide_eq_true (by kernel_rfl)) k1 bel lt1) (trodAll_cons_mk (Below.trod laidOut (by kernel_rfl) (of_decide_eq_true (by kernel_rfl)) k2 bel lt2) trodAll_mk0))), rfl, bel.frame _, fun h => by cases h⟩

set_option maxRecDepth 100000 in
theorem lifted (os : Os) (started : os.Started) (H : Type) (enc : TypeId × Value → H) :
    ReturnsInHanded {} Try.checked os 8 .any (Rows.emitFiresSpec.pre6 enc Try.prog Try.f8 Rows.emitFiresRow.domain false) (Rows.emitFiresSpec.post enc Try.prog Try.f8 false true false false) := by
  refine returnsInHanded_of_change_sized (C := Try.checked) own started (by kernel_rfl) Try.func8
    (ChangeSpec.witness6 (enc := enc) (C := Try.checked) false ⟨#[], #[.agg #[.string ByteArray.empty, .slice none 0 0, .slice none 0 0, .slice none 0 0, .slice none 0 0], .agg #[.slice none 0 0, .int .i64 0], .slice none 0 0], []⟩ 8 (by kernel_rfl) (by kernel_rfl) (by kernel_rfl) (by kernel_rfl)) ?_
  intro W base args ds gs before hval hW _ hsz0 _
  exact contract H enc W base args ds gs before hval hW hsz0

theorem proved : Rows.EmitFiresSaid :=
  OpenClaim.holds_of_wide 8 Try.f8 rfl rfl rfl rfl rfl rfl rfl ⟨rfl, rfl, rfl, rfl, rfl⟩ rfl rfl rfl rfl rfl (by kernel_rfl) Try.func8 (by kernel_rfl)
    (of_decide_eq_true (by kernel_rfl)) (by unfold Func.isWrapper; first | (rw [if_pos (by decide +kernel)]; kernel_rfl) | (rw [if_neg (by decide +kernel)]; exact ⟨rfl, rfl⟩))
    (fun os started H enc _ => lifted os started H enc)
end Go.Proofs.Ytbmbfifempkhgaa.emitFires
