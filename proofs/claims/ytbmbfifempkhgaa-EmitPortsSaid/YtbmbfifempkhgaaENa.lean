/- The small example of layer 21: its graph, plan, nest; awake. -/
import Derived.Test.YtbmbfifempkhgaaEMake
namespace Go.Proofs.Ytbmbfifempkhgaa
open Go.RowKit

def txt (b : UInt8) : ByteArray := { data := #[b] }
def smallG : GGraph := ⟨txt 103, [⟨txt 97, 2, [2]⟩, ⟨txt 98, 8, []⟩], [⟨0, 0, 1, 0, [7]⟩], [⟨txt 120, 0, 0⟩], [⟨txt 121, 1, 0⟩]⟩
def planG : GPlan := ⟨[⟨0, 3⟩], 3⟩
def rowN : Nest := .cons 1 0 .nil (.cons 2 1 .nil .nil)

def SmallRet (w : World) (e : Ending) (w' : World) : Prop := ∃ v, e = .returned v ∧ HasGraph w' v smallG ∧ Below w.heap.size w w'
def PlanRet (w : World) (e : Ending) (w' : World) : Prop := ∃ v, e = .returned v ∧ HasPlan w' v planG ∧ Below w.heap.size w w'
def NestRet (w : World) (e : Ending) (w' : World) : Prop := ∃ v, e = .returned v ∧ HasNestD 1 w' v rowN ∧ Below w.heap.size w w'

abbrev allocs (w : World) (os : List Obj) : World := os.foldl World.alloc w
theorem allocs_keep : ∀ (os : List Obj) (w : World) (b : Nat) (x : Obj), w.heap[b]? = some x → (allocs w os).heap[b]? = some x
  | [], _, _, _, h => h
  | o :: os, w, b, x, h => allocs_keep os (w.alloc o) b x (block_alloc h o)
theorem allocs_get : ∀ (os : List Obj) (w : World) (k : Nat) (o : Obj), os[k]? = some o → (allocs w os).heap[w.heap.size + k]? = some o
  | [], _, _, _, h => by simp at h
  | x :: os, w, 0, o, h => by
    have e : x = o := by simpa using h
    subst e
    exact allocs_keep os (w.alloc x) _ x (heap_alloc_new w x)
  | x :: os, w, k + 1, o, h => by
    have := allocs_get os (w.alloc x) k o (by simpa using h)
    rw [World.size_alloc, show w.heap.size + 1 + k = w.heap.size + (k + 1) by omega] at this
    exact this
theorem allocs_below : ∀ (os : List Obj) (w : World), Below w.heap.size w (allocs w os) ∧ w.heap.size ≤ (allocs w os).heap.size
  | [], w => ⟨Below.refl _ _, Nat.le_refl _⟩
  | o :: os, w => by
    have h := allocs_below os (w.alloc o)
    have h1 := below_alloc w o
    have h2 : w.heap.size ≤ (w.alloc o).heap.size := h1.size
    exact ⟨h1.trans (h.1.mono h2), Nat.le_trans h2 h.2⟩
theorem allocs_cell (w : World) (os : List Obj) (b i : Nat) {cs : Array Value} {t : TypeId} {v : Value} (h : os[b]? = some (.cells cs t (0, 0))) (hv : cs[i]? = some v) : (allocs w os).cell? ⟨w.heap.size + b, i, none⟩ = some v := cells_row _ _ (allocs_get os w b _ h) i v hv
theorem allocs_one (w : World) (os : List Obj) (b : Nat) {x : Int} {t : TypeId} (h : os[b]? = some (.cells #[.int .i64 x] t (0, 0))) : Has (allocs w os) (.slice (some ⟨w.heap.size + b, 0, none⟩) 1 1) (ivs [x]) :=
  .inr ⟨by simp, _, 0, 1, rfl, Nat.le_refl _, block_lt (allocs_get os w b _ h), rfl, fun k hk => by
    match k, hk with
    | 0, _ => exact allocs_cell w os b 0 h rfl⟩

set_option maxRecDepth 100000 in
theorem plan_ret (w : World) : Calls Try.prog 25 #[] w (PlanRet w) := by
  go_enter Try.func25, Try.ntmps25
  go_wp2
  refine bodyPost_ret_by (results_cell_row rfl _ _ _ _ _ _ _ rfl (allocs_get [.cells #[.slice (some ⟨w.heap.size + 1, 0, none⟩) 1 1, .int .i64 3] 29, .cells #[.int .i64 0, .int .i64 3] 70] w 0 _ rfl) Try.underlying29 rfl (by kernel_rfl)) rfl ?_
  refine ⟨_, rfl, ⟨_, rfl, ?_⟩, (allocs_below [_, _] w).1⟩
  refine .inr ⟨by decide, w.heap.size + 1, 0, 1, rfl, Nat.le_refl _, block_lt (allocs_get [_, .cells #[.int .i64 0, .int .i64 3] 70] w 1 _ rfl), fun k hk => ?_⟩
  have hk2 : k < 1 := hk
  obtain rfl : k = 0 := by omega
  refine ⟨_, rfl, rfl, fun i hi => ?_⟩
  match i, hi with
  | 0, _ => exact allocs_cell w [_, .cells #[.int .i64 0, .int .i64 3] 70] 1 0 rfl rfl
  | 1, _ => exact allocs_cell w [_, .cells #[.int .i64 0, .int .i64 3] 70] 1 1 rfl rfl
set_option maxRecDepth 100000 in
theorem nest_ret (w : World) : Calls Try.prog 26 #[] w (NestRet w) := by
  have hb := below_alloc w (.cells #[.int .i64 1, .int .i64 0, .slice none 0 0, .int .i64 2, .int .i64 1, .slice none 0 0] 51)
  have hX := heap_alloc_new w (.cells #[.int .i64 1, .int .i64 0, .slice none 0 0, .int .i64 2, .int .i64 1, .slice none 0 0] 51)
  have c := fun i v => cells_row _ _ hX i v
  go_enter Try.func26, Try.ntmps26
  go_wp2
  go_ret
  refine ⟨_, rfl, ?_, hb⟩
  refine .inr ⟨by decide, _, 0, 2, rfl, by decide, by simp, fun k hk => ?_⟩
  have hk2 : k < 2 := hk
  match k, hk2 with
  | 0, _ => exact ⟨[.int .i64 1, .int .i64 0, .slice none 0 0], rfl, ⟨_, rfl, rfl, _, _, rfl⟩, fun i hi => by match i, hi with | 0, _ => exact c 0 _ rfl | 1, _ => exact c 1 _ rfl | 2, _ => exact c 2 _ rfl⟩
  | 1, _ => exact ⟨[.int .i64 2, .int .i64 1, .slice none 0 0], rfl, ⟨_, rfl, rfl, _, _, rfl⟩, fun i hi => by match i, hi with | 0, _ => exact c 3 _ rfl | 1, _ => exact c 4 _ rfl | 2, _ => exact c 5 _ rfl⟩
def smallO (w : World) : List Obj :=
  [.cells #[.string (txt 103), .slice (some ⟨w.heap.size + 2, 0, none⟩) 2 2, .slice (some ⟨w.heap.size + 4, 0, none⟩) 1 1, .slice (some ⟨w.heap.size + 5, 0, none⟩) 1 1, .slice (some ⟨w.heap.size + 6, 0, none⟩) 1 1] 26, .cells #[.int .i64 2] 3, .cells #[.string (txt 97), .int .u8 2, .slice (some ⟨w.heap.size + 1, 0, none⟩) 1 1, .string (txt 98), .int .u8 8, .slice none 0 0] 57, .cells #[.int .i64 7] 3, .cells #[.int .i64 0, .int .i64 0, .int .i64 1, .int .i64 0, .slice (some ⟨w.heap.size + 3, 0, none⟩) 1 1] 63, .cells #[.string (txt 120), .int .i64 0, .int .i64 0] 65, .cells #[.string (txt 121), .int .i64 1, .int .i64 0] 65]
set_option maxRecDepth 100000 in
theorem small_has (w : World) : HasGraph (allocs w (smallO w)) (.agg #[.string (txt 103), .slice (some ⟨w.heap.size + 2, 0, none⟩) 2 2, .slice (some ⟨w.heap.size + 4, 0, none⟩) 1 1, .slice (some ⟨w.heap.size + 5, 0, none⟩) 1 1, .slice (some ⟨w.heap.size + 6, 0, none⟩) 1 1]) smallG := by
  refine ⟨_, _, _, _, rfl, ?_, ?_, ?_, ?_⟩
  · refine .inr ⟨by decide, w.heap.size + 2, 0, 2, rfl, Nat.le_refl _, block_lt (allocs_get (smallO w) w 2 _ rfl), fun k hk => ?_⟩
    match k, (show k < 2 from hk) with
    | 0, _ => exact ⟨_, rfl, ⟨_, rfl, allocs_one w (smallO w) 1 rfl⟩, fun i hi => by
        match i, hi with
        | 0, _ => exact allocs_cell w (smallO w) 2 0 rfl rfl
        | 1, _ => exact allocs_cell w (smallO w) 2 1 rfl rfl
        | 2, _ => exact allocs_cell w (smallO w) 2 2 rfl rfl⟩
    | 1, _ => exact ⟨[.string (txt 98), .int .u8 8, .slice none 0 0], rfl, ⟨_, rfl, .inl ⟨rfl, _, _, rfl⟩⟩, fun i hi => by
        match i, hi with
        | 0, _ => exact allocs_cell w (smallO w) 2 3 rfl rfl
        | 1, _ => exact allocs_cell w (smallO w) 2 4 rfl rfl
        | 2, _ => exact allocs_cell w (smallO w) 2 5 rfl rfl⟩
  · refine .inr ⟨by decide, w.heap.size + 4, 0, 1, rfl, Nat.le_refl _, block_lt (allocs_get (smallO w) w 4 _ rfl), fun k hk => ?_⟩
    match k, (show k < 1 from hk) with
    | 0, _ => exact ⟨_, rfl, ⟨_, rfl, allocs_one w (smallO w) 3 rfl⟩, fun i hi => by
        match i, hi with
        | 0, _ => exact allocs_cell w (smallO w) 4 0 rfl rfl
        | 1, _ => exact allocs_cell w (smallO w) 4 1 rfl rfl
        | 2, _ => exact allocs_cell w (smallO w) 4 2 rfl rfl
        | 3, _ => exact allocs_cell w (smallO w) 4 3 rfl rfl
        | 4, _ => exact allocs_cell w (smallO w) 4 4 rfl rfl⟩
  · refine .inr ⟨by decide, w.heap.size + 5, 0, 1, rfl, Nat.le_refl _, block_lt (allocs_get (smallO w) w 5 _ rfl), fun k hk => ?_⟩
    match k, (show k < 1 from hk) with
    | 0, _ => exact ⟨_, rfl, rfl, fun i hi => by
        match i, hi with
        | 0, _ => exact allocs_cell w (smallO w) 5 0 rfl rfl
        | 1, _ => exact allocs_cell w (smallO w) 5 1 rfl rfl
        | 2, _ => exact allocs_cell w (smallO w) 5 2 rfl rfl⟩
  · refine .inr ⟨by decide, w.heap.size + 6, 0, 1, rfl, Nat.le_refl _, block_lt (allocs_get (smallO w) w 6 _ rfl), fun k hk => ?_⟩
    match k, (show k < 1 from hk) with
    | 0, _ => exact ⟨_, rfl, rfl, fun i hi => by
        match i, hi with
        | 0, _ => exact allocs_cell w (smallO w) 6 0 rfl rfl
        | 1, _ => exact allocs_cell w (smallO w) 6 1 rfl rfl
        | 2, _ => exact allocs_cell w (smallO w) 6 2 rfl rfl⟩
set_option maxRecDepth 100000 in
theorem small_ret (w : World) : Calls Try.prog 24 #[] w (SmallRet w) := by
  go_enter Try.func24, Try.ntmps24
  go_wp2
  refine bodyPost_ret_by (results_cell_row rfl _ _ _ _ _ _ _ rfl (allocs_get (smallO w) w 0 _ rfl) Try.underlying26 rfl (by kernel_rfl)) rfl ?_
  exact ⟨_, rfl, small_has w, (allocs_below (smallO w) w).1⟩

abbrev leaf1 (t n : Int) : Nest := .cons t n .nil .nil
theorem mk_1 : makeE smallG planG rowN = 0 := by kernel_rfl
theorem mk_2 : makeE smallG planG (leaf1 1 2) = 100 := by kernel_rfl
theorem mk_3 : makeE smallG ⟨[], 0⟩ rowN = 210 := by kernel_rfl
theorem mk_4 : makeE smallG planG .nil = 0 := by kernel_rfl
theorem mk_5 : makeE smallG ⟨[⟨0, 0⟩], 0⟩ .nil = 210 := by kernel_rfl
theorem mk_6 : makeE smallG ⟨[⟨0, 3⟩], 1025⟩ rowN = 210 := by kernel_rfl
theorem mk_7 : makeE smallG ⟨[⟨1021, 3⟩], 1024⟩ rowN = 0 := by kernel_rfl
theorem mp_1 : makeP smallG planG rowN = ⟨3, 1, 1, 1, [⟨2, [2]⟩, ⟨8, []⟩], [⟨0, 3, [7]⟩], [⟨4, 0, 1⟩, ⟨5, 0, 0⟩, ⟨6, 0, 2⟩, ⟨1, 0, 2⟩, ⟨3, 0, 1⟩, ⟨5, 1, 0⟩, ⟨7, 0, 1⟩, ⟨2, 0, 4⟩, ⟨0, 0, 0⟩]⟩ := by kernel_rfl
theorem mp_4 : makeP smallG planG .nil = ⟨3, 0, 1, 1, [⟨2, [2]⟩, ⟨8, []⟩], [⟨0, 3, [7]⟩], [⟨0, 0, 0⟩]⟩ := by kernel_rfl
theorem mp_7 : (makeP smallG ⟨[⟨1021, 3⟩], 1024⟩ rowN).memory = 1024 := by kernel_rfl
theorem small_sized : GSized smallG := ⟨by decide, by decide, by decide, by decide⟩
end Go.Proofs.Ytbmbfifempkhgaa

/- awake of layer 21 answers true. -/
namespace Go.Proofs.Ytbmbfifempkhgaa
open Go.RowKit

theorem leaf_has (w : World) (t n : Int) : HasNestD 1 (w.alloc (.cells #[.int .i64 t, .int .i64 n, .slice none 0 0] 51)) (.slice (some ⟨w.heap.size, 0, none⟩) 1 1) (leaf1 t n) := by
  have hX := heap_alloc_new w (.cells #[.int .i64 t, .int .i64 n, .slice none 0 0] 51)
  refine .inr ⟨Nat.zero_lt_one, _, 0, 1, rfl, Nat.le_refl _, block_lt hX, fun k hk => ?_⟩
  match k, (show k < 1 from hk) with
  | 0, _ => exact ⟨[.int .i64 t, .int .i64 n, .slice none 0 0], rfl, ⟨_, rfl, rfl, _, _, rfl⟩, fun i hi => by
      match i, hi with
      | 0, _ => exact cells_row _ _ hX 0 _ rfl
      | 1, _ => exact cells_row _ _ hX 1 _ rfl
      | 2, _ => exact cells_row _ _ hX 2 _ rfl⟩
theorem nest_nil (D : Nat) (w : World) : HasNestD D w (.slice none 0 0) .nil := by
  cases D with
  | zero => exact ⟨rfl, _, _, rfl⟩
  | succ D => exact .inl ⟨rfl, _, _, rfl⟩
theorem leaf_sized (t n : Int) : NSized (leaf1 t n) := by simp [NSized, Nest.items]
theorem row_sized : NSized rowN := by simp [rowN, NSized, Nest.items]

/-- the call goes on from here -/
structure Then (w w' : World) : Prop where
  below : Below w.heap.size w w'
  size : w.heap.size ≤ w'.heap.size
theorem Then.refl (w : World) : Then w w := ⟨Below.refl _ _, Nat.le_refl _⟩
theorem Then.step {w w1 w2 : World} (h : Then w w1) (b : Below w1.heap.size w1 w2) : Then w w2 := ⟨h.below.trans (b.mono h.size), Nat.le_trans h.size b.size⟩

theorem HasProg.none {w : World} {v : Value} (h : HasProg w v .zero) : ∃ a x b y c z, v = .agg #[.int .i64 0, .int .i64 0, .int .i64 0, .int .i64 0, .slice a 0 x, .slice b 0 y, .slice c 0 z] := by
  obtain ⟨vp, vl, vo, rfl, rp, rl, ro⟩ := h
  obtain ⟨ap, cp, rfl⟩ := rp.slice
  obtain ⟨al, cl, rfl⟩ := rl.slice
  obtain ⟨ao, co, rfl⟩ := ro.slice
  exact ⟨_, _, _, _, _, _, rfl⟩



set_option maxRecDepth 100000 in
set_option maxHeartbeats 2000000 in
theorem awake_yes (w : World) : Calls Try.prog 19 #[] w (Tells (.bool true) w) := by
  have HT := Lib.hid (Then.refl w)
  go_enter Try.func19, Try.ntmps19
  go_wp2_with fail
  refine (small_ret _).mono ?_
  rintro e w1 ⟨vg, rfl, hg, hb⟩
  replace HT := Lib.hid (HT.out.step hb)
  have HG := Lib.hid hg
  clear hg hb
  go_wp2_with fail
  refine (plan_ret _).mono ?_
  rintro e w1 ⟨vp, rfl, hp, hb⟩
  replace HT := Lib.hid (HT.out.step hb)
  have HP := Lib.hid hp
  replace HG := Lib.hid (HG.out.below hb)
  clear hp hb
  go_wp2_with fail
  refine (nest_ret _).mono ?_
  rintro e w1 ⟨vn, rfl, hn, hb⟩
  replace HT := Lib.hid (HT.out.step hb)
  have HN := Lib.hid hn
  replace HP := Lib.hid (HP.out.below hb)
  replace HG := Lib.hid (HG.out.below hb)
  clear hn hb
  go_wp2_with fail
  refine (make_any 1 _ _ _ _ smallG planG rowN HG.out HP.out HN.out small_sized row_sized).mono ?_
  rintro e w4 ⟨v4, rfl, p4, hb⟩
  replace HT := Lib.hid (HT.out.step hb)
  clear hb HG HP HN
  rw [mk_1]
  rw [mp_1] at p4
  obtain ⟨vp, vl, vo, rfl, rp, rl, ro⟩ := p4
  obtain ⟨ap, cp, rfl⟩ := rp.slice
  obtain ⟨al, cl, rfl⟩ := rl.slice
  obtain ⟨ao, co, rfl⟩ := ro.slice
  have HRO := Lib.hid ro
  clear rp rl ro
  obtain ⟨B, hB⟩ : ∃ x, w4.heap.size = x := ⟨_, rfl⟩
  obtain ⟨OPS, hOPS⟩ : ∃ x : List GOp, [⟨4, 0, 1⟩, ⟨5, 0, 0⟩, ⟨6, 0, 2⟩, ⟨1, 0, 2⟩, ⟨3, 0, 1⟩, ⟨5, 1, 0⟩, ⟨7, 0, 1⟩, ⟨2, 0, 4⟩, ⟨0, 0, 0⟩] = x := ⟨_, rfl⟩
  have hl9 : OPS.length = 9 := by rw [← hOPS]; rfl
  simp only [] at HRO
  rw [hOPS] at HRO
  rw [hl9] at HRO
  have HOPS := Lib.hid hOPS
  clear hOPS hl9
  have hbX := below_alloc w4 (.cells #[.int .i64 3, .int .i64 1, .int .i64 1, .int .i64 1, .slice ap 2 cp, .slice al 1 cl, .slice ao 9 co] 39)
  have HB1 := Lib.hid (heap_alloc_new w4 (.cells #[.int .i64 3, .int .i64 1, .int .i64 1, .int .i64 1, .slice ap 2 cp, .slice al 1 cl, .slice ao 9 co] 39))
  replace HRO := Lib.hid (HRO.out.below hbX)
  replace HT := Lib.hid (HT.out.step hbX)
  rw [hB] at HB1
  clear hbX
  go_wp2_with fail
  clear hB
  refine (small_ret _).mono ?_
  rintro e w1 ⟨vg, rfl, hg, hb⟩
  replace HT := Lib.hid (HT.out.step hb)
  replace HB1 := Lib.hid ((hb.block _ (block_lt HB1.out)).trans HB1.out)
  replace HRO := Lib.hid (HRO.out.below hb)
  have HG := Lib.hid hg
  clear hg hb
  go_wp2_with fail
  refine (plan_ret _).mono ?_
  rintro e w1 ⟨vp, rfl, hp, hb⟩
  replace HT := Lib.hid (HT.out.step hb)
  replace HB1 := Lib.hid ((hb.block _ (block_lt HB1.out)).trans HB1.out)
  replace HRO := Lib.hid (HRO.out.below hb)
  have HP := Lib.hid hp
  replace HG := Lib.hid (HG.out.below hb)
  clear hp hb
  have hbL := below_alloc w1 (.cells #[.int .i64 1, .int .i64 2, .slice none 0 0] 51)
  have HL := Lib.hid (leaf_has w1 1 2)
  go_wp2_with fail
  obtain ⟨w2, hw2⟩ : ∃ x, w1.alloc (.cells #[.int .i64 1, .int .i64 2, .slice none 0 0] 51) = x := ⟨_, rfl⟩
  rw [hw2] at hbL HL ⊢
  clear hw2
  have hb := hbL
  replace HT := Lib.hid (HT.out.step hb)
  replace HB1 := Lib.hid ((hb.block _ (block_lt HB1.out)).trans HB1.out)
  replace HRO := Lib.hid (HRO.out.below hb)
  refine (make_any 1 w2 _ _ _ smallG planG (leaf1 1 2) (HG.out.below hbL) (HP.out.below hbL) HL.out small_sized (leaf_sized 1 2)).mono ?_
  clear hb hbL HG HP HL
  rintro e w4 ⟨v4, rfl, p4, hb⟩
  replace HT := Lib.hid (HT.out.step hb)
  replace HB1 := Lib.hid ((hb.block _ (block_lt HB1.out)).trans HB1.out)
  replace HRO := Lib.hid (HRO.out.below hb)
  rw [mk_2]
  rw [makeP, if_neg (by rw [mk_2]; decide)] at p4
  obtain ⟨ap2, cp2, al2, cl2, ao2, co2, rfl⟩ := p4.none
  clear p4 hb
  have hb := below_alloc w4 (.cells #[.int .i64 0, .int .i64 0, .int .i64 0, .int .i64 0, .slice ap2 0 cp2, .slice al2 0 cl2, .slice ao2 0 co2] 39)
  replace HT := Lib.hid (HT.out.step hb)
  replace HB1 := Lib.hid ((hb.block _ (block_lt HB1.out)).trans HB1.out)
  replace HRO := Lib.hid (HRO.out.below hb)
  clear hb
  go_wp2_with fail
  refine (small_ret _).mono ?_
  rintro e w1 ⟨vg, rfl, hg, hb⟩
  replace HT := Lib.hid (HT.out.step hb)
  replace HB1 := Lib.hid ((hb.block _ (block_lt HB1.out)).trans HB1.out)
  replace HRO := Lib.hid (HRO.out.below hb)
  have HG := Lib.hid hg
  clear hg hb
  go_wp2_with fail
  have HP : Hid (HasPlan w1 (.agg #[.slice none 0 0, .int .i64 0]) ⟨[], 0⟩) := Lib.hid ⟨_, rfl, .inl ⟨rfl, _, _, rfl⟩⟩
  refine (nest_ret _).mono ?_
  rintro e w1 ⟨vn, rfl, hn, hb⟩
  replace HT := Lib.hid (HT.out.step hb)
  replace HB1 := Lib.hid ((hb.block _ (block_lt HB1.out)).trans HB1.out)
  replace HRO := Lib.hid (HRO.out.below hb)
  have HN := Lib.hid hn
  replace HP := Lib.hid (HP.out.below hb)
  replace HG := Lib.hid (HG.out.below hb)
  clear hn hb
  go_wp2_with fail
  refine (make_any 1 _ _ _ _ smallG ⟨[], 0⟩ rowN HG.out HP.out HN.out small_sized row_sized).mono ?_
  clear HG HP HN
  rintro e w4 ⟨v4, rfl, p4, hb⟩
  replace HT := Lib.hid (HT.out.step hb)
  replace HB1 := Lib.hid ((hb.block _ (block_lt HB1.out)).trans HB1.out)
  replace HRO := Lib.hid (HRO.out.below hb)
  rw [mk_3]
  rw [makeP, if_neg (by rw [mk_3]; decide)] at p4
  obtain ⟨ap2, cp2, al2, cl2, ao2, co2, rfl⟩ := p4.none
  clear p4 hb
  have hb := below_alloc w4 (.cells #[.int .i64 0, .int .i64 0, .int .i64 0, .int .i64 0, .slice ap2 0 cp2, .slice al2 0 cl2, .slice ao2 0 co2] 39)
  replace HT := Lib.hid (HT.out.step hb)
  replace HB1 := Lib.hid ((hb.block _ (block_lt HB1.out)).trans HB1.out)
  replace HRO := Lib.hid (HRO.out.below hb)
  clear hb
  have b0 := cells_row _ _ HB1.out 0 _ rfl
  have b1 := cells_row _ _ HB1.out 1 _ rfl
  have b4 := cells_row _ _ HB1.out 4 _ rfl
  have b5 := cells_row _ _ HB1.out 5 _ rfl
  have b6 := cells_row _ _ HB1.out 6 _ rfl
  have hOP := HOPS.out
  subst hOP
  obtain ⟨-, hc9, ob, off, rfl, hops⟩ := HRO.out.at (k := 0) (Nat.zero_lt_succ _)
  have hci : (9 : Int) ≤ co := by omega
  obtain ⟨x1, x2, x3⟩ : (w4.alloc (.cells #[.int .i64 0, .int .i64 0, .int .i64 0, .int .i64 0, .slice ap2 0 cp2, .slice al2 0 cl2, .slice ao2 0 co2] 39)).cell? ⟨ob, off + 9, none⟩ = some (.int .u8 1) ∧ (w4.alloc (.cells #[.int .i64 0, .int .i64 0, .int .i64 0, .int .i64 0, .slice ap2 0 cp2, .slice al2 0 cl2, .slice ao2 0 co2] 39)).cell? ⟨ob, off + 9 + 1, none⟩ = some (.int .i64 0) ∧ (w4.alloc (.cells #[.int .i64 0, .int .i64 0, .int .i64 0, .int .i64 0, .slice ap2 0 cp2, .slice al2 0 cl2, .slice ao2 0 co2] 39)).cell? ⟨ob, off + 9 + 2, none⟩ = some (.int .i64 2) := hops 3 (by decide)
  obtain ⟨y1, y2, y3⟩ : (w4.alloc (.cells #[.int .i64 0, .int .i64 0, .int .i64 0, .int .i64 0, .slice ap2 0 cp2, .slice al2 0 cl2, .slice ao2 0 co2] 39)).cell? ⟨ob, off + 21, none⟩ = some (.int .u8 2) ∧ (w4.alloc (.cells #[.int .i64 0, .int .i64 0, .int .i64 0, .int .i64 0, .slice ap2 0 cp2, .slice al2 0 cl2, .slice ao2 0 co2] 39)).cell? ⟨ob, off + 21 + 1, none⟩ = some (.int .i64 0) ∧ (w4.alloc (.cells #[.int .i64 0, .int .i64 0, .int .i64 0, .int .i64 0, .slice ap2 0 cp2, .slice al2 0 cl2, .slice ao2 0 co2] 39)).cell? ⟨ob, off + 21 + 2, none⟩ = some (.int .i64 4) := hops 7 (by decide)
  obtain ⟨z1, z2, z3⟩ : (w4.alloc (.cells #[.int .i64 0, .int .i64 0, .int .i64 0, .int .i64 0, .slice ap2 0 cp2, .slice al2 0 cl2, .slice ao2 0 co2] 39)).cell? ⟨ob, off + 6, none⟩ = some (.int .u8 6) ∧ (w4.alloc (.cells #[.int .i64 0, .int .i64 0, .int .i64 0, .int .i64 0, .slice ap2 0 cp2, .slice al2 0 cl2, .slice ao2 0 co2] 39)).cell? ⟨ob, off + 6 + 1, none⟩ = some (.int .i64 0) ∧ (w4.alloc (.cells #[.int .i64 0, .int .i64 0, .int .i64 0, .int .i64 0, .slice ap2 0 cp2, .slice al2 0 cl2, .slice ao2 0 co2] 39)).cell? ⟨ob, off + 6 + 2, none⟩ = some (.int .i64 2) := hops 2 (by decide)
  clear hops
  go_wp2
  go_ret
  exact ⟨rfl, HT.out.below⟩
end Go.Proofs.Ytbmbfifempkhgaa
