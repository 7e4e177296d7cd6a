/- The reference's queue: New, Put, Take, Room. -/
import Derived.Test.YtifhnealecndnaaW15
import Derived.Test.YtifhnealecndnaaLex2
namespace Go.Proofs.Ytifhnealecndnaa
open Go.RowKit

/-- v is a slice that holds the ints l, in a block of which F does not hold -/
def LstAt (w : World) (v : Value) (l : List Int) (F : Nat → Prop) : Prop :=
  (l = [] ∧ ∃ ao cap, v = .slice ao 0 cap) ∨
    (0 < l.length ∧ ∃ b off cap, v = .slice (some ⟨b, off, none⟩) l.length cap ∧ b < w.heap.size ∧ ¬ F b ∧ l.length ≤ cap ∧ ∀ k, k < l.length → w.cell? ⟨b, off + k, none⟩ = some (.int .i64 (l[k]?.getD 0)))

theorem LstAt.has {w : World} {v : Value} {l : List Int} {F : Nat → Prop} (h : LstAt w v l F) : HasInts w v l := by
  rcases h with h | ⟨hp, b, off, cap, rfl, hb, _, _, hc⟩
  · exact .inl h
  · exact .inr ⟨hp, b, off, cap, rfl, hb, hc⟩

theorem LstAt.mods {w w' : World} {v : Value} {l : List Int} {F G : Nat → Prop} (h : LstAt w v l F) (hm : Mods G w w') (hG : ∀ k, k < w.heap.size → G k → F k) {F' : Nat → Prop} (hF : ∀ k, k < w.heap.size → F' k → F k) : LstAt w' v l F' := by
  rcases h with h | ⟨hp, b, off, cap, rfl, hb, hn, hl, hc⟩
  · exact .inl h
  · refine .inr ⟨hp, b, off, cap, rfl, Nat.lt_of_lt_of_le hb hm.size, fun f => hn (hF _ hb f), hl, fun k hk => ?_⟩
    rw [hm.cell (p := ⟨b, off + k, none⟩) hb (fun g => hn (hG _ hb g))]
    exact hc k hk

theorem lst_of_owns {w : World} {base : Nat} {v : Value} {l : List Int} {F : Nat → Prop} (h : w.ownsRow base 3 1 v l.length (l.map (Value.int .i64))) (hF : ∀ k, v.ownBlock = some k → ¬ F k) : LstAt w v l F := by
  by_cases hp : 0 < l.length
  · obtain ⟨sa, cap, rfl⟩ := owns_slice h
    obtain ⟨_, hc, g, _, rfl, hcl, _, hg⟩ := owns_cell h (by simpa using hp)
    exact .inr ⟨hp, g, 0, cap, rfl, hg, hF g rfl, hc, fun k hk => by have := hcl k (.int .i64 (l[k]?.getD 0)) (by simp [hk]); simpa using this⟩
  · obtain rfl : l = [] := List.eq_nil_of_length_eq_zero (by omega)
    obtain ⟨sa, cap, rfl⟩ := owns_slice h
    exact .inl ⟨rfl, sa, cap, rfl⟩

theorem set2_cell {w : World} {B i j : Nat} {u v : Value} {p : Addr} (h : p.block ≠ B) : ((w.setCell ⟨B, i, none⟩ u).setCell ⟨B, j, none⟩ v).drew.cell? p = w.cell? p :=
  World.cell?_of_block (w := w) (show ((w.setCell ⟨B, i, none⟩ u).setCell ⟨B, j, none⟩ v).heap[p.block]? = _ by rw [Below.heap_setCell _ _ _ _ h, Below.heap_setCell _ _ _ _ h])

theorem below_mods {w w' : World} (h : Mods (fun _ => False) w w') : Below w.heap.size w w' := h.below (Nat.le_refl _) (fun _ _ h => h)

set_option maxHeartbeats 400000 in
theorem rnew_no (w : World) (C : Int) (v : Value) (h : C < 0) :
    Calls Try.prog 16 #[.int .i64 C, v] w fun e w' => e = .returned (.tuple #[.agg #[.int .i64 0, .slice none 0 0], .int .i64 240]) ∧ Below w.heap.size w w' := by
  go_enter Try.func16, Try.ntmps16
  go_wp2
  refine bodyPost_ret (v := .tuple #[.agg #[.int .i64 0, .slice none 0 0], .int .i64 240]) (by simp [results, Try.results16, go_sem]) rfl ⟨rfl, below_mods ?_⟩
  repeat (first | exact Mods.refl _ _ | refine Mods.setCell ?_ (by simp) _ | refine Mods.alloc ?_ _ | refine Mods.drewN ?_ _ | refine Mods.drew ?_)

set_option maxHeartbeats 400000 in
theorem rnew_yes (w : World) (C : Int) (zs : List Int) (ao : Option Addr) (zc : Nat) (hC : 0 ≤ C) (hz : zs.length ≤ 17600000000000) (hnone : ao = none → zs.length = 0) (hcz : ∀ ad, ao = some ad → ∀ j u, (zs.map (Value.int .i64))[j]? = some u → w.cell? (ad.add j) = some u) :
    Calls Try.prog 16 #[.int .i64 C, .slice ao zs.length zc] w fun e w' => ∃ v, e = .returned (.tuple #[.agg #[.int .i64 C, v], .int .i64 0]) ∧ w'.ownsRow w.heap.size 3 1 v zs.length (zs.map (Value.int .i64)) ∧ Below w.heap.size w w' := by
  obtain ⟨i0, hi, hz0, hz1, hz2⟩ := info_parts info3
  have HZ := Lib.hid hz
  have Hnone := Lib.hid hnone
  have Hcz := Lib.hid hcz
  clear hz hnone hcz
  go_enter Try.func16, Try.ntmps16
  go_wp2_with (at_builtin; refine stop_here ?_)
  refine go_on ?_
  refine wpList_app rfl _ _ 22 rfl w.heap.size 3 i0 _ 1 8 Try.underlying22 hi hz0 hz1 hz2 rfl (.slice none 0 0) 0 [] rfl (World.ownsRow_nil _ _ _ _) ao zs.length zc (zs.map (Value.int .i64)) rfl (by simp) Hnone.out (fun ad had j u hu => ca (Hcz.out ad had j u hu)) (ints_one zs) (by have := HZ.out; unfold maxLen; omega) (grow_ok (by have := HZ.out; omega)) (by simp) ?_
  intro v' w2 g1 g20 _ g4
  have g2 : (w.alloc (.cells #[.int .i64 0, .slice none 0 0] 41)).grownBy w2 (Value.slice none 0 0).ownBlock := ⟨g20.os, g20.tape, g20.output, g20.size, g20.block⟩
  have hm2 : Mods (fun _ => False) w w2 := ((Mods.refl (fun _ => False) w).alloc _).grown g2 (fun k hk _ => by simp [Value.ownBlock] at hk)
  have hT : w2.heap[w.heap.size]? = some (.cells #[.int .i64 0, .slice none 0 0] 41 (0, 0)) := block_grown (heap_alloc_new w _) g2 (by simp [Value.ownBlock])
  simp only [Nat.zero_add, List.nil_append] at g1
  obtain ⟨sa, ca', rfl⟩ := owns_slice g1
  have c0 := cells_row w2 _ hT 0 (.int .i64 0) rfl
  have c1 := cells_row w2 _ hT 1 (.slice none 0 0) rfl
  have f0 := frozen_of_block hT 0
  have f1 := frozen_of_block hT 1
  have hlt := block_lt hT
  have g1' := ownsRow_setCell_other (a := ⟨w.heap.size, 0, none⟩) g1 (fun e => by rcases g4 with g4 | g4; rw [g4] at e; simp [Value.ownBlock] at e; rw [g4] at e; have := Option.some.inj e; simp at this) (.int .i64 C)
  have g1'' := ownsRow_setCell_other (a := ⟨w.heap.size, 1, none⟩) g1' (fun e => by rcases g4 with g4 | g4; rw [g4] at e; simp [Value.ownBlock] at e; rw [g4] at e; have := Option.some.inj e; simp at this) (.slice sa zs.length ca')
  have hb := below_mods ((hm2.setCell (p := ⟨w.heap.size, 0, none⟩) (by simp) (.int .i64 C)).setCell (p := ⟨w.heap.size, 1, none⟩) (by simp) (.slice sa zs.length ca'))
  clear g20 g2 g4 g1 g1'
  go_wp2
  refine bodyPost_ret (v := .tuple #[.agg #[.int .i64 C, .slice sa zs.length ca'], .int .i64 0]) (by simp [results, Try.results16, go_sem, c0, c1]) rfl ⟨_, rfl, g1'', hb⟩

set_option maxHeartbeats 400000 in
theorem rput_no (w : World) (C X : Int) (a : Option Addr) (n c : Nat) (h : C ≤ (n : Int)) (hn : n ≤ 27000000000000) :
    Calls Try.prog 19 #[.agg #[.int .i64 C, .slice a n c], .int .i64 X] w fun e w' => e = .returned (.tuple #[.agg #[.int .i64 C, .slice a n c], .bool false]) ∧ Below w.heap.size w w' := by
  have HN := Lib.hid hn
  clear hn
  go_enter Try.func19, Try.ntmps19
  go_wp2
  refine bodyPost_ret (v := .tuple #[.agg #[.int .i64 C, .slice a n c], .bool false]) (by simp [results, Try.results19, go_sem]) rfl ⟨rfl, below_mods ?_⟩
  repeat (first | exact Mods.refl _ _ | refine Mods.setCell ?_ (by simp) _ | refine Mods.alloc ?_ _ | refine Mods.drewN ?_ _ | refine Mods.drew ?_)

set_option maxHeartbeats 400000 in
theorem rtake_nil (w : World) (C : Int) (a : Option Addr) (c : Nat) :
    Calls Try.prog 22 #[.agg #[.int .i64 C, .slice a 0 c]] w fun e w' => e = .returned (.tuple #[.agg #[.int .i64 C, .slice a 0 c], .int .i64 0, .bool false]) ∧ Below w.heap.size w w' := by
  go_enter Try.func22, Try.ntmps22
  go_wp2
  refine bodyPost_ret (v := .tuple #[.agg #[.int .i64 C, .slice a 0 c], .int .i64 0, .bool false]) (by simp [results, Try.results22, go_sem]) rfl ⟨rfl, below_mods ?_⟩
  repeat (first | exact Mods.refl _ _ | refine Mods.setCell ?_ (by simp) _ | refine Mods.alloc ?_ _ | refine Mods.drewN ?_ _ | refine Mods.drew ?_)

set_option maxHeartbeats 400000 in
theorem rroom_any (w : World) (C : Int) (a : Option Addr) (n c : Nat) (hC : 0 ≤ C) (hC' : C ≤ 9223372036854775807) (hn : n ≤ 27000000000000) :
    Calls Try.prog 25 #[.agg #[.int .i64 C, .slice a n c]] w fun e w' => e = .returned (.int .i64 (max 0 (C - (n : Int)))) ∧ Below w.heap.size w w' := by
  by_cases h : C ≤ (n : Int)
  · have HN := Lib.hid hn
    clear hn
    go_enter Try.func25, Try.ntmps25
    go_wp2
    go_ret
    exact ⟨ret_int (by omega), below_mods (by repeat (first | exact Mods.refl _ _ | refine Mods.setCell ?_ (by simp) _ | refine Mods.alloc ?_ _ | refine Mods.drewN ?_ _ | refine Mods.drew ?_))⟩
  · have h' : (n : Int) < C := by omega
    go_enter Try.func25, Try.ntmps25
    go_wp2
    go_ret
    exact ⟨ret_int (by omega), below_mods (by repeat (first | exact Mods.refl _ _ | refine Mods.setCell ?_ (by simp) _ | refine Mods.alloc ?_ _ | refine Mods.drewN ?_ _ | refine Mods.drew ?_))⟩

set_option maxRecDepth 100000 in
set_option maxHeartbeats 800000 in
theorem rtake_one (w : World) (C x : Int) (b off c m : Nat) (hm : m ≤ 27000000000000) (h0 : 0 < m) (hmc : m ≤ c) (hc : w.cell? ⟨b, off, none⟩ = some (.int .i64 x)) :
    Calls Try.prog 22 #[.agg #[.int .i64 C, .slice (some ⟨b, off, none⟩) m c]] w fun e w' => (∃ off', e = .returned (.tuple #[.agg #[.int .i64 C, .slice (some ⟨b, off', none⟩) (m - 1) (c - 1)], .int .i64 x, .bool true]) ∧ (1 < m → off' = off + 1)) ∧ Below w.heap.size w w' := by
  have HM := Lib.hid hm
  have h0i : (0 : Int) < m := by omega
  have h1i : (1 : Int) ≤ m := by omega
  have hne : ¬ (m : Int) = 0 := by omega
  have hmci : (m : Int) ≤ c := by omega
  have hcc := ca (o := .cells #[.int .i64 C, .slice (some ⟨b, off, none⟩) m c] 41) hc
  have hcc2 := ca (o := .cells #[.int .i64 0, .slice none 0 0] 41) hcc
  clear hm
  go_enter Try.func22, Try.ntmps22
  go_wp2
  have hQ := heap_alloc_new w (.cells #[.int .i64 C, .slice (some ⟨b, off, none⟩) m c] 41)
  have hQ2 := block_alloc hQ (.cells #[.int .i64 0, .slice none 0 0] 41)
  have hT : ((w.alloc (.cells #[.int .i64 C, .slice (some ⟨b, off, none⟩) m c] 41)).alloc (.cells #[.int .i64 0, .slice none 0 0] 41)).heap[w.heap.size + 1]? = some (.cells #[.int .i64 0, .slice none 0 0] 41 (0, 0)) := by have := heap_alloc_new (w.alloc (.cells #[.int .i64 C, .slice (some ⟨b, off, none⟩) m c] 41)) (.cells #[.int .i64 0, .slice none 0 0] 41); simpa using this
  have hbw : b < w.heap.size := World.block_lt_of_cell? _ _ hc
  have hm2 : Mods (fun _ => False) w ((w.alloc (.cells #[.int .i64 C, .slice (some ⟨b, off, none⟩) m c] 41)).alloc (.cells #[.int .i64 0, .slice none 0 0] 41)) := ((Mods.refl (fun _ => False) w).alloc _).alloc _
  generalize hw2 : (w.alloc (.cells #[.int .i64 C, .slice (some ⟨b, off, none⟩) m c] 41)).alloc (.cells #[.int .i64 0, .slice none 0 0] 41) = w2 at *
  have q0 := cells_row w2 _ hQ2 0 (.int .i64 C) rfl
  have q1 := cells_row w2 _ hQ2 1 (.slice (some ⟨b, off, none⟩) m c) rfl
  have t0 := cells_row w2 _ hT 0 (.int .i64 0) rfl
  have t1 := cells_row w2 _ hT 1 (.slice none 0 0) rfl
  have f0 := frozen_of_block hT 0
  have f1 := frozen_of_block hT 1
  clear hcc hw2
  by_cases hc1 : c = 1
  · subst hc1
    obtain rfl : m = 1 := by omega
    refine wp_region_lex1 (fun w' => w'.cell? ⟨w.heap.size, 0, none⟩ = some (.int .i64 C) ∧ w'.cell? ⟨w.heap.size, 1, none⟩ = some (.slice (some ⟨b, off, none⟩) 1 1) ∧ w'.cell? ⟨b, off, none⟩ = some (.int .i64 x)) [0, 1, 2, 3, 4, 5, 6, 7, 8, 9] [] 10 [11, 12] (by kernel_rfl) (by kernel_rfl) (by kernel_rfl) rfl (fun _ _ hx h => ⟨hx.cell h.1, hx.cell h.2.1, hx.cell h.2.2⟩) ⟨q0, q1, hcc2⟩ ?_
    intro Q' hQ'
    simp only [pickOps, List.flatMap_cons, List.flatMap_nil, List.drop_succ_cons, List.drop_zero, List.take_succ_cons, List.take_zero, List.cons_append, List.nil_append, List.append_nil]
    repeat (first
      | (refine wpReads_skip (by rfl) ?_; (try simp only [Act.put, List.setIfInBounds_toArray, List.set_cons_zero, List.set_cons_succ]))
      | (refine wpReads_cons ?_ (by rfl) (by rfl) ?_ ?_; rotate_left; (intro wz hz; (try dsimp only at hz); go_simp; try with_reducible rfl); (try simp only [Act.put, List.setIfInBounds_toArray, List.set_cons_zero, List.set_cons_succ]))
      | (refine wpReads_any ?_ (by rfl) ?_ ?_; rotate_left; (intro wz; go_simp; try with_reducible rfl); (try simp only [Act.put, List.setIfInBounds_toArray, List.set_cons_zero, List.set_cons_succ])))
    refine wpReads_nil ?_
    go_wp2
    refine ⟨⟨?_, ?_, ?_⟩, ?_⟩
    · exact (set2_cell (by simp)).trans q0
    · exact (set2_cell (by simp)).trans q1
    · exact (set2_cell (by show b ≠ _; omega)).trans hcc2
    go_wp2
    refine bodyPost_ret (v := .tuple #[.agg #[.int .i64 C, .slice (some ⟨b, off, none⟩) 0 0], .int .i64 x, .bool true]) (by simp [results, Try.results22, go_sem, t0, t1]) rfl ⟨⟨off, rfl, by omega⟩, below_mods ?_⟩
    exact ((hm2.setCell (p := ⟨w.heap.size + 1, 0, none⟩) (by simp) _).setCell (p := ⟨w.heap.size + 1, 1, none⟩) (by simp) _).drew
  · have hc1i : ¬ (c : Int) = 1 := by omega
    refine wp_region_lex1 (fun w' => w'.cell? ⟨w.heap.size, 0, none⟩ = some (.int .i64 C) ∧ w'.cell? ⟨w.heap.size, 1, none⟩ = some (.slice (some ⟨b, off, none⟩) m c) ∧ w'.cell? ⟨b, off, none⟩ = some (.int .i64 x)) [0, 1, 2, 3, 4, 5, 6, 7, 8, 9] [] 10 [11, 12] (by kernel_rfl) (by kernel_rfl) (by kernel_rfl) rfl (fun _ _ hx h => ⟨hx.cell h.1, hx.cell h.2.1, hx.cell h.2.2⟩) ⟨q0, q1, hcc2⟩ ?_
    intro Q' hQ'
    simp only [pickOps, List.flatMap_cons, List.flatMap_nil, List.drop_succ_cons, List.drop_zero, List.take_succ_cons, List.take_zero, List.cons_append, List.nil_append, List.append_nil]
    repeat (first
      | (refine wpReads_skip (by rfl) ?_; (try simp only [Act.put, List.setIfInBounds_toArray, List.set_cons_zero, List.set_cons_succ]))
      | (refine wpReads_cons ?_ (by rfl) (by rfl) ?_ ?_; rotate_left; (intro wz hz; (try dsimp only at hz); go_simp; try with_reducible rfl); (try simp only [Act.put, List.setIfInBounds_toArray, List.set_cons_zero, List.set_cons_succ]))
      | (refine wpReads_any ?_ (by rfl) ?_ ?_; rotate_left; (intro wz; go_simp; try with_reducible rfl); (try simp only [Act.put, List.setIfInBounds_toArray, List.set_cons_zero, List.set_cons_succ])))
    refine wpReads_nil ?_
    go_wp2
    refine ⟨⟨?_, ?_, ?_⟩, ?_⟩
    · exact (set2_cell (by simp)).trans q0
    · exact (set2_cell (by simp)).trans q1
    · exact (set2_cell (by show b ≠ _; omega)).trans hcc2
    go_wp2
    refine bodyPost_ret (v := .tuple #[.agg #[.int .i64 C, .slice (some ⟨b, off + 1, none⟩) (m - 1) (c - 1)], .int .i64 x, .bool true]) (by simp [results, Try.results22, go_sem, t0, t1]) rfl ⟨⟨off + 1, rfl, fun _ => rfl⟩, below_mods ?_⟩
    exact ((hm2.setCell (p := ⟨w.heap.size + 1, 0, none⟩) (by simp) _).setCell (p := ⟨w.heap.size + 1, 1, none⟩) (by simp) _).drew

set_option maxHeartbeats 800000 in
theorem rput_yes (w : World) (C X : Int) (a : Option Addr) (c : Nat) (l : List Int) (h : (l.length : Int) < C) (hn : l.length < 27000000000000) (hnone : a = none → l.length = 0) (hcz : ∀ ad, a = some ad → ∀ j u, (l.map (Value.int .i64))[j]? = some u → w.cell? (ad.add j) = some u) :
    Calls Try.prog 19 #[.agg #[.int .i64 C, .slice a l.length c], .int .i64 X] w fun e w' => ∃ v, e = .returned (.tuple #[.agg #[.int .i64 C, v], .bool true]) ∧ w'.ownsRow w.heap.size 3 1 v (l ++ [X]).length ((l ++ [X]).map (Value.int .i64)) ∧ Below w.heap.size w w' := by
  obtain ⟨i0, hi, hz0, hz1, hz2⟩ := info_parts info3
  have HN := Lib.hid hn
  have Hnone := Lib.hid hnone
  have Hcz := Lib.hid hcz
  clear hn hnone hcz
  go_enter Try.func19, Try.ntmps19
  go_wp2_with (at_builtin; refine stop_here ?_)
  refine go_on ?_
  refine wpList_app rfl _ _ 22 rfl w.heap.size 3 i0 _ 1 8 Try.underlying22 hi hz0 hz1 hz2 rfl (.slice none 0 0) 0 [] rfl (World.ownsRow_nil _ _ _ _) a l.length c (l.map (Value.int .i64)) rfl (by simp) Hnone.out (fun ad had j u hu => ca (ca (Hcz.out ad had j u hu))) (ints_one l) (by have := HN.out; unfold maxLen; omega) (grow_ok (by have := HN.out; omega)) (by simp; omega) ?_
  intro v' w2 g1 g20 _ g4
  have g2 : ((w.alloc (.cells #[.int .i64 C, .slice a l.length c] 41)).alloc (.cells #[.int .i64 0, .slice none 0 0] 41)).grownBy w2 (Value.slice none 0 0).ownBlock := ⟨g20.os, g20.tape, g20.output, g20.size, g20.block⟩
  have hm2 : Mods (fun _ => False) w w2 := (((Mods.refl (fun _ => False) w).alloc _).alloc _).grown g2 (fun k hk _ => by simp [Value.ownBlock] at hk)
  have hQ : w2.heap[w.heap.size]? = some (.cells #[.int .i64 C, .slice a l.length c] 41 (0, 0)) := block_grown (block_alloc (heap_alloc_new w _) _) g2 (by simp [Value.ownBlock])
  have hT : w2.heap[w.heap.size + 1]? = some (.cells #[.int .i64 0, .slice none 0 0] 41 (0, 0)) := block_grown (by have := heap_alloc_new (w.alloc (.cells #[.int .i64 C, .slice a l.length c] 41)) (.cells #[.int .i64 0, .slice none 0 0] 41); simpa using this) g2 (by simp [Value.ownBlock])
  simp only [Nat.zero_add, List.nil_append] at g1
  obtain ⟨sa, ca', rfl⟩ := owns_slice g1
  have q0 := cells_row w2 _ hQ 0 (.int .i64 C) rfl
  have q1 := cells_row w2 _ hQ 1 (.slice a l.length c) rfl
  have hs2 := hm2.size
  have hsA : w.heap.size + 2 ≤ w2.heap.size := by have := g2.size; simpa using this
  have nA : ∀ k, k < w.heap.size + 2 → (Value.slice sa l.length ca').ownBlock ≠ some k := fun k hk e => by
    rcases g4 with g4 | g4
    · rw [g4] at e; simp [Value.ownBlock] at e
    · rw [g4] at e; have := Option.some.inj e; simp at this; omega
  clear g20 g2 g4
  go_wp2_with (at_builtin; refine stop_here ?_)
  refine go_on ?_
  refine wp_region_lex1 (fun w' => w'.cell? ⟨w.heap.size, 0, none⟩ = some (.int .i64 C)) [0, 1, 2, 3] [4] 5 [6, 7, 8] (by kernel_rfl) (by kernel_rfl) (by kernel_rfl) rfl (fun _ _ hx h => hx.cell h) q0 ?_
  intro Q' hQ'
  simp only [pickOps, List.flatMap_cons, List.flatMap_nil, List.drop_succ_cons, List.drop_zero, List.take_succ_cons, List.take_zero, List.cons_append, List.nil_append, List.append_nil]
  repeat (first
    | (refine wpReads_skip (by rfl) ?_; (try simp only [Act.put, List.setIfInBounds_toArray, List.set_cons_zero, List.set_cons_succ]))
    | (refine wpReads_cons ?_ (by rfl) (by rfl) ?_ ?_; rotate_left; (intro wz hz; (try dsimp only at hz); go_simp; try with_reducible rfl); (try simp only [Act.put, List.setIfInBounds_toArray, List.set_cons_zero, List.set_cons_succ]))
    | (refine wpReads_any ?_ (by rfl) ?_ ?_; rotate_left; (intro wz; go_simp; try with_reducible rfl); (try simp only [Act.put, List.setIfInBounds_toArray, List.set_cons_zero, List.set_cons_succ])))
  refine wpReads_nil ?_
  refine wpList_plain rfl fun K hK => ?_
  go_simp
  refine hK _ _ ?_
  clear hK K
  have hb2 : w.heap.size ≤ (w2.drew).heap.size := hs2
  have g1d : (w2.drew).ownsRow w.heap.size 3 1 (.slice sa l.length ca') l.length (l.map (Value.int .i64)) := g1
  refine wpList_app rfl _ _ 22 rfl w.heap.size 3 i0 _ 1 8 Try.underlying22 hi hz0 hz1 hz2 rfl (.slice sa l.length ca') l.length _ rfl (g1d.alloc (.cells #[.int .i64 X] 3)) (some ⟨w2.heap.size, 0, none⟩) 1 1 [.int .i64 X] rfl rfl (fun h => by cases h) (news_alloc w2.drew [.int .i64 X] 3) (by simp [Value.oneCell']) (by have := HN.out; unfold maxLen; omega) (grow_ok (by have := HN.out; omega)) (size_le_alloc hb2 _) ?_
  intro v5 w5 k1 k20 _ k4
  have k2 : (w2.drew.alloc (.cells #[.int .i64 X] 3)).grownBy w5 (Value.slice sa l.length ca').ownBlock := ⟨k20.os, k20.tape, k20.output, k20.size, k20.block⟩
  obtain ⟨sb, cb, rfl⟩ := owns_slice k1
  have hT5 : w5.heap[w.heap.size + 1]? = some (.cells #[.int .i64 0, .slice none 0 0] 41 (0, 0)) := block_grown (block_alloc (w := w2.drew) hT _) k2 (nA _ (by omega))
  have hm5 : Mods (fun _ => False) w w5 := ((hm2.drew).alloc _).grown k2 (fun k hk hlt => nA k (by omega) hk)
  have n5 : ∀ k, k < w.heap.size + 2 → (Value.slice sb (l.length + 1) cb).ownBlock ≠ some k := fun k hk e => by
    rcases k4 with k4 | k4
    · rw [k4] at e; exact nA k hk e
    · rw [k4] at e; have := Option.some.inj e; simp at this; have : w2.drew.heap.size = w2.heap.size := rfl; omega
  have c0 := cells_row w5 _ hT5 0 (.int .i64 0) rfl
  have c1 := cells_row w5 _ hT5 1 (.slice none 0 0) rfl
  have f0 := frozen_of_block hT5 0
  have f1 := frozen_of_block hT5 1
  have hlt := block_lt hT5
  have k1' := ownsRow_setCell_other (a := ⟨w.heap.size + 1, 0, none⟩) k1 (n5 _ (by show w.heap.size + 1 < _; omega)) (.int .i64 C)
  have k1'' := ownsRow_setCell_other (a := ⟨w.heap.size + 1, 1, none⟩) k1' (n5 _ (by show w.heap.size + 1 < _; omega)) (.slice sb (l.length + 1) cb)
  have hb := below_mods ((hm5.setCell (p := ⟨w.heap.size + 1, 0, none⟩) (by simp) (.int .i64 C)).setCell (p := ⟨w.heap.size + 1, 1, none⟩) (by simp) (.slice sb (l.length + 1) cb))
  have hQ5 : w5.heap[w.heap.size]? = some (.cells #[.int .i64 C, .slice a l.length c] 41 (0, 0)) := block_grown (block_alloc (w := w2.drew) hQ _) k2 (nA _ (by omega))
  have hq5 := cells_row w5 _ hQ5 0 (.int .i64 C) rfl
  clear k20 k2 k4 k1 k1' g1 g1d hQ hT
  refine ⟨hq5, ?_⟩
  go_wp2
  refine bodyPost_ret (v := .tuple #[.agg #[.int .i64 C, .slice sb (l.length + 1) cb], .bool true]) (by simp [results, Try.results19, go_sem, c0, c1]) rfl ⟨_, rfl, by simpa using k1'', hb⟩
end Go.Proofs.Ytifhnealecndnaa
