/- A queue of ints: Put, Take, Room and what each leaves in memory. -/
import Derived.Test.YtifhnealecndnaaW1
namespace Go.Proofs.Ytifhnealecndnaa
open Go.RowKit

set_option maxHeartbeats 400000 in
theorem ilen_any (w : World) (b : Nat) (sa : Option Addr) (n cap : Nat) (g : Nat) (hg : g ≤ n) (hn : n ≤ maxLen)
    (h1 : w.cell? ⟨b, 1, none⟩ = some (.slice sa n cap))
    (h2 : w.cell? ⟨b, 2, none⟩ = some (.int .i64 g)) :
    Calls Try.prog 23 #[.pointer (some ⟨b, 0, none⟩)] w fun e w' => e = .returned (.int .i64 ((n : Int) - g)) ∧ ∃ m, w' = w.drewN m := by
  unfold maxLen at hn
  go_enter Try.func23, Try.ntmps23
  go_wp2
  go_quiet (fail)
  go_wp2
  go_ret
  exact ⟨rfl, _, rfl⟩

set_option maxHeartbeats 400000 in
theorem ilen_nil (w : World) : Calls Try.prog 23 #[.pointer none] w fun e w' => e = .returned (.int .i64 0) ∧ w' = w := by
  go_enter Try.func23, Try.ntmps23
  go_wp2
  go_ret
  exact ⟨rfl, rfl⟩

set_option maxHeartbeats 400000 in
theorem iroom_nil (w : World) : Calls Try.prog 24 #[.pointer none] w fun e w' => e = .returned (.int .i64 0) ∧ w' = w := by
  go_enter Try.func24, Try.ntmps24
  go_wp2
  go_ret
  exact ⟨rfl, rfl⟩

set_option maxHeartbeats 400000 in
theorem iroom_any (w : World) (b : Nat) (C : Int) (sa : Option Addr) (n cap : Nat) (g : Nat) (hg : g ≤ n) (hn : n ≤ maxLen)
    (hC : 0 ≤ C) (hC' : C ≤ 9223372036854775807)
    (h0 : w.cell? ⟨b, 0, none⟩ = some (.int .i64 C))
    (h1 : w.cell? ⟨b, 1, none⟩ = some (.slice sa n cap))
    (h2 : w.cell? ⟨b, 2, none⟩ = some (.int .i64 g)) :
    Calls Try.prog 24 #[.pointer (some ⟨b, 0, none⟩)] w fun e w' => e = .returned (.int .i64 (max 0 (C - ((n : Int) - g)))) ∧ ∃ m, w' = w.drewN m := by
  unfold maxLen at hn
  go_enter Try.func24, Try.ntmps24
  go_wp2
  go_quiet ((go_at_call 23; go_must (exact Calls.quiet_of (ilen_any _ _ _ _ _ _ hg hn h1 h2))))
  go_wp2
  all_goals
    go_ret
    exact ⟨ret_int (by show _ = max _ _; omega), _, rfl⟩

set_option maxHeartbeats 400000 in
theorem iput_nil (w : World) (X : Int) : Calls Try.prog 20 #[.pointer none, .int .i64 X] w fun e w' => e = .returned (.bool false) ∧ w' = w := by
  go_enter Try.func20, Try.ntmps20
  go_wp2_with fail
  refine (iroom_nil _).mono ?_
  rintro e w' ⟨rfl, rfl⟩
  go_wp2
  go_ret
  exact ⟨rfl, rfl⟩

set_option maxHeartbeats 400000 in
theorem iput_no (w : World) (b : Nat) (C X : Int) (sa : Option Addr) (n cap : Nat) (g : Nat) (hg : g ≤ n) (hn : n ≤ maxLen)
    (hC : 0 ≤ C) (hC' : C ≤ 9223372036854775807) (hfull : C ≤ (n : Int) - g)
    (h0 : w.cell? ⟨b, 0, none⟩ = some (.int .i64 C))
    (h1 : w.cell? ⟨b, 1, none⟩ = some (.slice sa n cap))
    (h2 : w.cell? ⟨b, 2, none⟩ = some (.int .i64 g)) :
    Calls Try.prog 20 #[.pointer (some ⟨b, 0, none⟩), .int .i64 X] w fun e w' => e = .returned (.bool false) ∧ ∃ m, w' = w.drewN m := by
  unfold maxLen at hn
  go_enter Try.func20, Try.ntmps20
  go_wp2_with fail
  refine (iroom_any _ b C sa n cap g hg hn hC hC' h0 h1 h2).mono ?_
  rintro e w' ⟨rfl, m, rfl⟩
  go_wp2
  go_ret
  exact ⟨rfl, _, rfl⟩

theorem info3 : (Try.prog.info? 3).map (fun i => (i.zero, i.size, i.bytes)) = some (some (.int .i64 0), 1, 8) := by kernel_rfl

set_option maxHeartbeats 400000 in
theorem iput_yes (w : World) (b : Nat) (C X : Int) (v : Value) (n : Nat) (xs : List Value) (g : Nat) (hg : g ≤ n) (hn : n < 27000000000000) (base : Nat) (hb : base ≤ w.heap.size)
    (hC : 0 ≤ C) (hC' : C ≤ 9223372036854775807) (hroom : (n : Int) - g < C)
    (hQ : w.heap[b]? = some (.cells #[.int .i64 C, v, .int .i64 g] 70 (0, 0)))
    (hown : w.ownsRow base 3 1 v n xs) (hvb : v.ownBlock ≠ some b) :
    Calls Try.prog 20 #[.pointer (some ⟨b, 0, none⟩), .int .i64 X] w fun e w' => e = .returned (.bool true) ∧ Mods (fun k => k = b ∨ v.ownBlock = some k) w w' ∧
      ∃ v', w'.heap[b]? = some (.cells #[.int .i64 C, v', .int .i64 g] 70 (0, 0)) ∧ w'.ownsRow base 3 1 v' (n + 1) (xs ++ [.int .i64 X]) ∧ (v'.ownBlock = v.ownBlock ∨ ∃ k, v'.ownBlock = some k ∧ w.heap.size ≤ k) := by
  obtain ⟨sa, cap, rfl⟩ := owns_slice hown
  obtain ⟨i0, hi, hz0, hz1, hz2⟩ := info_parts info3
  have h0 := cells_row w b hQ 0 (.int .i64 C) rfl
  have h1 := cells_row w b hQ 1 (.slice sa n cap) rfl
  have h2 := cells_row w b hQ 2 (.int .i64 g) rfl
  have hbw := block_lt hQ
  go_enter Try.func20, Try.ntmps20
  go_wp2_with fail
  refine (iroom_any _ b C sa n cap g hg (by unfold maxLen; omega) hC hC' h0 h1 h2).mono ?_
  rintro e w' ⟨rfl, m, rfl⟩
  have Hn := Lib.hid hn
  clear hn
  go_wp2_with (at_builtin; refine stop_here ?_)
  refine go_on ?_
  refine wpList_app rfl _ _ 22 rfl base 3 i0 _ 1 8 Try.underlying22 hi hz0 hz1 hz2 rfl (.slice sa n cap) n xs rfl (hown.alloc (.cells #[.int .i64 X] 3)) (some ⟨w.heap.size, 0, none⟩) 1 1 [.int .i64 X] rfl rfl (fun h => by cases h) (news_alloc w [.int .i64 X] 3) (by simp [Value.oneCell']) (by have := Hn.out; unfold maxLen; omega) (grow_ok (by have := Hn.out; omega)) (size_le_alloc hb _) ?_
  intro v' w2 g1 g20 _ g4
  obtain ⟨sa', cap', rfl⟩ := owns_slice g1
  have g2 : (w.alloc (.cells #[.int .i64 X] 3)).grownBy w2 (Value.slice sa n cap).ownBlock := ⟨g20.os, g20.tape, g20.output, g20.size, g20.block⟩
  clear g20
  have hQ3 := block_grown (block_alloc hQ (.cells #[.int .i64 X] 3)) g2 hvb
  have c4 := cells_row w2 b hQ3 1 (.slice sa n cap) rfl
  have f4 := frozen_of_block hQ3 1
  go_wp2
  have hm2 : Mods (fun k => k = b ∨ (Value.slice sa n cap).ownBlock = some k) w w2 := ((Mods.refl _ _).alloc (.cells #[.int .i64 X] 3)).grown g2 (fun k hk _ => .inr hk)
  go_ret
  refine ⟨rfl, hm2.setCell (fun _ => .inl rfl) _, _, ?_, ownsRow_setCell_other g1 ?_ _, ?_⟩
  · exact block_setCell hQ3 1 _
  · rcases g4 with g4 | g4
    · rw [g4]; exact hvb
    · rw [g4]; intro h; have := Option.some.inj h; simp at this; omega
  · rcases g4 with g4 | g4
    · exact .inl g4
    · exact .inr ⟨_, g4, by simp⟩

set_option maxHeartbeats 400000 in
theorem itake_nil (w : World) : Calls Try.prog 21 #[.pointer none] w fun e w' => e = .returned (.tuple #[.int .i64 0, .bool false]) ∧ w' = w := by
  go_enter Try.func21, Try.ntmps21
  go_wp2_with fail
  refine (ilen_nil _).mono ?_
  rintro e w' ⟨rfl, rfl⟩
  go_wp2
  go_ret2
  exact ⟨rfl, rfl⟩

set_option maxHeartbeats 400000 in
theorem itake_none (w : World) (b : Nat) (C : Int) (v : Value) (n : Nat) (xs : List Value) (base : Nat) (hn : n ≤ maxLen)
    (hQ : w.heap[b]? = some (.cells #[.int .i64 C, v, .int .i64 n] 70 (0, 0)))
    (hown : w.ownsRow base 3 1 v n xs) :
    Calls Try.prog 21 #[.pointer (some ⟨b, 0, none⟩)] w fun e w' => e = .returned (.tuple #[.int .i64 0, .bool false]) ∧ ∃ m, w' = w.drewN m := by
  obtain ⟨sa, cap, rfl⟩ := owns_slice hown
  have h1 := cells_row w b hQ 1 (.slice sa n cap) rfl
  have h2 := cells_row w b hQ 2 (.int .i64 n) rfl
  go_enter Try.func21, Try.ntmps21
  go_wp2_with fail
  refine (ilen_any _ b sa n cap n (Nat.le_refl _) hn h1 h2).mono ?_
  rintro e w' ⟨rfl, m, rfl⟩
  go_wp2
  go_ret2
  exact ⟨rfl, _, rfl⟩

set_option maxHeartbeats 400000 in
theorem itake_a (w : World) (b : Nat) (C X : Int) (v : Value) (n g : Nat) (xs : List Value) (base : Nat) (hn : n ≤ 27000000000000) (hg : g < n) (hg2 : g < 32)
    (hQ : w.heap[b]? = some (.cells #[.int .i64 C, v, .int .i64 g] 70 (0, 0)))
    (hown : w.ownsRow base 3 1 v n xs) (hvb : v.ownBlock ≠ some b) (hx : xs[g]? = some (.int .i64 X)) :
    Calls Try.prog 21 #[.pointer (some ⟨b, 0, none⟩)] w fun e w' => e = .returned (.tuple #[.int .i64 X, .bool true]) ∧ Mods (fun k => k = b) w w' ∧
      w'.heap[b]? = some (.cells #[.int .i64 C, v, .int .i64 (g + 1 : Nat)] 70 (0, 0)) := by
  obtain ⟨sa, cap, rfl⟩ := owns_slice hown
  obtain ⟨_, hnc, gl, hgl, rfl, hcl, hfl, hltl⟩ := owns_cell hown (by have := (List.getElem?_eq_some_iff.1 hx).1; omega)
  have hbl : b ≠ gl := fun h => hvb (by simp [Value.ownBlock, h])
  have h1 := cells_row w b hQ 1 (.slice (some ⟨gl, 0, none⟩) n cap) rfl
  have h2 := cells_row w b hQ 2 (.int .i64 g) rfl
  have f2 := frozen_of_block hQ 2
  have f1 := frozen_of_block hQ 1
  have hX := hcl g _ hx
  have hbw := block_lt hQ
  have hlg : (g : Int) < n := by omega
  have hd : decide ((32 : Int) < (g : Int) + 1) = false := by simp; omega
  go_enter Try.func21, Try.ntmps21
  go_wp2_with fail
  refine (ilen_any _ b (some ⟨gl, 0, none⟩) n cap g (by omega) (by unfold maxLen; omega) h1 h2).mono ?_
  rintro e w' ⟨rfl, m, rfl⟩
  clear hfl
  have hcl' := Lib.hid hcl
  clear hcl
  go_wp2
  go_quiet (fail)
  go_wp2
  go_quiet (fail)
  go_wp2
  go_ret2
  refine ⟨rfl, ?_, ?_⟩
  · repeat (first | exact Mods.refl _ _ | refine Mods.setCell ?_ (by first | (intro h; simp at h; done) | (intro _; rfl)) _ | refine Mods.alloc ?_ _ | refine Mods.drewN ?_ _ | refine Mods.drew ?_)
  · exact block_setCell hQ 2 _

set_option maxHeartbeats 400000 in
theorem itake_b (w : World) (b : Nat) (C X : Int) (v : Value) (n g : Nat) (xs : List Value) (base : Nat) (hn : n ≤ 27000000000000) (hg : g < n) (hg2 : 32 ≤ g) (hg3 : 2 * (g + 1) ≤ n)
    (hQ : w.heap[b]? = some (.cells #[.int .i64 C, v, .int .i64 g] 70 (0, 0)))
    (hown : w.ownsRow base 3 1 v n xs) (hvb : v.ownBlock ≠ some b) (hx : xs[g]? = some (.int .i64 X)) :
    Calls Try.prog 21 #[.pointer (some ⟨b, 0, none⟩)] w fun e w' => e = .returned (.tuple #[.int .i64 X, .bool true]) ∧ Mods (fun k => k = b) w w' ∧
      w'.heap[b]? = some (.cells #[.int .i64 C, v, .int .i64 (g + 1 : Nat)] 70 (0, 0)) := by
  obtain ⟨sa, cap, rfl⟩ := owns_slice hown
  obtain ⟨_, hnc, gl, hgl, rfl, hcl, hfl, hltl⟩ := owns_cell hown (by have := (List.getElem?_eq_some_iff.1 hx).1; omega)
  have hbl : b ≠ gl := fun h => hvb (by simp [Value.ownBlock, h])
  have h1 := cells_row w b hQ 1 (.slice (some ⟨gl, 0, none⟩) n cap) rfl
  have h2 := cells_row w b hQ 2 (.int .i64 g) rfl
  have f2 := frozen_of_block hQ 2
  have f1 := frozen_of_block hQ 1
  have hX := hcl g _ hx
  have hbw := block_lt hQ
  have hlg : (g : Int) < n := by omega
  have hd : decide ((32 : Int) < (g : Int) + 1) = true := by simp; omega
  have hd2 : decide ((n : Int) < 2 * ((g : Int) + 1)) = false := by simp; omega
  go_enter Try.func21, Try.ntmps21
  go_wp2_with fail
  refine (ilen_any _ b (some ⟨gl, 0, none⟩) n cap g (by omega) (by unfold maxLen; omega) h1 h2).mono ?_
  rintro e w' ⟨rfl, m, rfl⟩
  clear hfl
  have hcl' := Lib.hid hcl
  clear hcl
  go_wp2
  go_quiet (fail)
  go_wp2
  go_quiet (fail)
  go_wp2
  go_ret2
  refine ⟨rfl, ?_, ?_⟩
  · repeat (first | exact Mods.refl _ _ | refine Mods.setCell ?_ (by first | (intro h; simp at h; done) | (intro _; rfl)) _ | refine Mods.alloc ?_ _ | refine Mods.drewN ?_ _ | refine Mods.drew ?_)
  · exact block_setCell hQ 2 _

set_option maxHeartbeats 1600000 in
theorem itake_c (w : World) (b : Nat) (C X : Int) (v : Value) (n g : Nat) (xs : List Value) (base : Nat) (hn : n ≤ 27000000000000) (hg : g < n) (hg2 : 32 ≤ g) (hg3 : n < 2 * (g + 1)) (hb : base ≤ w.heap.size) (hone : ∀ u ∈ xs, u.oneCell' = true)
    (hQ : w.heap[b]? = some (.cells #[.int .i64 C, v, .int .i64 g] 70 (0, 0)))
    (hown : w.ownsRow base 3 1 v n xs) (hvb : v.ownBlock ≠ some b) (hx : xs[g]? = some (.int .i64 X)) :
    Calls Try.prog 21 #[.pointer (some ⟨b, 0, none⟩)] w fun e w' => e = .returned (.tuple #[.int .i64 X, .bool true]) ∧ Mods (fun k => k = b) w w' ∧
      ∃ v', w'.heap[b]? = some (.cells #[.int .i64 C, v', .int .i64 0] 70 (0, 0)) ∧ w'.ownsRow base 3 1 v' (n - (g + 1)) (xs.drop (g + 1)) ∧ (∃ k, v'.ownBlock = some k ∧ w.heap.size ≤ k) := by
  obtain ⟨sa, cap, rfl⟩ := owns_slice hown
  obtain ⟨_, hnc, gl, hgl, rfl, hcl, hfl, hltl⟩ := owns_cell hown (by have := (List.getElem?_eq_some_iff.1 hx).1; omega)
  have hbl : b ≠ gl := fun h => hvb (by simp [Value.ownBlock, h])
  have h1 := cells_row w b hQ 1 (.slice (some ⟨gl, 0, none⟩) n cap) rfl
  have h2 := cells_row w b hQ 2 (.int .i64 g) rfl
  have f2 := frozen_of_block hQ 2
  have f1 := frozen_of_block hQ 1
  have hX := hcl g _ hx
  have hbw := block_lt hQ
  have hlg : (g : Int) < n := by omega
  have hd : decide ((32 : Int) < (g : Int) + 1) = true := by simp; omega
  have hd2 : decide ((n : Int) < 2 * ((g : Int) + 1)) = true := by simp; omega
  obtain ⟨i0, hi, hz0, hz1, hz2⟩ := info_parts info3
  go_enter Try.func21, Try.ntmps21
  go_wp2_with fail
  refine (ilen_any _ b (some ⟨gl, 0, none⟩) n cap g (by omega) (by unfold maxLen; omega) h1 h2).mono ?_
  rintro e w' ⟨rfl, m, rfl⟩
  clear hfl
  have hcl' := Lib.hid hcl
  clear hcl
  go_wp2
  go_quiet (fail)
  go_wp2
  go_quiet (fail)
  go_wp2
  refine name_world (fun w2 => w2.heap[b]? = some (.cells #[.int .i64 C, .slice (some ⟨gl, 0, none⟩) n cap, .int .i64 (g + 1)] 70 (0, 0)) ∧ Mods (fun k => k = b) w w2 ∧ (∀ j u, xs[j]? = some u → w2.cell? ⟨gl, j, none⟩ = some u)) ?_ ?_
  · refine ⟨block_setCell hQ 2 _, ?_, fun j u hu => ?_⟩
    · repeat (first | exact Mods.refl _ _ | refine Mods.setCell ?_ (by first | (intro h; simp at h; done) | (intro _; rfl)) _ | refine Mods.alloc ?_ _ | refine Mods.drewN ?_ _ | refine Mods.drew ?_)
    · rw [← hcl'.out j u hu]
      exact World.cell?_of_block (w := w) (Below.heap_setCell w _ _ gl hbl.symm)
  clear h1 h2 f2 f1 hX
  rintro w2 ⟨hQ2, hm2, hcl2⟩
  have h3 := cells_row w2 b hQ2 1 (.slice (some ⟨gl, 0, none⟩) n cap) rfl
  have h4 := cells_row w2 b hQ2 2 (.int .i64 (g + 1)) rfl
  have hw2 := block_lt hQ2
  have hb2 : base ≤ w2.heap.size := Nat.le_trans hb hm2.size
  have hle : (g : Int) + 1 ≤ n := by omega
  have hg0 : (0 : Int) ≤ (g : Int) + 1 := by omega
  by_cases hcg : cap = g + 1
  · obtain rfl : n = g + 1 := by omega
    subst hcg
    refine wp_region_lex (fun w' => w'.cell? ⟨b, 1, none⟩ = some (.slice (some ⟨gl, 0, none⟩) (g + 1) (g + 1)) ∧ w'.cell? ⟨b, 2, none⟩ = some (.int .i64 (g + 1))) [0, 2, 3, 4, 5, 6, 7, 8, 9, 10] [1, 11, 12, 13, 14] (by kernel_rfl) (by kernel_rfl) rfl (fun _ _ hx h => ⟨hx.cell h.1, hx.cell h.2⟩) ⟨h3, h4⟩ ?_
    intro Q' hQ'
    simp only [pickOps, List.flatMap_cons, List.flatMap_nil, List.drop_succ_cons, List.drop_zero, List.take_succ_cons, List.take_zero, List.cons_append, List.nil_append, List.append_nil]
    repeat (first
      | (refine wpReads_skip (by rfl) ?_; (try simp only [Act.put, List.setIfInBounds_toArray, List.set_cons_zero, List.set_cons_succ]))
      | (refine wpReads_cons ?_ (by rfl) (by rfl) ?_ ?_; rotate_left; (intro wz hz; (try dsimp only at hz); go_simp; try with_reducible rfl); (try simp only [Act.put, List.setIfInBounds_toArray, List.set_cons_zero, List.set_cons_succ]))
      | (refine wpReads_any ?_ (by rfl) ?_ ?_; rotate_left; (intro wz; go_simp; try with_reducible rfl); (try simp only [Act.put, List.setIfInBounds_toArray, List.set_cons_zero, List.set_cons_succ])))
    refine wpReads_nil ?_
    refine wpList_plain rfl fun K hK => ?_
    go_simp
    refine hK _ _ ?_
    clear hK K
    have hown0 := World.ownsRow_made (e := 3) (size := 1) w2 #[] 0 hb2 (Nat.zero_le _) rfl
    refine wpList_app rfl _ _ 22 rfl base 3 i0 _ 1 8 Try.underlying22 hi hz0 hz1 hz2 rfl (.slice (some ⟨w2.heap.size, 0, none⟩) 0 0) 0 [] rfl hown0 (some ⟨gl, 0, none⟩) 0 _ [] rfl rfl (fun h => by cases h)
      (fun _ _ _ _ hu => by simp at hu) (fun u hu => by simp at hu) (by unfold maxLen; omega) (grow_ok (by omega)) (size_le_alloc hb2 _) ?_
    intro v' w3 g1 g20 _ g4
    have g2 := grown_drew g20
    clear g20
    simp only [Nat.zero_add, List.nil_append] at g1
    obtain ⟨sa', cap', rfl⟩ := owns_slice g1
    have hdrop : xs.drop (g + 1) = [] := List.drop_eq_nil_of_le (by rw [hown.1]; omega)
    have hne3 : (Value.slice (some ⟨w2.heap.size, 0, none⟩) 0 0).ownBlock ≠ some b := fun h => by have := Option.some.inj h; simp at this; omega
    have hQ3 := block_grown (block_alloc hQ2 (.cells #[] 3)) g2 hne3
    have hm3 : Mods (fun k => k = b) w w3 := (hm2.alloc (.cells #[] 3)).grown g2 (fun k hk hlt => by have := Option.some.inj hk; have := hm2.size; simp at *; omega)
    have c31 := cells_row w3 b hQ3 1 (.slice (some ⟨gl, 0, none⟩) (g + 1) (g + 1)) rfl
    have c32 := cells_row w3 b hQ3 2 (.int .i64 (g + 1)) rfl
    have f31 := frozen_of_block hQ3 1
    have f32 := frozen_of_block hQ3 2
    have hvo : ∃ k, (Value.slice sa' 0 cap').ownBlock = some k ∧ w2.heap.size ≤ k := by
      rcases g4 with g4 | g4
      · exact ⟨_, g4, Nat.le_refl _⟩
      · exact ⟨_, g4, by simp⟩
    have hsz2 := hm2.size
    clear hQ2 h3 h4 g2 g4 hown hcl2 hown0 hQ
    go_wp2
    go_ret2
    refine ⟨rfl, ?_, _, block_setCell (block_setCell hQ3 1 _) 2 _, ?_, ?_⟩
    · repeat (first | exact hm3 | refine Mods.setCell ?_ (by intro _; rfl) _)
    · obtain ⟨k, hk, hk2⟩ := hvo
      have hkb : k ≠ b := by omega
      repeat (first | exact g1 | refine ownsRow_setCell_other ?_ (by rw [hk]; intro h; exact hkb (Option.some.inj h)) _)
    · obtain ⟨k, hk, hk2⟩ := hvo
      exact ⟨k, hk, by omega⟩

  have hcgi : ¬ (cap : Int) = (g : Int) + 1 := by omega
  refine wp_region_lex (fun w' => w'.cell? ⟨b, 1, none⟩ = some (.slice (some ⟨gl, 0, none⟩) n cap) ∧ w'.cell? ⟨b, 2, none⟩ = some (.int .i64 (g + 1))) [0, 2, 3, 4, 5, 6, 7, 8, 9, 10] [1, 11, 12, 13, 14] (by kernel_rfl) (by kernel_rfl) rfl (fun _ _ hx h => ⟨hx.cell h.1, hx.cell h.2⟩) ⟨h3, h4⟩ ?_
  intro Q' hQ'
  simp only [pickOps, List.flatMap_cons, List.flatMap_nil, List.drop_succ_cons, List.drop_zero, List.take_succ_cons, List.take_zero, List.cons_append, List.nil_append, List.append_nil]
  repeat (first
    | (refine wpReads_skip (by rfl) ?_; (try simp only [Act.put, List.setIfInBounds_toArray, List.set_cons_zero, List.set_cons_succ]))
    | (refine wpReads_cons ?_ (by rfl) (by rfl) ?_ ?_; rotate_left; (intro wz hz; (try dsimp only at hz); go_simp; try with_reducible rfl); (try simp only [Act.put, List.setIfInBounds_toArray, List.set_cons_zero, List.set_cons_succ]))
    | (refine wpReads_any ?_ (by rfl) ?_ ?_; rotate_left; (intro wz; go_simp; try with_reducible rfl); (try simp only [Act.put, List.setIfInBounds_toArray, List.set_cons_zero, List.set_cons_succ])))
  refine wpReads_nil ?_
  refine wpList_plain rfl fun K hK => ?_
  go_simp
  refine hK _ _ ?_
  clear hK K
  have hown0 := World.ownsRow_made (e := 3) (size := 1) w2 #[] 0 hb2 (Nat.zero_le _) rfl
  refine wpList_app rfl _ _ 22 rfl base 3 i0 _ 1 8 Try.underlying22 hi hz0 hz1 hz2 rfl (.slice (some ⟨w2.heap.size, 0, none⟩) 0 0) 0 [] rfl hown0 (some ⟨gl, g + 1, none⟩) (n - (g + 1)) _ (xs.drop (g + 1)) rfl (by rw [List.length_drop, hown.1]; omega) (fun h => by cases h)
    (by exact cells_slice (fun j u hu => ca (hcl2 j u hu)) rfl) (fun u hu => hone u (List.mem_of_mem_drop hu)) (by unfold maxLen; omega) (grow_ok (by omega)) (size_le_alloc hb2 _) ?_
  intro v' w3 g1 g20 _ g4
  have g2 := grown_drew g20
  clear g20
  simp only [Nat.zero_add, List.nil_append] at g1
  obtain ⟨sa', cap', rfl⟩ := owns_slice g1
  have hne3 : (Value.slice (some ⟨w2.heap.size, 0, none⟩) 0 0).ownBlock ≠ some b := fun h => by have := Option.some.inj h; simp at this; omega
  have hQ3 := block_grown (block_alloc hQ2 (.cells #[] 3)) g2 hne3
  have hm3 : Mods (fun k => k = b) w w3 := (hm2.alloc (.cells #[] 3)).grown g2 (fun k hk hlt => by have := Option.some.inj hk; have := hm2.size; simp at *; omega)
  have c31 := cells_row w3 b hQ3 1 (.slice (some ⟨gl, 0, none⟩) n cap) rfl
  have c32 := cells_row w3 b hQ3 2 (.int .i64 (g + 1)) rfl
  have f31 := frozen_of_block hQ3 1
  have f32 := frozen_of_block hQ3 2
  have hvo : ∃ k, (Value.slice sa' (n - (g + 1)) cap').ownBlock = some k ∧ w2.heap.size ≤ k := by
    rcases g4 with g4 | g4
    · exact ⟨_, g4, Nat.le_refl _⟩
    · exact ⟨_, g4, by simp⟩
  have hsz2 := hm2.size
  clear hQ2 h3 h4 g2 g4 hown hcl2 hown0 hQ
  go_wp2
  go_ret2
  refine ⟨rfl, ?_, _, block_setCell (block_setCell hQ3 1 _) 2 _, ?_, ?_⟩
  · repeat (first | exact hm3 | refine Mods.setCell ?_ (by intro _; rfl) _)
  · obtain ⟨k, hk, hk2⟩ := hvo
    have hkb : k ≠ b := by omega
    repeat (first | exact g1 | refine ownsRow_setCell_other ?_ (by rw [hk]; intro h; exact hkb (Option.some.inj h)) _)
  · obtain ⟨k, hk, hk2⟩ := hvo
    exact ⟨k, hk, by omega⟩

end Go.Proofs.Ytifhnealecndnaa
