/- A queue of pairs: Put, Take, and what each leaves in memory. -/
import Derived.Test.YtifhnealecndnaaW1
namespace Go.Proofs.Ytifhnealecndnaa
open Go.RowKit

set_option maxHeartbeats 400000 in
theorem ptake_none (w : World) (b : Nat) (C : Int) (v : Value) (n : Nat) (xs : List Value) (base : Nat) (hn : n ≤ 1048576)
    (hQ : w.heap[b]? = some (.cells #[.int .i64 C, v, .int .i64 n] 68 (0, 0)))
    (hown : w.ownsRow base 28 2 v n xs) :
    Calls Try.prog 13 #[.pointer (some ⟨b, 0, none⟩)] w fun e w' => e = .returned (.tuple #[.agg #[.int .i64 0, .string ⟨#[]⟩], .bool false]) ∧ Mods (fun _ => False) w w' := by
  obtain ⟨sa, cap, rfl⟩ := owns_slice hown
  have h1 := cell_of_row w b 1 _ _ _ hQ
  have h2 := cell_of_row w b 2 _ _ _ hQ
  simp at h1 h2
  go_enter Try.func13, Try.ntmps13
  go_wp2_with fail
  refine (plen_any _ b sa n cap n (Nat.le_refl _) (by unfold maxLen; omega) (ca (ca h1)) (ca (ca h2))).mono ?_
  rintro e w' ⟨rfl, m, rfl⟩
  go_wp2
  refine bodyPost_ret (v := .tuple #[.agg #[.int .i64 0, .string ⟨#[]⟩], .bool false]) (by simp [results, Try.results13, go_sem]) rfl ⟨rfl, ?_⟩
  repeat (first | exact Mods.refl _ _ | refine Mods.setCell ?_ (by simp) _ | refine Mods.alloc ?_ _ | refine Mods.drewN ?_ _ | refine Mods.drew ?_)

set_option maxHeartbeats 400000 in
theorem ptake_a (w : World) (b : Nat) (C X : Int) (S : ByteArray) (v : Value) (n g : Nat) (xs : List Value) (base : Nat) (hn : n ≤ 1048576) (hg : g < n) (hg2 : g < 32)
    (hQ : w.heap[b]? = some (.cells #[.int .i64 C, v, .int .i64 g] 68 (0, 0)))
    (hown : w.ownsRow base 28 2 v n xs) (hvb : v.ownBlock ≠ some b) (hx : xs[2 * g]? = some (.int .i64 X)) (hs : xs[2 * g + 1]? = some (.string S)) :
    Calls Try.prog 13 #[.pointer (some ⟨b, 0, none⟩)] w fun e w' => e = .returned (.tuple #[.agg #[.int .i64 X, .string S], .bool true]) ∧ Mods (fun k => k = b) w w' ∧
      w'.heap[b]? = some (.cells #[.int .i64 C, v, .int .i64 (g + 1 : Nat)] 68 (0, 0)) := by
  obtain ⟨sa, cap, rfl⟩ := owns_slice hown
  have h1 := cell_of_row w b 1 _ _ _ hQ
  have h2 := cell_of_row w b 2 _ _ _ hQ
  simp at h1 h2
  go_enter Try.func13, Try.ntmps13
  go_wp2_with fail
  refine (plen_any _ b sa n cap g (by omega) (by unfold maxLen; omega) (ca (ca h1)) (ca (ca h2))).mono ?_
  rintro e w' ⟨rfl, m, rfl⟩
  go_wp2_with fail
  obtain ⟨_, hnc, gl, hgl, rfl, hcl, hfl, hltl⟩ := owns_cell hown (by have := (List.getElem?_eq_some_iff.1 hx).1; omega)
  have hbl : b ≠ gl := fun h => hvb (by simp [Value.ownBlock, h])
  refine name_world (fun w1 => w1.heap[b]? = some (.cells #[.int .i64 C, .slice (some ⟨gl, 0, none⟩) n cap, .int .i64 g] 68 (0, 0)) ∧ Mods (fun _ => False) w w1 ∧ w1.cell? ⟨gl, 2 * g, none⟩ = some (.int .i64 X) ∧ w1.cell? ⟨gl, 2 * g + 1, none⟩ = some (.string S) ∧ w1.heap[w.heap.size]? = some (.cells #[.int .i64 0, .string ⟨#[]⟩] 28 (0, 0))) ?_ ?_
  · exact ⟨block_alloc (block_alloc hQ _) _, (((Mods.refl _ _).alloc _).alloc _).drewN _, ca (ca (hcl _ _ hx)), ca (ca (hcl _ _ hs)), block_alloc (heap_alloc_new w _) _⟩
  rintro w1 ⟨hQ1, hm1, hX1, hS1, hT1⟩
  have h3 := cells_row w1 b hQ1 1 (.slice (some ⟨gl, 0, none⟩) n cap) rfl
  have h4 := cells_row w1 b hQ1 2 (.int .i64 g) rfl
  have hbw := block_lt hQ1
  have f4 := frozen_of_block hQ1 2
  have hbs : b ≠ w.heap.size := Nat.ne_of_lt (block_lt hQ)
  have hbs' : w.heap.size ≠ b := hbs.symm
  have hsz := block_lt hT1
  have t0 := cells_row w1 w.heap.size hT1 0 (.int .i64 0) rfl
  have t1 := cells_row w1 w.heap.size hT1 1 (.string ⟨#[]⟩) rfl
  have ft0 := frozen_of_block hT1 0
  have ft1 := frozen_of_block hT1 1
  clear h1 h2
  refine wp_region_lex (fun w' => w'.cell? ⟨b, 1, none⟩ = some (.slice (some ⟨gl, 0, none⟩) n cap) ∧ w'.cell? ⟨b, 2, none⟩ = some (.int .i64 g) ∧ w'.cell? ⟨gl, g * 2, none⟩ = some (.int .i64 X) ∧ w'.cell? ⟨gl, g * 2 + 1, none⟩ = some (.string S)) [0, 1, 2, 3, 4, 5, 6, 7, 8, 9] [10, 11] (by kernel_rfl) (by kernel_rfl) rfl (fun _ _ hx h => ⟨hx.cell h.1, hx.cell h.2.1, hx.cell h.2.2.1, hx.cell h.2.2.2⟩) ⟨h3, h4, by rw [Nat.mul_comm]; exact hX1, by rw [Nat.mul_comm]; exact hS1⟩ ?_
  intro Q' hQ'
  simp only [pickOps, List.flatMap_cons, List.flatMap_nil, List.drop_succ_cons, List.drop_zero, List.take_succ_cons, List.take_zero, List.cons_append, List.nil_append, List.append_nil]
  repeat (first
    | (refine wpReads_skip (by rfl) ?_; (try simp only [Act.put, List.setIfInBounds_toArray, List.set_cons_zero, List.set_cons_succ]))
    | (refine wpReads_cons ?_ (by rfl) (by rfl) ?_ ?_; rotate_left; (intro wz hz; (try dsimp only at hz); go_simp; try with_reducible rfl); (try simp only [Act.put, List.setIfInBounds_toArray, List.set_cons_zero, List.set_cons_succ]))
    | (refine wpReads_any ?_ (by rfl) ?_ ?_; rotate_left; (intro wz; go_simp; try with_reducible rfl); (try simp only [Act.put, List.setIfInBounds_toArray, List.set_cons_zero, List.set_cons_succ])))
  refine wpReads_nil ?_
  have hd : decide ((32 : Int) < (g : Int) + 1) = false := by simp; omega
  go_wp2
  go_quiet (fail)
  go_wp2
  refine bodyPost_ret (v := .tuple #[.agg #[.int .i64 X, .string S], .bool true]) (by simp [results, Try.results13, go_sem, t0, t1, hsz]) rfl ⟨rfl, ?_, ?_⟩
  · repeat (first | exact hm1.mono (fun _ _ h => h.elim) | refine Mods.setCell ?_ (by first | (intro h; simp at h; done) | (intro _; rfl)) _ | refine Mods.alloc ?_ _ | refine Mods.drewN ?_ _ | refine Mods.drew ?_)
  · exact block_setCell_ne (block_setCell_ne (block_alloc (block_setCell hQ1 2 _) _) hbs _) hbs _

set_option maxHeartbeats 400000 in
theorem ptake_b (w : World) (b : Nat) (C X : Int) (S : ByteArray) (v : Value) (n g : Nat) (xs : List Value) (base : Nat) (hn : n ≤ 1048576) (hg : g < n) (hg2 : 32 ≤ g) (hg3 : 2 * (g + 1) ≤ n)
    (hQ : w.heap[b]? = some (.cells #[.int .i64 C, v, .int .i64 g] 68 (0, 0)))
    (hown : w.ownsRow base 28 2 v n xs) (hvb : v.ownBlock ≠ some b) (hx : xs[2 * g]? = some (.int .i64 X)) (hs : xs[2 * g + 1]? = some (.string S)) :
    Calls Try.prog 13 #[.pointer (some ⟨b, 0, none⟩)] w fun e w' => e = .returned (.tuple #[.agg #[.int .i64 X, .string S], .bool true]) ∧ Mods (fun k => k = b) w w' ∧
      w'.heap[b]? = some (.cells #[.int .i64 C, v, .int .i64 (g + 1 : Nat)] 68 (0, 0)) := by
  obtain ⟨sa, cap, rfl⟩ := owns_slice hown
  have h1 := cell_of_row w b 1 _ _ _ hQ
  have h2 := cell_of_row w b 2 _ _ _ hQ
  simp at h1 h2
  go_enter Try.func13, Try.ntmps13
  go_wp2_with fail
  refine (plen_any _ b sa n cap g (by omega) (by unfold maxLen; omega) (ca (ca h1)) (ca (ca h2))).mono ?_
  rintro e w' ⟨rfl, m, rfl⟩
  go_wp2_with fail
  obtain ⟨_, hnc, gl, hgl, rfl, hcl, hfl, hltl⟩ := owns_cell hown (by have := (List.getElem?_eq_some_iff.1 hx).1; omega)
  have hbl : b ≠ gl := fun h => hvb (by simp [Value.ownBlock, h])
  refine name_world (fun w1 => w1.heap[b]? = some (.cells #[.int .i64 C, .slice (some ⟨gl, 0, none⟩) n cap, .int .i64 g] 68 (0, 0)) ∧ Mods (fun _ => False) w w1 ∧ w1.cell? ⟨gl, 2 * g, none⟩ = some (.int .i64 X) ∧ w1.cell? ⟨gl, 2 * g + 1, none⟩ = some (.string S) ∧ w1.heap[w.heap.size]? = some (.cells #[.int .i64 0, .string ⟨#[]⟩] 28 (0, 0))) ?_ ?_
  · exact ⟨block_alloc (block_alloc hQ _) _, (((Mods.refl _ _).alloc _).alloc _).drewN _, ca (ca (hcl _ _ hx)), ca (ca (hcl _ _ hs)), block_alloc (heap_alloc_new w _) _⟩
  rintro w1 ⟨hQ1, hm1, hX1, hS1, hT1⟩
  have h3 := cells_row w1 b hQ1 1 (.slice (some ⟨gl, 0, none⟩) n cap) rfl
  have h4 := cells_row w1 b hQ1 2 (.int .i64 g) rfl
  have hbw := block_lt hQ1
  have f4 := frozen_of_block hQ1 2
  have hbs : b ≠ w.heap.size := Nat.ne_of_lt (block_lt hQ)
  have hbs' : w.heap.size ≠ b := hbs.symm
  have hsz := block_lt hT1
  have t0 := cells_row w1 w.heap.size hT1 0 (.int .i64 0) rfl
  have t1 := cells_row w1 w.heap.size hT1 1 (.string ⟨#[]⟩) rfl
  have ft0 := frozen_of_block hT1 0
  have ft1 := frozen_of_block hT1 1
  clear h1 h2
  refine wp_region_lex (fun w' => w'.cell? ⟨b, 1, none⟩ = some (.slice (some ⟨gl, 0, none⟩) n cap) ∧ w'.cell? ⟨b, 2, none⟩ = some (.int .i64 g) ∧ w'.cell? ⟨gl, g * 2, none⟩ = some (.int .i64 X) ∧ w'.cell? ⟨gl, g * 2 + 1, none⟩ = some (.string S)) [0, 1, 2, 3, 4, 5, 6, 7, 8, 9] [10, 11] (by kernel_rfl) (by kernel_rfl) rfl (fun _ _ hx h => ⟨hx.cell h.1, hx.cell h.2.1, hx.cell h.2.2.1, hx.cell h.2.2.2⟩) ⟨h3, h4, by rw [Nat.mul_comm]; exact hX1, by rw [Nat.mul_comm]; exact hS1⟩ ?_
  intro Q' hQ'
  simp only [pickOps, List.flatMap_cons, List.flatMap_nil, List.drop_succ_cons, List.drop_zero, List.take_succ_cons, List.take_zero, List.cons_append, List.nil_append, List.append_nil]
  repeat (first
    | (refine wpReads_skip (by rfl) ?_; (try simp only [Act.put, List.setIfInBounds_toArray, List.set_cons_zero, List.set_cons_succ]))
    | (refine wpReads_cons ?_ (by rfl) (by rfl) ?_ ?_; rotate_left; (intro wz hz; (try dsimp only at hz); go_simp; try with_reducible rfl); (try simp only [Act.put, List.setIfInBounds_toArray, List.set_cons_zero, List.set_cons_succ]))
    | (refine wpReads_any ?_ (by rfl) ?_ ?_; rotate_left; (intro wz; go_simp; try with_reducible rfl); (try simp only [Act.put, List.setIfInBounds_toArray, List.set_cons_zero, List.set_cons_succ])))
  refine wpReads_nil ?_
  have hd : decide ((32 : Int) < (g : Int) + 1) = true := by simp; omega
  have hd2 : decide ((n : Int) < 2 * ((g : Int) + 1)) = false := by simp; omega
  go_wp2
  go_quiet (fail)
  go_wp2
  refine bodyPost_ret (v := .tuple #[.agg #[.int .i64 X, .string S], .bool true]) (by simp [results, Try.results13, go_sem, t0, t1, hsz]) rfl ⟨rfl, ?_, ?_⟩
  · repeat (first | exact hm1.mono (fun _ _ h => h.elim) | refine Mods.setCell ?_ (by first | (intro h; simp at h; done) | (intro _; rfl)) _ | refine Mods.alloc ?_ _ | refine Mods.drewN ?_ _ | refine Mods.drew ?_)
  · exact block_setCell_ne (block_setCell_ne (block_alloc (block_setCell hQ1 2 _) _) hbs _) hbs _

set_option maxHeartbeats 1600000 in
theorem ptake_c (w : World) (b : Nat) (C X : Int) (S : ByteArray) (v : Value) (n g : Nat) (xs : List Value) (base : Nat) (hn : n ≤ 1048576) (hg : g < n) (hg2 : 32 ≤ g) (hg3 : n < 2 * (g + 1)) (hb : base ≤ w.heap.size) (hx1 : ∀ u ∈ xs, u.oneCell' = true)
    (hQ : w.heap[b]? = some (.cells #[.int .i64 C, v, .int .i64 g] 68 (0, 0)))
    (hown : w.ownsRow base 28 2 v n xs) (hvb : v.ownBlock ≠ some b) (hx : xs[2 * g]? = some (.int .i64 X)) (hs : xs[2 * g + 1]? = some (.string S)) :
    Calls Try.prog 13 #[.pointer (some ⟨b, 0, none⟩)] w fun e w' => e = .returned (.tuple #[.agg #[.int .i64 X, .string S], .bool true]) ∧ Mods (fun k => k = b) w w' ∧
      ∃ v', w'.heap[b]? = some (.cells #[.int .i64 C, v', .int .i64 0] 68 (0, 0)) ∧ w'.ownsRow base 28 2 v' (n - (g + 1)) (xs.drop (2 * (g + 1))) ∧ (∃ k, v'.ownBlock = some k ∧ w.heap.size ≤ k) := by
  obtain ⟨sa, cap, rfl⟩ := owns_slice hown
  have h1 := cell_of_row w b 1 _ _ _ hQ
  have h2 := cell_of_row w b 2 _ _ _ hQ
  simp at h1 h2
  go_enter Try.func13, Try.ntmps13
  go_wp2_with fail
  refine (plen_any _ b sa n cap g (by omega) (by unfold maxLen; omega) (ca (ca h1)) (ca (ca h2))).mono ?_
  rintro e w' ⟨rfl, m, rfl⟩
  go_wp2_with fail
  obtain ⟨_, hnc, gl, hgl, rfl, hcl, hfl, hltl⟩ := owns_cell hown (by have := (List.getElem?_eq_some_iff.1 hx).1; omega)
  have hbl : b ≠ gl := fun h => hvb (by simp [Value.ownBlock, h])
  refine name_world (fun w1 => w1.heap[b]? = some (.cells #[.int .i64 C, .slice (some ⟨gl, 0, none⟩) n cap, .int .i64 g] 68 (0, 0)) ∧ Mods (fun _ => False) w w1 ∧ w1.cell? ⟨gl, 2 * g, none⟩ = some (.int .i64 X) ∧ w1.cell? ⟨gl, 2 * g + 1, none⟩ = some (.string S) ∧ w1.heap[w.heap.size]? = some (.cells #[.int .i64 0, .string ⟨#[]⟩] 28 (0, 0))) ?_ ?_
  · exact ⟨block_alloc (block_alloc hQ _) _, (((Mods.refl _ _).alloc _).alloc _).drewN _, ca (ca (hcl _ _ hx)), ca (ca (hcl _ _ hs)), block_alloc (heap_alloc_new w _) _⟩
  rintro w1 ⟨hQ1, hm1, hX1, hS1, hT1⟩
  have h3 := cells_row w1 b hQ1 1 (.slice (some ⟨gl, 0, none⟩) n cap) rfl
  have h4 := cells_row w1 b hQ1 2 (.int .i64 g) rfl
  have hbw := block_lt hQ1
  have f4 := frozen_of_block hQ1 2
  have hbs : b ≠ w.heap.size := Nat.ne_of_lt (block_lt hQ)
  have hbs' : w.heap.size ≠ b := hbs.symm
  have hsz := block_lt hT1
  have t0 := cells_row w1 w.heap.size hT1 0 (.int .i64 0) rfl
  have t1 := cells_row w1 w.heap.size hT1 1 (.string ⟨#[]⟩) rfl
  have ft0 := frozen_of_block hT1 0
  have ft1 := frozen_of_block hT1 1
  clear h1 h2
  refine wp_region_lex (fun w' => w'.cell? ⟨b, 1, none⟩ = some (.slice (some ⟨gl, 0, none⟩) n cap) ∧ w'.cell? ⟨b, 2, none⟩ = some (.int .i64 g) ∧ w'.cell? ⟨gl, g * 2, none⟩ = some (.int .i64 X) ∧ w'.cell? ⟨gl, g * 2 + 1, none⟩ = some (.string S)) [0, 1, 2, 3, 4, 5, 6, 7, 8, 9] [10, 11] (by kernel_rfl) (by kernel_rfl) rfl (fun _ _ hx h => ⟨hx.cell h.1, hx.cell h.2.1, hx.cell h.2.2.1, hx.cell h.2.2.2⟩) ⟨h3, h4, by rw [Nat.mul_comm]; exact hX1, by rw [Nat.mul_comm]; exact hS1⟩ ?_
  intro Q' hQ'
  simp only [pickOps, List.flatMap_cons, List.flatMap_nil, List.drop_succ_cons, List.drop_zero, List.take_succ_cons, List.take_zero, List.cons_append, List.nil_append, List.append_nil]
  repeat (first
    | (refine wpReads_skip (by rfl) ?_; (try simp only [Act.put, List.setIfInBounds_toArray, List.set_cons_zero, List.set_cons_succ]))
    | (refine wpReads_cons ?_ (by rfl) (by rfl) ?_ ?_; rotate_left; (intro wz hz; (try dsimp only at hz); go_simp; try with_reducible rfl); (try simp only [Act.put, List.setIfInBounds_toArray, List.set_cons_zero, List.set_cons_succ]))
    | (refine wpReads_any ?_ (by rfl) ?_ ?_; rotate_left; (intro wz; go_simp; try with_reducible rfl); (try simp only [Act.put, List.setIfInBounds_toArray, List.set_cons_zero, List.set_cons_succ])))
  refine wpReads_nil ?_
  have hd : decide ((32 : Int) < (g : Int) + 1) = true := by simp; omega
  have hd2 : decide ((n : Int) < 2 * ((g : Int) + 1)) = true := by simp; omega
  obtain ⟨i0, hi, hz0, hz1, hz2⟩ := info_parts info28
  go_wp2
  go_quiet (fail)
  go_wp2
  have hcl1 : ∀ j u, xs[j]? = some u → w1.cell? ⟨gl, j, none⟩ = some u := fun j u hu => (hm1.cell (p := ⟨gl, j, none⟩) hltl (fun h => h)).trans (hcl j u hu)
  refine name_world (fun w2 => w2.heap[b]? = some (.cells #[.int .i64 C, .slice (some ⟨gl, 0, none⟩) n cap, .int .i64 (g + 1)] 68 (0, 0)) ∧ Mods (fun k => k = b) w w2 ∧ (∀ j u, xs[j]? = some u → w2.cell? ⟨gl, j, none⟩ = some u) ∧
      w2.heap[w.heap.size]? = some (.cells #[.int .i64 0, .string ⟨#[]⟩] 28 (0, 0)) ∧ w2.heap[w1.heap.size]? = some (.cells #[.int .i64 X, .string S] 28 (0, 0))) ?_ ?_
  · refine ⟨block_alloc (block_setCell hQ1 2 _) _, ?_, fun j u hu => ca (w := w1.setCell ⟨b, 2, none⟩ (.int .i64 (g + 1))) ?_, block_alloc (block_setCell_ne hT1 hbs' _) _, ?_⟩
    · repeat (first | exact hm1.mono (fun _ _ h => h.elim) | refine Mods.setCell ?_ (by first | (intro h; simp at h; done) | (intro _; rfl)) _ | refine Mods.alloc ?_ _ | refine Mods.drewN ?_ _ | refine Mods.drew ?_)
    · rw [← hcl1 j u hu]
      exact World.cell?_of_block (w := w1) (Below.heap_setCell w1 _ _ gl hbl.symm)
    · exact block_new_set w1 _ _ _
  clear h3 h4 f4 t0 t1 ft0 ft1 hT1 hX1 hS1 hcl hfl
  rintro w2 ⟨hQ2, hm2, hcl2, hT2, hU2⟩
  have h3 := cells_row w2 b hQ2 1 (.slice (some ⟨gl, 0, none⟩) n cap) rfl
  have h4 := cells_row w2 b hQ2 2 (.int .i64 (g + 1)) rfl
  have hw2 := block_lt hQ2
  have hb2 : base ≤ w2.heap.size := Nat.le_trans hb hm2.size
  have hle : (g : Int) + 1 ≤ n := by omega
  have hg0 : (0 : Int) ≤ (g : Int) + 1 := by omega
  have hone : ∀ u ∈ xs, u.oneCell' = true := hx1
  by_cases hcg : cap = g + 1
  · obtain rfl : n = g + 1 := by omega
    subst hcg
    refine wp_region_lex (fun w' => w'.cell? ⟨b, 1, none⟩ = some (.slice (some ⟨gl, 0, none⟩) (g + 1) (g + 1)) ∧ w'.cell? ⟨b, 2, none⟩ = some (.int .i64 (g + 1))) [0, 2, 3, 4, 5, 6, 7, 8, 9, 10] [1, 11, 12, 13, 14] (by kernel_rfl) (by kernel_rfl) rfl (fun _ _ hx h => ⟨hx.cell h.1, hx.cell h.2⟩) ⟨h3, h4⟩ ?_
    intro Q' hQ'
    simp only [pickOps, List.flatMap_cons, List.flatMap_nil, List.drop_succ_cons, List.drop_zero, List.take_succ_cons, List.take_zero, List.cons_append, List.nil_append, List.append_nil]
    repeat (first
      | (refine wpReads_skip (by rfl) ?_; (try simp only [Act.put, List.setIfInBounds_toArray, List.set_cons_zero, List.set_cons_succ]))
      | (refine wpReads_cons ?_ (by rfl) (by rfl) ?_ ?_; rotate_left; (intro wz hz; (try dsimp only at hz); go_simp; try with_reducible rfl); (try simp only [Act.put, List.setIfInBounds_toArray, List.set_cons_zero, List.set_cons_succ]))
      | (refine wpReads_any ?_ (by rfl) ?_ ?_; rotate_left; (intro wz; go_simp; try with_reducible rfl); (try simp only [Act.put, List.setIfInBounds_toArray, List.set_cons_zero, List.set_cons_succ])))
    refine wpReads_nil ?_
    refine wpList_plain rfl fun K hK => ?_
    go_simp
    refine hK _ _ ?_
    clear hK K
    have hown0 := World.ownsRow_made (e := 28) (size := 2) w2 #[] 0 hb2 (Nat.zero_le _) rfl
    refine wpList_app rfl _ _ 66 rfl base 28 i0 _ 2 24 Try.underlying66 hi hz0 hz1 hz2 rfl (.slice (some ⟨w2.heap.size, 0, none⟩) 0 0) 0 [] rfl hown0 (some ⟨gl, 0, none⟩) 0 _ [] rfl rfl (fun h => by cases h)
      (fun _ _ _ _ hu => by simp at hu) (fun u hu => by simp at hu) (by unfold maxLen; omega) (grow_ok47 (by omega)) (size_le_alloc hb2 _) ?_
    intro v' w3 g1 g20 _ g4
    have g2 := grown_drew g20
    clear g20
    simp only [Nat.zero_add, List.nil_append] at g1
    have hdrop : xs.drop (2 * (g + 1)) = [] := List.drop_eq_nil_of_le (by rw [hown.1]; omega)
    obtain ⟨sa', cap', rfl⟩ := owns_slice g1
    have hne3 : (Value.slice (some ⟨w2.heap.size, 0, none⟩) 0 0).ownBlock ≠ some b := fun h => by have := Option.some.inj h; simp at this; omega
    have hQ3 := block_grown (block_alloc hQ2 (.cells #[] 28)) g2 hne3
    have hT3 := block_grown (block_alloc hT2 (.cells #[] 28)) g2 (fun h => by have := Option.some.inj h; have := block_lt hT2; simp at *; omega)
    have hU3 := block_grown (block_alloc hU2 (.cells #[] 28)) g2 (fun h => by have := Option.some.inj h; have := block_lt hU2; simp at *; omega)
    have hm3 : Mods (fun k => k = b) w w3 := (hm2.alloc (.cells #[] 28)).grown g2 (fun k hk hlt => by have := Option.some.inj hk; have := hm2.size; simp at *; omega)
    have c31 := cells_row w3 b hQ3 1 (.slice (some ⟨gl, 0, none⟩) (g + 1) (g + 1)) rfl
    have c32 := cells_row w3 b hQ3 2 (.int .i64 (g + 1)) rfl
    have f31 := frozen_of_block hQ3 1
    have f32 := frozen_of_block hQ3 2
    have t0 := cells_row w3 w.heap.size hT3 0 (.int .i64 0) rfl
    have t1 := cells_row w3 w.heap.size hT3 1 (.string ⟨#[]⟩) rfl
    have ft0 := frozen_of_block hT3 0
    have ft1 := frozen_of_block hT3 1
    have u0 := cells_row w3 w1.heap.size hU3 0 (.int .i64 X) rfl
    have u1 := cells_row w3 w1.heap.size hU3 1 (.string S) rfl
    have hb1w : b ≠ w1.heap.size := by omega
    have hvo : ∃ k, (Value.slice sa' 0 cap').ownBlock = some k ∧ w2.heap.size ≤ k := by
      rcases g4 with g4 | g4
      · exact ⟨_, g4, Nat.le_refl _⟩
      · exact ⟨_, g4, by simp⟩
    have hsz2 := hm2.size
    have hlt2 := block_lt hT2
    clear hQ2 hT2 hU2 h3 h4 g2 g4 hown hcl1 hcl2 hown0 hQ hQ1
    go_wp2
    refine bodyPost_ret (v := .tuple #[.agg #[.int .i64 X, .string S], .bool true]) (by simp [results, Try.results13, go_sem, t0, t1]) rfl ⟨rfl, ?_, _, block_setCell_ne (block_setCell_ne (block_setCell (block_setCell hQ3 1 _) 2 _) hbs _) hbs _, ?_, ?_⟩
    · repeat (first | exact hm3 | refine Mods.setCell ?_ (by first | (intro h; simp at h; done) | (intro _; rfl)) _)
    · obtain ⟨k, hk, hk2⟩ := hvo
      have hkb : k ≠ b := by omega
      have hks : k ≠ w.heap.size := by omega
      repeat (first | exact g1 | refine ownsRow_setCell_other ?_ (by rw [hk]; intro h; have := Option.some.inj h; first | exact hkb this | exact hks this) _)
    · obtain ⟨k, hk, hk2⟩ := hvo
      exact ⟨k, hk, by omega⟩

  have hcgi : ¬ (cap : Int) = (g : Int) + 1 := by omega
  refine wp_region_lex (fun w' => w'.cell? ⟨b, 1, none⟩ = some (.slice (some ⟨gl, 0, none⟩) n cap) ∧ w'.cell? ⟨b, 2, none⟩ = some (.int .i64 (g + 1))) [0, 2, 3, 4, 5, 6, 7, 8, 9, 10] [1, 11, 12, 13, 14] (by kernel_rfl) (by kernel_rfl) rfl (fun _ _ hx h => ⟨hx.cell h.1, hx.cell h.2⟩) ⟨h3, h4⟩ ?_
  intro Q' hQ'
  simp only [pickOps, List.flatMap_cons, List.flatMap_nil, List.drop_succ_cons, List.drop_zero, List.take_succ_cons, List.take_zero, List.cons_append, List.nil_append, List.append_nil]
  repeat (first
    | (refine wpReads_skip (by rfl) ?_; (try simp only [Act.put, List.setIfInBounds_toArray, List.set_cons_zero, List.set_cons_succ]))
    | (refine wpReads_cons ?_ (by rfl) (by rfl) ?_ ?_; rotate_left; (intro wz hz; (try dsimp only at hz); go_simp; try with_reducible rfl); (try simp only [Act.put, List.setIfInBounds_toArray, List.set_cons_zero, List.set_cons_succ]))
    | (refine wpReads_any ?_ (by rfl) ?_ ?_; rotate_left; (intro wz; go_simp; try with_reducible rfl); (try simp only [Act.put, List.setIfInBounds_toArray, List.set_cons_zero, List.set_cons_succ])))
  refine wpReads_nil ?_
  refine wpList_plain rfl fun K hK => ?_
  go_simp
  refine hK _ _ ?_
  clear hK K
  have hown0 := World.ownsRow_made (e := 28) (size := 2) w2 #[] 0 hb2 (Nat.zero_le _) rfl
  refine wpList_app rfl _ _ 66 rfl base 28 i0 _ 2 24 Try.underlying66 hi hz0 hz1 hz2 rfl (.slice (some ⟨w2.heap.size, 0, none⟩) 0 0) 0 [] rfl hown0 (some ⟨gl, (g + 1) * 2, none⟩) (n - (g + 1)) _ (xs.drop (2 * (g + 1))) rfl (by rw [List.length_drop, hown.1]; omega) (fun h => by cases h)
    (by rw [Nat.mul_comm]; exact cells_slice (fun j u hu => ca (hcl2 j u hu)) rfl) (fun u hu => hone u (List.mem_of_mem_drop hu)) (by unfold maxLen; omega) (grow_ok47 (by omega)) (size_le_alloc hb2 _) ?_
  intro v' w3 g1 g20 _ g4
  have g2 := grown_drew g20
  clear g20
  simp only [Nat.zero_add, List.nil_append] at g1
  obtain ⟨sa', cap', rfl⟩ := owns_slice g1
  have hne3 : (Value.slice (some ⟨w2.heap.size, 0, none⟩) 0 0).ownBlock ≠ some b := fun h => by have := Option.some.inj h; simp at this; omega
  have hQ3 := block_grown (block_alloc hQ2 (.cells #[] 28)) g2 hne3
  have hT3 := block_grown (block_alloc hT2 (.cells #[] 28)) g2 (fun h => by have := Option.some.inj h; have := block_lt hT2; simp at *; omega)
  have hU3 := block_grown (block_alloc hU2 (.cells #[] 28)) g2 (fun h => by have := Option.some.inj h; have := block_lt hU2; simp at *; omega)
  have hm3 : Mods (fun k => k = b) w w3 := (hm2.alloc (.cells #[] 28)).grown g2 (fun k hk hlt => by have := Option.some.inj hk; have := hm2.size; simp at *; omega)
  have c31 := cells_row w3 b hQ3 1 (.slice (some ⟨gl, 0, none⟩) n cap) rfl
  have c32 := cells_row w3 b hQ3 2 (.int .i64 (g + 1)) rfl
  have f31 := frozen_of_block hQ3 1
  have f32 := frozen_of_block hQ3 2
  have t0 := cells_row w3 w.heap.size hT3 0 (.int .i64 0) rfl
  have t1 := cells_row w3 w.heap.size hT3 1 (.string ⟨#[]⟩) rfl
  have ft0 := frozen_of_block hT3 0
  have ft1 := frozen_of_block hT3 1
  have u0 := cells_row w3 w1.heap.size hU3 0 (.int .i64 X) rfl
  have u1 := cells_row w3 w1.heap.size hU3 1 (.string S) rfl
  have hb1w : b ≠ w1.heap.size := by omega
  have hvo : ∃ k, (Value.slice sa' (n - (g + 1)) cap').ownBlock = some k ∧ w2.heap.size ≤ k := by
    rcases g4 with g4 | g4
    · exact ⟨_, g4, Nat.le_refl _⟩
    · exact ⟨_, g4, by simp⟩
  have hsz2 := hm2.size
  have hlt2 := block_lt hT2
  clear hQ2 hT2 hU2 h3 h4 g2 g4 hown hcl1 hcl2 hown0 hQ hQ1
  go_wp2
  refine bodyPost_ret (v := .tuple #[.agg #[.int .i64 X, .string S], .bool true]) (by simp [results, Try.results13, go_sem, t0, t1]) rfl ⟨rfl, ?_, _, block_setCell_ne (block_setCell_ne (block_setCell (block_setCell hQ3 1 _) 2 _) hbs _) hbs _, ?_, ?_⟩
  · repeat (first | exact hm3 | refine Mods.setCell ?_ (by first | (intro h; simp at h; done) | (intro _; rfl)) _)
  · obtain ⟨k, hk, hk2⟩ := hvo
    have hkb : k ≠ b := by omega
    have hks : k ≠ w.heap.size := by omega
    repeat (first | exact g1 | refine ownsRow_setCell_other ?_ (by rw [hk]; intro h; have := Option.some.inj h; first | exact hkb this | exact hks this) _)
  · obtain ⟨k, hk, hk2⟩ := hvo
    exact ⟨k, hk, by omega⟩

end Go.Proofs.Ytifhnealecndnaa
