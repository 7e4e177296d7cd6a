/- The calls of a queue of pairs that change nothing: how full it is, how long, what room is left; how long a queue of ints is. -/
import Derived.Test.YtifhnealecndnaaProg
import Derived.Test.YtifhnealecndnaaMem
import Derived.Test.YtifhnealecndnaaLex
import Derived.Deep.QuietTactic
import Derived.BigQuiet
import Derived.Deep.DeepMust
import Derived.Deep.RegionHeld3
namespace Go.Proofs.Ytifhnealecndnaa
open Go.RowKit

set_option maxHeartbeats 400000 in
theorem plen_any (w : World) (b : Nat) (sa : Option Addr) (n cap : Nat) (g : Nat) (hg : g ≤ n) (hn : n ≤ maxLen)
    (h1 : w.cell? ⟨b, 1, none⟩ = some (.slice sa n cap))
    (h2 : w.cell? ⟨b, 2, none⟩ = some (.int .i64 g)) :
    Calls Try.prog 12 #[.pointer (some ⟨b, 0, none⟩)] w fun e w' => e = .returned (.int .i64 ((n : Int) - g)) ∧ ∃ m, w' = w.drewN m := by
  unfold maxLen at hn
  go_enter Try.func12, Try.ntmps12
  go_wp2
  go_quiet (fail)
  go_wp2
  go_ret
  exact ⟨rfl, _, rfl⟩

theorem ret_int {k : IntKind} {a b : Int} (h : a = b) : Ending.returned (.int k a) = .returned (.int k b) := by rw [h]

set_option maxHeartbeats 400000 in
theorem proom_any (w : World) (b : Nat) (C : Int) (sa : Option Addr) (n cap : Nat) (g : Nat) (hg : g ≤ n) (hn : n ≤ maxLen)
    (hC : 0 ≤ C) (hC' : C ≤ 9223372036854775807)
    (h0 : w.cell? ⟨b, 0, none⟩ = some (.int .i64 C))
    (h1 : w.cell? ⟨b, 1, none⟩ = some (.slice sa n cap))
    (h2 : w.cell? ⟨b, 2, none⟩ = some (.int .i64 g)) :
    Calls Try.prog 29 #[.pointer (some ⟨b, 0, none⟩)] w fun e w' => e = .returned (.int .i64 (max 0 (C - ((n : Int) - g)))) ∧ ∃ m, w' = w.drewN m := by
  unfold maxLen at hn
  go_enter Try.func29, Try.ntmps29
  go_wp2
  go_quiet ((go_at_call 12; go_must (exact Calls.quiet_of (plen_any _ _ _ _ _ _ hg hn h1 h2))))
  go_wp2
  all_goals
    go_ret
    exact ⟨ret_int (by show _ = max _ _; omega), _, rfl⟩

set_option maxHeartbeats 400000 in
theorem pput_no (w : World) (b : Nat) (C X : Int) (S : ByteArray) (sa : Option Addr) (n cap : Nat) (g : Nat) (hg : g ≤ n) (hn : n ≤ maxLen)
    (hC : 0 ≤ C) (hC' : C ≤ 9223372036854775807) (hfull : C ≤ (n : Int) - g)
    (h0 : w.cell? ⟨b, 0, none⟩ = some (.int .i64 C))
    (h1 : w.cell? ⟨b, 1, none⟩ = some (.slice sa n cap))
    (h2 : w.cell? ⟨b, 2, none⟩ = some (.int .i64 g)) :
    Calls Try.prog 11 #[.pointer (some ⟨b, 0, none⟩), .agg #[.int .i64 X, .string S]] w fun e w' => e = .returned (.bool false) ∧ Mods (fun _ => False) w w' := by
  unfold maxLen at hn
  go_enter Try.func11, Try.ntmps11
  go_wp2_with fail
  refine (proom_any _ b C sa n cap g hg hn hC hC' (ca h0) (ca h1) (ca h2)).mono ?_
  rintro e w' ⟨rfl, m, rfl⟩
  go_wp2
  go_ret
  exact ⟨rfl, ((Mods.refl _ _).alloc _).drewN _⟩

theorem info28 : (Try.prog.info? 28).map (fun i => (i.zero, i.size, i.bytes)) = some (some (.agg #[.int .i64 0, .string ByteArray.empty]), 2, 24) := by kernel_rfl

set_option maxHeartbeats 400000 in
theorem pput_yes (w : World) (b : Nat) (C X : Int) (S : ByteArray) (v : Value) (n : Nat) (xs : List Value) (g : Nat) (hg : g ≤ n) (hn : n ≤ 1048576) (base : Nat) (hb : base ≤ w.heap.size)
    (hC : 0 ≤ C) (hC' : C ≤ 9223372036854775807) (hroom : (n : Int) - g < C)
    (hQ : w.heap[b]? = some (.cells #[.int .i64 C, v, .int .i64 g] 68 (0, 0)))
    (hown : w.ownsRow base 28 2 v n xs) (hvb : v.ownBlock ≠ some b) :
    Calls Try.prog 11 #[.pointer (some ⟨b, 0, none⟩), .agg #[.int .i64 X, .string S]] w fun e w' => e = .returned (.bool true) ∧ Mods (fun k => k = b ∨ v.ownBlock = some k) w w' ∧
      ∃ v', w'.heap[b]? = some (.cells #[.int .i64 C, v', .int .i64 g] 68 (0, 0)) ∧ w'.ownsRow base 28 2 v' (n + 1) (xs ++ [.int .i64 X, .string S]) ∧ (v'.ownBlock = v.ownBlock ∨ ∃ k, v'.ownBlock = some k ∧ w.heap.size ≤ k) := by
  obtain ⟨sa, cap, rfl⟩ : ∃ sa cap, v = .slice sa n cap := by
    rcases hown.2 with ⟨rfl, rfl⟩ | ⟨g, cap, cur, rfl, _⟩
    · exact ⟨_, _, rfl⟩
    · exact ⟨_, _, rfl⟩
  obtain ⟨i0, hi, hz0, hz1, hz2⟩ := info_parts info28
  have h0 := cell_of_row w b 0 _ _ _ hQ
  have h1 := cell_of_row w b 1 _ _ _ hQ
  have h2 := cell_of_row w b 2 _ _ _ hQ
  simp at h0 h1 h2
  go_enter Try.func11, Try.ntmps11
  go_wp2_with fail
  refine (proom_any _ b C sa n cap g hg (by unfold maxLen; omega) hC hC' (ca h0) (ca h1) (ca h2)).mono ?_
  rintro e w' ⟨rfl, m, rfl⟩
  go_wp2_with fail
  have hB : (w.alloc (.cells #[.int .i64 X, .string S] 28)).heap[w.heap.size]? = some (.cells #[.int .i64 X, .string S] 28) := heap_alloc_new w _
  have hQ1 : (w.alloc (.cells #[.int .i64 X, .string S] 28)).heap[b]? = _ := (Below.heap_alloc w _ b (by have := (Array.getElem?_eq_some_iff.1 hQ).1; exact this)).trans hQ
  have hown1 := hown.alloc (.cells #[.int .i64 X, .string S] 28)
  have hmods : Mods (fun _ => False) w ((w.alloc (.cells #[.int .i64 X, .string S] 28)).drewN m) := ((Mods.refl _ _).alloc _).drewN _
  generalize hw1 : (w.alloc (.cells #[.int .i64 X, .string S] 28)).drewN m = w1 at *
  have hB1 : w1.heap[w.heap.size]? = some (.cells #[.int .i64 X, .string S] 28) := by rw [← hw1]; exact hB
  have hQ2 : w1.heap[b]? = some (.cells #[.int .i64 C, .slice sa n cap, .int .i64 g] 68 (0, 0)) := by rw [← hw1]; exact hQ1
  have hown2 : w1.ownsRow base 28 2 (.slice sa n cap) n xs := by rw [← hw1]; exact hown1
  have hb1 : base ≤ w1.heap.size := Nat.le_trans hb hmods.size
  clear hw1 hB hQ1 hown1 h0 h1 h2
  have c1 := cell_of_row w1 b 1 _ _ _ hQ2
  have c2 := cell_of_row w1 w.heap.size 0 _ _ _ hB1
  have c3 := cell_of_row w1 w.heap.size 1 _ _ _ hB1
  simp at c1 c2 c3
  have hne : some w.heap.size ≠ (Value.slice sa n cap).ownBlock := fun h => by have := (hown.lt _ h.symm).2; omega
  refine wp_region_lex (fun w' => w'.cell? ⟨b, 1, none⟩ = some (.slice sa n cap) ∧ w'.cell? ⟨w.heap.size, 0, none⟩ = some (.int .i64 X) ∧ w'.cell? ⟨w.heap.size, 1, none⟩ = some (.string S)) [0, 1, 2, 3, 4, 5] [6, 7, 8, 9, 10] (by kernel_rfl) (by kernel_rfl) rfl (fun _ _ hx h => ⟨hx.cell h.1, hx.cell h.2.1, hx.cell h.2.2⟩) ⟨c1, c2, c3⟩ ?_
  intro Q' hQ'
  simp only [pickOps, List.flatMap_cons, List.flatMap_nil, List.drop_succ_cons, List.drop_zero, List.take_succ_cons, List.take_zero, List.cons_append, List.nil_append, List.append_nil]
  repeat (first
    | (refine wpReads_skip (by rfl) ?_; (try simp only [Act.put, List.setIfInBounds_toArray, List.set_cons_zero, List.set_cons_succ]))
    | (refine wpReads_cons ?_ (by rfl) (by rfl) ?_ ?_; rotate_left; (intro wz hz; (try dsimp only at hz); go_simp; try with_reducible rfl); (try simp only [Act.put, List.setIfInBounds_toArray, List.set_cons_zero, List.set_cons_succ]))
    | (refine wpReads_any ?_ (by rfl) ?_ ?_; rotate_left; (intro wz; go_simp; try with_reducible rfl); (try simp only [Act.put, List.setIfInBounds_toArray, List.set_cons_zero, List.set_cons_succ])))
  refine wpReads_nil ?_
  have hbw : b < w1.heap.size := (Array.getElem?_eq_some_iff.1 hQ2).1
  refine wpList_plain rfl fun K hK => ?_
  go_simp
  refine hK _ _ ?_
  clear hK K
  at_builtin
  go_must (refine wpList_app rfl _ _ 66 rfl base 28 i0 _ 2 24 Try.underlying66 hi hz0 hz1 hz2 rfl (.slice sa n cap) n xs rfl (hown2.alloc _) (some ⟨w1.heap.size, 0, none⟩) 1 1 [.int .i64 X, .string S] rfl rfl (fun h => by cases h) (news_alloc w1 _ _) (by simp [Value.oneCell']) (by unfold maxLen; omega) (grow_ok47 (by omega)) (size_le_alloc hb1 _) ?_)
  intro v' w2 g1 g2 _ g4
  obtain ⟨sa', cap', rfl⟩ := owns_slice g1
  have hQ3 : w2.heap[b]? = some (.cells #[.int .i64 C, .slice sa n cap, .int .i64 g] 68 (0, 0)) := (g2.block b (by show b < (w1.alloc _).heap.size; simp; omega) (fun h => hvb h.symm)).trans ((Below.heap_alloc w1 _ b hbw).trans hQ2)
  have c4 := cell_of_row w2 b 1 _ _ _ hQ3
  have f4 : w2.frozen? ⟨b, 1, none⟩ = false := by simp [World.frozen?, hQ3]
  simp at c4
  have hm2 : Mods (fun k => k = b ∨ (Value.slice sa n cap).ownBlock = some k) w w2 := ((hmods.mono (fun _ _ h => h.elim)).alloc _).drew.grown g2 (fun k hk _ => .inr hk)
  have hsz : w.heap.size ≤ w1.heap.size := hmods.size
  go_wp2
  go_ret
  refine ⟨rfl, hm2.setCell (fun _ => .inl rfl) _, _, ?_, ownsRow_setCell_other g1 ?_ _, ?_⟩
  · exact block_setCell hQ3 1 _
  · rcases g4 with g4 | g4
    · rw [g4]; exact hvb
    · rw [g4]; intro h; have := Option.some.inj h; simp at this; omega
  · rcases g4 with g4 | g4
    · exact .inl g4
    · exact .inr ⟨_, g4, by simp; omega⟩
end Go.Proofs.Ytifhnealecndnaa
