/- New: a queue of pairs and a queue of ints, and none where the capacity is below zero. -/
import Derived.Test.YtifhnealecndnaaW2
import Derived.Test.YtifhnealecndnaaW3
namespace Go.Proofs.Ytifhnealecndnaa
open Go.RowKit

set_option maxHeartbeats 400000 in
theorem pnew_no (w : World) (C : Int) (x : Value) (h : C < 0) :
    Calls Try.prog 9 #[.int .i64 C, x] w fun e w' => e = .returned (.tuple #[.pointer none, .int .i64 240]) ∧ w' = w := by
  go_enter Try.func9, Try.ntmps9
  go_wp2
  go_ret2
  exact ⟨rfl, rfl⟩

set_option maxHeartbeats 400000 in
theorem pnew_yes (w : World) (C : Int) (ao : Option Addr) (m c : Nat) (news : List Value) (hC : 0 ≤ C) (hl : news.length = m * 2) (hnone : ao = none → m = 0) (hnews : ∀ ad, ao = some ad → ∀ j u, news[j]? = some u → w.cell? (ad.add j) = some u) (h1 : ∀ u ∈ news, u.oneCell' = true)
    (hn : m ≤ 9000000000000) :
    Calls Try.prog 9 #[.int .i64 C, .slice ao m c] w fun e w' => ∃ b v, e = .returned (.tuple #[.pointer (some ⟨b, 0, none⟩), .int .i64 0]) ∧ Below w.heap.size w w' ∧ w.heap.size ≤ b ∧
      w'.heap[b]? = some (.cells #[.int .i64 C, v, .int .i64 0] 68 (0, 0)) ∧ w'.ownsRow w.heap.size 28 2 v m news ∧ v.ownBlock ≠ some b ∧ v.ownBlock ≠ none := by
  obtain ⟨i0, hi, hz0, hz1, hz2⟩ := info_parts info28
  have hnC : ¬ C < 0 := by omega
  have Hn := Lib.hid hn
  clear hn
  go_enter Try.func9, Try.ntmps9
  go_wp2_with (at_builtin; refine stop_here ?_)
  refine go_on ?_
  have hown0 := World.ownsRow_made (e := 28) (size := 2) w #[] 0 (Nat.le_refl _) (Nat.zero_le _) rfl
  refine wpList_app rfl _ _ 66 rfl w.heap.size 28 i0 _ 2 24 Try.underlying66 hi hz0 hz1 hz2 rfl (.slice (some ⟨w.heap.size, 0, none⟩) 0 0) 0 [] rfl hown0 ao m c news rfl hl hnone (fun ad had j u hu => ca (hnews ad had j u hu)) h1 (by have := Hn.out; unfold maxLen; omega) (grow_ok (by have := Hn.out; omega)) (size_le_alloc (Nat.le_refl _) _) ?_
  intro v' w2 g1 g2 _ g4
  simp only [Nat.zero_add, List.nil_append] at g1
  obtain ⟨sa', cap', rfl⟩ := owns_slice g1
  have hlt := g1.lt
  go_wp2
  go_ret2
  refine ⟨w2.heap.size, _, rfl, ?_, ?_, heap_alloc_new w2 _, g1.alloc _, ?_, by rcases g4 with g4 | g4 <;> rw [g4] <;> simp [Value.ownBlock]⟩
  · exact (((Below.refl _ _).alloc (Nat.le_refl _) _).grown g2 (by simp) (fun k hk => by simp [Value.ownBlock] at hk; omega)).alloc (by have := g2.size; simp at this; omega) _
  · have := g2.size; simp at this; omega
  · intro h
    have := (hlt _ h).2
    omega

set_option maxHeartbeats 400000 in
theorem inew_no (w : World) (C : Int) (x : Value) (h : C < 0) :
    Calls Try.prog 15 #[.int .i64 C, x] w fun e w' => e = .returned (.tuple #[.pointer none, .int .i64 240]) ∧ w' = w := by
  go_enter Try.func15, Try.ntmps15
  go_wp2
  go_ret2
  exact ⟨rfl, rfl⟩

set_option maxHeartbeats 400000 in
theorem inew_yes (w : World) (C : Int) (ao : Option Addr) (m c : Nat) (news : List Value) (hC : 0 ≤ C) (hl : news.length = m * 1) (hnone : ao = none → m = 0) (hnews : ∀ ad, ao = some ad → ∀ j u, news[j]? = some u → w.cell? (ad.add j) = some u) (h1 : ∀ u ∈ news, u.oneCell' = true)
    (hn : m ≤ 27000000000000) :
    Calls Try.prog 15 #[.int .i64 C, .slice ao m c] w fun e w' => ∃ b v, e = .returned (.tuple #[.pointer (some ⟨b, 0, none⟩), .int .i64 0]) ∧ Below w.heap.size w w' ∧ w.heap.size ≤ b ∧
      w'.heap[b]? = some (.cells #[.int .i64 C, v, .int .i64 0] 70 (0, 0)) ∧ w'.ownsRow w.heap.size 3 1 v m news ∧ v.ownBlock ≠ some b ∧ v.ownBlock ≠ none := by
  obtain ⟨i0, hi, hz0, hz1, hz2⟩ := info_parts info3
  have hnC : ¬ C < 0 := by omega
  have Hn := Lib.hid hn
  clear hn
  go_enter Try.func15, Try.ntmps15
  go_wp2_with (at_builtin; refine stop_here ?_)
  refine go_on ?_
  have hown0 := World.ownsRow_made (e := 3) (size := 1) w #[] 0 (Nat.le_refl _) (Nat.zero_le _) rfl
  refine wpList_app rfl _ _ 22 rfl w.heap.size 3 i0 _ 1 8 Try.underlying22 hi hz0 hz1 hz2 rfl (.slice (some ⟨w.heap.size, 0, none⟩) 0 0) 0 [] rfl hown0 ao m c news rfl hl hnone (fun ad had j u hu => ca (hnews ad had j u hu)) h1 (by have := Hn.out; unfold maxLen; omega) (grow_ok (by have := Hn.out; omega)) (size_le_alloc (Nat.le_refl _) _) ?_
  intro v' w2 g1 g2 _ g4
  simp only [Nat.zero_add, List.nil_append] at g1
  obtain ⟨sa', cap', rfl⟩ := owns_slice g1
  have hlt := g1.lt
  go_wp2
  go_ret2
  refine ⟨w2.heap.size, _, rfl, ?_, ?_, heap_alloc_new w2 _, g1.alloc _, ?_, by rcases g4 with g4 | g4 <;> rw [g4] <;> simp [Value.ownBlock]⟩
  · exact (((Below.refl _ _).alloc (Nat.le_refl _) _).grown g2 (by simp) (fun k hk => by simp [Value.ownBlock] at hk; omega)).alloc (by have := g2.size; simp at this; omega) _
  · have := g2.size; simp at this; omega
  · intro h
    have := (hlt _ h).2
    omega

end Go.Proofs.Ytifhnealecndnaa
