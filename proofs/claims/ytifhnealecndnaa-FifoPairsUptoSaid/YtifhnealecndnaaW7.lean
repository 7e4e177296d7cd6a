/- What it is to be a queue of pairs that holds a list (PQ), and what each call makes of that list. -/
import Derived.Test.YtifhnealecndnaaW6
namespace Go.Proofs.Ytifhnealecndnaa
open Go.RowKit

def pcells (ps : List (Int × ByteArray)) : List Value := ps.flatMap fun p => [.int .i64 p.1, .string p.2]
theorem pcells_append (a b : List (Int × ByteArray)) : pcells (a ++ b) = pcells a ++ pcells b := by simp [pcells]
theorem pcells_cons (p : Int × ByteArray) (b : List (Int × ByteArray)) : pcells (p :: b) = .int .i64 p.1 :: .string p.2 :: pcells b := by simp [pcells]
theorem pcells_length (a : List (Int × ByteArray)) : (pcells a).length = a.length * 2 := by
  induction a with
  | nil => rfl
  | cons p a ih => rw [pcells_cons]; simp [ih]; omega
theorem pcells_drop (a : List (Int × ByteArray)) : ∀ n, (pcells a).drop (2 * n) = pcells (a.drop n) := by
  induction a with
  | nil => intro n; simp [pcells]
  | cons p a ih =>
    intro n
    cases n with
    | zero => rfl
    | succ n => rw [pcells_cons, show 2 * (n + 1) = 2 * n + 1 + 1 by omega, List.drop_succ_cons, List.drop_succ_cons, ih, List.drop_succ_cons]
theorem pcells_one (a : List (Int × ByteArray)) : ∀ u ∈ pcells a, u.oneCell' = true := by
  intro u hu
  simp only [pcells, List.mem_flatMap] at hu
  obtain ⟨p, _, hp⟩ := hu
  simp at hp
  rcases hp with rfl | rfl <;> rfl
theorem pcells_get {a : List (Int × ByteArray)} {g : Nat} {p : Int × ByteArray} {l : List (Int × ByteArray)} (h : a.drop g = p :: l) : (pcells a)[2 * g]? = some (.int .i64 p.1) ∧ (pcells a)[2 * g + 1]? = some (.string p.2) := by
  have h1 := pcells_drop a g
  rw [h, pcells_cons] at h1
  constructor
  · rw [← Nat.add_zero (2 * g), ← List.getElem?_drop, h1]; rfl
  · rw [← List.getElem?_drop, h1]; rfl

/-- A queue of pairs at block b. -/
def PQ (w : World) (base b : Nat) (C : Int) (l : List (Int × ByteArray)) (N : Nat) : Prop :=
  ∃ (v : Value) (g : Nat) (ps : List (Int × ByteArray)), w.heap[b]? = some (.cells #[.int .i64 C, v, .int .i64 (g : Int)] 68 (0, 0)) ∧ w.ownsRow base 28 2 v ps.length (pcells ps) ∧ g ≤ ps.length ∧ ps.drop g = l ∧
    v.ownBlock ≠ some b ∧ ps.length ≤ N ∧ 0 ≤ C ∧ C ≤ 9223372036854775807 ∧ base ≤ b

theorem PQ.frame {w w' : World} {base b : Nat} {C : Int} {l : List (Int × ByteArray)} {N : Nat} (h : PQ w base b C l N) (hm : Below w.heap.size w w') : PQ w' base b C l N := by
  obtain ⟨v, g, zs, h1, h2, h3⟩ := h
  exact ⟨v, g, zs, (hm.block b (block_lt h1)).trans h1, owns_kept h2 (Mods.of_below hm (fun _ => False)) (fun k hk h => h), h3⟩
theorem PQ.drewN {w : World} {base b : Nat} {C : Int} {l : List (Int × ByteArray)} {N : Nat} (h : PQ w base b C l N) (m : Nat) : PQ (w.drewN m) base b C l N := h

theorem PQ.lt {w : World} {base b : Nat} {C : Int} {l : List (Int × ByteArray)} {N : Nat} (h : PQ w base b C l N) : b < w.heap.size ∧ base ≤ b ∧ l.length ≤ N := by
  obtain ⟨v, g, ps, h1, h2, h3, h4, h5, h6, h7, h8, h9⟩ := h
  exact ⟨block_lt h1, h9, by rw [← h4, List.length_drop]; omega⟩

theorem pq_len {w : World} {base b : Nat} {C : Int} {l : List (Int × ByteArray)} {N : Nat} (h : PQ w base b C l N) (hN : N ≤ 1048576) :
    Calls Try.prog 12 #[.pointer (some ⟨b, 0, none⟩)] w fun e w' => e = .returned (.int .i64 (l.length : Int)) ∧ ∃ m, w' = w.drewN m := by
  obtain ⟨v, g, ps, h1, h2, h3, h4, h5, h6, h7, h8, h9⟩ := h
  obtain ⟨sa, cap, rfl⟩ := owns_slice h2
  have hl : ps.length - g = l.length := by rw [← h4, List.length_drop]
  refine (plen_any w b sa ps.length cap g h3 (by unfold maxLen; omega) (cells_row w b h1 1 _ rfl) (cells_row w b h1 2 _ rfl)).mono ?_
  rintro e w' ⟨rfl, m, rfl⟩
  exact ⟨ret_int (by omega), m, rfl⟩

theorem pq_put_no {w : World} {base b : Nat} {C X : Int} {S : ByteArray} {l : List (Int × ByteArray)} {N : Nat} (h : PQ w base b C l N) (hN : N ≤ 1048576) (hf : C ≤ (l.length : Int)) :
    Calls Try.prog 11 #[.pointer (some ⟨b, 0, none⟩), .agg #[.int .i64 X, .string S]] w fun e w' => e = .returned (.bool false) ∧ Below w.heap.size w w' := by
  obtain ⟨v, g, ps, h1, h2, h3, h4, h5, h6, h7, h8, h9⟩ := h
  obtain ⟨sa, cap, rfl⟩ := owns_slice h2
  have hl : ps.length - g = l.length := by rw [← h4, List.length_drop]
  refine (pput_no w b C X S sa ps.length cap g h3 (by unfold maxLen; omega) h7 h8 (by omega) (cells_row w b h1 0 _ rfl) (cells_row w b h1 1 _ rfl) (cells_row w b h1 2 _ rfl)).mono ?_
  rintro e w' ⟨rfl, hm⟩
  exact ⟨rfl, hm.below (Nat.le_refl _) (fun _ _ h => h)⟩

theorem pq_put_yes {w : World} {base b : Nat} {C X : Int} {S : ByteArray} {l : List (Int × ByteArray)} {N : Nat} (h : PQ w base b C l N) (hN : N < 1048576) (hb : base ≤ w.heap.size) (hf : (l.length : Int) < C) :
    Calls Try.prog 11 #[.pointer (some ⟨b, 0, none⟩), .agg #[.int .i64 X, .string S]] w fun e w' => e = .returned (.bool true) ∧ PQ w' base b C (l ++ [(X, S)]) (N + 1) ∧ Below base w w' := by
  obtain ⟨v, g, ps, h1, h2, h3, h4, h5, h6, h7, h8, h9⟩ := h
  have hl : ps.length - g = l.length := by rw [← h4, List.length_drop]
  refine (pput_yes w b C X S v ps.length (pcells ps) g h3 (by omega) base hb h7 h8 (by omega) h1 h2 h5).mono ?_
  rintro e w' ⟨rfl, hm, v', q1, q2, q3⟩
  refine ⟨rfl, ⟨v', g, ps ++ [(X, S)], q1, by simpa [pcells_append, pcells_cons, pcells] using q2, by simp; omega, ?_, ?_, by simp; omega, h7, h8, h9⟩, hm.below hb ?_⟩
  · rw [List.drop_append_of_le_length h3, h4]
  · rcases q3 with q3 | ⟨k, q3, q4⟩
    · rw [q3]; exact h5
    · rw [q3]; intro e; have := Option.some.inj e; have := block_lt h1; omega
  · rintro k hk (rfl | hk2)
    · omega
    · have := (h2.lt k hk2).1; omega

theorem pq_take_none {w : World} {base b : Nat} {C : Int} {N : Nat} (h : PQ w base b C [] N) (hN : N ≤ 1048576) :
    Calls Try.prog 13 #[.pointer (some ⟨b, 0, none⟩)] w fun e w' => e = .returned (.tuple #[.agg #[.int .i64 0, .string ⟨#[]⟩], .bool false]) ∧ Below w.heap.size w w' := by
  obtain ⟨v, g, ps, h1, h2, h3, h4, h5, h6, h7, h8, h9⟩ := h
  have hg : g = ps.length := by have := congrArg List.length h4; simp at this; omega
  subst hg
  refine (ptake_none w b C v ps.length _ base (by omega) h1 h2).mono ?_
  rintro e w' ⟨rfl, hm⟩
  exact ⟨rfl, hm.below (Nat.le_refl _) (fun _ _ h => h)⟩

theorem pq_take_cons {w : World} {base b : Nat} {C X : Int} {S : ByteArray} {l : List (Int × ByteArray)} {N : Nat} (h : PQ w base b C ((X, S) :: l) N) (hN : N ≤ 1048576) (hb : base ≤ w.heap.size) :
    Calls Try.prog 13 #[.pointer (some ⟨b, 0, none⟩)] w fun e w' => e = .returned (.tuple #[.agg #[.int .i64 X, .string S], .bool true]) ∧ PQ w' base b C l N ∧ Below base w w' := by
  obtain ⟨v, g, ps, h1, h2, h3, h4, h5, h6, h7, h8, h9⟩ := h
  have hlt : g < ps.length := by
    rcases Nat.lt_or_ge g ps.length with h1 | h1
    · exact h1
    · rw [List.drop_eq_nil_of_le h1] at h4; cases h4
  obtain ⟨hx, hs⟩ := pcells_get h4
  have hd : ps.drop (g + 1) = l := by
    rw [List.drop_eq_getElem_cons hlt] at h4
    injection h4
  have keep : ∀ (e : Ending) (w' : World), (e = .returned (.tuple #[.agg #[.int .i64 X, .string S], .bool true]) ∧ Mods (fun k => k = b) w w' ∧ w'.heap[b]? = some (.cells #[.int .i64 C, v, .int .i64 (g + 1 : Nat)] 68 (0, 0))) →
      e = .returned (.tuple #[.agg #[.int .i64 X, .string S], .bool true]) ∧ PQ w' base b C l N ∧ Below base w w' := by
    rintro e w' ⟨rfl, hm, q1⟩
    exact ⟨rfl, ⟨v, g + 1, ps, q1, owns_kept h2 hm (fun k hk e => h5 (by rw [hk, e])), hlt, hd, h5, h6, h7, h8, h9⟩, hm.below hb (fun k hk e => by omega)⟩
  by_cases c1 : g < 32
  · exact (ptake_a w b C X S v ps.length g _ base (by omega) hlt c1 h1 h2 h5 hx hs).mono keep
  · by_cases c2 : 2 * (g + 1) ≤ ps.length
    · exact (ptake_b w b C X S v ps.length g _ base (by omega) hlt (by omega) c2 h1 h2 h5 hx hs).mono keep
    · refine (ptake_c w b C X S v ps.length g _ base (by omega) hlt (by omega) (by omega) hb (pcells_one ps) h1 h2 h5 hx hs).mono ?_
      rintro e w' ⟨rfl, hm, v', q1, q2, k, q3, q4⟩
      have hbw := block_lt h1
      refine ⟨rfl, ⟨v', 0, l, by simpa using q1, ?_, Nat.zero_le _, rfl, fun e => by rw [q3] at e; have := Option.some.inj e; omega, ?_, h7, h8, h9⟩, hm.below hb (fun k hk e => by omega)⟩
      · have : ps.length - (g + 1) = l.length := by rw [← hd, List.length_drop]
        rw [this, pcells_drop, hd] at q2
        exact q2
      · rw [← hd, List.length_drop]; omega

theorem pq_new_yes (w : World) (C : Int) (hC : 0 ≤ C) (hC' : C ≤ 9223372036854775807) :
    Calls Try.prog 9 #[.int .i64 C, .slice none 0 0] w fun e w' => ∃ b, e = .returned (.tuple #[.pointer (some ⟨b, 0, none⟩), .int .i64 0]) ∧ Below w.heap.size w w' ∧ PQ w' w.heap.size b C [] 0 := by
  refine (pnew_yes w C none 0 0 [] hC rfl (fun _ => rfl) (fun _ h => by cases h) (by simp) (by omega)).mono ?_
  rintro e w' ⟨b, v, rfl, hb, hbb, q1, q2, q3, _⟩
  exact ⟨b, rfl, hb, v, 0, [], by simpa using q1, q2, Nat.zero_le _, rfl, q3, Nat.le_refl _, hC, hC', hbb⟩

end Go.Proofs.Ytifhnealecndnaa
