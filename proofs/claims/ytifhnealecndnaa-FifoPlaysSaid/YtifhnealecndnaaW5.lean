/- What it is to be a queue of ints that holds a list (IQ), and what each call makes of that list. -/
import Derived.Test.YtifhnealecndnaaW4
namespace Go.Proofs.Ytifhnealecndnaa
open Go.RowKit

/-- A queue of ints at block b: capacity C, what is in it l; r: the block of its line; N: how many the line holds at most; what it owns lies from base on. -/
def IQ (w : World) (base b : Nat) (C : Int) (l : List Int) (r : Option Nat) (N : Nat) : Prop :=
  ∃ (v : Value) (g : Nat) (zs : List Int), w.heap[b]? = some (.cells #[.int .i64 C, v, .int .i64 (g : Int)] 70 (0, 0)) ∧ w.ownsRow base 3 1 v zs.length (zs.map (Value.int .i64)) ∧ g ≤ zs.length ∧ zs.drop g = l ∧
    v.ownBlock = r ∧ r ≠ some b ∧ zs.length ≤ N ∧ 0 ≤ C ∧ C ≤ 9223372036854775807 ∧ base ≤ b ∧ r ≠ none

theorem IQ.frame {w w' : World} {base b : Nat} {C : Int} {l : List Int} {r : Option Nat} {N : Nat} {F : Nat → Prop} (h : IQ w base b C l r N) (hm : Mods F w w') (hb : ¬ F b) (hr : ∀ k, r = some k → ¬ F k) : IQ w' base b C l r N := by
  obtain ⟨v, g, zs, h1, h2, h3, h4, h5, h6⟩ := h
  exact ⟨v, g, zs, block_mods h1 hm hb, owns_kept h2 hm (fun k hk => hr k (h5 ▸ hk)), h3, h4, h5, h6⟩

theorem IQ.drewN {w : World} {base b : Nat} {C : Int} {l : List Int} {r : Option Nat} {N : Nat} (h : IQ w base b C l r N) (m : Nat) : IQ (w.drewN m) base b C l r N := h

theorem IQ.lt {w : World} {base b : Nat} {C : Int} {l : List Int} {r : Option Nat} {N : Nat} (h : IQ w base b C l r N) : b < w.heap.size ∧ base ≤ b ∧ (∀ k, r = some k → base ≤ k ∧ k < w.heap.size ∧ k ≠ b) ∧ 0 ≤ C ∧ C ≤ 9223372036854775807 ∧ l.length ≤ N := by
  obtain ⟨v, g, zs, h1, h2, h3, h4, h5, h6, h7, h8, h9, h10, h11⟩ := h
  refine ⟨block_lt h1, h10, fun k hk => ⟨(h2.lt k (h5.trans hk)).1, (h2.lt k (h5.trans hk)).2, fun e => h6 (by rw [hk, e])⟩, h8, h9, ?_⟩
  rw [← h4, List.length_drop]; omega

theorem IQ.mono {w : World} {base b : Nat} {C : Int} {l : List Int} {r : Option Nat} {N N' : Nat} (h : IQ w base b C l r N) (hN : N ≤ N') : IQ w base b C l r N' := by
  obtain ⟨v, g, zs, h1, h2, h3, h4, h5, h6, h7, h8⟩ := h
  exact ⟨v, g, zs, h1, h2, h3, h4, h5, h6, Nat.le_trans h7 hN, h8⟩

theorem IQ.parts {w : World} {base b : Nat} {C : Int} {l : List Int} {r : Option Nat} {N : Nat} (h : IQ w base b C l r N) : ∃ (sa : Option Addr) (n cap g : Nat), g ≤ n ∧ n - g = l.length ∧ n ≤ N ∧
    w.cell? ⟨b, 0, none⟩ = some (.int .i64 C) ∧ w.cell? ⟨b, 1, none⟩ = some (.slice sa n cap) ∧ w.cell? ⟨b, 2, none⟩ = some (.int .i64 (g : Int)) := by
  obtain ⟨v, g, zs, h1, h2, h3, h4, h5, h6, h7, h8⟩ := h
  obtain ⟨sa, cap, rfl⟩ := owns_slice h2
  exact ⟨sa, zs.length, cap, g, h3, by rw [← h4, List.length_drop], h7, cells_row w b h1 0 _ rfl, cells_row w b h1 1 _ rfl, cells_row w b h1 2 _ rfl⟩

theorem ints_one (zs : List Int) : ∀ u ∈ zs.map (Value.int .i64), u.oneCell' = true := ints_oneCell .i64 zs

theorem iq_len {w : World} {base b : Nat} {C : Int} {l : List Int} {r : Option Nat} {N : Nat} (h : IQ w base b C l r N) (hN : N ≤ 27000000000000) :
    Calls Try.prog 23 #[.pointer (some ⟨b, 0, none⟩)] w fun e w' => e = .returned (.int .i64 (l.length : Int)) ∧ ∃ m, w' = w.drewN m := by
  obtain ⟨sa, n, cap, g, hg, hl, hn, _, c1, c2⟩ := h.parts
  refine (ilen_any w b sa n cap g hg (by unfold maxLen; omega) c1 c2).mono ?_
  rintro e w' ⟨rfl, m, rfl⟩
  exact ⟨ret_int (by omega), m, rfl⟩

theorem iq_room {w : World} {base b : Nat} {C : Int} {l : List Int} {r : Option Nat} {N : Nat} (h : IQ w base b C l r N) (hN : N ≤ 27000000000000) :
    Calls Try.prog 24 #[.pointer (some ⟨b, 0, none⟩)] w fun e w' => e = .returned (.int .i64 (max 0 (C - (l.length : Int)))) ∧ ∃ m, w' = w.drewN m := by
  obtain ⟨sa, n, cap, g, hg, hl, hn, c0, c1, c2⟩ := h.parts
  obtain ⟨_, _, _, hC, hC', _⟩ := h.lt
  refine (iroom_any w b C sa n cap g hg (by unfold maxLen; omega) hC hC' c0 c1 c2).mono ?_
  rintro e w' ⟨rfl, m, rfl⟩
  exact ⟨ret_int (by show max _ _ = max _ _; omega), m, rfl⟩

theorem iq_put_no {w : World} {base b : Nat} {C X : Int} {l : List Int} {r : Option Nat} {N : Nat} (h : IQ w base b C l r N) (hN : N ≤ 27000000000000) (hf : C ≤ (l.length : Int)) :
    Calls Try.prog 20 #[.pointer (some ⟨b, 0, none⟩), .int .i64 X] w fun e w' => e = .returned (.bool false) ∧ ∃ m, w' = w.drewN m := by
  obtain ⟨sa, n, cap, g, hg, hl, hn, c0, c1, c2⟩ := h.parts
  obtain ⟨_, _, _, hC, hC', _⟩ := h.lt
  exact iput_no w b C X sa n cap g hg (by unfold maxLen; omega) hC hC' (by omega) c0 c1 c2

theorem iq_put_yes {w : World} {base b : Nat} {C X : Int} {l : List Int} {r : Option Nat} {N : Nat} (h : IQ w base b C l r N) (hN : N < 27000000000000) (hb : base ≤ w.heap.size) (hf : (l.length : Int) < C) :
    Calls Try.prog 20 #[.pointer (some ⟨b, 0, none⟩), .int .i64 X] w fun e w' => e = .returned (.bool true) ∧ ∃ r', IQ w' base b C (l ++ [X]) r' (N + 1) ∧ Mods (fun k => k = b ∨ r = some k) w w' ∧ (r' = r ∨ ∃ k, r' = some k ∧ w.heap.size ≤ k) := by
  obtain ⟨v, g, zs, h1, h2, h3, h4, h5, h6, h7, h8, h9, h10, h11⟩ := h
  have hl : zs.length - g = l.length := by rw [← h4, List.length_drop]
  refine (iput_yes w b C X v zs.length (zs.map (Value.int .i64)) g h3 (by omega) base hb h8 h9 (by omega) h1 h2 (by rw [h5]; exact h6)).mono ?_
  rintro e w' ⟨rfl, hm, v', q1, q2, q3⟩
  subst h5
  refine ⟨rfl, v'.ownBlock, ⟨v', g, zs ++ [X], q1, by simpa using q2, by simp; omega, ?_, rfl, ?_, by simp; omega, h8, h9, h10, (by rcases q3 with q3 | ⟨k, q3, _⟩ <;> rw [q3] <;> first | exact h11 | simp)⟩, hm, q3⟩
  · rw [List.drop_append_of_le_length h3, h4]
  · rcases q3 with q3 | ⟨k, q3, q4⟩
    · rw [q3]; exact h6
    · rw [q3]; intro e; have := Option.some.inj e; have := block_lt h1; omega

theorem iq_take_none {w : World} {base b : Nat} {C : Int} {r : Option Nat} {N : Nat} (h : IQ w base b C [] r N) (hN : N ≤ 27000000000000) :
    Calls Try.prog 21 #[.pointer (some ⟨b, 0, none⟩)] w fun e w' => e = .returned (.tuple #[.int .i64 0, .bool false]) ∧ ∃ m, w' = w.drewN m := by
  obtain ⟨v, g, zs, h1, h2, h3, h4, h5, h6, h7, h8, h9, h10, h11⟩ := h
  have hg : g = zs.length := by have := congrArg List.length h4; simp at this; omega
  subst hg
  exact itake_none w b C v zs.length _ base (by unfold maxLen; omega) h1 h2

theorem drop_cons {zs l : List Int} {g : Nat} {x : Int} (h : zs.drop g = x :: l) : g < zs.length ∧ zs[g]? = some x ∧ zs.drop (g + 1) = l := by
  have hlt : g < zs.length := by
    rcases Nat.lt_or_ge g zs.length with h1 | h1
    · exact h1
    · rw [List.drop_eq_nil_of_le h1] at h; cases h
  rw [List.drop_eq_getElem_cons hlt] at h
  injection h with h1 h2
  exact ⟨hlt, by rw [List.getElem?_eq_getElem hlt, h1], h2⟩

theorem iq_take_cons {w : World} {base b : Nat} {C x : Int} {l : List Int} {r : Option Nat} {N : Nat} (h : IQ w base b C (x :: l) r N) (hN : N ≤ 27000000000000) (hb : base ≤ w.heap.size) :
    Calls Try.prog 21 #[.pointer (some ⟨b, 0, none⟩)] w fun e w' => e = .returned (.tuple #[.int .i64 x, .bool true]) ∧ ∃ r', IQ w' base b C l r' N ∧ Mods (fun k => k = b) w w' ∧ (r' = r ∨ ∃ k, r' = some k ∧ w.heap.size ≤ k) := by
  obtain ⟨v, g, zs, h1, h2, h3, h4, h5, h6, h7, h8, h9, h10, h11⟩ := h
  obtain ⟨hg, hx, hd⟩ := drop_cons h4
  have hx' : (zs.map (Value.int .i64))[g]? = some (.int .i64 x) := by simp [hx]
  have keep : ∀ (e : Ending) (w' : World), (e = .returned (.tuple #[.int .i64 x, .bool true]) ∧ Mods (fun k => k = b) w w' ∧ w'.heap[b]? = some (.cells #[.int .i64 C, v, .int .i64 (g + 1 : Nat)] 70 (0, 0))) →
      e = .returned (.tuple #[.int .i64 x, .bool true]) ∧ ∃ r', IQ w' base b C l r' N ∧ Mods (fun k => k = b) w w' ∧ (r' = r ∨ ∃ k, r' = some k ∧ w.heap.size ≤ k) := by
    rintro e w' ⟨rfl, hm, q1⟩
    exact ⟨rfl, r, ⟨v, g + 1, zs, q1, owns_kept h2 hm (fun k hk e => h6 (by rw [← h5, hk, e])), hg, hd, h5, h6, h7, h8, h9, h10, h11⟩, hm, .inl rfl⟩
  by_cases c1 : g < 32
  · exact (itake_a w b C x v zs.length g _ base (by omega) hg c1 h1 h2 (by rw [h5]; exact h6) hx').mono keep
  · by_cases c2 : 2 * (g + 1) ≤ zs.length
    · exact (itake_b w b C x v zs.length g _ base (by omega) hg (by omega) c2 h1 h2 (by rw [h5]; exact h6) hx').mono keep
    · refine (itake_c w b C x v zs.length g _ base (by omega) hg (by omega) (by omega) hb (ints_one zs) h1 h2 (by rw [h5]; exact h6) hx').mono ?_
      rintro e w' ⟨rfl, hm, v', q1, q2, k, q3, q4⟩
      have hbw := block_lt h1
      refine ⟨rfl, some k, ⟨v', 0, l, by simpa using q1, ?_, Nat.zero_le _, rfl, q3, fun e => by have := Option.some.inj e; omega, ?_, h8, h9, h10, by simp⟩, hm, .inr ⟨k, rfl, q4⟩⟩
      · have : zs.length - (g + 1) = l.length := by rw [← hd, List.length_drop]
        rw [this, ← List.map_drop, hd] at q2
        exact q2
      · rw [← hd, List.length_drop]; omega

theorem iq_new_no (w : World) (C : Int) (x : Value) (h : C < 0) :
    Calls Try.prog 15 #[.int .i64 C, x] w fun e w' => e = .returned (.tuple #[.pointer none, .int .i64 240]) ∧ w' = w := inew_no w C x h

theorem iq_new_yes (w : World) (C : Int) (ao : Option Addr) (c : Nat) (zs : List Int) (hC : 0 ≤ C) (hC' : C ≤ 9223372036854775807) (hnone : ao = none → zs.length = 0) (hnews : ∀ ad, ao = some ad → ∀ j u, (zs.map (Value.int .i64))[j]? = some u → w.cell? (ad.add j) = some u) (hn : zs.length ≤ 27000000000000) :
    Calls Try.prog 15 #[.int .i64 C, .slice ao zs.length c] w fun e w' => ∃ b r, e = .returned (.tuple #[.pointer (some ⟨b, 0, none⟩), .int .i64 0]) ∧ Below w.heap.size w w' ∧ IQ w' w.heap.size b C zs r zs.length := by
  refine (inew_yes w C ao zs.length c (zs.map (Value.int .i64)) hC (by simp) hnone hnews (ints_one zs) hn).mono ?_
  rintro e w' ⟨b, v, rfl, hb, hbb, q1, q2, q3, q4⟩
  exact ⟨b, v.ownBlock, rfl, hb, v, 0, zs, by simpa using q1, q2, Nat.zero_le _, rfl, rfl, q3, Nat.le_refl _, hC, hC', hbb, q4⟩

end Go.Proofs.Ytifhnealecndnaa
