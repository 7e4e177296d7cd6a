/- The reference's Of: its small calls. -/
import Derived.Test.YtknmiiajeafjpaaUpDown
namespace Go.Proofs.Ytknmiiajeafjpaa
open Go.RowKit

theorem rep_succ (k : Nat) (r : Int) : List.replicate (k + 1) r = List.replicate k r ++ [r] := by rw [List.replicate_succ', ]

set_option maxHeartbeats 1000000 in
theorem rports_any (w : World) (n : Nat) (r : Int) (hn : n ≤ 1000) : Calls Try.prog 46 #[.int .i64 n, .int .i64 r] w (Stated w (List.replicate n r)) := by
  obtain ⟨i0, hi, hz0, hz1, hz2⟩ := info_parts info_int
  have hni : (n : Int) ≤ 1000 := by omega
  go_enter Try.func46, Try.ntmps46
  go_wp2_with fail
  go_loopw [5, 6] (fun v i wr => ∃ j : Nat, j ≤ n ∧ i = .int .i64 j ∧ wr.ownsRow w.heap.size 3 1 v j (ivs (List.replicate j r)) ∧ Below w.heap.size w wr) (fun _ i _ => n - (intOf i).toNat)
  case atStart => exact ⟨0, Nat.zero_le _, rfl, by simpa using World.ownsRow_nil w w.heap.size 3 1, Below.refl _ _⟩
  case round =>
    obtain ⟨j, hj, rfl, ho, hb⟩ := hrel
    have hs := hb.size
    obtain ⟨sv, cv, rfl⟩ := owns_slice ho
    by_cases hjn : j < n
    · have hjni : (j : Int) < n := by omega
      go_wp2_with (at_builtin; refine stop_here ?_)
      refine go_on ?_
      refine wpList_app rfl _ _ 22 rfl w.heap.size 3 i0 _ 1 8 Try.underlying22 hi hz0 hz1 hz2 rfl (.slice sv j cv) j _ rfl (ho.alloc (.cells #[.int .i64 r] 3)) (some ⟨wr.heap.size, 0, none⟩) 1 1 [.int .i64 r] rfl rfl (fun h => by cases h) (news_alloc wr [.int .i64 r] 3) (by simp [Value.oneCell']) (by unfold maxLen; omega) (grow_ok (by omega)) (size_le_alloc hs _) ?_
      intro v5 w5 k1 k20 _ _
      have k2 : (wr.alloc (.cells #[.int .i64 r] 3)).grownBy w5 (Value.slice sv j cv).ownBlock := k20
      have hb5 := hb.trans (below_app ho k2 hs)
      have k3 : w5.ownsRow w.heap.size 3 1 v5 (j + 1) (ivs (List.replicate (j + 1) r)) := by
        rw [rep_succ]; simpa using k1
      clear k1 k20 k2 ho hb
      go_wp2
      go_roundw
      case rel => exact ⟨j + 1, by omega, by go_num, k3, hb5⟩
      case measure => simp [intOf]; omega
    · obtain rfl : j = n := by omega
      have HO := Lib.hid ho
      clear ho
      go_wp2
      go_ret
      exact ⟨_, rfl, by rw [List.length_replicate]; exact HO.out, hb⟩

theorem rone_any {o : Col} {c : Nat} (w : World) (ao : Option Addr) (n cap : Nat) (l : List Int) (m : Int) (h : Ints w o c (.slice ao n cap) l) : Calls Try.prog 49 #[.slice ao n cap, .int .i64 m] w fun e w' => e = .returned (.bool (decide (oneP l m))) ∧ w = w' := by
  obtain rfl := h.len
  by_cases hl : l.length = 1
  · obtain ⟨x, rfl⟩ : ∃ x, l = [x] := by
      match l, hl with
      | [x], _ => exact ⟨x, rfl⟩
    obtain ⟨b, off, rfl, -, hcap, -, -, hc⟩ := h.at (by simp)
    have c0 := hc 0 (by simp)
    simp at c0
    have hc1 : (1 : Int) ≤ cap := by simp at hcap; omega
    clear hc h
    by_cases h1 : 1 ≤ x
    · by_cases h2 : x ≤ m
      · have e : decide (oneP [x] m) = true := decide_eq_true (by simp [oneP, hd]; omega)
        rw [e]
        clear e
        go_enter Try.func49, Try.ntmps49
        go_wp2
        go_ret
        exact ⟨rfl, rfl⟩
      · have e : decide (oneP [x] m) = false := decide_eq_false (by simp [oneP, hd]; omega)
        rw [e]
        clear e
        go_enter Try.func49, Try.ntmps49
        go_wp2
        go_ret
        exact ⟨rfl, rfl⟩
    · have e : decide (oneP [x] m) = false := decide_eq_false (by simp [oneP, hd]; omega)
      rw [e]
      clear e
      go_enter Try.func49, Try.ntmps49
      go_wp2
      go_ret
      exact ⟨rfl, rfl⟩
  · have e : decide (oneP l m) = false := decide_eq_false (fun h => hl h.1)
    have hli : ¬ (l.length : Int) = 1 := by omega
    rw [e]
    clear e h
    go_enter Try.func49, Try.ntmps49
    go_wp2
    go_ret
    exact ⟨rfl, rfl⟩


set_option maxHeartbeats 1000000 in
theorem rtwo_any {o : Col} {c : Nat} (w : World) (ao : Option Addr) (n cap : Nat) (l : List Int) (h : Ints w o c (.slice ao n cap) l) : Calls Try.prog 50 #[.slice ao n cap] w (Quiet (.bool (decide (pairP l))) w) := by
  obtain rfl := h.len
  by_cases hl : l.length = 2
  · obtain ⟨x, y, rfl⟩ : ∃ x y, l = [x, y] := by
      match l, hl with
      | [x, y], _ => exact ⟨x, y, rfl⟩
    obtain ⟨b, off, rfl, -, hcap, -, -, hc⟩ := h.at (by simp)
    have c0 := hc 0 (by simp)
    have c1 := hc 1 (by simp)
    simp at c0 c1
    have hc1 : (2 : Int) ≤ cap := by simp at hcap; omega
    clear hc h
    rcases pair_cases x y with hh | ⟨⟨g1, g2⟩, hh⟩ | ⟨⟨g1, g2⟩, ⟨g3, g4⟩, g5, g6⟩ | ⟨⟨g1, g2⟩, ⟨g3, g4⟩, g5, g6⟩
    · have e : decide (pairP [x, y]) = false := decide_eq_false (by simp [pairP, hd, hd1]; omega)
      rw [e]
      clear e
      by_cases h1 : x < 1
      · go_enter Try.func50, Try.ntmps50
        go_wp2
        go_ret
        exact ⟨rfl, 0, rfl⟩
      · have h2 : 16 < x := by omega
        go_enter Try.func50, Try.ntmps50
        go_wp2
        go_ret
        exact ⟨rfl, 0, rfl⟩
    · have e : decide (pairP [x, y]) = false := decide_eq_false (by simp [pairP, hd, hd1]; omega)
      rw [e]
      clear e
      by_cases h1 : y < 1
      · go_enter Try.func50, Try.ntmps50
        go_wp2
        go_ret
        exact ⟨rfl, 0, rfl⟩
      · have h2 : 64 < y := by omega
        go_enter Try.func50, Try.ntmps50
        go_wp2
        go_ret
        exact ⟨rfl, 0, rfl⟩
    · have e : decide (pairP [x, y]) = true := decide_eq_true (by simp [pairP, hd, hd1]; omega)
      rw [e]
      clear e
      have hw : wrap64 (x * y) = x * y := IntWalk.wrap64_in _ (by omega)
      go_enter Try.func50, Try.ntmps50
      go_wp2
      go_quiet (fail)
      go_wp2
      go_ret
      exact ⟨rfl, _, rfl⟩
    · have e : decide (pairP [x, y]) = false := decide_eq_false (by simp [pairP, hd, hd1]; omega)
      rw [e]
      clear e
      have g7 : ¬ x * y ≤ 64 := by omega
      have hw : wrap64 (x * y) = x * y := IntWalk.wrap64_in _ (by omega)
      go_enter Try.func50, Try.ntmps50
      go_wp2
      go_quiet (fail)
      go_wp2
      go_ret
      refine ⟨?_, _, rfl⟩
      show Ending.returned (.bool (decide (x * y ≤ 64))) = _
      rw [decide_eq_false (show ¬ x * y ≤ 64 by omega)]
  · have e : decide (pairP l) = false := decide_eq_false (fun h => hl h.1)
    have hli : ¬ (l.length : Int) = 2 := by omega
    rw [e]
    clear e h
    go_enter Try.func50, Try.ntmps50
    go_wp2
    go_ret
    exact ⟨rfl, 0, rfl⟩

theorem rints_any {o : Col} {c : Nat} (w : World) (ao : Option Addr) (n cap : Nat) (l : List Int) (h : Ints w o c (.slice ao n cap) l) (hn : l.length ≤ 17600000000000) : Calls Try.prog 39 #[.slice ao n cap] w (Stated w l) := by
  obtain ⟨i0, hi, hz0, hz1, hz2⟩ := info_parts info_int
  obtain ⟨hnone, hnews⟩ := h.news
  obtain rfl := h.len
  have HN := Lib.hid hn
  have Hnone := Lib.hid hnone
  have Hnews := Lib.hid hnews
  clear hn hnone hnews h
  go_enter Try.func39, Try.ntmps39
  go_wp2_with (at_builtin; refine stop_here ?_)
  refine go_on ?_
  refine wpList_app rfl _ _ 22 rfl w.heap.size 3 i0 _ 1 8 Try.underlying22 hi hz0 hz1 hz2 rfl (.slice none 0 0) 0 [] rfl (World.ownsRow_nil w w.heap.size 3 1) ao l.length cap (ivs l) rfl (by simp) Hnone.out (fun ad had j u hu => Hnews.out ad had j u hu) (ivs_one l) (by have := HN.out; unfold maxLen; omega) (grow_ok (by have := HN.out; omega)) (Nat.le_refl _) ?_
  intro v' w2 g1 g20 g3 g4
  have g2 : w.grownBy w2 (Value.slice none 0 0).ownBlock := g20
  have hb : Below w.heap.size w w2 := ((Mods.refl (fun _ => False) w).grown g2 (fun k hk hlt => by cases hk)).below (Nat.le_refl _) (fun _ _ h => h)
  simp only [Nat.zero_add, List.nil_append] at g1
  have G1 := Lib.hid g1
  clear g1 g20 g2 g3 g4
  obtain ⟨sv, cv, rfl⟩ := owns_slice G1.out
  go_wp2
  go_ret
  exact ⟨_, rfl, by simpa using G1.out, hb⟩
end Go.Proofs.Ytknmiiajeafjpaa
