/- Names: the walk of the cursor's while. -/
import Derived.Test.YtbmbfifempkhgaaLexName
namespace Go.Proofs.Ytbmbfifempkhgaa
open Go.RowKit

theorem Cur.drewN {w : World} {c : Nat} {s : ByteArray} {k : Nat} (h : Cur w c s k) (m : Nat) : Cur (w.drewN m) c s k := h
/-- the cursor stands at k, all before it was inside -/
def Stand (w wr : World) (c : Nat) (s : ByteArray) (k : Nat) : Prop := Cur wr c s k ∧ k ≤ s.size ∧ (∀ i, i < k → insideP (byteP s i) = true) ∧ Mods (fun b => b = c) w wr

theorem stand_next {s : ByteArray} {k : Nat} (h : ∀ i, i < k → insideP (byteP s i) = true) (hx : insideP (byteP s k) = true) : ∀ i, i < k + 1 → insideP (byteP s i) = true := fun i hi => by
  by_cases e : i = k
  · rw [e]; exact hx
  · exact h i (by omega)
theorem meas_next {n k : Nat} (h : k < n) : n - (((k + 1 : Nat) : Int)).toNat < n - ((k : Int)).toNat := by omega
set_option maxHeartbeats 1000000 in
theorem while_any (w : World) (c : Nat) (s : ByteArray) (hs : s.size ≤ 4611686018427387904) (h : Cur w c s 0) : Calls Try.prog 124 #[.pointer (some ⟨c, 0, none⟩), .func (.func 125) #[] #[]] w fun e w' =>
    ∃ m, e = .returned (.string (s.extract 0 m)) ∧ m ≤ s.size ∧ (∀ i, i < m → insideP (byteP s i) = true) ∧ (m < s.size → insideP (byteP s m) = false) ∧ Mods (fun b => b = c) w w' := by
  have q0 := cells_row w _ h 0 _ rfl
  have q1 := cells_row w _ h 1 _ rfl
  have HC := Lib.hid h
  have HS := Lib.hid hs
  clear h hs
  go_enter Try.func124, Try.ntmps124
  go_wp2_with fail
  clear q0 q1
  go_loopw [24] (fun _ wr => ∃ k, Stand w wr c s k) (fun _ wr => s.size - (match wr.cell? ⟨c, 1, none⟩ with | some (.int _ k) => k.toNat | _ => 0))
  case atStart => exact ⟨0, HC.out, Nat.zero_le _, fun i hi => absurd hi (by omega), Mods.refl _ _⟩
  case round =>
    obtain ⟨k, hcur, hk, hin, hmod⟩ := hrel
    have HCu := Lib.hid hcur
    have HIN := Lib.hid hin
    have HM := Lib.hid hmod
    have q0 := cells_row wr _ hcur 0 _ rfl
    have q1 := cells_row wr _ hcur 1 _ rfl
    have f1 := frozen_of_block hcur 1
    clear hcur hin hmod
    by_cases hlt : k < s.size
    · have hlti : (k : Int) < s.size := by omega
      have hbt : byteP s k = ((s[k]'hlt).toNat : Int) := dif_pos hlt
      obtain ⟨x, hx⟩ : ∃ x, insideP (byteP s k) = x := ⟨_, rfl⟩
      have HX := Lib.hid hx
      have HBT := Lib.hid hbt
      have hsz := HS.out
      clear hx hbt
      go_wp2_with fail
      refine wp_region_soft (fun w' => Cur w' c s k ∧ ∃ m, w' = wr.drewN m) [0, 1, 2, 3, 4, 5, 6, 7, 8, 9, 10, 11, 12, 13, 14] [] (by kernel_rfl) (by kernel_rfl) rfl ⟨HCu.out, 1, rfl⟩ ?_
      simp only [pickOps, List.flatMap_cons, List.flatMap_nil, List.drop_succ_cons, List.drop_zero, List.take_succ_cons, List.take_zero, List.cons_append, List.nil_append, List.append_nil]
      repeat (first
        | (refine wpHead_skip (by rfl) ?_; (try simp only [Act.put, List.setIfInBounds_toArray, List.set_cons_zero, List.set_cons_succ]))
        | (refine wpHead_val ?_ (by rfl) ?_ ?_; rotate_left; (intro wz hz; (try dsimp only at hz); (first | (go_simp; done) | (go_simp; with_reducible rfl))); (try simp only [Act.put, List.setIfInBounds_toArray, List.set_cons_zero, List.set_cons_succ])))
      refine wpHead_call (.bool true) 129 #[.pointer (some ⟨c, 0, none⟩)] (by rfl) (fun wz => by go_simp) (fun wz hz => ?_) ?_
      · obtain ⟨hc, m0, rfl⟩ := hz
        refine (more_any _ c s k hc).mono ?_
        rintro e wy ⟨rfl, m, rfl⟩
        exact ⟨by rw [decide_eq_true hlt], hc, m0 + m, World.drewN_drewN _ _ _⟩
      simp only [Act.put, List.setIfInBounds_toArray, List.set_cons_zero, List.set_cons_succ]
      repeat (first
        | (refine wpHead_skip (by rfl) ?_; (try simp only [Act.put, List.setIfInBounds_toArray, List.set_cons_zero, List.set_cons_succ]))
        | (refine wpHead_val ?_ (by rfl) ?_ ?_; rotate_left; (intro wz hz; have q0 := cells_row wz _ hz.1 0 _ rfl; have q1 := cells_row wz _ hz.1 1 _ rfl; (first | (go_simp; done) | (go_simp; with_reducible rfl))); (try simp only [Act.put, List.setIfInBounds_toArray, List.set_cons_zero, List.set_cons_succ])))
      refine wpHead_call (.bool x) 125 #[.int .u8 ((s[k]'hlt).toNat : Int)] (by rfl) (fun wz => by go_simp) (fun wz hz => ?_) ?_
      · refine (inside_any _ _).mono ?_
        rintro e wy ⟨rfl, rfl⟩
        exact ⟨by rw [← HBT.out, HX.out], hz⟩
      simp only [Act.put, List.setIfInBounds_toArray, List.set_cons_zero, List.set_cons_succ]
      cases x with
      | true =>
        repeat (first
          | (refine wpHead_skip (by rfl) ?_; (try simp only [Act.put, List.setIfInBounds_toArray, List.set_cons_zero, List.set_cons_succ]))
          | (refine wpHead_val ?_ (by rfl) ?_ ?_; rotate_left; (intro wz hz; (try dsimp only at hz); (first | (go_simp; done) | (go_simp; with_reducible rfl))); (try simp only [Act.put, List.setIfInBounds_toArray, List.set_cons_zero, List.set_cons_succ])))
        refine wpHead_nil ?_
        intro w' hS
        obtain ⟨hc2, m0, rfl⟩ := hS
        have HC2 := Lib.hid hc2
        have q0 := cells_row _ _ hc2 0 _ rfl
        have q1 := cells_row _ _ hc2 1 _ rfl
        have f1 := frozen_of_block hc2 1
        clear hc2
        go_wp2
        have hc3 : Cur ((wr.drewN m0).setCell ⟨c, 1, none⟩ (.int .i64 ((k : Int) + 1))) c s (k + 1) := block_setCell HC2.out 1 (.int .i64 ((k : Int) + 1))
        have q1' := cells_row _ _ hc3 1 _ rfl
        have HC3 := Lib.hid hc3
        clear hc3
        go_roundw
        case rel => exact ⟨k + 1, HC3.out, hlt, stand_next HIN.out HX.out, (HM.out.drewN m0).setCell (p := ⟨c, 1, none⟩) (fun _ => rfl) _⟩
        case measure =>
          have e1 := cells_row _ _ HCu.out 1 _ rfl
          rw [q1', e1]
          exact meas_next hlt
      | false =>
        repeat (first
          | (refine wpHead_skip (by rfl) ?_; (try simp only [Act.put, List.setIfInBounds_toArray, List.set_cons_zero, List.set_cons_succ]))
          | (refine wpHead_val ?_ (by rfl) ?_ ?_; rotate_left; (intro wz hz; (try dsimp only at hz); (first | (go_simp; done) | (go_simp; with_reducible rfl))); (try simp only [Act.put, List.setIfInBounds_toArray, List.set_cons_zero, List.set_cons_succ])))
        refine wpHead_nil ?_
        intro w' hS
        obtain ⟨hc2, m0, rfl⟩ := hS
        have q0 := cells_row _ _ hc2 0 _ rfl
        have q1 := cells_row _ _ hc2 1 _ rfl
        go_wp2
        go_quiet (fail)
        go_wp2
        go_ret
        exact ⟨k, by first | rfl | simp, hk, HIN.out, fun _ => HX.out, ((HM.out.drewN m0).drewN _)⟩
    · obtain rfl : k = s.size := by omega
      go_wp2_with fail
      refine wp_region_soft (fun w' => Cur w' c s s.size ∧ ∃ m, w' = wr.drewN m) [0, 1, 2, 3, 4, 5, 6, 7, 8, 9, 10, 11, 12, 13, 14] [] (by kernel_rfl) (by kernel_rfl) rfl ⟨HCu.out, 1, rfl⟩ ?_
      simp only [pickOps, List.flatMap_cons, List.flatMap_nil, List.drop_succ_cons, List.drop_zero, List.take_succ_cons, List.take_zero, List.cons_append, List.nil_append, List.append_nil]
      repeat (first
        | (refine wpHead_skip (by rfl) ?_; (try simp only [Act.put, List.setIfInBounds_toArray, List.set_cons_zero, List.set_cons_succ]))
        | (refine wpHead_val ?_ (by rfl) ?_ ?_; rotate_left; (intro wz hz; (try dsimp only at hz); (first | (go_simp; done) | (go_simp; with_reducible rfl))); (try simp only [Act.put, List.setIfInBounds_toArray, List.set_cons_zero, List.set_cons_succ])))
      refine wpHead_call (.bool false) 129 #[.pointer (some ⟨c, 0, none⟩)] (by rfl) (fun wz => by go_simp) (fun wz hz => ?_) ?_
      · obtain ⟨hc, m0, rfl⟩ := hz
        refine (more_any _ c s s.size hc).mono ?_
        rintro e wy ⟨rfl, m, rfl⟩
        exact ⟨by rw [decide_eq_false (Nat.lt_irrefl _)], hc, m0 + m, World.drewN_drewN _ _ _⟩
      simp only [Act.put, List.setIfInBounds_toArray, List.set_cons_zero, List.set_cons_succ]
      repeat (first
        | (refine wpHead_skip (by rfl) ?_; (try simp only [Act.put, List.setIfInBounds_toArray, List.set_cons_zero, List.set_cons_succ]))
        | (refine wpHead_val ?_ (by rfl) ?_ ?_; rotate_left; (intro wz hz; (try dsimp only at hz); (first | (go_simp; done) | (go_simp; with_reducible rfl))); (try simp only [Act.put, List.setIfInBounds_toArray, List.set_cons_zero, List.set_cons_succ])))
      refine wpHead_nil ?_
      intro w' hS
      obtain ⟨hc2, m0, rfl⟩ := hS
      have q0 := cells_row _ _ hc2 0 _ rfl
      have q1 := cells_row _ _ hc2 1 _ rfl
      go_wp2
      go_quiet (fail)
      go_wp2
      go_ret
      exact ⟨s.size, by first | rfl | simp, Nat.le_refl _, HIN.out, fun h => absurd h (Nat.lt_irrefl _), ((HM.out.drewN m0).drewN _)⟩
end Go.Proofs.Ytbmbfifempkhgaa
