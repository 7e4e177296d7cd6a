/- FifoPairs, walked: whatever the capacity, the numbers and the text, it answers true. -/
import Derived.Test.YtifhnealecndnaaW7
namespace Go.Proofs.Ytifhnealecndnaa
open Go.RowKit

/-- the first n of zs, each beside s -/
def prs (zs : List Int) (s : ByteArray) (n : Nat) : List (Int × ByteArray) := (zs.take n).map fun z => (z, s)
theorem prs_length (zs : List Int) (s : ByteArray) (n : Nat) : (prs zs s n).length = min n zs.length := by simp [prs]
theorem prs_succ (zs : List Int) (s : ByteArray) (n : Nat) (h : n < zs.length) : prs zs s (n + 1) = prs zs s n ++ [(zs[n], s)] := by
  rw [prs, List.take_succ_eq_append_getElem h, List.map_append]; rfl
theorem prs_drop (zs : List Int) (s : ByteArray) (m j : Nat) (h : j < m) (hm : m ≤ zs.length) : (prs zs s m).drop j = (zs[j], s) :: (prs zs s m).drop (j + 1) := by
  have hl : j < (prs zs s m).length := by rw [prs_length]; omega
  rw [List.drop_eq_getElem_cons hl]
  congr 1
  simp [prs]

set_option maxHeartbeats 400000 in
theorem pairs_neg (w : World) (C : Int) (x y : Value) (h : C < 0) :
    Calls Try.prog 3 #[.int .i64 C, x, y] w fun e w' => e = .returned (.bool true) ∧ Below w.heap.size w w' := by
  go_enter Try.func3, Try.ntmps3
  go_wp2_with fail
  refine (pnew_no _ C _ h).mono ?_
  rintro e w1 ⟨rfl, rfl⟩
  go_wp2_with fail
  refine (awake_yes _).mono ?_
  rintro e w2 ⟨rfl, hb⟩
  go_wp2
  go_ret
  exact ⟨rfl, hb⟩

set_option maxHeartbeats 1000000 in
theorem pairs_any (w : World) (C : Int) (zs : List Int) (s : ByteArray) (bx off cap : Nat) (hC : 0 ≤ C) (hC' : C ≤ 9223372036854775807) (hn : zs.length ≤ 1048575)
    (hc : ∀ k, k < zs.length → w.cell? ⟨bx, off + k, none⟩ = some (.int .i64 (zs[k]?.getD 0))) :
    Calls Try.prog 3 #[.int .i64 C, .slice (some ⟨bx, off, none⟩) zs.length cap, .string s] w fun e w' => e = .returned (.bool true) ∧ Below w.heap.size w w' := by
  have HC := Lib.hid hc
  clear hc
  obtain ⟨c, rfl⟩ := Int.eq_ofNat_of_zero_le hC
  go_enter Try.func3, Try.ntmps3
  go_wp2_with fail
  refine (pq_new_yes _ c hC hC').mono ?_
  rintro e w1 ⟨b, rfl, hb1, q1⟩
  have hs1 := hb1.size
  go_wp2_with fail
  go_loopw [9, 10] (fun a i wr => ∃ k : Nat, k ≤ zs.length ∧ i = .int .i64 k ∧ a = .int .i64 ((min k c : Nat) : Int) ∧ PQ wr w.heap.size b c (prs zs s (min k c)) k ∧ Below w.heap.size w wr) (fun _ i _ => zs.length - (intOf i).toNat)
  case atStart => exact ⟨0, Nat.zero_le _, rfl, by simp, by simpa [prs] using q1, hb1⟩
  case round =>
    obtain ⟨k, hk, rfl, rfl, hq, hbw⟩ := hrel
    have hsz := hbw.size
    by_cases hlt : k < zs.length
    · have hcell : wr.cell? ⟨bx, off + k, none⟩ = some (.int .i64 (zs[k]?.getD 0)) := cell_later hbw (HC.out k hlt)
      by_cases hkc : k < c
      · have e1 : min k c = k := by omega
        rw [e1] at hq
        rw [e1]
        have hl : (prs zs s k).length = k := by rw [prs_length]; omega
        go_wp2_with fail
        refine (pq_put_yes hq (by omega) hsz (by rw [hl]; omega)).mono ?_
        rintro e w2 ⟨rfl, q2, hb2⟩
        rw [← prs_succ zs s k hlt] at q2
        have e2 : min (k + 1) c = k + 1 := by omega
        have H2 := Lib.hid e2
        clear e1 e2 hl
        go_wp2
        go_roundw
        case rel => exact ⟨k + 1, by omega, by go_num, by rw [H2.out]; go_num, by rw [H2.out]; exact q2, hbw.trans hb2⟩
        case measure => simp [intOf]; omega
      · have e1 : min k c = c := by omega
        rw [e1] at hq
        rw [e1]
        have hl : (prs zs s c).length = c := by rw [prs_length]; omega
        go_wp2_with fail
        refine (pq_put_no hq (by omega) (by rw [hl]; omega)).mono ?_
        rintro e w2 ⟨rfl, hb2⟩
        have e2 : min (k + 1) c = c := by omega
        have H2 := Lib.hid e2
        clear e1 e2 hl
        have q2 := hq.frame hb2
        go_wp2
        go_roundw
        case rel => exact ⟨k + 1, by omega, by go_num, by rw [H2.out], by rw [H2.out]; obtain ⟨v, g, ps, x1, x2, x3, x4, x5, x6, x7⟩ := q2; exact ⟨v, g, ps, x1, x2, x3, x4, x5, by omega, x7⟩, hbw.trans (hb2.mono (by omega))⟩
        case measure => simp [intOf]; omega
    · obtain rfl : k = zs.length := by omega
      by_cases hcl : c < zs.length
      · have e1 : min zs.length c = c := by omega
        rw [e1] at hq
        rw [e1]
        have hl : (prs zs s c).length = c := by rw [prs_length]; omega
        have hp := pq_len hq (by omega)
        rw [hl] at hp
        have hp := Lib.hid hp
        clear hl e1
        go_wp2_with fail
        refine hp.out.mono ?_
        rintro e w2 ⟨rfl, m2, rfl⟩
        go_wp2_with fail
        go_loopw [11] (fun i wx => ∃ j : Nat, j ≤ c ∧ i = .int .i64 j ∧ PQ wx w.heap.size b c ((prs zs s c).drop j) zs.length ∧ Below w.heap.size w wx) (fun i _ => c - (intOf i).toNat)
        case atStart => exact ⟨0, Nat.zero_le _, rfl, hq, below_dr hbw⟩
        case round =>
          clear hq hbw hp
          obtain ⟨j, hj, rfl, hq, hbw⟩ := hrel
          by_cases hjc : j < c
          · have hjz : j < zs.length := by omega
            rw [prs_drop zs s c j hjc (by omega)] at hq
            go_wp2_with fail
            refine (pq_take_cons hq (by omega) (hbw.size)).mono ?_
            rintro e w3 ⟨rfl, q3, hb3⟩
            have hb3' := hbw.trans hb3
            have hcell : w3.cell? ⟨bx, off + j, none⟩ = some (.int .i64 zs[j]) := by
              have := cell_later hb3' (HC.out j hjz)
              rwa [List.getElem?_eq_getElem hjz] at this
            have hbx : bx < w3.heap.size := World.block_lt_of_cell? _ _ hcell
            have hjc' : (j : Int) < c := by omega
            have hjz' : (j : Int) < zs.length := by omega
            go_wp2
            go_quiet (fail)
            go_wp2
            go_roundw
            case rel => exact ⟨j + 1, by omega, by go_num, (q3.frame ((Below.refl _ _).alloc (Nat.le_refl _) _)).drewN _, below_dr (hb3'.alloc (hb3'.size) _)⟩
            case measure => simp [intOf]; omega
          · obtain rfl : j = c := by omega
            rw [List.drop_eq_nil_of_le (by rw [prs_length]; omega)] at hq
            go_wp2_with fail
            refine (pq_take_none hq (by omega)).mono ?_
            rintro e w3 ⟨rfl, hb3⟩
            go_wp2_with fail
            refine (awake_yes _).mono ?_
            rintro e w4 ⟨rfl, hb4⟩
            go_wp2
            go_ret
            have z3 := hb3.size
            have z2 := hbw.size
            exact ⟨rfl, ((hbw.trans (hb3.mono z2)).alloc (by omega) _).trans (hb4.mono (by simp; omega))⟩
      · have hcl' : zs.length ≤ c := by omega
        have e1 : min zs.length c = zs.length := by omega
        rw [e1] at hq
        rw [e1]
        have hl : (prs zs s zs.length).length = zs.length := by rw [prs_length]; omega
        have hp := pq_len hq (by omega)
        rw [hl] at hp
        have hp := Lib.hid hp
        clear hl e1
        go_wp2_with fail
        refine hp.out.mono ?_
        rintro e w2 ⟨rfl, m2, rfl⟩
        go_wp2_with fail
        go_loopw [11] (fun i wx => ∃ j : Nat, j ≤ zs.length ∧ i = .int .i64 j ∧ PQ wx w.heap.size b c ((prs zs s zs.length).drop j) zs.length ∧ Below w.heap.size w wx) (fun i _ => zs.length - (intOf i).toNat)
        case atStart => exact ⟨0, Nat.zero_le _, rfl, hq, below_dr hbw⟩
        case round =>
          clear hq hbw hp
          obtain ⟨j, hj, rfl, hq, hbw⟩ := hrel
          by_cases hjc : j < zs.length
          · have hjz : j < zs.length := hjc
            rw [prs_drop zs s zs.length j hjc (by omega)] at hq
            go_wp2_with fail
            refine (pq_take_cons hq (by omega) (hbw.size)).mono ?_
            rintro e w3 ⟨rfl, q3, hb3⟩
            have hb3' := hbw.trans hb3
            have hcell : w3.cell? ⟨bx, off + j, none⟩ = some (.int .i64 zs[j]) := by
              have := cell_later hb3' (HC.out j hjz)
              rwa [List.getElem?_eq_getElem hjz] at this
            have hbx : bx < w3.heap.size := World.block_lt_of_cell? _ _ hcell
            have hjz' : (j : Int) < zs.length := by omega
            go_wp2
            go_quiet (fail)
            go_wp2
            go_roundw
            case rel => exact ⟨j + 1, by omega, by go_num, (q3.frame ((Below.refl _ _).alloc (Nat.le_refl _) _)).drewN _, below_dr (hb3'.alloc (hb3'.size) _)⟩
            case measure => simp [intOf]; omega
          · obtain rfl : j = zs.length := by omega
            rw [List.drop_eq_nil_of_le (by rw [prs_length]; omega)] at hq
            go_wp2_with fail
            refine (pq_take_none hq (by omega)).mono ?_
            rintro e w3 ⟨rfl, hb3⟩
            go_wp2_with fail
            refine (awake_yes _).mono ?_
            rintro e w4 ⟨rfl, hb4⟩
            go_wp2
            go_ret
            have z3 := hb3.size
            have z2 := hbw.size
            exact ⟨rfl, ((hbw.trans (hb3.mono z2)).alloc (by omega) _).trans (hb4.mono (by simp; omega))⟩
set_option maxHeartbeats 400000 in
theorem pairs_empty (w : World) (C : Int) (ao : Option Addr) (s : ByteArray) (cap : Nat) (hC : 0 ≤ C) (hC' : C ≤ 9223372036854775807) :
    Calls Try.prog 3 #[.int .i64 C, .slice ao 0 cap, .string s] w fun e w' => e = .returned (.bool true) ∧ Below w.heap.size w w' := by
  obtain ⟨c, rfl⟩ := Int.eq_ofNat_of_zero_le hC
  go_enter Try.func3, Try.ntmps3
  go_wp2_with fail
  refine (pq_new_yes _ c hC hC').mono ?_
  rintro e w1 ⟨b, rfl, hb1, q1⟩
  have hs1 := hb1.size
  go_wp2_with fail
  go_loopw [9, 10] (fun a i wr => a = .int .i64 0 ∧ i = .int .i64 0 ∧ wr = w1) (fun _ _ _ => 0)
  case atStart => exact ⟨rfl, rfl, rfl⟩
  case round =>
    obtain ⟨rfl, rfl, rfl⟩ := hrel
    have hc0 : (0 : Int) ≤ c := by omega
    go_wp2_with fail
    refine (pq_len q1 (by omega)).mono ?_
    rintro e w2 ⟨rfl, m2, rfl⟩
    go_wp2_with fail
    go_loopw [11] (fun i wx => i = .int .i64 0 ∧ wx = wr.drewN m2) (fun _ _ => 0)
    case atStart => exact ⟨rfl, rfl⟩
    case round =>
      obtain ⟨rfl, rfl⟩ := hrel
      go_wp2_with fail
      refine (pq_take_none (q1.drewN m2) (by omega)).mono ?_
      rintro e w3 ⟨rfl, hb3⟩
      go_wp2_with fail
      refine (awake_yes _).mono ?_
      rintro e w4 ⟨rfl, hb4⟩
      go_wp2
      go_ret
      have hb3' := below_ld (hb3.mono (Nat.le_refl _))
      have z3 := hb3.size
      exact ⟨rfl, ((hb1.trans (hb3'.mono hs1)).alloc (by simp at z3; omega) _).trans (hb4.mono (by simp at z3 ⊢; omega))⟩
end Go.Proofs.Ytifhnealecndnaa
