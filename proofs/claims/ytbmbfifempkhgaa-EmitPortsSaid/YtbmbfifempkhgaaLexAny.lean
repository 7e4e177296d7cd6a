/- Names: lex.Name, whole. -/
import Derived.Test.YtbmbfifempkhgaaLexWhile
namespace Go.Proofs.Ytbmbfifempkhgaa
open Go.RowKit

theorem all_inside {s : ByteArray} (h : ∀ i, i < s.size → insideP (byteP s i) = true) : (List.range s.size).all (fun i => insideP (byteP s i)) = true := by
  rw [List.all_eq_true]
  exact fun i hi => h i (List.mem_range.1 hi)
theorem not_inside {s : ByteArray} {m : Nat} (hm : m < s.size) (h : insideP (byteP s m) = false) : (List.range s.size).all (fun i => insideP (byteP s i)) = false := by
  rw [List.all_eq_false]
  exact ⟨m, List.mem_range.2 hm, by rw [h]; simp⟩
theorem cur_new (w : World) (s : ByteArray) : Cur (w.alloc (.cells #[.string s, .int .i64 0] 202)) w.heap.size s 0 := heap_alloc_new w _
/-- what is turned lies in the new block -/
theorem below_cur {w w1 w2 : World} (h : w.heap.size < w1.heap.size) (hb : Below w.heap.size w w1) (hm : Mods (fun b => b = w.heap.size) w1 w2) : Below w.heap.size w w2 := hb.trans (hm.below (by omega) (fun k hk e => by omega))

set_option maxHeartbeats 1000000 in
theorem name_any (w : World) (s : ByteArray) (hs : s.size ≤ 4611686018427387904) : Calls Try.prog 110 #[.string s] w fun e w' => e = .returned (.bool (nameP s)) ∧ Below w.heap.size w w' := by
  obtain ⟨N, hN⟩ : ∃ N, nameP s = N := ⟨_, rfl⟩
  rw [hN]
  have HN := Lib.hid hN
  have HS := Lib.hid hs
  clear hN hs
  go_enter Try.func110, Try.ntmps110
  go_wp2_with fail
  have hC := cur_new w s
  have hb1 := (below_alloc w (.cells #[.string s, .int .i64 0] 202))
  refine (peek_any _ _ s hC).mono ?_
  rintro e w1 ⟨rfl, m1, rfl⟩
  go_wp2_with fail
  refine (letter_any _ _).mono ?_
  rintro e _ ⟨rfl, rfl⟩
  obtain ⟨x, hx⟩ : ∃ x, letterP (byteP s 0) = x := ⟨_, rfl⟩
  rw [hx]
  have HX := Lib.hid hx
  clear hx
  cases x with
  | false =>
    have e : N = false := by rw [← HN.out, nameP, HX.out]; rfl
    subst e
    go_wp2
    go_ret
    exact ⟨rfl, below_dr hb1⟩
  | true =>
    go_wp2_with fail
    refine (while_any _ _ s HS.out (hC.drewN _)).mono ?_
    rintro e w2 ⟨m, rfl, hm, hin, hout, hmod⟩
    have hb2 : Below w.heap.size w w2 := below_cur (by simp) (below_dr (n := m1) hb1) hmod
    have HB2 := Lib.hid hb2
    have hlen : (s.extract 0 m).size = m := by rw [ByteArray.size_extract]; omega
    clear hb2 hmod hb1 hC
    by_cases hms : m < s.size
    · have e : N = false := by rw [← HN.out, nameP, not_inside hms (hout hms)]; simp
      subst e
      have hmi : ¬ (m : Int) = s.size := by omega
      clear hin hout
      go_wp2
      go_ret
      exact ⟨by simp [hmi], HB2.out⟩
    · obtain rfl : m = s.size := by omega
      have hall := all_inside hin
      have hself : s.extract 0 s.size = s := by simp
      rw [hself]
      clear hin hout hself hlen
      by_cases h16 : s.size ≤ 16
      · have e : N = true := by rw [← HN.out, nameP, HX.out, hall, decide_eq_true h16]; rfl
        subst e
        have h16i : (s.size : Int) ≤ 16 := by omega
        clear hall
        go_wp2
        go_ret
        exact ⟨by simp [h16], HB2.out⟩
      · have e : N = false := by rw [← HN.out, nameP, HX.out, hall, decide_eq_false h16]; rfl
        subst e
        have h16i : ¬ (s.size : Int) ≤ 16 := by omega
        clear hall
        go_wp2
        go_ret
        exact ⟨by simp [h16]; exact h16i, HB2.out⟩
end Go.Proofs.Ytbmbfifempkhgaa
