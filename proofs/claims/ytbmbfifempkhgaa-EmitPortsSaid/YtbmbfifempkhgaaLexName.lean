/- Names: the walk of lex.Name. -/
import Derived.Test.YtbmbfifempkhgaaProg
import Derived.Test.YtbmbfifempkhgaaReg
import Derived.Test.YtbmbfifempkhgaaMem
import Derived.Test.YtbmbfifempkhgaaGLaw
import Derived.Test.YtbmbfifempkhgaaSmall
import Derived.Deep.QuietTactic
import Derived.BigQuiet
import Derived.Deep.DeepMust
namespace Go.Proofs.Ytbmbfifempkhgaa
open Go.RowKit

theorem letter_any (w : World) (b : Int) : Calls Try.prog 122 #[.int .u8 b] w (SameW (.bool (letterP b)) w) := by
  unfold letterP
  by_cases h1 : 97 ≤ b
  · rw [decide_eq_true h1, Bool.true_and]
    go_enter Try.func122, Try.ntmps122
    go_wp2
    go_ret
    exact ⟨rfl, rfl⟩
  · rw [decide_eq_false h1, Bool.false_and]
    go_enter Try.func122, Try.ntmps122
    go_wp2
    go_ret
    exact ⟨rfl, rfl⟩
theorem digit_any (w : World) (b : Int) : Calls Try.prog 130 #[.int .u8 b] w (SameW (.bool (digitP b)) w) := by
  unfold digitP
  by_cases h1 : 48 ≤ b
  · rw [decide_eq_true h1, Bool.true_and]
    go_enter Try.func130, Try.ntmps130
    go_wp2
    go_ret
    exact ⟨rfl, rfl⟩
  · rw [decide_eq_false h1, Bool.false_and]
    go_enter Try.func130, Try.ntmps130
    go_wp2
    go_ret
    exact ⟨rfl, rfl⟩
theorem inside_any (w : World) (b : Int) : Calls Try.prog 125 #[.int .u8 b] w (SameW (.bool (insideP b)) w) := by
  unfold insideP
  obtain ⟨x, hx⟩ : ∃ x, letterP b = x := ⟨_, rfl⟩
  obtain ⟨y, hy⟩ : ∃ x, digitP b = x := ⟨_, rfl⟩
  rw [hx, hy]
  have HX := Lib.hid hx
  have HY := Lib.hid hy
  clear hx hy
  cases x
  · cases y
    · go_enter Try.func125, Try.ntmps125
      go_wp2_with fail
      refine (letter_any w b).mono ?_
      rintro e _ ⟨rfl, rfl⟩
      rw [HX.out]
      go_wp2_with fail
      refine (digit_any w b).mono ?_
      rintro e _ ⟨rfl, rfl⟩
      rw [HY.out]
      go_wp2
      go_ret
      exact ⟨by simp; rfl, rfl⟩
    · go_enter Try.func125, Try.ntmps125
      go_wp2_with fail
      refine (letter_any w b).mono ?_
      rintro e _ ⟨rfl, rfl⟩
      rw [HX.out]
      go_wp2_with fail
      refine (digit_any w b).mono ?_
      rintro e _ ⟨rfl, rfl⟩
      rw [HY.out]
      go_wp2
      go_ret
      exact ⟨rfl, rfl⟩
  · go_enter Try.func125, Try.ntmps125
    go_wp2_with fail
    refine (letter_any w b).mono ?_
    rintro e _ ⟨rfl, rfl⟩
    rw [HX.out]
    go_wp2
    go_ret
    exact ⟨by simp, rfl⟩

/-- a cursor in memory -/
def Cur (w : World) (c : Nat) (s : ByteArray) (k : Nat) : Prop := w.heap[c]? = some (.cells #[.string s, .int .i64 k] 202 (0, 0))

theorem more_any (w : World) (c : Nat) (s : ByteArray) (k : Nat) (h : Cur w c s k) : Calls Try.prog 129 #[.pointer (some ⟨c, 0, none⟩)] w fun e w' => e = .returned (.bool (decide (k < s.size))) ∧ ∃ m, w' = w.drewN m := by
  have q0 := cells_row w _ h 0 _ rfl
  have q1 := cells_row w _ h 1 _ rfl
  by_cases hk : k < s.size
  · have hki : (k : Int) < s.size := by omega
    rw [decide_eq_true hk]
    go_enter Try.func129, Try.ntmps129
    go_wp2
    go_quiet (fail)
    go_wp2
    go_ret
    exact ⟨rfl, _, rfl⟩
  · have hki : ¬ (k : Int) < s.size := by omega
    rw [decide_eq_false hk]
    go_enter Try.func129, Try.ntmps129
    go_wp2
    go_quiet (fail)
    go_wp2
    go_ret
    exact ⟨rfl, _, rfl⟩

theorem peek_any (w : World) (c : Nat) (s : ByteArray) (h : Cur w c s 0) : Calls Try.prog 123 #[.pointer (some ⟨c, 0, none⟩), .int .i64 0] w fun e w' => e = .returned (.int .u8 (byteP s 0)) ∧ ∃ m, w' = w.drewN m := by
  have q0 := cells_row w _ h 0 _ rfl
  have q1 := cells_row w _ h 1 _ rfl
  unfold byteP
  by_cases hk : 0 < s.size
  · have hki : (0 : Int) < s.size := by omega
    have hse : ¬ s = ByteArray.empty := fun e => by rw [e] at hk; exact absurd hk (by decide)
    rw [dif_pos hk]
    go_enter Try.func123, Try.ntmps123
    go_wp2
    go_quiet (fail)
    go_wp2
    go_quiet (fail)
    go_wp2
    go_ret
    exact ⟨rfl, _, World.drewN_drewN _ _ _⟩
  · obtain rfl : s = ByteArray.empty := ByteArray.ext (Array.eq_empty_of_size_eq_zero (by have : s.data.size = s.size := rfl; omega))
    rw [dif_neg hk]
    clear hk
    go_enter Try.func123, Try.ntmps123
    go_wp2
    go_quiet (fail)
    go_wp2
    go_ret
    exact ⟨rfl, _, rfl⟩
end Go.Proofs.Ytbmbfifempkhgaa
