/- shape.Of, whole. -/
import Derived.Test.YtbmbfifempkhgaaOfany
import Derived.Test.YtbmbfifempkhgaaErrP
namespace Go.Proofs.Ytbmbfifempkhgaa
open Go.RowKit

theorem goodP_cases {t : Int} {ps : List Int} (h : goodP t ps) : t = 1 ∨ t = 2 ∨ t = 3 ∨ t = 4 ∨ t = 5 ∨ t = 6 ∨ t = 7 ∨ t = 8 ∨ t = 9 ∨ t = 10 ∨ t = 11 := by
  rcases h with h | h | h | h | h | h | h | h | h | h | h <;> omega


theorem of_ok {o : Col} {c : Nat} (w : World) (t : Int) (ao : Option Addr) (n cap : Nat) (ps : List Int) (hg : goodP t ps) (hl : ps.length ≤ 17600000000000) (h : Ints w o c (.slice ao n cap) ps) : Calls Try.prog 22 #[.int .u8 t, .slice ao n cap] w (OfOk w t ps) := by
  rcases goodP_cases hg with rfl | rfl | rfl | rfl | rfl | rfl | rfl | rfl | rfl | rfl | rfl
  · exact (of_1_any w ao n cap ps hl h).1 hg
  · exact (of_2_any w ao n cap ps hl h).1 hg
  · exact (of_3_any w ao n cap ps hl h).1 hg
  · exact (of_4_any w ao n cap ps hl h).1 hg
  · exact (of_5_any w ao n cap ps hl h).1 hg
  · exact (of_6_any w ao n cap ps hl h).1 hg
  · exact (of_7_any w ao n cap ps hl h).1 hg
  · exact (of_8_any w ao n cap ps hl h).1 hg
  · exact (of_9_any w ao n cap ps hl h).1 hg
  · exact (of_10_any w ao n cap ps hl h).1 hg
  · exact (of_11_any w ao n cap ps hl h).1 hg
theorem of_bad {o : Col} {c : Nat} (w : World) (t : Int) (ao : Option Addr) (n cap : Nat) (ps : List Int) (ht : TagOk t) (hg : ¬ goodP t ps) (hl : ps.length ≤ 17600000000000) (h : Ints w o c (.slice ao n cap) ps) : Calls Try.prog 22 #[.int .u8 t, .slice ao n cap] w (OfNo w 61) := by
  rcases ht with rfl | rfl | rfl | rfl | rfl | rfl | rfl | rfl | rfl | rfl | rfl
  · exact (of_1_any w ao n cap ps hl h).2 hg
  · exact (of_2_any w ao n cap ps hl h).2 hg
  · exact (of_3_any w ao n cap ps hl h).2 hg
  · exact (of_4_any w ao n cap ps hl h).2 hg
  · exact (of_5_any w ao n cap ps hl h).2 hg
  · exact (of_6_any w ao n cap ps hl h).2 hg
  · exact (of_7_any w ao n cap ps hl h).2 hg
  · exact (of_8_any w ao n cap ps hl h).2 hg
  · exact (of_9_any w ao n cap ps hl h).2 hg
  · exact (of_10_any w ao n cap ps hl h).2 hg
  · exact (of_11_any w ao n cap ps hl h).2 hg
theorem of_no {o : Col} {c : Nat} (w : World) (t : Int) (ao : Option Addr) (n cap : Nat) (ps : List Int) (hg : ¬ goodP t ps) (hl : ps.length ≤ 17600000000000) (h : Ints w o c (.slice ao n cap) ps) : Calls Try.prog 22 #[.int .u8 t, .slice ao n cap] w (OfNo w (errP t)) := by
  unfold errP
  by_cases ht : 1 ≤ t ∧ t ≤ 11
  · rw [if_pos ht]; exact of_bad w t ao n cap ps (by unfold TagOk; omega) hg hl h
  · rw [if_neg ht]; exact of_tag w t _ (by omega)

end Go.Proofs.Ytbmbfifempkhgaa
