/- The reference's Of: what may be. -/
import Derived.Test.YtknmiiajeafjpaaRef1
namespace Go.Proofs.Ytknmiiajeafjpaa
open Go.RowKit

theorem rgood_2 {o : Col} {c : Nat} (w : World) (ao : Option Addr) (n cap : Nat) (l : List Int) (h : Ints w o c (.slice ao n cap) l) : Calls Try.prog 45 #[.int .u8 2, .slice ao n cap] w (Quiet (.bool (decide (goodP 2 l))) w) := by
  have e : goodP 2 l ↔ oneP l 64 := by simp [goodP]
  rw [show decide (goodP 2 l) = decide (oneP l 64) from decide_eq_decide.2 e]
  have H := Lib.hid h
  clear h e
  go_enter Try.func45, Try.ntmps45
  go_wp2_with fail
  refine (rone_any _ _ _ _ l 64 H.out).mono ?_
  rintro e w' ⟨rfl, rfl⟩
  go_wp2
  go_ret
  exact ⟨rfl, 0, rfl⟩

theorem rgood_3 {o : Col} {c : Nat} (w : World) (ao : Option Addr) (n cap : Nat) (l : List Int) (h : Ints w o c (.slice ao n cap) l) : Calls Try.prog 45 #[.int .u8 3, .slice ao n cap] w (Quiet (.bool (decide (goodP 3 l))) w) := by
  have e : goodP 3 l ↔ oneP l 64 := by simp [goodP]
  rw [show decide (goodP 3 l) = decide (oneP l 64) from decide_eq_decide.2 e]
  have H := Lib.hid h
  clear h e
  go_enter Try.func45, Try.ntmps45
  go_wp2_with fail
  refine (rone_any _ _ _ _ l 64 H.out).mono ?_
  rintro e w' ⟨rfl, rfl⟩
  go_wp2
  go_ret
  exact ⟨rfl, 0, rfl⟩

theorem rgood_11 {o : Col} {c : Nat} (w : World) (ao : Option Addr) (n cap : Nat) (l : List Int) (h : Ints w o c (.slice ao n cap) l) : Calls Try.prog 45 #[.int .u8 11, .slice ao n cap] w (Quiet (.bool (decide (goodP 11 l))) w) := by
  have e : goodP 11 l ↔ oneP l 64 := by simp [goodP]
  rw [show decide (goodP 11 l) = decide (oneP l 64) from decide_eq_decide.2 e]
  have H := Lib.hid h
  clear h e
  go_enter Try.func45, Try.ntmps45
  go_wp2_with fail
  refine (rone_any _ _ _ _ l 64 H.out).mono ?_
  rintro e w' ⟨rfl, rfl⟩
  go_wp2
  go_ret
  exact ⟨rfl, 0, rfl⟩

theorem rgood_6 {o : Col} {c : Nat} (w : World) (ao : Option Addr) (n cap : Nat) (l : List Int) (h : Ints w o c (.slice ao n cap) l) : Calls Try.prog 45 #[.int .u8 6, .slice ao n cap] w (Quiet (.bool (decide (goodP 6 l))) w) := by
  have e : goodP 6 l ↔ oneP l 16 := by simp [goodP]
  rw [show decide (goodP 6 l) = decide (oneP l 16) from decide_eq_decide.2 e]
  have H := Lib.hid h
  clear h e
  go_enter Try.func45, Try.ntmps45
  go_wp2_with fail
  refine (rone_any _ _ _ _ l 16 H.out).mono ?_
  rintro e w' ⟨rfl, rfl⟩
  go_wp2
  go_ret
  exact ⟨rfl, 0, rfl⟩

theorem rgood_9 {o : Col} {c : Nat} (w : World) (ao : Option Addr) (n cap : Nat) (l : List Int) (h : Ints w o c (.slice ao n cap) l) : Calls Try.prog 45 #[.int .u8 9, .slice ao n cap] w (Quiet (.bool (decide (goodP 9 l))) w) := by
  have e : goodP 9 l ↔ oneP l 16 := by simp [goodP]
  rw [show decide (goodP 9 l) = decide (oneP l 16) from decide_eq_decide.2 e]
  have H := Lib.hid h
  clear h e
  go_enter Try.func45, Try.ntmps45
  go_wp2_with fail
  refine (rone_any _ _ _ _ l 16 H.out).mono ?_
  rintro e w' ⟨rfl, rfl⟩
  go_wp2
  go_ret
  exact ⟨rfl, 0, rfl⟩


theorem rgood_4 {o : Col} {c : Nat} (w : World) (ao : Option Addr) (n cap : Nat) (l : List Int) (h : Ints w o c (.slice ao n cap) l) : Calls Try.prog 45 #[.int .u8 4, .slice ao n cap] w (Quiet (.bool (decide (goodP 4 l))) w) := by
  have e : goodP 4 l ↔ pairP l := by simp [goodP]
  rw [show decide (goodP 4 l) = decide (pairP l) from decide_eq_decide.2 e]
  have H := Lib.hid h
  clear h e
  go_enter Try.func45, Try.ntmps45
  go_wp2_with fail
  refine (rtwo_any _ _ _ _ l H.out).mono ?_
  rintro e w' ⟨rfl, m, rfl⟩
  go_wp2
  go_ret
  exact ⟨rfl, m, rfl⟩

theorem rgood_5 {o : Col} {c : Nat} (w : World) (ao : Option Addr) (n cap : Nat) (l : List Int) (h : Ints w o c (.slice ao n cap) l) : Calls Try.prog 45 #[.int .u8 5, .slice ao n cap] w (Quiet (.bool (decide (goodP 5 l))) w) := by
  have e : goodP 5 l ↔ pairP l := by simp [goodP]
  rw [show decide (goodP 5 l) = decide (pairP l) from decide_eq_decide.2 e]
  have H := Lib.hid h
  clear h e
  go_enter Try.func45, Try.ntmps45
  go_wp2_with fail
  refine (rtwo_any _ _ _ _ l H.out).mono ?_
  rintro e w' ⟨rfl, m, rfl⟩
  go_wp2
  go_ret
  exact ⟨rfl, m, rfl⟩


theorem rgood_7 {o : Col} {c : Nat} (w : World) (ao : Option Addr) (n cap : Nat) (l : List Int) (h : Ints w o c (.slice ao n cap) l) : Calls Try.prog 45 #[.int .u8 7, .slice ao n cap] w (Quiet (.bool (decide (goodP 7 l))) w) := by
  have e : goodP 7 l ↔ l.length = 0 := by simp [goodP]
  rw [show decide (goodP 7 l) = decide (l.length = 0) from decide_eq_decide.2 e]
  obtain rfl := h.len
  clear h e
  generalize l.length = L at *
  by_cases hl : L = 0
  · subst hl
    rw [decide_eq_true rfl]
    go_enter Try.func45, Try.ntmps45
    go_wp2
    go_ret
    exact ⟨rfl, 0, rfl⟩
  · have hb : decide (L = 0) = false := decide_eq_false hl
    have hb1 : ((L : Int) == 0) = false := by simp; omega
    rw [hb]
    go_enter Try.func45, Try.ntmps45
    go_wp2
    go_ret
    refine ⟨?_, 0, rfl⟩
    first
      | rfl
      | (show Ending.returned (.bool (decide (L = 0))) = _; rw [hb])
      | (show Ending.returned (.bool (L == 0)) = _; simp [hl])
      | (show Ending.returned (.bool ((L : Int) == 0)) = _; rw [hb1])
      | (show Ending.returned (.bool (decide ((L : Int) = 0))) = _; rw [decide_eq_false (by omega)])

theorem rgood_8 {o : Col} {c : Nat} (w : World) (ao : Option Addr) (n cap : Nat) (l : List Int) (h : Ints w o c (.slice ao n cap) l) : Calls Try.prog 45 #[.int .u8 8, .slice ao n cap] w (Quiet (.bool (decide (goodP 8 l))) w) := by
  have e : goodP 8 l ↔ l.length = 0 := by simp [goodP]
  rw [show decide (goodP 8 l) = decide (l.length = 0) from decide_eq_decide.2 e]
  obtain rfl := h.len
  clear h e
  generalize l.length = L at *
  by_cases hl : L = 0
  · subst hl
    rw [decide_eq_true rfl]
    go_enter Try.func45, Try.ntmps45
    go_wp2
    go_ret
    exact ⟨rfl, 0, rfl⟩
  · have hb : decide (L = 0) = false := decide_eq_false hl
    have hb1 : ((L : Int) == 0) = false := by simp; omega
    rw [hb]
    go_enter Try.func45, Try.ntmps45
    go_wp2
    go_ret
    refine ⟨?_, 0, rfl⟩
    first
      | rfl
      | (show Ending.returned (.bool (decide (L = 0))) = _; rw [hb])
      | (show Ending.returned (.bool (L == 0)) = _; simp [hl])
      | (show Ending.returned (.bool ((L : Int) == 0)) = _; rw [hb1])
      | (show Ending.returned (.bool (decide ((L : Int) = 0))) = _; rw [decide_eq_false (by omega)])

theorem rgood_10 {o : Col} {c : Nat} (w : World) (ao : Option Addr) (n cap : Nat) (l : List Int) (h : Ints w o c (.slice ao n cap) l) : Calls Try.prog 45 #[.int .u8 10, .slice ao n cap] w (Quiet (.bool (decide (goodP 10 l))) w) := by
  have e : goodP 10 l ↔ l.length = 2 := by simp [goodP]
  rw [show decide (goodP 10 l) = decide (l.length = 2) from decide_eq_decide.2 e]
  obtain rfl := h.len
  clear h e
  generalize l.length = L at *
  by_cases hl : L = 2
  · subst hl
    rw [decide_eq_true rfl]
    go_enter Try.func45, Try.ntmps45
    go_wp2
    go_ret
    exact ⟨rfl, 0, rfl⟩
  · have hb : decide (L = 2) = false := decide_eq_false hl
    have hb1 : ((L : Int) == 2) = false := by simp; omega
    rw [hb]
    go_enter Try.func45, Try.ntmps45
    go_wp2
    go_ret
    refine ⟨?_, 0, rfl⟩
    first
      | rfl
      | (show Ending.returned (.bool (decide (L = 2))) = _; rw [hb])
      | (show Ending.returned (.bool (L == 2)) = _; simp [hl])
      | (show Ending.returned (.bool ((L : Int) == 2)) = _; rw [hb1])
      | (show Ending.returned (.bool (decide ((L : Int) = 2))) = _; rw [decide_eq_false (by omega)])


theorem rgood_1 {o : Col} {c : Nat} (w : World) (ao : Option Addr) (n cap : Nat) (l : List Int) (h : Ints w o c (.slice ao n cap) l) : Calls Try.prog 45 #[.int .u8 1, .slice ao n cap] w (Quiet (.bool (decide (goodP 1 l))) w) := by
  have e : goodP 1 l ↔ 1 ≤ l.length ∧ l.length ≤ 16 := by simp [goodP]
  rw [show decide (goodP 1 l) = decide (1 ≤ l.length ∧ l.length ≤ 16) from decide_eq_decide.2 e]
  obtain rfl := h.len
  clear h e
  by_cases h1 : 1 ≤ l.length
  · have h1i : (1 : Int) ≤ l.length := by omega
    by_cases h2 : l.length ≤ 16
    · have h2i : (l.length : Int) ≤ 16 := by omega
      rw [decide_eq_true ⟨h1, h2⟩]
      go_enter Try.func45, Try.ntmps45
      go_wp2
      go_ret
      exact ⟨rfl, 0, rfl⟩
    · have h2i : ¬ (l.length : Int) ≤ 16 := by omega
      rw [decide_eq_false (fun h => h2 h.2)]
      go_enter Try.func45, Try.ntmps45
      go_wp2
      go_ret
      exact ⟨rfl, 0, rfl⟩
  · have h1i : ¬ (1 : Int) ≤ l.length := by omega
    rw [decide_eq_false (fun h => h1 h.1)]
    go_enter Try.func45, Try.ntmps45
    go_wp2
    go_ret
    exact ⟨rfl, 0, rfl⟩

theorem rgood_any {o : Col} {c : Nat} (w : World) (t : Int) (ht : TagOk t) (ao : Option Addr) (n cap : Nat) (l : List Int) (h : Ints w o c (.slice ao n cap) l) : Calls Try.prog 45 #[.int .u8 t, .slice ao n cap] w (Quiet (.bool (decide (goodP t l))) w) := by
  rcases ht with rfl | rfl | rfl | rfl | rfl | rfl | rfl | rfl | rfl | rfl | rfl
  · exact rgood_1 w ao n cap l h
  · exact rgood_2 w ao n cap l h
  · exact rgood_3 w ao n cap l h
  · exact rgood_4 w ao n cap l h
  · exact rgood_5 w ao n cap l h
  · exact rgood_6 w ao n cap l h
  · exact rgood_7 w ao n cap l h
  · exact rgood_8 w ao n cap l h
  · exact rgood_9 w ao n cap l h
  · exact rgood_10 w ao n cap l h
  · exact rgood_11 w ao n cap l h

theorem rof_tag (w : World) (t : Int) (v : Value) (h : t < 1 ∨ 11 < t) : Calls Try.prog 38 #[.int .u8 t, v] w (OfNo w 60) := by
  by_cases h1 : t < 1
  · go_enter Try.func38, Try.ntmps38
    go_wp2
    go_ret3
    exact ⟨rfl, Below.refl _ _⟩
  · have h2 : 11 < t := by omega
    go_enter Try.func38, Try.ntmps38
    go_wp2
    go_ret3
    exact ⟨rfl, Below.refl _ _⟩

theorem rof_bad {o : Col} {c : Nat} (w : World) (t : Int) (ht : TagOk t) (ao : Option Addr) (n cap : Nat) (l : List Int) (hg : ¬ goodP t l) (h : Ints w o c (.slice ao n cap) l) : Calls Try.prog 38 #[.int .u8 t, .slice ao n cap] w (OfNo w 61) := by
  have h1 : 1 ≤ t := by unfold TagOk at ht; omega
  have h2 : t ≤ 11 := by unfold TagOk at ht; omega
  have hgd := rgood_any w t ht ao n cap l h
  rw [decide_eq_false hg] at hgd
  clear ht hg h
  go_enter Try.func38, Try.ntmps38
  go_wp2_with fail
  refine hgd.mono ?_
  rintro e w' ⟨rfl, m, rfl⟩
  clear hgd
  go_wp2
  go_ret3
  exact ⟨rfl, below_n (Below.refl _ _) m⟩
end Go.Proofs.Ytknmiiajeafjpaa
