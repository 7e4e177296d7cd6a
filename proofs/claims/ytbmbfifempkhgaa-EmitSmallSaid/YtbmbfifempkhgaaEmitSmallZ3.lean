/- shape.Of, any tag, any parameters. -/
import Derived.Test.YtbmbfifempkhgaaEmitSmallZ2
import Derived.Test.YtbmbfifempkhgaaEmitSmallZ1
import Derived.Test.YtbmbfifempkhgaaProg
import Derived.Deep.QuietTactic
import Derived.BigQuiet
namespace Go.Proofs.Ytbmbfifempkhgaa
open Go.RowKit

theorem iv_cast {w : World} {o : Col} {c : Nat} {v : Value} {l l2 : List Int} (h : Ints w o c v l) (e : l = l2) : Ints w o c v l2 := e ▸ h

theorem of_1_any (w : World) {o : Col} {c : Nat} (ao : Option Addr) (n cap : Nat) (l : List Int) (hl : l.length ≤ 17600000000000) (h : Ints w o c (.slice ao n cap) l) : (goodP 1 l → Calls Try.prog 22 #[.int .u8 1, .slice ao n cap] w (OfOk w 1 l)) ∧ (¬ goodP 1 l → Calls Try.prog 22 #[.int .u8 1, .slice ao n cap] w (OfNo w 61)) := by
  obtain rfl := h.len
  match l, h, hl with
  | [], h, _ =>
    exact ⟨fun hg => absurd hg (by simp [goodP, oneP, pairP, hd, hd1] <;> omega), fun _ => of_1_l0 w ao cap⟩
  | [x], h, _ =>
    exact ⟨fun _ => of_1_l1 w ao cap x h, fun hg => absurd (by simp [goodP, oneP, pairP, hd, hd1] <;> omega) hg⟩
  | [x, y], h, _ =>
    exact ⟨fun _ => of_1_l2 w ao cap x y h, fun hg => absurd (by simp [goodP, oneP, pairP, hd, hd1] <;> omega) hg⟩
  | x :: y :: z :: r, h, hl =>
    simp only [List.length_cons] at hl h ⊢
    by_cases hr : r.length ≤ 13
    · exact ⟨fun _ => of_1_l3y w ao cap _ r.length rfl hr h, fun hg => absurd (by simp [goodP, oneP, pairP, hd, hd1] <;> omega) hg⟩
    · exact ⟨fun hg => absurd hg (by simp [goodP, oneP, pairP, hd, hd1] <;> omega), fun _ => of_1_l3n w ao cap _ r.length rfl (by omega) (by omega) h⟩

theorem of_2_any (w : World) {o : Col} {c : Nat} (ao : Option Addr) (n cap : Nat) (l : List Int) (hl : l.length ≤ 17600000000000) (h : Ints w o c (.slice ao n cap) l) : (goodP 2 l → Calls Try.prog 22 #[.int .u8 2, .slice ao n cap] w (OfOk w 2 l)) ∧ (¬ goodP 2 l → Calls Try.prog 22 #[.int .u8 2, .slice ao n cap] w (OfNo w 61)) := by
  obtain rfl := h.len
  match l, h, hl with
  | [], h, _ =>
    exact ⟨fun hg => absurd hg (by simp [goodP, oneP, pairP, hd, hd1] <;> omega), fun _ => of_2_l0 w ao cap⟩
  | [x], h, _ =>
    by_cases hx : 1 ≤ x ∧ x ≤ 64
    · exact ⟨fun _ => of_2_l1y w ao cap x hx.1 hx.2 h, fun hg => absurd (by simp [goodP, oneP, pairP, hd, hd1] <;> omega) hg⟩
    · exact ⟨fun hg => absurd hg (by simp [goodP, oneP, pairP, hd, hd1] <;> omega), fun _ => of_2_l1n w ao cap x (by omega) h⟩
  | [x, y], h, _ =>
    exact ⟨fun hg => absurd hg (by simp [goodP, oneP, pairP, hd, hd1] <;> omega), fun _ => of_2_l2 w ao cap x y h⟩
  | x :: y :: z :: r, h, hl =>
    simp only [List.length_cons] at hl h ⊢
    exact ⟨fun hg => absurd hg (by simp [goodP, oneP, pairP, hd, hd1] <;> omega), fun _ => of_2_l3 w ao cap _ r.length rfl (by omega) h⟩

theorem of_3_any (w : World) {o : Col} {c : Nat} (ao : Option Addr) (n cap : Nat) (l : List Int) (hl : l.length ≤ 17600000000000) (h : Ints w o c (.slice ao n cap) l) : (goodP 3 l → Calls Try.prog 22 #[.int .u8 3, .slice ao n cap] w (OfOk w 3 l)) ∧ (¬ goodP 3 l → Calls Try.prog 22 #[.int .u8 3, .slice ao n cap] w (OfNo w 61)) := by
  obtain rfl := h.len
  match l, h, hl with
  | [], h, _ =>
    exact ⟨fun hg => absurd hg (by simp [goodP, oneP, pairP, hd, hd1] <;> omega), fun _ => of_3_l0 w ao cap⟩
  | [x], h, _ =>
    by_cases hx : 1 ≤ x ∧ x ≤ 64
    · exact ⟨fun _ => of_3_l1y w ao cap x hx.1 hx.2 h, fun hg => absurd (by simp [goodP, oneP, pairP, hd, hd1] <;> omega) hg⟩
    · exact ⟨fun hg => absurd hg (by simp [goodP, oneP, pairP, hd, hd1] <;> omega), fun _ => of_3_l1n w ao cap x (by omega) h⟩
  | [x, y], h, _ =>
    exact ⟨fun hg => absurd hg (by simp [goodP, oneP, pairP, hd, hd1] <;> omega), fun _ => of_3_l2 w ao cap x y h⟩
  | x :: y :: z :: r, h, hl =>
    simp only [List.length_cons] at hl h ⊢
    exact ⟨fun hg => absurd hg (by simp [goodP, oneP, pairP, hd, hd1] <;> omega), fun _ => of_3_l3 w ao cap _ r.length rfl (by omega) h⟩

theorem of_4_any (w : World) {o : Col} {c : Nat} (ao : Option Addr) (n cap : Nat) (l : List Int) (hl : l.length ≤ 17600000000000) (h : Ints w o c (.slice ao n cap) l) : (goodP 4 l → Calls Try.prog 22 #[.int .u8 4, .slice ao n cap] w (OfOk w 4 l)) ∧ (¬ goodP 4 l → Calls Try.prog 22 #[.int .u8 4, .slice ao n cap] w (OfNo w 61)) := by
  obtain rfl := h.len
  match l, h, hl with
  | [], h, _ =>
    exact ⟨fun hg => absurd hg (by simp [goodP, oneP, pairP, hd, hd1] <;> omega), fun _ => of_4_l0 w ao cap⟩
  | [x], h, _ =>
    exact ⟨fun hg => absurd hg (by simp [goodP, oneP, pairP, hd, hd1] <;> omega), fun _ => of_4_l1 w ao cap x h⟩
  | [x, y], h, _ =>
    rcases pair_cases x y with hc | hc | hc | hc
    · exact ⟨fun hg => absurd hg (by simp [goodP, oneP, pairP, hd, hd1] <;> omega), fun _ => of_4_l2n w ao cap x y (.inl hc) h⟩
    · exact ⟨fun hg => absurd hg (by simp [goodP, oneP, pairP, hd, hd1] <;> omega), fun _ => of_4_l2n w ao cap x y (.inr (.inl hc)) h⟩
    · obtain ⟨u, rfl⟩ : ∃ u : Nat, x = u := ⟨x.toNat, by omega⟩
      obtain ⟨m, rfl⟩ : ∃ m : Nat, y = m := ⟨y.toNat, by omega⟩
      have hum : u * m ≤ 64 := by have := hc.2.2.2; exact_mod_cast this
      exact ⟨fun _ => of_4_l2y w ao cap u m (by omega) (by omega) (by omega) (by omega) hum h, fun hg => absurd (by simp [goodP, oneP, pairP, hd, hd1] <;> omega) hg⟩
    · exact ⟨fun hg => absurd hg (by simp [goodP, oneP, pairP, hd, hd1] <;> omega), fun _ => of_4_l2n w ao cap x y (.inr (.inr hc)) h⟩
  | x :: y :: z :: r, h, hl =>
    simp only [List.length_cons] at hl h ⊢
    exact ⟨fun hg => absurd hg (by simp [goodP, oneP, pairP, hd, hd1] <;> omega), fun _ => of_4_l3 w ao cap _ r.length rfl (by omega) h⟩

theorem of_5_any (w : World) {o : Col} {c : Nat} (ao : Option Addr) (n cap : Nat) (l : List Int) (hl : l.length ≤ 17600000000000) (h : Ints w o c (.slice ao n cap) l) : (goodP 5 l → Calls Try.prog 22 #[.int .u8 5, .slice ao n cap] w (OfOk w 5 l)) ∧ (¬ goodP 5 l → Calls Try.prog 22 #[.int .u8 5, .slice ao n cap] w (OfNo w 61)) := by
  obtain rfl := h.len
  match l, h, hl with
  | [], h, _ =>
    exact ⟨fun hg => absurd hg (by simp [goodP, oneP, pairP, hd, hd1] <;> omega), fun _ => of_5_l0 w ao cap⟩
  | [x], h, _ =>
    exact ⟨fun hg => absurd hg (by simp [goodP, oneP, pairP, hd, hd1] <;> omega), fun _ => of_5_l1 w ao cap x h⟩
  | [x, y], h, _ =>
    rcases pair_cases x y with hc | hc | hc | hc
    · exact ⟨fun hg => absurd hg (by simp [goodP, oneP, pairP, hd, hd1] <;> omega), fun _ => of_5_l2n w ao cap x y (.inl hc) h⟩
    · exact ⟨fun hg => absurd hg (by simp [goodP, oneP, pairP, hd, hd1] <;> omega), fun _ => of_5_l2n w ao cap x y (.inr (.inl hc)) h⟩
    · obtain ⟨u, rfl⟩ : ∃ u : Nat, x = u := ⟨x.toNat, by omega⟩
      obtain ⟨m, rfl⟩ : ∃ m : Nat, y = m := ⟨y.toNat, by omega⟩
      have hum : u * m ≤ 64 := by have := hc.2.2.2; exact_mod_cast this
      exact ⟨fun _ => of_5_l2y w ao cap u m (by omega) (by omega) (by omega) (by omega) hum h, fun hg => absurd (by simp [goodP, oneP, pairP, hd, hd1] <;> omega) hg⟩
    · exact ⟨fun hg => absurd hg (by simp [goodP, oneP, pairP, hd, hd1] <;> omega), fun _ => of_5_l2n w ao cap x y (.inr (.inr hc)) h⟩
  | x :: y :: z :: r, h, hl =>
    simp only [List.length_cons] at hl h ⊢
    exact ⟨fun hg => absurd hg (by simp [goodP, oneP, pairP, hd, hd1] <;> omega), fun _ => of_5_l3 w ao cap _ r.length rfl (by omega) h⟩

theorem of_6_any (w : World) {o : Col} {c : Nat} (ao : Option Addr) (n cap : Nat) (l : List Int) (hl : l.length ≤ 17600000000000) (h : Ints w o c (.slice ao n cap) l) : (goodP 6 l → Calls Try.prog 22 #[.int .u8 6, .slice ao n cap] w (OfOk w 6 l)) ∧ (¬ goodP 6 l → Calls Try.prog 22 #[.int .u8 6, .slice ao n cap] w (OfNo w 61)) := by
  obtain rfl := h.len
  match l, h, hl with
  | [], h, _ =>
    exact ⟨fun hg => absurd hg (by simp [goodP, oneP, pairP, hd, hd1] <;> omega), fun _ => of_6_l0 w ao cap⟩
  | [x], h, _ =>
    by_cases hx : 1 ≤ x ∧ x ≤ 16
    · obtain ⟨u, rfl⟩ : ∃ u : Nat, x = u := ⟨x.toNat, by omega⟩
      exact ⟨fun _ => of_6_l1y w ao cap u (by omega) (by omega) h, fun hg => absurd (by simp [goodP, oneP, pairP, hd, hd1] <;> omega) hg⟩
    · exact ⟨fun hg => absurd hg (by simp [goodP, oneP, pairP, hd, hd1] <;> omega), fun _ => of_6_l1n w ao cap x (by omega) h⟩
  | [x, y], h, _ =>
    exact ⟨fun hg => absurd hg (by simp [goodP, oneP, pairP, hd, hd1] <;> omega), fun _ => of_6_l2 w ao cap x y h⟩
  | x :: y :: z :: r, h, hl =>
    simp only [List.length_cons] at hl h ⊢
    exact ⟨fun hg => absurd hg (by simp [goodP, oneP, pairP, hd, hd1] <;> omega), fun _ => of_6_l3 w ao cap _ r.length rfl (by omega) h⟩

theorem of_7_any (w : World) {o : Col} {c : Nat} (ao : Option Addr) (n cap : Nat) (l : List Int) (hl : l.length ≤ 17600000000000) (h : Ints w o c (.slice ao n cap) l) : (goodP 7 l → Calls Try.prog 22 #[.int .u8 7, .slice ao n cap] w (OfOk w 7 l)) ∧ (¬ goodP 7 l → Calls Try.prog 22 #[.int .u8 7, .slice ao n cap] w (OfNo w 61)) := by
  obtain rfl := h.len
  match l, h, hl with
  | [], h, _ =>
    exact ⟨fun _ => of_7_l0 w ao cap, fun hg => absurd (by simp [goodP, oneP, pairP, hd, hd1] <;> omega) hg⟩
  | [x], h, _ =>
    exact ⟨fun hg => absurd hg (by simp [goodP, oneP, pairP, hd, hd1] <;> omega), fun _ => of_7_l1 w ao cap x h⟩
  | [x, y], h, _ =>
    exact ⟨fun hg => absurd hg (by simp [goodP, oneP, pairP, hd, hd1] <;> omega), fun _ => of_7_l2 w ao cap x y h⟩
  | x :: y :: z :: r, h, hl =>
    simp only [List.length_cons] at hl h ⊢
    exact ⟨fun hg => absurd hg (by simp [goodP, oneP, pairP, hd, hd1] <;> omega), fun _ => of_7_l3 w ao cap _ r.length rfl (by omega) h⟩

theorem of_8_any (w : World) {o : Col} {c : Nat} (ao : Option Addr) (n cap : Nat) (l : List Int) (hl : l.length ≤ 17600000000000) (h : Ints w o c (.slice ao n cap) l) : (goodP 8 l → Calls Try.prog 22 #[.int .u8 8, .slice ao n cap] w (OfOk w 8 l)) ∧ (¬ goodP 8 l → Calls Try.prog 22 #[.int .u8 8, .slice ao n cap] w (OfNo w 61)) := by
  obtain rfl := h.len
  match l, h, hl with
  | [], h, _ =>
    exact ⟨fun _ => of_8_l0 w ao cap, fun hg => absurd (by simp [goodP, oneP, pairP, hd, hd1] <;> omega) hg⟩
  | [x], h, _ =>
    exact ⟨fun hg => absurd hg (by simp [goodP, oneP, pairP, hd, hd1] <;> omega), fun _ => of_8_l1 w ao cap x h⟩
  | [x, y], h, _ =>
    exact ⟨fun hg => absurd hg (by simp [goodP, oneP, pairP, hd, hd1] <;> omega), fun _ => of_8_l2 w ao cap x y h⟩
  | x :: y :: z :: r, h, hl =>
    simp only [List.length_cons] at hl h ⊢
    exact ⟨fun hg => absurd hg (by simp [goodP, oneP, pairP, hd, hd1] <;> omega), fun _ => of_8_l3 w ao cap _ r.length rfl (by omega) h⟩

theorem of_9_any (w : World) {o : Col} {c : Nat} (ao : Option Addr) (n cap : Nat) (l : List Int) (hl : l.length ≤ 17600000000000) (h : Ints w o c (.slice ao n cap) l) : (goodP 9 l → Calls Try.prog 22 #[.int .u8 9, .slice ao n cap] w (OfOk w 9 l)) ∧ (¬ goodP 9 l → Calls Try.prog 22 #[.int .u8 9, .slice ao n cap] w (OfNo w 61)) := by
  obtain rfl := h.len
  match l, h, hl with
  | [], h, _ =>
    exact ⟨fun hg => absurd hg (by simp [goodP, oneP, pairP, hd, hd1] <;> omega), fun _ => of_9_l0 w ao cap⟩
  | [x], h, _ =>
    by_cases hx : 1 ≤ x ∧ x ≤ 16
    · obtain ⟨u, rfl⟩ : ∃ u : Nat, x = u := ⟨x.toNat, by omega⟩
      exact ⟨fun _ => of_9_l1y w ao cap u (by omega) (by omega) h, fun hg => absurd (by simp [goodP, oneP, pairP, hd, hd1] <;> omega) hg⟩
    · exact ⟨fun hg => absurd hg (by simp [goodP, oneP, pairP, hd, hd1] <;> omega), fun _ => of_9_l1n w ao cap x (by omega) h⟩
  | [x, y], h, _ =>
    exact ⟨fun hg => absurd hg (by simp [goodP, oneP, pairP, hd, hd1] <;> omega), fun _ => of_9_l2 w ao cap x y h⟩
  | x :: y :: z :: r, h, hl =>
    simp only [List.length_cons] at hl h ⊢
    exact ⟨fun hg => absurd hg (by simp [goodP, oneP, pairP, hd, hd1] <;> omega), fun _ => of_9_l3 w ao cap _ r.length rfl (by omega) h⟩

theorem of_10_any (w : World) {o : Col} {c : Nat} (ao : Option Addr) (n cap : Nat) (l : List Int) (hl : l.length ≤ 17600000000000) (h : Ints w o c (.slice ao n cap) l) : (goodP 10 l → Calls Try.prog 22 #[.int .u8 10, .slice ao n cap] w (OfOk w 10 l)) ∧ (¬ goodP 10 l → Calls Try.prog 22 #[.int .u8 10, .slice ao n cap] w (OfNo w 61)) := by
  obtain rfl := h.len
  match l, h, hl with
  | [], h, _ =>
    exact ⟨fun hg => absurd hg (by simp [goodP, oneP, pairP, hd, hd1] <;> omega), fun _ => of_10_l0 w ao cap⟩
  | [x], h, _ =>
    exact ⟨fun hg => absurd hg (by simp [goodP, oneP, pairP, hd, hd1] <;> omega), fun _ => of_10_l1 w ao cap x h⟩
  | [x, y], h, _ =>
    exact ⟨fun _ => of_10_l2 w ao cap x y h, fun hg => absurd (by simp [goodP, oneP, pairP, hd, hd1] <;> omega) hg⟩
  | x :: y :: z :: r, h, hl =>
    simp only [List.length_cons] at hl h ⊢
    exact ⟨fun hg => absurd hg (by simp [goodP, oneP, pairP, hd, hd1] <;> omega), fun _ => of_10_l3 w ao cap _ r.length rfl (by omega) h⟩

theorem of_11_any (w : World) {o : Col} {c : Nat} (ao : Option Addr) (n cap : Nat) (l : List Int) (hl : l.length ≤ 17600000000000) (h : Ints w o c (.slice ao n cap) l) : (goodP 11 l → Calls Try.prog 22 #[.int .u8 11, .slice ao n cap] w (OfOk w 11 l)) ∧ (¬ goodP 11 l → Calls Try.prog 22 #[.int .u8 11, .slice ao n cap] w (OfNo w 61)) := by
  obtain rfl := h.len
  match l, h, hl with
  | [], h, _ =>
    exact ⟨fun hg => absurd hg (by simp [goodP, oneP, pairP, hd, hd1] <;> omega), fun _ => of_11_l0 w ao cap⟩
  | [x], h, _ =>
    by_cases hx : 1 ≤ x ∧ x ≤ 64
    · exact ⟨fun _ => of_11_l1y w ao cap x hx.1 hx.2 h, fun hg => absurd (by simp [goodP, oneP, pairP, hd, hd1] <;> omega) hg⟩
    · exact ⟨fun hg => absurd hg (by simp [goodP, oneP, pairP, hd, hd1] <;> omega), fun _ => of_11_l1n w ao cap x (by omega) h⟩
  | [x, y], h, _ =>
    exact ⟨fun hg => absurd hg (by simp [goodP, oneP, pairP, hd, hd1] <;> omega), fun _ => of_11_l2 w ao cap x y h⟩
  | x :: y :: z :: r, h, hl =>
    simp only [List.length_cons] at hl h ⊢
    exact ⟨fun hg => absurd hg (by simp [goodP, oneP, pairP, hd, hd1] <;> omega), fun _ => of_11_l3 w ao cap _ r.length rfl (by omega) h⟩

end Go.Proofs.Ytbmbfifempkhgaa

/- shape.Of, whole. -/
namespace Go.Proofs.Ytbmbfifempkhgaa
open Go.RowKit

theorem goodP_cases {t : Int} {ps : List Int} (h : goodP t ps) : t = 1 ∨ t = 2 ∨ t = 3 ∨ t = 4 ∨ t = 5 ∨ t = 6 ∨ t = 7 ∨ t = 8 ∨ t = 9 ∨ t = 10 ∨ t = 11 := by
  rcases h with h | h | h | h | h | h | h | h | h | h | h <;> omega


theorem of_ok {o : Col} {c : Nat} (w : World) (t : Int) (ao : Option Addr) (n cap : Nat) (ps : List Int) (hg : goodP t ps) (hl : ps.length ≤ 17600000000000) (h : Ints w o c (.slice ao n cap) ps) : Calls Try.prog 22 #[.int .u8 t, .slice ao n cap] w (OfOk w t ps) := by
  rcases goodP_cases hg with rfl | rfl | rfl | rfl | rfl | rfl | rfl | rfl | rfl | rfl | rfl
  · exact (of_1_any w ao n cap ps hl h).1 hg
  · exact (of_2_any w ao n cap ps hl h).1 hg
  · exact (of_3_any w ao n cap ps hl h).1 hg
  · exact (of_4_any w ao n cap ps hl h).1 hg
  · exact (of_5_any w ao n cap ps hl h).1 hg
  · exact (of_6_any w ao n cap ps hl h).1 hg
  · exact (of_7_any w ao n cap ps hl h).1 hg
  · exact (of_8_any w ao n cap ps hl h).1 hg
  · exact (of_9_any w ao n cap ps hl h).1 hg
  · exact (of_10_any w ao n cap ps hl h).1 hg
  · exact (of_11_any w ao n cap ps hl h).1 hg
theorem of_bad {o : Col} {c : Nat} (w : World) (t : Int) (ao : Option Addr) (n cap : Nat) (ps : List Int) (ht : TagOk t) (hg : ¬ goodP t ps) (hl : ps.length ≤ 17600000000000) (h : Ints w o c (.slice ao n cap) ps) : Calls Try.prog 22 #[.int .u8 t, .slice ao n cap] w (OfNo w 61) := by
  rcases ht with rfl | rfl | rfl | rfl | rfl | rfl | rfl | rfl | rfl | rfl | rfl
  · exact (of_1_any w ao n cap ps hl h).2 hg
  · exact (of_2_any w ao n cap ps hl h).2 hg
  · exact (of_3_any w ao n cap ps hl h).2 hg
  · exact (of_4_any w ao n cap ps hl h).2 hg
  · exact (of_5_any w ao n cap ps hl h).2 hg
  · exact (of_6_any w ao n cap ps hl h).2 hg
  · exact (of_7_any w ao n cap ps hl h).2 hg
  · exact (of_8_any w ao n cap ps hl h).2 hg
  · exact (of_9_any w ao n cap ps hl h).2 hg
  · exact (of_10_any w ao n cap ps hl h).2 hg
  · exact (of_11_any w ao n cap ps hl h).2 hg
theorem of_no {o : Col} {c : Nat} (w : World) (t : Int) (ao : Option Addr) (n cap : Nat) (ps : List Int) (hg : ¬ goodP t ps) (hl : ps.length ≤ 17600000000000) (h : Ints w o c (.slice ao n cap) ps) : Calls Try.prog 22 #[.int .u8 t, .slice ao n cap] w (OfNo w (errP t)) := by
  unfold errP
  by_cases ht : 1 ≤ t ∧ t ≤ 11
  · rw [if_pos ht]; exact of_bad w t ao n cap ps (by unfold TagOk; omega) hg hl h
  · rw [if_neg ht]; exact of_tag w t _ (by omega)

end Go.Proofs.Ytbmbfifempkhgaa

/- A region that draws its order: first what only reads; the rest in whatever order, step by step. No program in sight. -/
namespace Go.Proofs.Ytbmbfifempkhgaa
section
variable {P : Program} {md : Region.Mode} {ops : Array Oper} {Q : Exit → Act → World → Prop} {S : World → Prop}

def setAll (l : Array Bool) (r : List Nat) : Array Bool := r.foldl (fun l i => l.setIfInBounds i true) l
def bsOf (ops : Array Oper) (reads M : List Nat) (j : Nat) : Bool := madeB ops j || reads.contains j || M.contains j
def restsOK (md : Region.Mode) (ops : Array Oper) (reads M : List Nat) : Bool :=
  Region.noSelect ops && (reads.all fun i => anyAt ops i || (List.range ops.size).all fun j => madeB ops j || reads.contains j || M.contains j || behindB md ops ops.size j i) &&
  stageHead md ops (fun _ => true) reads (Array.replicate ops.size false)

theorem wpAnyT_reads {reads M : List Nat} {n : Nat} (hsel : Region.noSelect ops = true) (hQ : ∀ c a a' w, Q (.panic c) a w → Q (.panic c) a' w)
    (hbe : ∀ i ∈ reads, anyAt ops i = false → ∀ j, j < ops.size → madeB ops j = true ∨ reads.contains j = true ∨ M.contains j = true ∨ behindB md ops ops.size j i = true) :
    ∀ (r : List Nat) (listed : Array Bool) (a : Act) (w : World), (∀ i ∈ r, i ∈ reads) → closedL md ops listed → stageHead md ops (fun _ => true) r listed = true → S w →
      wpReads P ops S (fun a' => wpAnyT P md ops Q S (bsOf ops reads M) n (setAll listed r) a' w) (pickOps ops r) a →
      wpAnyT P md ops Q S (bsOf ops reads M) (r.length + n) listed a w
  | [], listed, a, w, _, _, _, _, h => by
    rw [show ([] : List Nat).length + n = n by simp]
    exact h
  | i :: r, listed, a, w, hr, hcl, hB, hS, h => by
    simp only [stageHead, Bool.and_eq_true] at hB
    obtain ⟨⟨hrdy, hfree⟩, hB'⟩ := hB
    have hrdy' : i ∈ Region.ready md ops listed := by simpa using hrdy
    have hlt := ready_lt hrdy'
    have hi : ops[i]? = some ops[i] := Array.getElem?_eq_getElem hlt
    have hp : pickOps ops (i :: r) = ops[i] :: pickOps ops r := pick_one hi r
    rw [hp] at h
    obtain ⟨v, hy, hK⟩ := h
    rw [show (i :: r).length + n = (r.length + n) + 1 by simp; omega]
    refine wpAnyT_first (S' := fun w => anyB ops[i] = true ∨ S w) hi (Region.noSelect_spec hsel) (fun c a w h => hQ c _ _ w h) (fun j listed w w' hc hj hiun hb hS => ?_) (fun w _ _ h => h) _ listed a w hcl (Region.free_spec hi hfree) hrdy' hy (.inr hS) ?_
    · rcases hS with hS | hS
      · exact .inl hS
      · cases hany : anyB ops[i] with
        | true => exact .inl rfl
        | false =>
          right
          rcases hbe i (hr i (by simp)) (by unfold anyAt; rw [hi]; exact hany) j (ready_lt hj) with h1 | h1 | h1 | h1
          · exact hb (by simp [bsOf, h1]) hS
          · exact hb (by unfold bsOf; rw [h1]; simp) hS
          · exact hb (by unfold bsOf; rw [h1]; simp) hS
          · have := behind_ready hc h1 hj
            rw [hiun] at this
            cases this
    · exact wpAnyT_reads hsel hQ hbe r _ _ w (fun x hx => hr x (by simp [hx])) (closedL_set hcl hrdy') hB' hS hK

/-- the law: reads first, then the rest in whatever order (M: those of the rest after which S is shown) -/
theorem wp_region_rest {id : Nat} {l : List Oper} {a : Act} {w : World} (S : World → Prop) (reads M : List Nat) (n : Nat) (hm : P.follows .mixedOrders = true)
    (hB : restsOK .any l.toArray reads M = true) (hlen : reads.length + n = l.length) (hS : S w.drew)
    (h : ∀ Q' : Exit → Act → World → Prop, (∀ a w, Q .normal a w → Q' .normal a w) → wpReads P l.toArray S (fun a' => wpAnyT P .any l.toArray Q' S (bsOf l.toArray reads M) n (setAll (Array.replicate l.length false) reads) a' w.drew) (pickOps l.toArray reads) a) : (Code.region id l.toArray true).wp P Q a w := by
  refine wp_region_noPanic ?_
  refine wp_region_any hm ?_
  simp only [restsOK, Bool.and_eq_true, List.all_eq_true, List.mem_range, Bool.or_eq_true] at hB
  obtain ⟨⟨hsel, hbe⟩, hl⟩ := hB
  refine wpAny_of_T (S := S) (B := bsOf l.toArray reads M) _ _ _ _ ?_
  have key := wpAnyT_reads (P := P) (md := .any) (Q := NoPanic Q) (S := S) (reads := reads) (M := M) (n := n) hsel (fun c a a' w h => h) (fun i hi hany j hj => by
    rcases hbe i hi with h0 | h0
    · rw [hany] at h0; cases h0
    rcases h0 j hj with ((h1 | h1) | h1) | h1
    · exact .inl h1
    · exact .inr (.inl h1)
    · exact .inr (.inr (.inl h1))
    · exact .inr (.inr (.inr h1))) reads (Array.replicate l.toArray.size false) a { w with drawn := w.drawn + 1 } (fun _ h => h)
    (fun j oj _ hl => by rw [getD_replicate_false] at hl; cases hl) hl hS (by simpa using h (NoPanic Q) (fun _ _ h => NoPanic.normal h))
  rw [hlen] at key
  simpa using key

theorem wpOp_of_list {i : Nat} {K : Act → World → Prop} {a : Act} {w : World} (hi : i < ops.size) (h : wpList P ops (EndK Q K) (pickOps ops [i]) a w) : wpOp P ops Q i K a w := by
  have ho : ops[i]? = some ops[i] := Array.getElem?_eq_getElem hi
  rw [pick_one ho []] at h
  have hw : wpOp P ops (EndK Q K) i (wpList P ops (EndK Q K) (pickOps ops [])) a w := by unfold wpOp; simp only [ho]; exact h
  exact wpOp_endK (fun a' w' h' => h') hw

/-- one is ready -/
theorem wpAnyT_one {B : Nat → Bool} {n i : Nat} {listed : Array Bool} {a : Act} {w : World} (hr : Region.ready md ops listed = [i]) (h : wpList P ops (EndK Q fun a' w' => (B i = true → S w → S w') ∧ wpAnyT P md ops Q S B n (listed.setIfInBounds i true) a' w') (pickOps ops [i]) a w) : wpAnyT P md ops Q S B (n + 1) listed a w := by
  have hi : i ∈ Region.ready md ops listed := by rw [hr]; simp
  refine ⟨fun h0 => (by rw [h0] at hr; cases hr), fun j hj => ?_⟩
  rw [hr] at hj
  obtain rfl : j = i := by simpa using hj
  exact wpOp_of_list (ready_lt hi) h
/-- two are ready -/
theorem wpAnyT_two {B : Nat → Bool} {n i k : Nat} {listed : Array Bool} {a : Act} {w : World} (hr : Region.ready md ops listed = [i, k]) (h : wpList P ops (EndK Q fun a' w' => (B i = true → S w → S w') ∧ wpAnyT P md ops Q S B n (listed.setIfInBounds i true) a' w') (pickOps ops [i]) a w)
    (h' : wpList P ops (EndK Q fun a' w' => (B k = true → S w → S w') ∧ wpAnyT P md ops Q S B n (listed.setIfInBounds k true) a' w') (pickOps ops [k]) a w) : wpAnyT P md ops Q S B (n + 1) listed a w := by
  have hi : i ∈ Region.ready md ops listed := by rw [hr]; simp
  have hk : k ∈ Region.ready md ops listed := by rw [hr]; simp
  refine ⟨fun h0 => (by rw [h0] at hr; cases hr), fun j hj => ?_⟩
  rw [hr] at hj
  rcases List.mem_cons.1 hj with rfl | hj
  · exact wpOp_of_list (ready_lt hi) h
  · obtain rfl : j = k := by simpa using hj
    exact wpOp_of_list (ready_lt hk) h'
/-- from here on all is in a forced order, and S is wanted no more -/
theorem wpAnyT_list {reads M : List Nat} {ks : List Nat} {listed : Array Bool} {a : Act} {w : World} (hSx : ∀ w w', Ext w w' → S w → S w') (hB : (stageTail md ops (fun l => (Region.ready md ops l).isEmpty) ks listed && ks.all fun k => !(reads.contains k || M.contains k)) = true) (h : wpList P ops Q (pickOps ops ks) a w) : wpAnyT P md ops Q S (bsOf ops reads M) ks.length listed a w := by
  simp only [Bool.and_eq_true, List.all_eq_true, Bool.not_eq_true'] at hB
  have go : ∀ (ks : List Nat) (listed : Array Bool) (a : Act) (w : World), stageTail md ops (fun l => (Region.ready md ops l).isEmpty) ks listed = true → (∀ k ∈ ks, (reads.contains k || M.contains k) = false) → wpList P ops Q (pickOps ops ks) a w → wpAnyT P md ops Q S (bsOf ops reads M) ks.length listed a w := by
    intro ks
    induction ks with
    | nil => exact fun listed a w h1 _ h => ⟨by simpa [stageTail] using h1, h⟩
    | cons k r ih =>
      intro listed a w h1 h2 h
      simp only [stageTail, Bool.and_eq_true, decide_eq_true_eq] at h1
      have hrdy : k ∈ Region.ready md ops listed := by rw [h1.1]; simp
      have hlt := ready_lt hrdy
      have ho : ops[k]? = some ops[k] := Array.getElem?_eq_getElem hlt
      rw [pick_one ho r] at h
      refine ⟨fun h0 => (by rw [h0] at h1; cases h1.1), fun j hj => ?_⟩
      rw [h1.1] at hj
      obtain rfl : j = k := by simpa using hj
      have hw : wpOp P ops Q j (wpList P ops Q (pickOps ops r)) a w := by unfold wpOp; simp only [ho]; exact h
      by_cases hm : madeB ops j = true
      · obtain ⟨o, ho', hmo⟩ := madeB_some hm
        exact wpOp_mono (fun a' w' h' => ⟨fun _ hS => hSx _ _ h'.1 hS, ih _ a' w' h1.2 (fun x hx => h2 x (by simp [hx])) h'.2⟩) (wpOp_makes ho' hmo hw)
      · have hf : bsOf ops reads M j = false := by
          have h3 := h2 j (by simp)
          rw [Bool.or_eq_false_iff] at h3
          unfold bsOf
          rw [h3.1, h3.2]
          simpa using hm
        exact wpOp_mono (fun a' w' h' => ⟨fun hb => (by rw [hf] at hb; cases hb), ih _ a' w' h1.2 (fun x hx => h2 x (by simp [hx])) h'⟩) hw
  exact go ks listed a w hB.1 (fun k hk => hB.2 k hk) h
end
end Go.Proofs.Ytbmbfifempkhgaa

/- The checker's actors. -/
namespace Go.Proofs.Ytbmbfifempkhgaa
open Go.RowKit


/-- what 'actors' answers -/
def ChkRetA (w : World) (o : Col) (C B : Nat) (X : ChkV) (E : Int) (k : Chk) (e : Ending) (w' : World) : Prop := SpotRet E e ∧ ∃ o' vI vO, Turn o o' ChkC w w' ∧ (E = 0 → ChkAt w' o' C B ⟨X.name, X.va, X.ve, X.vi, X.vo, vI, vO⟩ k)

theorem actorsE_cons {c : Chk} {l : List GActor} {j : Nat} (h : j < l.length) : actorsE c (l.drop j) = if actorE c.seen l[j] ≠ 0 then actorE c.seen l[j] else actorsE (actorC c l[j]) (l.drop (j + 1)) := by
  rw [List.drop_eq_getElem_cons h, actorsE]
theorem actorsC_snoc {c : Chk} {l : List GActor} {j : Nat} (h : j < l.length) : actorsC c (l.take (j + 1)) = actorC (actorsC c (l.take j)) l[j] := by
  rw [List.take_succ_eq_append_getElem h, actorsC, List.foldl_append]; rfl
theorem actorsC_seen (l : List GActor) : ∀ c : Chk, (actorsC c l).seen = c.seen ++ l.map GActor.name := by
  induction l with
  | nil => intro c; simp [actorsC]
  | cons a r ih => intro c; rw [show actorsC c (a :: r) = actorsC (actorC c a) r from rfl, ih]; simp [actorC]
theorem actorsC_rows (l : List GActor) : ∀ c : Chk, (actorsC c l).ins.length = c.ins.length + l.length ∧ (actorsC c l).outs.length = c.outs.length + l.length := by
  induction l with
  | nil => intro c; simp [actorsC]
  | cons a r ih => intro c; rw [show actorsC c (a :: r) = actorsC (actorC c a) r from rfl, (ih _).1, (ih _).2]; simp [actorC]; omega
theorem shape_len {t : Int} {ps : List Int} (h : goodP t ps) : (insP t ps).length ≤ 16 ∧ (outsP t ps).length ≤ 16 := by
  have h1 : oneP ps 16 → (hd ps).toNat ≤ 16 := fun h => by unfold oneP at h; omega
  have h2 : pairP ps → (hd ps).toNat ≤ 16 := fun h => by unfold pairP at h; omega
  unfold goodP at h
  rcases h with ⟨rfl, h⟩ | ⟨rfl, h⟩ | ⟨rfl, h⟩ | ⟨rfl, h⟩ | ⟨rfl, h⟩ | ⟨rfl, h⟩ | ⟨rfl, h⟩ | ⟨rfl, h⟩ | ⟨rfl, h⟩ | ⟨rfl, h⟩ | ⟨rfl, h⟩ <;> simp [insP, outsP] <;> first | (have := h1 h; omega) | (have := h2 h; omega) | skip


set_option maxRecDepth 100000 in
set_option maxHeartbeats 4000000 in
theorem gactors_any (w0 w : World) (o : Col) (C B : Nat) (X : ChkV) (k : Chk) (l : List GActor) (hv : Recs w0 3 ActorR X.va l) (K : Kept w0.heap.size o w0 w) (hn : k.seen.length + l.length ≤ 1000000) (hi0 : k.ins.length + l.length ≤ 1000000) (ho0 : k.outs.length + l.length ≤ 1000000)
    (hs : ∀ p ∈ l, p.name.size ≤ 4611686018427387904 ∧ p.params.length ≤ 17600000000000) (h : ChkAt w o C B X k) :
    Calls Try.prog 97 #[.pointer (some ⟨C, 0, none⟩)] w (ChkRetA w o C B X (actorsE k l) (actorsC k l)) := by
  obtain ⟨i1, bi, bz0, bz1, bz2⟩ := info_parts info_bools
  obtain ⟨ao, cap, hve⟩ := hv.slice
  rw [hve] at hv
  obtain ⟨E, hE⟩ : ∃ E, actorsE k l = E := ⟨_, rfl⟩
  rw [hE]
  have HE := Lib.hid (show actorsE (actorsC k (l.take 0)) (l.drop 0) = E by simpa [actorsC] using hE)
  have HV := Lib.hid hv
  have HVE := Lib.hid hve
  have HN := Lib.hid hn
  have HI := Lib.hid hi0
  have HO := Lib.hid ho0
  have HSZ := Lib.hid hs
  have hbR := below_alloc w (.cells #[.int .u8 0, .int .i64 0, .int .i64 0] 140)
  have HT0 := Lib.hid ((Turn.of_below o 7 hbR).mono (D := ChkC) (fun _ h => h.elim))
  have HK0 := Lib.hid (K.of_below 7 hbR)
  have hC0 := h.below 7 hbR
  have q1 := hC0.cells.2.1
  rw [hve] at q1
  have HC0 : Hid (ChkAt _ _ C B X (actorsC k (l.take 0))) := Lib.hid (by simpa [actorsC] using hC0)
  have HR0 := Lib.hid (spot_new w o 7)
  clear hE hv hve hn hi0 ho0 hs K h hbR hC0
  go_enter Try.func97, Try.ntmps97
  go_wp2_with fail
  clear q1
  obtain ⟨R, hR⟩ : ∃ R, w.heap.size = R := ⟨_, rfl⟩
  have HRE := Lib.hid hR
  rw [hR] at HR0 HT0 HK0 HC0 ⊢
  clear hR
  go_loopw [15] (fun i wr => ∃ (j : Nat) (q : Col) (vI vO : Value), j ≤ l.length ∧ i = .int .i64 j ∧ Kept w0.heap.size q w0 wr ∧ Turn o q ChkC w wr ∧ Blk wr q 7 R 140 #[.int .u8 0, .int .i64 0, .int .i64 0] ∧ ChkAt wr q C B ⟨X.name, X.va, X.ve, X.vi, X.vo, vI, vO⟩ (actorsC k (l.take j)) ∧ actorsE (actorsC k (l.take j)) (l.drop j) = E) (fun i _ => l.length - (intOf i).toNat)
  case atStart => exact ⟨0, _, X.vI, X.vO, Nat.zero_le _, rfl, HK0.out, HT0.out, HR0.out, HC0.out, HE.out⟩
  case round =>
    clear HK0 HT0 HR0 HC0 HE
    obtain ⟨j, q, vI, vO, hj, rfl, hK, hT, hR, hC, hE⟩ := hrel
    have HK := Lib.hid hK
    have HT := Lib.hid hT
    have HR := Lib.hid hR
    have HC := Lib.hid hC
    have HE := Lib.hid hE
    clear hK hT hR hC hE
    by_cases hlt : j < l.length
    · have hlti : (j : Int) < l.length := by omega
      obtain ⟨b0, off, rfl, hcap, hb0, hrec⟩ := HV.out.at (by omega)
      obtain ⟨cs, hcs, hPR, hcl⟩ := hrec j hlt
      obtain ⟨xs, rfl, hst⟩ := hPR
      have c0 := cell_later HK.out.below (hcl 0 (by omega))
      have c1 := cell_later HK.out.below (hcl 1 (by omega))
      have c2 := cell_later HK.out.below (hcl 2 (by omega))
      simp at c0 c1 c2
      have hcapi : (l.length : Int) ≤ cap := by omega
      have hEc := HE.out
      rw [actorsE_cons hlt] at hEc
      have HEC := Lib.hid hEc
      have HCn := Lib.hid (actorsC_snoc (c := k) hlt)
      have hpz := HSZ.out l[j] (List.getElem_mem hlt)
      have hsl : (actorsC k (l.take j)).seen.length ≤ 1000000 := by rw [actorsC_seen]; have := HN.out; simp; omega
      have hil : (actorsC k (l.take j)).ins.length ≤ 1000000 := by rw [(actorsC_rows _ _).1]; have := HI.out; simp; omega
      have hol : (actorsC k (l.take j)).outs.length ≤ 1000000 := by rw [(actorsC_rows _ _).2]; have := HO.out; simp; omega
      have hst2 : Has w0 xs (ivs l[j].params) := hst
      obtain ⟨sa, sc, hxs⟩ := Ints.slice hst2
      subst hxs
      have HST := Lib.hid hst2
      clear hcl hcs hrec hst hst2 hEc HE
      generalize l[j] = p at *
      obtain ⟨kk, hkk⟩ : ∃ x, actorsC k (l.take j) = x := ⟨_, rfl⟩
      rw [hkk] at HEC HC HCn hsl hil hol
      clear hkk
      have hbX := below_alloc wr (.cells #[.string p.name, .int .u8 p.tag, .slice sa p.params.length sc] 57)
      have hX : Blk (wr.alloc (.cells #[.string p.name, .int .u8 p.tag, .slice sa p.params.length sc] 57)) (ext q wr.heap.size 8) 8 wr.heap.size 57 #[.string p.name, .int .u8 p.tag, .slice sa p.params.length sc] := ⟨heap_alloc_new wr _, ext_new (Nat.le_refl _)⟩
      have hTX := (Turn.of_below q 8 hbX).mono (D := ChkC) (fun _ h => h.elim)
      have HK2 := Lib.hid (HK.out.of_below 8 hbX)
      have HT2 := Lib.hid (HT.out.trans hTX (fun _ h => h))
      have HR2 := Lib.hid (HR.out.turn (Turn.of_below q 8 hbX) (fun h => h))
      have HC2 := Lib.hid (HC.out.below 8 hbX)
      have HX := Lib.hid hX
      clear hbX hX hTX HK HT HR HC
      go_wp2_with fail
      refine (gname_any _ (ext q wr.heap.size 8) C B _ kk p.name hpz.1 hsl HC2.out).mono ?_
      rintro e w4 ⟨rfl, o4, T40, hC4⟩
      have T4 := T40.mono (D := ChkC) (fun x e => by subst e; unfold ChkC; omega)
      have HK4 := Lib.hid (HK2.out.turn T4 (by unfold ChkC; omega))
      have HT4 := Lib.hid (HT2.out.trans T4 (fun _ h => h))
      have HR4 := Lib.hid (HR2.out.turn T4 (by unfold ChkC; omega))
      have HX4 := Lib.hid (HX.out.turn T4 (by unfold ChkC; omega))
      have HC4 := Lib.hid hC4
      clear T40 T4 hC4 HK2 HT2 HR2 HC2 HX
      obtain ⟨ne, hne⟩ : ∃ x, nameE kk.seen p.name = x := ⟨_, rfl⟩
      rw [hne] at HC4 ⊢
      have HNE := Lib.hid hne
      clear hne
      by_cases h0 : ne = 0
      · subst h0
        have HC5 := Lib.hid (HC4.out rfl)
        have x1 := HX4.out.cell 1 _ rfl
        have x2 := HX4.out.cell 2 _ rfl
        have HP4 : Hid (Has w4 (.slice sa p.params.length sc) (ivs p.params)) := Lib.hid (HST.out.below HK4.out.below)
        clear HC4
        go_wp2_with fail
        by_cases hg : goodP p.tag p.params
        · have HG := Lib.hid hg
          have HSL := Lib.hid (shape_len hg)
          refine (of_ok _ p.tag sa _ sc p.params hg hpz.2 HP4.out).mono ?_
          rintro e w5 ⟨vi, vo, rfl, p1, p2, hb5⟩
          obtain ⟨a1, c1', rfl⟩ := owns_slice p1
          obtain ⟨a2, c2', rfl⟩ := owns_slice p2
          have HK5 := Lib.hid (HK4.out.of_below 9 hb5)
          have HT5 := Lib.hid (HT4.out.trans ((Turn.of_below o4 9 hb5).mono (D := ChkC) (fun _ h => h.elim)) (fun _ h => h))
          have HR5 := Lib.hid (HR4.out.turn (Turn.of_below o4 9 hb5) (fun h => h))
          have HC6 := Lib.hid (HC5.out.below 9 hb5)
          clear p1 p2 hb5 HK4 HT4 HR4 HX4 HC5 HP4 x1 x2 hg
          generalize ext o4 w4.heap.size 9 = q5 at *
          obtain ⟨n1, hn1⟩ : ∃ n, (insP p.tag p.params).length = n := ⟨_, rfl⟩
          obtain ⟨n2, hn2⟩ : ∃ n, (outsP p.tag p.params).length = n := ⟨_, rfl⟩
          have HN1 := Lib.hid hn1
          have HN2 := Lib.hid hn2
          rw [hn1, hn2] at HSL ⊢
          have hn16 := HSL.out
          clear hn1 hn2 HSL
          go_wp2_with fail
          obtain ⟨gI, hSI⟩ := HC6.out.ins
          have hown := hSI.own.1
          obtain ⟨ia, ic, hIv⟩ := hSI.own.slice
          have y6 := HC6.out.cells.2.2.2.2.2.2.1
          have hFZ := HC6.out.froz 6
          rw [hIv] at y6 hown
          have hr := make_bools (w5).drew n1 (by omega)
          have HSI := Lib.hid hSI
          have HIV := Lib.hid hIv
          have hlen := hil
          clear hSI hIv
          have y6a := ca (o := .cells (bvs (List.replicate n1 false)).toArray 4) (w := w5) y6
          refine wp_region_rest (fun w' => w'.cell? ⟨C, 6, none⟩ = some (.slice ia kk.ins.length ic)) [0, 1, 2, 3, 4, 5, 6] [7, 9] 6 (by kernel_rfl) (by kernel_rfl) rfl y6 ?_
          intro Q' hQ'
          simp only [pickOps, List.flatMap_cons, List.flatMap_nil, List.drop_succ_cons, List.drop_zero, List.take_succ_cons, List.take_zero, List.cons_append, List.nil_append, List.append_nil]
          repeat (first
            | (refine wpReads_skip (by rfl) ?_; (try simp only [Act.put, List.setIfInBounds_toArray, List.set_cons_zero, List.set_cons_succ]))
            | (refine wpReads_cons ?_ (by rfl) (by rfl) ?_ ?_; rotate_left; (intro wz hz; (try dsimp only at hz); go_simp; try with_reducible rfl); (try simp only [Act.put, List.setIfInBounds_toArray, List.set_cons_zero, List.set_cons_succ]))
            | (refine wpReads_any ?_ (by rfl) ?_ ?_; rotate_left; (intro wz; go_simp; try with_reducible rfl); (try simp only [Act.put, List.setIfInBounds_toArray, List.set_cons_zero, List.set_cons_succ])))
          refine wpReads_nil ?_
          refine wpAnyT_one (i := 7) (by kernel_rfl) ?_
          simp only [pickOps, List.flatMap_cons, List.flatMap_nil, List.drop_succ_cons, List.drop_zero, List.take_succ_cons, List.take_zero, List.cons_append, List.nil_append, List.append_nil]
          go_wp2
          refine ⟨by first | exact fun _ _ => y6a | exact fun _ => y6a, ?_⟩
          refine wpAnyT_one (i := 8) (by kernel_rfl) ?_
          simp only [pickOps, List.flatMap_cons, List.flatMap_nil, List.drop_succ_cons, List.drop_zero, List.take_succ_cons, List.take_zero, List.cons_append, List.nil_append, List.append_nil]
          go_wp2
          refine ⟨by first | exact fun _ h => ca h | exact fun _ => ca y6a, ?_⟩
          refine wpAnyT_one (i := 9) (by kernel_rfl) ?_
          simp only [pickOps, List.flatMap_cons, List.flatMap_nil, List.drop_succ_cons, List.drop_zero, List.take_succ_cons, List.take_zero, List.cons_append, List.nil_append, List.append_nil]
          go_wp2_with (at_builtin; refine stop_here ?_)
          refine go_on ?_
          have hown2 : (((w5).alloc (.cells (bvs (List.replicate n1 false)).toArray 4)).alloc (.cells #[.slice (some ⟨(w5).heap.size, 0, none⟩) n1 n1] 192)).ownsRow 0 192 1 (.slice ia kk.ins.length ic) kk.ins.length (rowsV kk.ins gI) := (hown.alloc _).alloc _
          refine wpList_app rfl _ _ 177 rfl 0 192 i1 _ 1 24 Try.underlying177 bi bz0 bz1 bz2 rfl (.slice ia kk.ins.length ic) kk.ins.length _ rfl hown2 (some ⟨(w5).heap.size + 1, 0, none⟩) 1 1 [.slice (some ⟨(w5).heap.size, 0, none⟩) n1 n1] rfl rfl (fun h => by cases h) (by simpa using news_alloc ((w5).alloc (.cells (bvs (List.replicate n1 false)).toArray 4)) [.slice (some ⟨(w5).heap.size, 0, none⟩) n1 n1] 192) (by simp [Value.oneCell']) (by unfold maxLen; omega) (grow_ok (by omega)) (Nat.zero_le _) ?_
          intro v7 w7 k1 k20 _ k4
          have k2 : (((w5).alloc (.cells (bvs (List.replicate n1 false)).toArray 4)).alloc (.cells #[.slice (some ⟨(w5).heap.size, 0, none⟩) n1 n1] 192)).grownBy w7 (Value.slice ia kk.ins.length ic).ownBlock := ⟨k20.os, k20.tape, k20.output, k20.size, k20.block⟩
          have k4' : v7.ownBlock = (Value.slice ia kk.ins.length ic).ownBlock ∨ v7.ownBlock = some (((w5).alloc (.cells (bvs (List.replicate n1 false)).toArray 4)).alloc (.cells #[.slice (some ⟨(w5).heap.size, 0, none⟩) n1 n1] 192)).heap.size := k4
          obtain ⟨s7, c7, rfl⟩ := owns_slice k1
          obtain ⟨⟨z6, zf⟩, TP, CP⟩ := HC6.out.pushI HSI.out n1 k1 (by rw [HIV.out]; exact k2) (by rw [HIV.out]; exact k4')
          rw [HIV.out] at z6
          have HK7 := Lib.hid (HK5.out.turn TP (by unfold ChkC; omega))
          have HT7 := Lib.hid (HT5.out.trans TP (fun _ h => h))
          have HR7 := Lib.hid (HR5.out.turn TP (by unfold ChkC; omega))
          have HC7 := Lib.hid CP
          clear TP CP k1 k2 k20 k4 k4' hown hown2 hr y6 y6a hFZ HK5 HT5 HR5 HC6 HSI
          refine ⟨by first | exact fun _ _ => z6 | exact fun _ => z6, ?_⟩
          refine wpAnyT_list (ks := [10, 11, 12]) (fun _ _ hx h => hx.cell h) (by kernel_rfl) ?_
          simp only [pickOps, List.flatMap_cons, List.flatMap_nil, List.drop_succ_cons, List.drop_zero, List.take_succ_cons, List.take_zero, List.cons_append, List.nil_append, List.append_nil]
          go_wp2_with fail
          clear HIV z6 zf
          generalize w7.setCell ⟨C, 6, none⟩ (.slice s7 (kk.ins.length + 1) c7) = w8 at *
          generalize ext2 q5 w5.heap.size 4 3 = q8 at *
          obtain ⟨gO, hSI⟩ := HC7.out.outs
          have hown := hSI.own.1
          obtain ⟨ia, ic, hIv⟩ := hSI.own.slice
          have y6 := HC7.out.cells.2.2.2.2.2.2.2
          have hFZ := HC7.out.froz 7
          rw [hIv] at y6 hown
          have hr := make_bools (w8).drew n2 (by omega)
          have HSI := Lib.hid hSI
          have HIV := Lib.hid hIv
          have hlen := hol
          clear hSI hIv
          have y6a := ca (o := .cells (bvs (List.replicate n2 false)).toArray 4) (w := w8) y6
          refine wp_region_rest (fun w' => w'.cell? ⟨C, 7, none⟩ = some (.slice ia kk.outs.length ic)) [0, 1, 2, 3, 4, 5, 6] [7, 9] 6 (by kernel_rfl) (by kernel_rfl) rfl y6 ?_
          intro Q' hQ'
          simp only [pickOps, List.flatMap_cons, List.flatMap_nil, List.drop_succ_cons, List.drop_zero, List.take_succ_cons, List.take_zero, List.cons_append, List.nil_append, List.append_nil]
          repeat (first
            | (refine wpReads_skip (by rfl) ?_; (try simp only [Act.put, List.setIfInBounds_toArray, List.set_cons_zero, List.set_cons_succ]))
            | (refine wpReads_cons ?_ (by rfl) (by rfl) ?_ ?_; rotate_left; (intro wz hz; (try dsimp only at hz); go_simp; try with_reducible rfl); (try simp only [Act.put, List.setIfInBounds_toArray, List.set_cons_zero, List.set_cons_succ]))
            | (refine wpReads_any ?_ (by rfl) ?_ ?_; rotate_left; (intro wz; go_simp; try with_reducible rfl); (try simp only [Act.put, List.setIfInBounds_toArray, List.set_cons_zero, List.set_cons_succ])))
          refine wpReads_nil ?_
          refine wpAnyT_one (i := 7) (by kernel_rfl) ?_
          simp only [pickOps, List.flatMap_cons, List.flatMap_nil, List.drop_succ_cons, List.drop_zero, List.take_succ_cons, List.take_zero, List.cons_append, List.nil_append, List.append_nil]
          go_wp2
          refine ⟨by first | exact fun _ _ => y6a | exact fun _ => y6a, ?_⟩
          refine wpAnyT_one (i := 8) (by kernel_rfl) ?_
          simp only [pickOps, List.flatMap_cons, List.flatMap_nil, List.drop_succ_cons, List.drop_zero, List.take_succ_cons, List.take_zero, List.cons_append, List.nil_append, List.append_nil]
          go_wp2
          refine ⟨by first | exact fun _ h => ca h | exact fun _ => ca y6a, ?_⟩
          refine wpAnyT_one (i := 9) (by kernel_rfl) ?_
          simp only [pickOps, List.flatMap_cons, List.flatMap_nil, List.drop_succ_cons, List.drop_zero, List.take_succ_cons, List.take_zero, List.cons_append, List.nil_append, List.append_nil]
          go_wp2_with (at_builtin; refine stop_here ?_)
          refine go_on ?_
          have hown2 : (((w8).alloc (.cells (bvs (List.replicate n2 false)).toArray 4)).alloc (.cells #[.slice (some ⟨(w8).heap.size, 0, none⟩) n2 n2] 192)).ownsRow 0 192 1 (.slice ia kk.outs.length ic) kk.outs.length (rowsV kk.outs gO) := (hown.alloc _).alloc _
          refine wpList_app rfl _ _ 177 rfl 0 192 i1 _ 1 24 Try.underlying177 bi bz0 bz1 bz2 rfl (.slice ia kk.outs.length ic) kk.outs.length _ rfl hown2 (some ⟨(w8).heap.size + 1, 0, none⟩) 1 1 [.slice (some ⟨(w8).heap.size, 0, none⟩) n2 n2] rfl rfl (fun h => by cases h) (by simpa using news_alloc ((w8).alloc (.cells (bvs (List.replicate n2 false)).toArray 4)) [.slice (some ⟨(w8).heap.size, 0, none⟩) n2 n2] 192) (by simp [Value.oneCell']) (by unfold maxLen; omega) (grow_ok (by omega)) (Nat.zero_le _) ?_
          intro v7 w7 k1 k20 _ k4
          have k2 : (((w8).alloc (.cells (bvs (List.replicate n2 false)).toArray 4)).alloc (.cells #[.slice (some ⟨(w8).heap.size, 0, none⟩) n2 n2] 192)).grownBy w7 (Value.slice ia kk.outs.length ic).ownBlock := ⟨k20.os, k20.tape, k20.output, k20.size, k20.block⟩
          have k4' : v7.ownBlock = (Value.slice ia kk.outs.length ic).ownBlock ∨ v7.ownBlock = some (((w8).alloc (.cells (bvs (List.replicate n2 false)).toArray 4)).alloc (.cells #[.slice (some ⟨(w8).heap.size, 0, none⟩) n2 n2] 192)).heap.size := k4
          obtain ⟨s9, c9, rfl⟩ := owns_slice k1
          obtain ⟨⟨z6, zf⟩, TP, CP⟩ := HC7.out.pushO HSI.out n2 k1 (by rw [HIV.out]; exact k2) (by rw [HIV.out]; exact k4')
          rw [HIV.out] at z6
          have HK9 := Lib.hid (HK7.out.turn TP (by unfold ChkC; omega))
          have HT9 := Lib.hid (HT7.out.trans TP (fun _ h => h))
          have HR9 := Lib.hid (HR7.out.turn TP (by unfold ChkC; omega))
          have HC9 := Lib.hid CP
          clear TP CP k1 k2 k20 k4 k4' hown hown2 hr y6 y6a hFZ HK7 HT7 HR7 HC7 HSI
          refine ⟨by first | exact fun _ _ => z6 | exact fun _ => z6, ?_⟩
          refine wpAnyT_list (ks := [10, 11, 12]) (fun _ _ hx h => hx.cell h) (by kernel_rfl) ?_
          simp only [pickOps, List.flatMap_cons, List.flatMap_nil, List.drop_succ_cons, List.drop_zero, List.take_succ_cons, List.take_zero, List.cons_append, List.nil_append, List.append_nil]
          have hEE : E = actorsE (actorC kk p) (l.drop (j + 1)) := by rw [← HEC.out, actorE, HNE.out]; simp [HG.out]
          have HEE := Lib.hid hEE
          have HAC : Hid (actorC kk p = ⟨kk.seen ++ [p.name], kk.ins ++ [List.replicate n1 false], kk.outs ++ [List.replicate n2 false]⟩) := Lib.hid (by rw [← HN1.out, ← HN2.out]; rfl)
          clear hEE
          have hnn := HN.out
          go_wp2
          go_roundw
          case rel => exact ⟨j + 1, _, _, _, hlt, by go_num, HK9.out, HT9.out, HR9.out, by rw [HCn.out, HAC.out]; exact HC9.out, by rw [HCn.out]; exact HEE.out.symm⟩
          case measure => simp [intOf]; omega
        · have HG := Lib.hid hg
          refine (of_no _ p.tag sa _ sc p.params hg hpz.2 HP4.out).mono ?_
          rintro e w5 ⟨he, hb5⟩
          obtain ⟨x, hx⟩ : ∃ x, errP p.tag = x := ⟨_, rfl⟩
          obtain ⟨z, hz⟩ : ∃ z : Nat, z = 0 := ⟨_, rfl⟩
          have hz16 : z ≤ 16 := by omega
          have he' : e = .returned (.tuple #[.slice none z 0, .slice none z 0, .int .i64 x]) := by rw [he, hz, hx]
          subst he'
          clear he hz
          have HK5 := Lib.hid (HK4.out.of_below 9 hb5)
          have HT5 := Lib.hid (HT4.out.trans ((Turn.of_below o4 9 hb5).mono (D := ChkC) (fun _ h => h.elim)) (fun _ h => h))
          have HR5 := Lib.hid (HR4.out.turn (Turn.of_below o4 9 hb5) (fun h => h))
          have HC6 := Lib.hid (HC5.out.below 9 hb5)
          clear hb5 HK4 HT4 HR4 HX4 HC5 HP4 x1 x2 hg
          generalize ext o4 w4.heap.size 9 = q5 at *
          have hx0 : ¬ x = 0 := by rw [← hx]; unfold errP; split <;> decide
          have hEE : E = x := by rw [← HEC.out, actorE, HNE.out]; simp [HG.out, hx, hx0]
          subst hEE
          clear hx
          go_wp2_with fail
          obtain ⟨gI, hSI⟩ := HC6.out.ins
          have hown := hSI.own.1
          obtain ⟨ia, ic, hIv⟩ := hSI.own.slice
          have y6 := HC6.out.cells.2.2.2.2.2.2.1
          have hFZ := HC6.out.froz 6
          rw [hIv] at y6 hown
          have hr := make_bools (w5).drew z (by omega)
          have HSI := Lib.hid hSI
          have HIV := Lib.hid hIv
          have hlen := hil
          clear hSI hIv
          have y6a := ca (o := .cells (bvs (List.replicate z false)).toArray 4) (w := w5) y6
          refine wp_region_rest (fun w' => w'.cell? ⟨C, 6, none⟩ = some (.slice ia kk.ins.length ic)) [0, 1, 2, 3, 4, 5, 6] [7, 9] 6 (by kernel_rfl) (by kernel_rfl) rfl y6 ?_
          intro Q' hQ'
          simp only [pickOps, List.flatMap_cons, List.flatMap_nil, List.drop_succ_cons, List.drop_zero, List.take_succ_cons, List.take_zero, List.cons_append, List.nil_append, List.append_nil]
          repeat (first
            | (refine wpReads_skip (by rfl) ?_; (try simp only [Act.put, List.setIfInBounds_toArray, List.set_cons_zero, List.set_cons_succ]))
            | (refine wpReads_cons ?_ (by rfl) (by rfl) ?_ ?_; rotate_left; (intro wz hz; (try dsimp only at hz); go_simp; try with_reducible rfl); (try simp only [Act.put, List.setIfInBounds_toArray, List.set_cons_zero, List.set_cons_succ]))
            | (refine wpReads_any ?_ (by rfl) ?_ ?_; rotate_left; (intro wz; go_simp; try with_reducible rfl); (try simp only [Act.put, List.setIfInBounds_toArray, List.set_cons_zero, List.set_cons_succ])))
          refine wpReads_nil ?_
          refine wpAnyT_one (i := 7) (by kernel_rfl) ?_
          simp only [pickOps, List.flatMap_cons, List.flatMap_nil, List.drop_succ_cons, List.drop_zero, List.take_succ_cons, List.take_zero, List.cons_append, List.nil_append, List.append_nil]
          go_wp2
          refine ⟨by first | exact fun _ _ => y6a | exact fun _ => y6a, ?_⟩
          refine wpAnyT_one (i := 8) (by kernel_rfl) ?_
          simp only [pickOps, List.flatMap_cons, List.flatMap_nil, List.drop_succ_cons, List.drop_zero, List.take_succ_cons, List.take_zero, List.cons_append, List.nil_append, List.append_nil]
          go_wp2
          refine ⟨by first | exact fun _ h => ca h | exact fun _ => ca y6a, ?_⟩
          refine wpAnyT_one (i := 9) (by kernel_rfl) ?_
          simp only [pickOps, List.flatMap_cons, List.flatMap_nil, List.drop_succ_cons, List.drop_zero, List.take_succ_cons, List.take_zero, List.cons_append, List.nil_append, List.append_nil]
          go_wp2_with (at_builtin; refine stop_here ?_)
          refine go_on ?_
          have hown2 : (((w5).alloc (.cells (bvs (List.replicate z false)).toArray 4)).alloc (.cells #[.slice (some ⟨(w5).heap.size, 0, none⟩) z z] 192)).ownsRow 0 192 1 (.slice ia kk.ins.length ic) kk.ins.length (rowsV kk.ins gI) := (hown.alloc _).alloc _
          refine wpList_app rfl _ _ 177 rfl 0 192 i1 _ 1 24 Try.underlying177 bi bz0 bz1 bz2 rfl (.slice ia kk.ins.length ic) kk.ins.length _ rfl hown2 (some ⟨(w5).heap.size + 1, 0, none⟩) 1 1 [.slice (some ⟨(w5).heap.size, 0, none⟩) z z] rfl rfl (fun h => by cases h) (by simpa using news_alloc ((w5).alloc (.cells (bvs (List.replicate z false)).toArray 4)) [.slice (some ⟨(w5).heap.size, 0, none⟩) z z] 192) (by simp [Value.oneCell']) (by unfold maxLen; omega) (grow_ok (by omega)) (Nat.zero_le _) ?_
          intro v7 w7 k1 k20 _ k4
          have k2 : (((w5).alloc (.cells (bvs (List.replicate z false)).toArray 4)).alloc (.cells #[.slice (some ⟨(w5).heap.size, 0, none⟩) z z] 192)).grownBy w7 (Value.slice ia kk.ins.length ic).ownBlock := ⟨k20.os, k20.tape, k20.output, k20.size, k20.block⟩
          have k4' : v7.ownBlock = (Value.slice ia kk.ins.length ic).ownBlock ∨ v7.ownBlock = some (((w5).alloc (.cells (bvs (List.replicate z false)).toArray 4)).alloc (.cells #[.slice (some ⟨(w5).heap.size, 0, none⟩) z z] 192)).heap.size := k4
          obtain ⟨s7, c7, rfl⟩ := owns_slice k1
          obtain ⟨⟨z6, zf⟩, TP, CP⟩ := HC6.out.pushI HSI.out z k1 (by rw [HIV.out]; exact k2) (by rw [HIV.out]; exact k4')
          rw [HIV.out] at z6
          have HK7 := Lib.hid (HK5.out.turn TP (by unfold ChkC; omega))
          have HT7 := Lib.hid (HT5.out.trans TP (fun _ h => h))
          have HR7 := Lib.hid (HR5.out.turn TP (by unfold ChkC; omega))
          have HC7 := Lib.hid CP
          clear TP CP k1 k2 k20 k4 k4' hown hown2 hr y6 y6a hFZ HK5 HT5 HR5 HC6 HSI
          refine ⟨by first | exact fun _ _ => z6 | exact fun _ => z6, ?_⟩
          refine wpAnyT_list (ks := [10, 11, 12]) (fun _ _ hx h => hx.cell h) (by kernel_rfl) ?_
          simp only [pickOps, List.flatMap_cons, List.flatMap_nil, List.drop_succ_cons, List.drop_zero, List.take_succ_cons, List.take_zero, List.cons_append, List.nil_append, List.append_nil]
          go_wp2_with fail
          clear HIV z6 zf
          generalize w7.setCell ⟨C, 6, none⟩ (.slice s7 (kk.ins.length + 1) c7) = w8 at *
          generalize ext2 q5 w5.heap.size 4 3 = q8 at *
          obtain ⟨gO, hSI⟩ := HC7.out.outs
          have hown := hSI.own.1
          obtain ⟨ia, ic, hIv⟩ := hSI.own.slice
          have y6 := HC7.out.cells.2.2.2.2.2.2.2
          have hFZ := HC7.out.froz 7
          rw [hIv] at y6 hown
          have hr := make_bools (w8).drew z (by omega)
          have HSI := Lib.hid hSI
          have HIV := Lib.hid hIv
          have hlen := hol
          clear hSI hIv
          have y6a := ca (o := .cells (bvs (List.replicate z false)).toArray 4) (w := w8) y6
          refine wp_region_rest (fun w' => w'.cell? ⟨C, 7, none⟩ = some (.slice ia kk.outs.length ic)) [0, 1, 2, 3, 4, 5, 6] [7, 9] 6 (by kernel_rfl) (by kernel_rfl) rfl y6 ?_
          intro Q' hQ'
          simp only [pickOps, List.flatMap_cons, List.flatMap_nil, List.drop_succ_cons, List.drop_zero, List.take_succ_cons, List.take_zero, List.cons_append, List.nil_append, List.append_nil]
          repeat (first
            | (refine wpReads_skip (by rfl) ?_; (try simp only [Act.put, List.setIfInBounds_toArray, List.set_cons_zero, List.set_cons_succ]))
            | (refine wpReads_cons ?_ (by rfl) (by rfl) ?_ ?_; rotate_left; (intro wz hz; (try dsimp only at hz); go_simp; try with_reducible rfl); (try simp only [Act.put, List.setIfInBounds_toArray, List.set_cons_zero, List.set_cons_succ]))
            | (refine wpReads_any ?_ (by rfl) ?_ ?_; rotate_left; (intro wz; go_simp; try with_reducible rfl); (try simp only [Act.put, List.setIfInBounds_toArray, List.set_cons_zero, List.set_cons_succ])))
          refine wpReads_nil ?_
          refine wpAnyT_one (i := 7) (by kernel_rfl) ?_
          simp only [pickOps, List.flatMap_cons, List.flatMap_nil, List.drop_succ_cons, List.drop_zero, List.take_succ_cons, List.take_zero, List.cons_append, List.nil_append, List.append_nil]
          go_wp2
          refine ⟨by first | exact fun _ _ => y6a | exact fun _ => y6a, ?_⟩
          refine wpAnyT_one (i := 8) (by kernel_rfl) ?_
          simp only [pickOps, List.flatMap_cons, List.flatMap_nil, List.drop_succ_cons, List.drop_zero, List.take_succ_cons, List.take_zero, List.cons_append, List.nil_append, List.append_nil]
          go_wp2
          refine ⟨by first | exact fun _ h => ca h | exact fun _ => ca y6a, ?_⟩
          refine wpAnyT_one (i := 9) (by kernel_rfl) ?_
          simp only [pickOps, List.flatMap_cons, List.flatMap_nil, List.drop_succ_cons, List.drop_zero, List.take_succ_cons, List.take_zero, List.cons_append, List.nil_append, List.append_nil]
          go_wp2_with (at_builtin; refine stop_here ?_)
          refine go_on ?_
          have hown2 : (((w8).alloc (.cells (bvs (List.replicate z false)).toArray 4)).alloc (.cells #[.slice (some ⟨(w8).heap.size, 0, none⟩) z z] 192)).ownsRow 0 192 1 (.slice ia kk.outs.length ic) kk.outs.length (rowsV kk.outs gO) := (hown.alloc _).alloc _
          refine wpList_app rfl _ _ 177 rfl 0 192 i1 _ 1 24 Try.underlying177 bi bz0 bz1 bz2 rfl (.slice ia kk.outs.length ic) kk.outs.length _ rfl hown2 (some ⟨(w8).heap.size + 1, 0, none⟩) 1 1 [.slice (some ⟨(w8).heap.size, 0, none⟩) z z] rfl rfl (fun h => by cases h) (by simpa using news_alloc ((w8).alloc (.cells (bvs (List.replicate z false)).toArray 4)) [.slice (some ⟨(w8).heap.size, 0, none⟩) z z] 192) (by simp [Value.oneCell']) (by unfold maxLen; omega) (grow_ok (by omega)) (Nat.zero_le _) ?_
          intro v7 w7 k1 k20 _ k4
          have k2 : (((w8).alloc (.cells (bvs (List.replicate z false)).toArray 4)).alloc (.cells #[.slice (some ⟨(w8).heap.size, 0, none⟩) z z] 192)).grownBy w7 (Value.slice ia kk.outs.length ic).ownBlock := ⟨k20.os, k20.tape, k20.output, k20.size, k20.block⟩
          have k4' : v7.ownBlock = (Value.slice ia kk.outs.length ic).ownBlock ∨ v7.ownBlock = some (((w8).alloc (.cells (bvs (List.replicate z false)).toArray 4)).alloc (.cells #[.slice (some ⟨(w8).heap.size, 0, none⟩) z z] 192)).heap.size := k4
          obtain ⟨s9, c9, rfl⟩ := owns_slice k1
          obtain ⟨⟨z6, zf⟩, TP, CP⟩ := HC7.out.pushO HSI.out z k1 (by rw [HIV.out]; exact k2) (by rw [HIV.out]; exact k4')
          rw [HIV.out] at z6
          have HK9 := Lib.hid (HK7.out.turn TP (by unfold ChkC; omega))
          have HT9 := Lib.hid (HT7.out.trans TP (fun _ h => h))
          have HR9 := Lib.hid (HR7.out.turn TP (by unfold ChkC; omega))
          have HC9 := Lib.hid CP
          clear TP CP k1 k2 k20 k4 k4' hown hown2 hr y6 y6a hFZ HK7 HT7 HR7 HC7 HSI
          refine ⟨by first | exact fun _ _ => z6 | exact fun _ => z6, ?_⟩
          refine wpAnyT_list (ks := [10, 11, 12]) (fun _ _ hx h => hx.cell h) (by kernel_rfl) ?_
          simp only [pickOps, List.flatMap_cons, List.flatMap_nil, List.drop_succ_cons, List.drop_zero, List.take_succ_cons, List.take_zero, List.cons_append, List.nil_append, List.append_nil]
          have z0 := HR9.out.cell 0 _ rfl
          have z1 := HR9.out.cell 1 _ rfl
          have z2 := HR9.out.cell 2 _ rfl
          have f0 := HR9.out.frozen 0
          have f1 := HR9.out.frozen 1
          have f2 := HR9.out.frozen 2
          go_wp2
          refine bodyPost_ret_by (results_tmp_row rfl _ _ _ _ _ _ _ rfl (spot_set HR9.out) Try.underlying140 rfl (by kernel_rfl)) rfl ?_
          exact ⟨⟨_, _, _, rfl⟩, _, vI, vO, HT9.out.late 7 (spot_mods (by have := HRE.out; omega) _ _ _), fun h => absurd h hx0⟩
      · have e : E = ne := by rw [← HEC.out, actorE, HNE.out, if_pos h0, if_pos h0]
        subst e
        have z0 := HR4.out.cell 0 _ rfl
        have z1 := HR4.out.cell 1 _ rfl
        have z2 := HR4.out.cell 2 _ rfl
        have f0 := HR4.out.frozen 0
        have f1 := HR4.out.frozen 1
        have f2 := HR4.out.frozen 2
        go_wp2
        refine bodyPost_ret_by (results_tmp_row rfl _ _ _ _ _ _ _ rfl (spot_set HR4.out) Try.underlying140 rfl (by kernel_rfl)) rfl ?_
        exact ⟨⟨_, _, _, rfl⟩, _, vI, vO, HT4.out.late 7 (spot_mods (by have := HRE.out; omega) _ _ _), fun h => absurd h h0⟩
    · obtain rfl : j = l.length := by omega
      have hfin := HE.out
      rw [List.drop_length, List.take_length] at hfin
      obtain rfl : E = 0 := hfin.symm
      have hC9 := HC.out
      rw [List.take_length] at hC9
      have HC9 := Lib.hid hC9
      clear hfin hC9
      have z0 := HR.out.cell 0 _ rfl
      have z1 := HR.out.cell 1 _ rfl
      have z2 := HR.out.cell 2 _ rfl
      have f0 := HR.out.frozen 0
      have f1 := HR.out.frozen 1
      have f2 := HR.out.frozen 2
      go_wp2
      refine bodyPost_ret_by (results_tmp_row rfl _ _ _ _ _ _ _ rfl (spot_set HR.out) Try.underlying140 rfl (by kernel_rfl)) rfl ?_
      exact ⟨⟨_, _, _, rfl⟩, _, vI, vO, HT.out.late 7 (spot_mods (by have := HRE.out; omega) _ _ _), fun _ => HC9.out.spot HR.out _ _ _⟩
end Go.Proofs.Ytbmbfifempkhgaa

/- The rows of a checker's sides: how many, how long. No function in sight. -/
namespace Go.Proofs.Ytbmbfifempkhgaa

def RowsLe (side : List (List Bool)) (m : Nat) : Prop := ∀ r : Nat, (side[r]?.getD []).length ≤ m

theorem takeS_len (side : List (List Bool)) (a p : Int) : (takeS side a p).length = side.length := by simp [takeS]
theorem takeS_rows {side : List (List Bool)} {m : Nat} (h : RowsLe side m) (a p : Int) : RowsLe (takeS side a p) m := fun r => by
  unfold takeS
  by_cases e : a.toNat = r
  · by_cases hr : r < side.length
    · rw [e, List.getElem?_set_self hr, Option.getD_some, List.length_set]
      unfold side1
      exact h _
    · rw [List.getElem?_eq_none (by simpa using Nat.le_of_not_lt hr)]
      simp
  · rw [List.getElem?_set_ne e]; exact h r
theorem edgesC_len (l : List GEdge) : ∀ c : Chk, (edgesC c l).ins.length = c.ins.length ∧ (edgesC c l).outs.length = c.outs.length ∧ (edgesC c l).seen = c.seen := by
  induction l with
  | nil => intro c; exact ⟨rfl, rfl, rfl⟩
  | cons e r ih => intro c; rw [show edgesC c (e :: r) = edgesC (edgeC c e) r from rfl, (ih _).1, (ih _).2.1, (ih _).2.2]; simp [edgeC, takeS_len]
theorem edgesC_rows (l : List GEdge) {m : Nat} : ∀ c : Chk, RowsLe c.ins m → RowsLe c.outs m → RowsLe (edgesC c l).ins m ∧ RowsLe (edgesC c l).outs m := by
  induction l with
  | nil => intro c h1 h2; exact ⟨h1, h2⟩
  | cons e r ih => intro c h1 h2; exact ih _ (takeS_rows h1 _ _) (takeS_rows h2 _ _)
theorem portsS_len (l : List GPort) : ∀ side : List (List Bool), (portsS side l).length = side.length := by
  induction l with
  | nil => intro s; rfl
  | cons p r ih => intro s; rw [show portsS s (p :: r) = portsS (takeS s p.actor p.port) r from rfl, ih, takeS_len]
theorem portsS_rows (l : List GPort) {m : Nat} : ∀ side : List (List Bool), RowsLe side m → RowsLe (portsS side l) m := by
  induction l with
  | nil => intro s h; exact h
  | cons p r ih => intro s h; exact ih _ (takeS_rows h _ _)
theorem rowsLe_snoc {side : List (List Bool)} {m n : Nat} (h : RowsLe side m) (hn : n ≤ m) : RowsLe (side ++ [List.replicate n false]) m := fun r => by
  by_cases hr : r < side.length
  · rw [List.getElem?_append_left hr]; exact h r
  · by_cases e : r = side.length
    · subst e; simp; exact hn
    · rw [List.getElem?_eq_none (by simp; omega)]; simp
theorem actorsE_rows (l : List GActor) : ∀ c : Chk, actorsE c l = 0 → RowsLe c.ins 16 → RowsLe c.outs 16 → RowsLe (actorsC c l).ins 16 ∧ RowsLe (actorsC c l).outs 16 := by
  induction l with
  | nil => intro c _ h1 h2; exact ⟨h1, h2⟩
  | cons a r ih =>
    intro c h h1 h2
    unfold actorsE at h
    by_cases h0 : actorE c.seen a = 0
    · rw [if_neg (by simpa using h0)] at h
      have hg : goodP a.tag a.params := by
        refine Decidable.byContradiction fun hn => ?_
        unfold actorE at h0
        split at h0
        · rename_i hx; exact hx h0
        · have h0 : errP a.tag = 0 := by first | exact h0 | (rw [if_neg hn] at h0; exact h0)
          unfold errP at h0
          split at h0 <;> cases h0
      have hl := shape_len hg
      exact ih _ h (rowsLe_snoc h1 hl.1) (rowsLe_snoc h2 hl.2)
    · rw [if_pos h0] at h
      exact absurd h h0
theorem rowsLe_nil (m : Nat) : RowsLe [] m := fun r => by simp
end Go.Proofs.Ytbmbfifempkhgaa

/- The firings' rows, plainly; two matrices of operations in memory. No function in sight. -/
namespace Go.Proofs.Ytbmbfifempkhgaa
open Go.RowKit

def rateL (l : List Int) : List GOp := l.map fun r => ⟨0, 0, r⟩
def zeroL (n : Nat) : List GOp := List.replicate n ⟨0, 0, 0⟩
/-- the first k rates are laid -/
def fillL (l : List Int) (k : Nat) : List GOp := rateL (l.take k) ++ zeroL (l.length - k)
theorem fillL_zero (l : List Int) : fillL l 0 = zeroL l.length := by simp [fillL, rateL]
theorem fillL_all (l : List Int) : fillL l l.length = rateL l := by simp [fillL, zeroL]
theorem fillL_len (l : List Int) (k : Nat) (h : k ≤ l.length) : (fillL l k).length = l.length := by simp [fillL, rateL, zeroL]; omega
theorem fillL_succ (l : List Int) (k : Nat) (h : k < l.length) : (opsV (fillL l k)).set (k * 3 + 2) (.int .i64 (l[k]?.getD 0)) = opsV (fillL l (k + 1)) := by
  have hl : k < (fillL l k).length := by rw [fillL_len l k (by omega)]; exact h
  have hk : (rateL (l.take k)).length = k := by simp [rateL]; omega
  obtain ⟨m, hm⟩ : ∃ m, l.length - k = m + 1 := ⟨l.length - k - 1, by omega⟩
  have hz : (fillL l k)[k] = ⟨0, 0, 0⟩ := by
    refine List.getElem_eq_iff hl |>.2 ?_
    unfold fillL
    rw [List.getElem?_append_right (by omega), hk, Nat.sub_self, hm, zeroL, List.replicate_succ]
    rfl
  rw [opsV_setB _ _ hl, hz]
  congr 1
  unfold fillL
  rw [List.set_append_right _ _ (by omega), hk, Nat.sub_self, hm, zeroL, List.replicate_succ, List.set_cons_zero, List.take_succ_eq_append_getElem h, show l.length - (k + 1) = m by omega, List.getElem?_eq_getElem h, Option.getD_some]
  simp only [rateL, List.map_append, List.map_cons, List.map_nil, List.append_assoc, List.cons_append, List.nil_append, zeroL]

def rowJ (f : Nat → List GOp) (n : Nat) : Nat → List (List GOp)
  | 0 => List.replicate n []
  | j + 1 => (rowJ f n j).set j (f j)
theorem rowJ_len (f : Nat → List GOp) (n : Nat) : ∀ j, (rowJ f n j).length = n
  | 0 => by simp [rowJ]
  | j + 1 => by rw [rowJ, List.length_set, rowJ_len f n j]
theorem rowJ_row (f : Nat → List GOp) (n i : Nat) (hi : i < n) : ∀ j, rowM (rowJ f n j) i = if i < j then f i else []
  | 0 => by simp [rowJ, rowM, hi]
  | j + 1 => by
    have ih := rowJ_row f n i hi j
    unfold rowM at ih ⊢
    rw [rowJ]
    by_cases e : j = i
    · subst e
      rw [List.getElem?_set_self (by rw [rowJ_len]; exact hi)]
      simp
    · rw [List.getElem?_set_ne e, ih]
      by_cases h1 : i < j
      · rw [if_pos h1, if_pos (by omega)]
      · rw [if_neg h1, if_neg (by omega)]

def insF (g : GGraph) (j : Nat) : List GOp := match g.actors[j]? with | some a => rateL (insP a.tag a.params) | none => []
def outsF (g : GGraph) (j : Nat) : List GOp := match g.actors[j]? with | some a => rateL (outsP a.tag a.params) | none => []
def putAll (f : Nat → Option (Int × Int)) (kd : Int) (m : List (List GOp)) : Nat → List (List GOp)
  | 0 => m
  | j + 1 => match f j with | some (a, p) => putM (putAll f kd m j) a.toNat p.toNat kd j | none => putAll f kd m j
theorem putAll_len (f : Nat → Option (Int × Int)) (kd : Int) (m : List (List GOp)) : ∀ j, (putAll f kd m j).length = m.length
  | 0 => rfl
  | j + 1 => by
    rw [putAll]
    split
    · rw [putM_len, putAll_len f kd m j]
    · exact putAll_len f kd m j
theorem putAll_row (f : Nat → Option (Int × Int)) (kd : Int) (m : List (List GOp)) (i : Nat) : ∀ j, (rowM (putAll f kd m j) i).length = (rowM m i).length
  | 0 => rfl
  | j + 1 => by
    rw [putAll]
    split
    · rw [putM_row, putAll_row f kd m i j]
    · exact putAll_row f kd m i j
theorem putAll_succ {f : Nat → Option (Int × Int)} {kd : Int} {m : List (List GOp)} {j : Nat} {a p : Int} (h : f j = some (a, p)) : putAll f kd m (j + 1) = putM (putAll f kd m j) a.toNat p.toNat kd j := by rw [putAll, h]

def eDst (g : GGraph) (j : Nat) : Option (Int × Int) := match g.edges[j]? with | some e => some (e.dst, e.dport) | none => none
def eSrc (g : GGraph) (j : Nat) : Option (Int × Int) := match g.edges[j]? with | some e => some (e.src, e.sport) | none => none
def pAt (l : List GPort) (j : Nat) : Option (Int × Int) := match l[j]? with | some p => some (p.actor, p.port) | none => none
def matI0 (g : GGraph) : List (List GOp) := rowJ (insF g) g.actors.length g.actors.length
def matO0 (g : GGraph) : List (List GOp) := rowJ (outsF g) g.actors.length g.actors.length
def matI1 (g : GGraph) : List (List GOp) := putAll (eDst g) 3 (matI0 g) g.edges.length
def matO1 (g : GGraph) : List (List GOp) := putAll (eSrc g) 6 (matO0 g) g.edges.length
def matI2 (g : GGraph) : List (List GOp) := putAll (pAt g.ins) 4 (matI1 g) g.ins.length
def matO2 (g : GGraph) : List (List GOp) := putAll (pAt g.outs) 7 (matO1 g) g.outs.length
def finR (I O : List (List GOp)) (j : Nat) : List GOp := rowM I j ++ [⟨5, j, 0⟩] ++ rowM O j
def finM (I O : List (List GOp)) : Nat → List (List GOp)
  | 0 => I
  | j + 1 => (finM I O j).set j (finR I O j)
theorem finM_len (I O : List (List GOp)) : ∀ j, (finM I O j).length = I.length
  | 0 => rfl
  | j + 1 => by rw [finM, List.length_set, finM_len I O j]
theorem finM_row (I O : List (List GOp)) (i : Nat) (hi : i < I.length) : ∀ j, rowM (finM I O j) i = if i < j then finR I O i else rowM I i
  | 0 => by simp [finM]
  | j + 1 => by
    have ih := finM_row I O i hi j
    unfold rowM at ih ⊢
    rw [finM]
    by_cases e : j = i
    · subst e
      rw [List.getElem?_set_self (by rw [finM_len]; exact hi)]
      simp
    · rw [List.getElem?_set_ne e, ih]
      by_cases h1 : i < j
      · rw [if_pos h1, if_pos (by omega)]
      · rw [if_neg h1, if_neg (by omega)]
/-- the operations of a firing, actor by actor -/
def firP (g : GGraph) : List (List GOp) := finM (matI2 g) (matO2 g) g.actors.length
theorem matI0_len (g : GGraph) : (matI0 g).length = g.actors.length := rowJ_len _ _ _
theorem matO0_len (g : GGraph) : (matO0 g).length = g.actors.length := rowJ_len _ _ _
theorem matI1_len (g : GGraph) : (matI1 g).length = g.actors.length := by rw [matI1, putAll_len, matI0_len]
theorem matO1_len (g : GGraph) : (matO1 g).length = g.actors.length := by rw [matO1, putAll_len, matO0_len]
theorem matI2_len (g : GGraph) : (matI2 g).length = g.actors.length := by rw [matI2, putAll_len, matI1_len]
theorem matO2_len (g : GGraph) : (matO2 g).length = g.actors.length := by rw [matO2, putAll_len, matO1_len]
theorem firP_len (g : GGraph) : (firP g).length = g.actors.length := by rw [firP, finM_len, matI2_len]
theorem matI0_row (g : GGraph) {i : Nat} (h : i < g.actors.length) : (rowM (matI0 g) i).length = (insF g i).length := by rw [matI0, rowJ_row _ _ _ h, if_pos h]
theorem matO0_row (g : GGraph) {i : Nat} (h : i < g.actors.length) : (rowM (matO0 g) i).length = (outsF g i).length := by rw [matO0, rowJ_row _ _ _ h, if_pos h]
theorem matI1_row (g : GGraph) {i : Nat} (h : i < g.actors.length) : (rowM (matI1 g) i).length = (insF g i).length := by rw [matI1, putAll_row, matI0_row g h]
theorem matO1_row (g : GGraph) {i : Nat} (h : i < g.actors.length) : (rowM (matO1 g) i).length = (outsF g i).length := by rw [matO1, putAll_row, matO0_row g h]
theorem matI2_row (g : GGraph) {i : Nat} (h : i < g.actors.length) : (rowM (matI2 g) i).length = (insF g i).length := by rw [matI2, putAll_row, matI1_row g h]
theorem matO2_row (g : GGraph) {i : Nat} (h : i < g.actors.length) : (rowM (matO2 g) i).length = (outsF g i).length := by rw [matO2, putAll_row, matO1_row g h]

/-- an end of an edge, or what a port is on: an actor's port -/
def InAt (g : GGraph) (a p : Int) : Prop := 0 ≤ a ∧ a < g.actors.length ∧ 0 ≤ p ∧ p < (insF g a.toNat).length
def OutAt (g : GGraph) (a p : Int) : Prop := 0 ≤ a ∧ a < g.actors.length ∧ 0 ≤ p ∧ p < (outsF g a.toNat).length
/-- what firings asks of a graph -/
structure FirOk (g : GGraph) : Prop where
  actors : g.actors.length ≤ 32
  edges : g.edges.length ≤ 96
  ins : g.ins.length ≤ 16
  outs : g.outs.length ≤ 16
  good : ∀ a ∈ g.actors, goodP a.tag a.params ∧ a.params.length ≤ 17600000000000
  src : ∀ e ∈ g.edges, OutAt g e.src e.sport
  dst : ∀ e ∈ g.edges, InAt g e.dst e.dport
  pin : ∀ p ∈ g.ins, InAt g p.actor p.port
  pout : ∀ p ∈ g.outs, OutAt g p.actor p.port
theorem insF_len {g : GGraph} (h : FirOk g) (j : Nat) : (insF g j).length ≤ 16 := by
  unfold insF
  split
  · rename_i a ha
    simp only [rateL, List.length_map]
    exact (shape_len (h.good a (List.mem_of_getElem? ha)).1).1
  · simp
theorem outsF_len {g : GGraph} (h : FirOk g) (j : Nat) : (outsF g j).length ≤ 16 := by
  unfold outsF
  split
  · rename_i a ha
    simp only [rateL, List.length_map]
    exact (shape_len (h.good a (List.mem_of_getElem? ha)).1).2
  · simp

section
variable {w w1 w' : World} {o o1 o' : Col} {C : Nat → Prop} {c d : Nat} {v : Value} {m : List (List GOp)} {vs : List Value}

theorem make_ops (w : World) (n : Nat) (h : n ≤ 1000) : (Instr.makeSlice 37 (.int .i64 (n : Int)) (.int .i64 (n : Int))).run Try.prog w = .ok (.slice (some ⟨w.heap.size, 0, none⟩) n n) (w.alloc (.cells (opsV (zeroL n)).toArray 61)) := by
  obtain ⟨i0, hi, hz0, hz1, hz2⟩ := info_parts info_Op
  have hr := run_make (P := Try.prog) (w := w) 37 61 i0 _ Try.underlying37 hi hz0 .i64 .i64 (n : Int) (n : Int) (by omega) (Int.le_refl _) (by rw [hz2]; omega) (by omega)
  rw [hz1] at hr
  simp only [Int.toNat_natCast] at hr
  rw [hr, zeroL, ← opsV_zero]
theorem make_opss (w : World) (n : Nat) (h : n ≤ 1000) : (Instr.makeSlice 99 (.int .i64 (n : Int)) (.int .i64 (n : Int))).run Try.prog w = .ok (.slice (some ⟨w.heap.size, 0, none⟩) n n) (w.alloc (.cells (Array.replicate n (.slice none 0 0)) 37)) := by
  obtain ⟨i0, hi, hz0, hz1, hz2⟩ := info_parts info_Ops
  have hr := run_make (P := Try.prog) (w := w) 99 37 i0 _ Try.underlying99 hi hz0 .i64 .i64 (n : Int) (n : Int) (by omega) (Int.le_refl _) (by rw [hz2]; omega) (by omega)
  rw [hz1] at hr
  simp only [Int.toNat_natCast, Nat.mul_one] at hr
  rw [hr, ← List.toArray_replicate, ← toList_madeCells_one (.slice none 0 0) n]
  rfl

/-- a matrix, just made -/
theorem opM_new (w : World) (o : Col) (c d n : Nat) (hn : n ≤ 1000) : OpM (w.alloc (.cells (Array.replicate n (.slice none 0 0)) 37)) (ext o w.heap.size c) c d (.slice (some ⟨w.heap.size, 0, none⟩) n n) (List.replicate n []) (List.replicate n (.slice none 0 0)) := by
  refine ⟨by simp, ⟨⟨by simp, .inr ⟨w.heap.size, n, _, by simp, Nat.zero_le _, heap_alloc_new w _, by simp, by unfold maxLen; omega, by simp, by simp⟩⟩, fun k hk => ?_⟩, fun k hk => ?_, fun i j B _ hj hB => ?_⟩
  · obtain rfl := Option.some.inj hk
    exact ext_new (Nat.le_refl _)
  · have hk' : k < n := by simpa using hk
    simp only [List.getElem?_replicate, hk', if_true, Option.getD_some]
    exact Own.nil _ _ _ _ _
  · have hj' : j < n := by simpa using hj
    simp only [List.getElem?_replicate, show i < n by omega, if_true, Option.getD_some, Value.ownBlock] at hB
    cases hB
/-- a row, just made -/
theorem row_new (w : World) (o : Col) (d n : Nat) (hn : n ≤ 1000) : Own (w.alloc (.cells (opsV (zeroL n)).toArray 61)) (ext o w.heap.size d) d 61 3 (.slice (some ⟨w.heap.size, 0, none⟩) n n) (zeroL n).length (opsV (zeroL n)) := by
  have hl : (opsV (zeroL n)).length = n * 3 := by rw [opsV_len]; simp [zeroL]
  refine ⟨⟨by rw [hl]; simp [zeroL], .inr ⟨w.heap.size, n, _, by simp [zeroL], Nat.zero_le _, heap_alloc_new w _, by simp [zeroL], by unfold maxLen; omega, by simp [hl], ?_⟩⟩, fun k hk => ?_⟩
  · rw [show (zeroL n).length = n by simp [zeroL], ← hl]; simp
  · obtain rfl := Option.some.inj hk
    exact ext_new (Nat.le_refl _)
theorem OpM.fresh (h : OpM w o c d v m vs) {k : Nat} (hk : k < m.length) {B : Nat} (hB : (vs[k]?.getD undef).ownBlock = some B) : B < w.heap.size := ((h.rows k hk).1.lt B hB).2
/-- a row of the owner's own is laid in -/
theorem OpM.lay2 {g n cap a : Nat} {l' : List GOp} {v' : Value} (h : OpM w o c d (.slice (some ⟨g, 0, none⟩) n cap) m vs) (hcd : c ≠ d) (ha : a < m.length) (hv : Own w o d 61 3 v' l'.length (opsV l')) (hb : ∀ k, k < m.length → ∀ B, (vs[k]?.getD undef).ownBlock = some B → v'.ownBlock ≠ some B) :
    OpM (w.setCell ⟨g, a, none⟩ v') o c d (.slice (some ⟨g, 0, none⟩) n cap) (m.set a l') (vs.set a v') ∧ Turn o o (fun x => x = c) w (w.setCell ⟨g, a, none⟩ v') := by
  have hgc : o g = c := h.own.2 g rfl
  have T : Turn o o (fun x => x = c) w (w.setCell ⟨g, a, none⟩ v') := ⟨(Mods.refl (fun k => o k = c) w).setCell (p := ⟨g, a, none⟩) (fun _ => hgc) v', fun _ _ => rfl⟩
  have hvg : v'.ownBlock ≠ some g := fun e => by have := hv.2 g e; omega
  have hl := h.len
  have hn : n = m.length := by
    rcases h.own.1.2 with ⟨e, _⟩ | ⟨_, _, _, e, _⟩
    · cases e
    · cases e; rfl
  subst hn
  refine ⟨⟨by simp [hl], ?_, fun k hk => ?_, fun i j B hij hj hB => ?_⟩, T⟩
  · rw [List.length_set]
    exact ⟨(h.own.1.stored a v').1, h.own.2⟩
  · rw [List.length_set] at hk
    by_cases e : a = k
    · subst e
      rw [List.getElem?_set_self ha, List.getElem?_set_self (by omega), Option.getD_some, Option.getD_some]
      exact ⟨ownsRow_setCell_other hv.1 hvg v', hv.2⟩
    · rw [List.getElem?_set_ne e, List.getElem?_set_ne e]
      exact (h.rows k hk).turn T (fun e => hcd e.symm)
  · rw [List.length_set] at hj
    by_cases hai : a = i
    · subst hai
      rw [List.getElem?_set_self (by omega), Option.getD_some] at hB
      rw [List.getElem?_set_ne (by omega)]
      exact fun e => hb j hj B e hB
    · rw [List.getElem?_set_ne hai] at hB
      by_cases haj : a = j
      · subst haj
        rw [List.getElem?_set_self (by omega), Option.getD_some]
        exact hb i (by omega) B hB
      · rw [List.getElem?_set_ne haj]
        exact h.apart i j B hij hj hB
end
end Go.Proofs.Ytbmbfifempkhgaa

/- nest's checker: one. -/
namespace Go.Proofs.Ytbmbfifempkhgaa
open Go.RowKit

/-- what the checker's methods answer -/
def NRet (w : World) (o : Col) (K : Nat) (r : Int × Nat) (e : Ending) (w' : World) : Prop := e = .returned (.int .i64 r.1) ∧ ∃ o', Turn o o' (fun x => x = 1) w w' ∧ Blk w' o' 1 K 145 #[.int .i64 r.2]

/-- the contract of 'row', for nests no deeper than D -/
def RowOk (D : Nat) : Prop := ∀ (w0 w : World) (o : Col) (K : Nat) (v : Value) (l : Nest) (dep n : Nat), HasNestD D w0 v l → NSized l → Kept w0.heap.size o w0 w → Blk w o 1 K 145 #[.int .i64 n] → n ≤ 2048 → dep ≤ 16 →
  Calls Try.prog 77 #[.pointer (some ⟨K, 0, none⟩), v, .int .i64 dep] w (NRet w o K (nestE l dep n))

theorem oneE_leaves (t nd : Int) (b : Nest) (d n : Nat) (h : (oneE t nd b d n).1 = 0) : n < 2048 := by
  refine Nat.lt_of_not_le fun hn => ?_
  unfold oneE at h
  rw [if_pos hn] at h
  cases h


set_option maxRecDepth 100000 in
set_option maxHeartbeats 1000000 in
theorem none_of {D : Nat} (hrow : RowOk D) (w0 w : World) (o : Col) (K : Nat) (v : Value) (t nd : Int) (b : Nest) (dep n : Nat) (hv : HasNestD D w0 v b) (hl : NSized b) (hk : Kept w0.heap.size o w0 w) (hb : Blk w o 1 K 145 #[.int .i64 n]) (hn : n ≤ 2048) (hd : dep ≤ 16) :
    Calls Try.prog 101 #[.pointer (some ⟨K, 0, none⟩), .agg #[.int .i64 t, .int .i64 nd, v], .int .i64 dep] w (NRet w o K (oneE t nd b dep n)) := by
  obtain ⟨ao, cap, rfl⟩ := nestD_slice D hv
  have hbX := below_alloc w (.cells #[.int .i64 t, .int .i64 nd, .slice ao b.items.length cap] 51)
  have hX := heap_alloc_new w (.cells #[.int .i64 t, .int .i64 nd, .slice ao b.items.length cap] 51)
  have hK1 := hb.turn (Turn.of_below o 7 hbX) (fun h => h)
  have hnil := isNil_len b
  have HT := Lib.hid ((Turn.of_below o 7 hbX).mono (D := fun x => x = 1) (fun _ h => h.elim))
  have HKe := Lib.hid (hk.of_below 7 hbX)
  have HK1 := Lib.hid hK1
  have HV := Lib.hid hv
  have HROW := Lib.hid hrow
  have HL := Lib.hid hl
  have x0 := cells_row _ _ hX 0 _ rfl
  have x1 := cells_row _ _ hX 1 _ rfl
  have x2 := cells_row _ _ hX 2 _ rfl
  have k0 := hK1.cell 0 _ rfl
  have kf := hK1.frozen 0
  obtain ⟨r, hr⟩ : ∃ r, oneE t nd b dep n = r := ⟨_, rfl⟩
  rw [hr]
  unfold oneE at hr
  have hrow1 := Lib.hid (fun o' (h1 : Kept w0.heap.size o' w0 (w.alloc (.cells #[.int .i64 t, .int .i64 nd, .slice ao b.items.length cap] 51))) h2 h3 => HROW.out w0 _ o' K (.slice ao b.items.length cap) b (dep + 1) n hv hl h1 h2 hn h3)
  clear hbX hX hb hK1 hk hv hrow hl HV HL
  generalize hm : b.items.length = m at *
  have hni : (n : Int) ≤ 2048 := by omega
  by_cases h1 : 2048 ≤ n
  · have h1i : (2048 : Int) ≤ n := by omega
    rw [if_pos h1] at hr
    subst hr
    go_enter Try.func101, Try.ntmps101
    go_wp2
    go_ret
    exact ⟨rfl, _, HT.out, HK1.out⟩
  have h1i : ¬ (2048 : Int) ≤ n := by omega
  rw [if_neg h1] at hr
  by_cases hz : m = 0
  · -- a leaf
    subst hz
    rw [hnil] at hr
    simp only [decide_true, Bool.not_true, Bool.false_and, Bool.true_and] at hr
    rw [if_neg (by simp)] at hr
    by_cases h3 : t < 1
    · rw [if_pos h3] at hr
      subst hr
      go_enter Try.func101, Try.ntmps101
      go_wp2
      go_ret
      exact ⟨rfl, _, HT.out, HK1.out⟩
    rw [if_neg h3, if_neg (by simp)] at hr
    by_cases h5 : nd < 0
    · have : (decide (nd < 0) || decide (32 ≤ nd)) = true := by simp [h5]
      rw [if_pos this] at hr
      subst hr
      go_enter Try.func101, Try.ntmps101
      go_wp2
      go_ret
      exact ⟨rfl, _, HT.out, HK1.out⟩
    by_cases h6 : 32 ≤ nd
    · have : (decide (nd < 0) || decide (32 ≤ nd)) = true := by simp [h6]
      rw [if_pos this] at hr
      subst hr
      go_enter Try.func101, Try.ntmps101
      go_wp2
      go_ret
      exact ⟨rfl, _, HT.out, HK1.out⟩
    have : (decide (nd < 0) || decide (32 ≤ nd)) = false := by simp; omega
    rw [this, if_neg (by simp), if_pos (by simp)] at hr
    subst hr
    have HSET := Lib.hid (HK1.out.set 0 (.int .i64 ((n : Int) + 1)))
    go_enter Try.func101, Try.ntmps101
    go_wp2
    go_ret
    exact ⟨rfl, _, HT.out.trans HSET.out.2 (fun x e => e), HSET.out.1⟩
  · -- a body
    have hzi : ((m : Int) == 0) = false := by rw [beq_eq_false_iff_ne]; omega
    rw [hnil, decide_eq_false hz] at hr
    simp only [Bool.not_false, Bool.true_and, Bool.false_and] at hr
    by_cases h2 : 16 ≤ dep
    · have h2i : (16 : Int) ≤ dep := by omega
      rw [if_pos (by simpa using h2)] at hr
      subst hr
      go_enter Try.func101, Try.ntmps101
      go_wp2
      go_ret
      exact ⟨rfl, _, HT.out, HK1.out⟩
    have h2i : ¬ (16 : Int) ≤ dep := by omega
    rw [if_neg (by simpa using h2)] at hr
    by_cases h3 : t < 1
    · rw [if_pos h3] at hr
      subst hr
      go_enter Try.func101, Try.ntmps101
      go_wp2
      go_ret
      exact ⟨rfl, _, HT.out, HK1.out⟩
    rw [if_neg h3] at hr
    by_cases h4 : nd = 0
    · rw [if_neg (by simpa using h4), if_neg (by simp), if_neg (by simp)] at hr
      subst hr
      subst h4
      go_enter Try.func101, Try.ntmps101
      go_wp2_with fail
      have hc : (((dep + 1 : Nat)) : Int) = (dep : Int) + 1 := by omega
      have hcall := hrow1.out _ HKe.out HK1.out (by omega)
      rw [hc] at hcall
      refine hcall.mono ?_
      rintro e w4 ⟨rfl, o4, T4, hK4⟩
      have HT4 := Lib.hid (HT.out.trans T4 (fun _ h => h))
      have HK4 := Lib.hid hK4
      clear T4 hK4 hcall
      go_wp2
      go_ret
      exact ⟨rfl, _, HT4.out, HK4.out⟩
    · have h4i : (nd == 0) = false := by simpa using h4
      rw [if_pos (by simpa using h4)] at hr
      subst hr
      go_enter Try.func101, Try.ntmps101
      go_wp2
      go_ret
      exact ⟨rfl, _, HT.out, HK1.out⟩
end Go.Proofs.Ytbmbfifempkhgaa

/- nest's checker: row. -/
namespace Go.Proofs.Ytbmbfifempkhgaa
open Go.RowKit

set_option maxRecDepth 100000 in
theorem nrow_zero : RowOk 0 := by
  intro w0 w o K v l dep n hv hs hk hb hn hd
  obtain ⟨rfl, ao, cap, rfl⟩ := hv
  have HT := Lib.hid (Turn.refl o (fun x => x = 1) w)
  have HB := Lib.hid hb
  clear hk hb hs
  go_enter Try.func77, Try.ntmps77
  go_wp2_with fail
  go_loopw [12] (fun i wr => i = .int .i64 0 ∧ wr = w) (fun _ _ => 0)
  case atStart => exact ⟨rfl, rfl⟩
  case round =>
    obtain ⟨rfl, rfl⟩ := hrel
    go_wp2
    go_ret
    exact ⟨rfl, _, HT.out, HB.out⟩

set_option maxRecDepth 100000 in
set_option maxHeartbeats 1000000 in
theorem nrow_succ {D : Nat} (hrow : RowOk D) : RowOk (D + 1) := by
  intro w0 w o K v l dep n hv hs hk hb hn hd
  have hv' : Recs w0 3 (fun w x cs => ∃ y, cs = [.int .i64 x.1, .int .i64 x.2.1, y] ∧ HasNestD D w y x.2.2) v l.items := hv
  obtain ⟨ao, cap, rfl⟩ := hv'.slice
  obtain ⟨r, hr⟩ : ∃ r, nestE l dep n = r := ⟨_, rfl⟩
  rw [hr]
  have HE := Lib.hid (show nestE (l.drop 0) dep n = r by rw [drop_zero]; exact hr)
  have HV := Lib.hid hv'
  have HS := Lib.hid hs
  have HL := Lib.hid (nsized_len hs)
  have HROW := Lib.hid hrow
  have HT0 := Lib.hid (Turn.refl o (fun x => x = 1) w)
  have HK0 := Lib.hid hk
  have HB0 := Lib.hid hb
  have hdi : (dep : Int) ≤ 16 := by omega
  clear hv hv' hs hk hb hrow hr
  go_enter Try.func77, Try.ntmps77
  go_wp2_with fail
  go_loopw [12] (fun i wr => ∃ (j : Nat) (q : Col) (m : Nat), j ≤ l.items.length ∧ i = .int .i64 j ∧ Kept w0.heap.size q w0 wr ∧ Turn o q (fun x => x = 1) w wr ∧ Blk wr q 1 K 145 #[.int .i64 m] ∧ m ≤ 2048 ∧ nestE (l.drop j) dep m = r) (fun i _ => l.items.length - (intOf i).toNat)
  case atStart => exact ⟨0, o, n, Nat.zero_le _, rfl, HK0.out, HT0.out, HB0.out, hn, HE.out⟩
  case round =>
    clear HK0 HT0 HB0 HE
    obtain ⟨j, q, m, hj, rfl, hK, hT, hB, hm, hE⟩ := hrel
    have HK := Lib.hid hK
    have HT := Lib.hid hT
    have HB := Lib.hid hB
    have HE := Lib.hid hE
    clear hK hT hB hE
    by_cases hlt : j < l.items.length
    · have hlti : (j : Int) < l.items.length := by omega
      obtain ⟨b0, off, rfl, hcap, hb0, hrec⟩ := HV.out.at (by omega)
      obtain ⟨cs, hcs, hPR, hcl⟩ := hrec j hlt
      obtain ⟨y, rfl, hy⟩ := hPR
      have c0 := cell_later HK.out.below (hcl 0 (by omega))
      have c1 := cell_later HK.out.below (hcl 1 (by omega))
      have c2 := cell_later HK.out.below (hcl 2 (by omega))
      simp at c0 c1 c2
      have hcapi : (l.items.length : Int) ≤ cap := by omega
      have hEc := HE.out
      rw [drop_items l j hlt, nestE_cons] at hEc
      have HEC := Lib.hid hEc
      have HY := Lib.hid hy
      have HSb := Lib.hid (nsized_at HS.out _ (List.getElem_mem hlt))
      obtain ⟨ya, yc, hys⟩ := nestD_slice D hy
      subst hys
      clear hcl hcs hrec hEc hy HE
      generalize (l.items[j]).1 = t at *
      generalize (l.items[j]).2.1 = nd at *
      generalize (l.items[j]).2.2 = b at *
      have hbX := below_alloc wr (.cells #[.int .i64 t, .int .i64 nd, .slice ya b.items.length yc] 51)
      have HK2 := Lib.hid (HK.out.of_below 8 hbX)
      have HT2 := Lib.hid (HT.out.trans ((Turn.of_below q 8 hbX).mono (D := fun x => x = 1) (fun _ h => h.elim)) (fun _ h => h))
      have HB2 := Lib.hid (HB.out.turn (Turn.of_below q 8 hbX) (fun h => h))
      clear hbX HK HT HB
      go_wp2_with fail
      refine (none_of HROW.out w0 _ _ K _ t nd b dep m HY.out HSb.out HK2.out HB2.out hm hd).mono ?_
      rintro e w4 ⟨rfl, o4, T4, hB4⟩
      have HK4 := Lib.hid (HK2.out.turn T4 (by decide))
      have HT4 := Lib.hid (HT2.out.trans T4 (fun _ h => h))
      have HB4 := Lib.hid hB4
      have HLE := Lib.hid (oneE_le t nd b dep m hm)
      clear T4 hB4 HK2 HT2 HB2 c0 c1 c2
      obtain ⟨x, hx⟩ : ∃ x, oneE t nd b dep m = x := ⟨_, rfl⟩
      rw [hx] at HEC HB4 HLE ⊢
      obtain ⟨x1, x2⟩ := x
      clear hx
      by_cases h0 : x1 = 0
      · subst h0
        rw [if_neg (by simp)] at HEC
        have hll := HL.out
        go_wp2
        go_roundw
        case rel => exact ⟨j + 1, o4, x2, hlt, by go_num, HK4.out, HT4.out, HB4.out, HLE.out, HEC.out⟩
        case measure => simp [intOf]; omega
      · rw [if_pos (by simpa using h0)] at HEC
        have e := HEC.out
        subst e
        go_wp2
        go_ret
        exact ⟨rfl, _, HT4.out, HB4.out⟩
    · obtain rfl : j = l.items.length := by omega
      have e := HE.out
      rw [drop_end] at e
      subst e
      go_wp2
      go_ret
      exact ⟨rfl, _, HT.out, HB.out⟩

theorem nrow_any : ∀ D, RowOk D
  | 0 => nrow_zero
  | D + 1 => nrow_succ (nrow_any D)
end Go.Proofs.Ytbmbfifempkhgaa

/- nest's total, and Check. -/
namespace Go.Proofs.Ytbmbfifempkhgaa
open Go.RowKit

/-- each loop goes round once at least -/
def TimesOk : Nest → Prop
  | .nil => True
  | .cons t _ b r => 1 ≤ t ∧ TimesOk b ∧ TimesOk r
theorem times_of : ∀ (l : Nest) (d n : Nat), (nestE l d n).1 = 0 → TimesOk l
  | .nil, _, _, _ => trivial
  | .cons t nd b r, d, n, h => by
    rw [nestE_cons] at h
    by_cases h0 : (oneE t nd b d n).1 = 0
    · rw [if_neg (by simpa using h0)] at h
      have ih := times_of r d _ h
      unfold oneE at h0
      split at h0
      · cases h0
      split at h0
      · cases h0
      split at h0
      · cases h0
      split at h0
      · cases h0
      split at h0
      · cases h0
      split at h0
      · rename_i hn
        have hb : TimesOk b := by cases b with | nil => trivial | cons _ _ _ _ => cases hn
        exact ⟨by omega, hb, ih⟩
      · exact ⟨by omega, times_of b (d + 1) n h0, ih⟩
    · rw [if_pos (by simpa using h0)] at h
      exact absurd h h0
theorem times_at : ∀ {l : Nest}, TimesOk l → ∀ x ∈ l.items, 1 ≤ x.1 ∧ TimesOk x.2.2
  | .nil, _, x, hx => by simp [Nest.items] at hx
  | .cons _ _ _ _, h, x, hx => by
    simp only [Nest.items, List.mem_cons] at hx
    rcases hx with rfl | hx
    · exact ⟨h.1, h.2.1⟩
    · exact times_at h.2.2 x hx
theorem prod_b {n t : Int} (h1 : 0 ≤ n) (h2 : n ≤ 2048) (h3 : 1 ≤ t) (h4 : t ≤ 2048) : 0 ≤ n * t ∧ n * t ≤ 4194304 := by
  have := Int.mul_nonneg h1 (show 0 ≤ t by omega)
  have h5 : n * t ≤ 2048 * 2048 := Int.mul_le_mul h2 h4 (by omega) (by omega)
  omega
theorem total_b : ∀ (l : Nest) (s : Int), TimesOk l → 0 ≤ s → s ≤ 2048 → 0 ≤ totalP l s ∧ totalP l s ≤ 2049
  | .nil, s, _, h1, h2 => by simp only [totalP]; omega
  | .cons t _ b r, s, h, h1, h2 => by
    have hn : 0 ≤ (if b.isNil then (1 : Int) else totalP b 0) ∧ (if b.isNil then (1 : Int) else totalP b 0) ≤ 2049 := by
      split
      · omega
      · exact total_b b 0 h.2.1 (by omega) (by omega)
    simp only [totalP]
    generalize (if b.isNil then (1 : Int) else totalP b 0) = n at *
    split
    · omega
    · rename_i h3
      have hp := prod_b hn.1 (by omega) h.1 (by omega : t ≤ 2048)
      split
      · omega
      · exact total_b r _ h.2.2 (by omega) (by omega)
theorem totalP_cons (t nd : Int) (b r : Nest) (s n : Int) (hn : (if b.isNil then (1 : Int) else totalP b 0) = n) : totalP (.cons t nd b r) s = if 2048 < t ∨ 2048 < n then 2049 else if 2048 < s + n * t then 2049 else totalP r (s + n * t) := by
  rw [totalP, hn]

def TotalOk (D : Nat) : Prop := ∀ (w : World) (v : Value) (l : Nest), HasNestD D w v l → NSized l → TimesOk l → Calls Try.prog 70 #[v] w (Tells (.int .i64 (totalP l 0)) w)

set_option maxRecDepth 100000 in
theorem ntotal_zero : TotalOk 0 := by
  intro w v l hv hs ht
  obtain ⟨rfl, ao, cap, rfl⟩ := hv
  clear hs ht
  go_enter Try.func70, Try.ntmps70
  go_wp2_with fail
  go_loopw [3, 9] (fun s i wr => i = .int .i64 0 ∧ s = .int .i64 0 ∧ wr = w) (fun _ _ _ => 0)
  case atStart => exact ⟨rfl, rfl, rfl⟩
  case round =>
    obtain ⟨rfl, rfl, rfl⟩ := hrel
    go_wp2
    go_ret
    exact ⟨rfl, Below.refl _ _⟩


set_option maxRecDepth 100000 in
set_option maxHeartbeats 1000000 in
theorem ntotal_succ {D : Nat} (htot : TotalOk D) : TotalOk (D + 1) := by
  intro w v l hv hs ht
  have hv' : Recs w 3 (fun w x cs => ∃ y, cs = [.int .i64 x.1, .int .i64 x.2.1, y] ∧ HasNestD D w y x.2.2) v l.items := hv
  obtain ⟨ao, cap, rfl⟩ := hv'.slice
  obtain ⟨r, hr⟩ : ∃ r, totalP l 0 = r := ⟨_, rfl⟩
  rw [hr]
  have HE := Lib.hid (show totalP (l.drop 0) 0 = r by rw [drop_zero]; exact hr)
  have HV := Lib.hid hv'
  have HS := Lib.hid hs
  have HTM := Lib.hid ht
  have HL := Lib.hid (nsized_len hs)
  have HTOT := Lib.hid htot
  clear hv hv' hs ht htot hr
  go_enter Try.func70, Try.ntmps70
  go_wp2_with fail
  go_loopw [3, 9] (fun sv i wr => ∃ (j : Nat) (s : Int), j ≤ l.items.length ∧ i = .int .i64 j ∧ sv = .int .i64 s ∧ 0 ≤ s ∧ s ≤ 2048 ∧ Below w.heap.size w wr ∧ totalP (l.drop j) s = r) (fun _ i _ => l.items.length - (intOf i).toNat)
  case atStart => exact ⟨0, 0, Nat.zero_le _, rfl, rfl, by omega, by omega, Below.refl _ _, HE.out⟩
  case round =>
    clear HE
    obtain ⟨j, s, hj, rfl, rfl, hs0, hs1, hb, hE⟩ := hrel
    have HB := Lib.hid hb
    have HE := Lib.hid hE
    clear hb hE
    by_cases hlt : j < l.items.length
    · have hlti : (j : Int) < l.items.length := by omega
      obtain ⟨b0, off, rfl, hcap, hb0, hrec⟩ := HV.out.at (by omega)
      obtain ⟨cs, hcs, hPR, hcl⟩ := hrec j hlt
      obtain ⟨y, rfl, hy⟩ := hPR
      have c0 := cell_later HB.out (hcl 0 (by omega))
      have c1 := cell_later HB.out (hcl 1 (by omega))
      have c2 := cell_later HB.out (hcl 2 (by omega))
      simp at c0 c1 c2
      have hcapi : (l.items.length : Int) ≤ cap := by omega
      have hEc := HE.out
      rw [drop_items l j hlt] at hEc
      have HEC := Lib.hid hEc
      have HY := Lib.hid hy
      have HSb := Lib.hid (nsized_at HS.out _ (List.getElem_mem hlt))
      have hta := times_at HTM.out _ (List.getElem_mem hlt)
      obtain ⟨ya, yc, hys⟩ := nestD_slice D hy
      subst hys
      clear hcl hcs hrec hEc hy HE
      generalize (l.items[j]).1 = t at *
      generalize (l.items[j]).2.1 = nd at *
      generalize (l.items[j]).2.2 = b at *
      obtain ⟨ht1, htb⟩ := hta
      have HTB := Lib.hid htb
      have hbX := below_alloc wr (.cells #[.int .i64 t, .int .i64 nd, .slice ya b.items.length yc] 51)
      have HBX := Lib.hid (HB.out.trans (hbX.mono HB.out.size))
      have hX := heap_alloc_new wr (.cells #[.int .i64 t, .int .i64 nd, .slice ya b.items.length yc] 51)
      have x0 := cells_row _ _ hX 0 _ rfl
      have x2 := cells_row _ _ hX 2 _ rfl
      have hnil := isNil_len b
      generalize hm : b.items.length = m at *
      by_cases hz : m = 0
      · subst hz
        have HN1 := Lib.hid (show (if b.isNil then (1 : Int) else totalP b 0) = 1 by rw [hnil]; rfl)
        clear hbX hX HTB htb
        by_cases h1 : 2048 < t
        · have e : r = 2049 := by rw [← HEC.out, totalP_cons t nd b _ s 1 HN1.out, if_pos (.inl h1)]
          subst e
          go_wp2
          go_ret
          exact ⟨rfl, HBX.out⟩
        have hr2 := HEC.out
        rw [totalP_cons t nd b _ s 1 HN1.out, if_neg (by omega), Int.one_mul] at hr2
        have HR2 := Lib.hid hr2
        clear hr2
        by_cases h3 : 2048 < s + t
        · have e : r = 2049 := by rw [← HR2.out, if_pos h3]
          subst e
          go_wp2
          go_ret
          exact ⟨rfl, HBX.out⟩
        · have HR3 := Lib.hid (show totalP (l.drop (j + 1)) (s + t) = r by rw [← HR2.out, if_neg h3])
          have hll := HL.out
          go_wp2
          go_roundw
          case rel => exact ⟨j + 1, s + t, hlt, by go_num, rfl, by omega, by omega, HBX.out, HR3.out⟩
          case measure => simp [intOf]; omega
      · have hzi : (0 : Int) < m := by omega
        have HN1 := Lib.hid (show (if b.isNil then (1 : Int) else totalP b 0) = totalP b 0 by rw [hnil, decide_eq_false hz]; rfl)
        obtain ⟨tn0, tn1⟩ := total_b b 0 HTB.out (by omega) (by omega)
        go_wp2_with fail
        refine (HTOT.out _ _ b (nestD_below D HY.out HBX.out) HSb.out HTB.out).mono ?_
        rintro e w4 ⟨rfl, hb4⟩
        have HB4 := Lib.hid (HBX.out.trans (hb4.mono HBX.out.size))
        have hX4 := block_mods hX (Mods.of_below hb4 (fun _ => False)) (fun h => h)
        have x0 := cells_row _ _ hX4 0 _ rfl
        clear hbX hX hX4 hb4 HTB htb x2
        obtain ⟨n, hne⟩ : ∃ n, totalP b 0 = n := ⟨_, rfl⟩
        have HN2 := Lib.hid (HN1.out.trans hne)
        rw [hne] at tn0 tn1 ⊢
        clear hne HN1
        by_cases h1 : 2048 < t
        · have e : r = 2049 := by rw [← HEC.out, totalP_cons t nd b _ s n HN2.out, if_pos (.inl h1)]
          subst e
          go_wp2
          go_ret
          exact ⟨rfl, HB4.out⟩
        by_cases h2 : 2048 < n
        · have e : r = 2049 := by rw [← HEC.out, totalP_cons t nd b _ s n HN2.out, if_pos (.inr h2)]
          subst e
          go_wp2
          go_ret
          exact ⟨rfl, HB4.out⟩
        have hp := prod_b (n := n) (t := t) (by omega) (by omega) ht1 (by omega)
        have hr2 := HEC.out
        rw [totalP_cons t nd b _ s n HN2.out, if_neg (by omega)] at hr2
        obtain ⟨p, hpe⟩ : ∃ p, n * t = p := ⟨_, rfl⟩
        rw [hpe] at hp hr2
        have hwm : wrap64 (n * t) = p := by rw [hpe]; exact IntWalk.wrap64_in _ (by omega)
        have HR2 := Lib.hid hr2
        clear hpe hr2
        by_cases h3 : 2048 < s + p
        · have e : r = 2049 := by rw [← HR2.out, if_pos h3]
          subst e
          go_wp2
          go_ret
          exact ⟨rfl, HB4.out⟩
        · have HR3 := Lib.hid (show totalP (l.drop (j + 1)) (s + p) = r by rw [← HR2.out, if_neg h3])
          have hll := HL.out
          go_wp2
          go_roundw
          case rel => exact ⟨j + 1, s + p, hlt, by go_num, rfl, by omega, by omega, HB4.out, HR3.out⟩
          case measure => simp [intOf]; omega
    · obtain rfl : j = l.items.length := by omega
      have e := HE.out
      rw [drop_end, totalP] at e
      subst e
      go_wp2
      go_ret
      exact ⟨rfl, HB.out⟩
theorem ntotal_any : ∀ D, TotalOk D
  | 0 => ntotal_zero
  | D + 1 => ntotal_succ (ntotal_any D)
end Go.Proofs.Ytbmbfifempkhgaa

/- emit's strange. -/
namespace Go.Proofs.Ytbmbfifempkhgaa
open Go.RowKit

def strangeP : Nest → Int → Bool
  | .nil, _ => false
  | .cons _ nd b r, a => (b.isNil && decide (a ≤ nd)) || strangeP b a || strangeP r a

def StrangeOk (D : Nat) : Prop := ∀ (w : World) (v : Value) (l : Nest) (a : Int), HasNestD D w v l → NSized l → Calls Try.prog 41 #[v, .int .i64 a] w (Tells (.bool (strangeP l a)) w)

set_option maxRecDepth 100000 in
theorem strange_zero : StrangeOk 0 := by
  intro w v l a hv hs
  obtain ⟨rfl, ao, cap, rfl⟩ := hv
  clear hs
  go_enter Try.func41, Try.ntmps41
  go_wp2_with fail
  go_loopw [9] (fun i wr => i = .int .i64 0 ∧ wr = w) (fun _ _ => 0)
  case atStart => exact ⟨rfl, rfl⟩
  case round =>
    obtain ⟨rfl, rfl⟩ := hrel
    go_wp2
    go_ret
    exact ⟨rfl, Below.refl _ _⟩


set_option maxRecDepth 100000 in
set_option maxHeartbeats 1000000 in
theorem strange_succ {D : Nat} (hstr : StrangeOk D) : StrangeOk (D + 1) := by
  intro w v l a hv hs
  have hv' : Recs w 3 (fun w x cs => ∃ y, cs = [.int .i64 x.1, .int .i64 x.2.1, y] ∧ HasNestD D w y x.2.2) v l.items := hv
  obtain ⟨ao, cap, rfl⟩ := hv'.slice
  obtain ⟨r, hr⟩ : ∃ r, strangeP l a = r := ⟨_, rfl⟩
  rw [hr]
  have HE := Lib.hid (show strangeP (l.drop 0) a = r by rw [drop_zero]; exact hr)
  have HV := Lib.hid hv'
  have HS := Lib.hid hs
  have HL := Lib.hid (nsized_len hs)
  have HSTR := Lib.hid hstr
  clear hv hv' hs hstr hr
  go_enter Try.func41, Try.ntmps41
  go_wp2_with fail
  go_loopw [9] (fun i wr => ∃ (j : Nat), j ≤ l.items.length ∧ i = .int .i64 j ∧ Below w.heap.size w wr ∧ strangeP (l.drop j) a = r) (fun i _ => l.items.length - (intOf i).toNat)
  case atStart => exact ⟨0, Nat.zero_le _, rfl, Below.refl _ _, HE.out⟩
  case round =>
    clear HE
    obtain ⟨j, hj, rfl, hb, hE⟩ := hrel
    have HB := Lib.hid hb
    have HE := Lib.hid hE
    clear hb hE
    by_cases hlt : j < l.items.length
    · have hlti : (j : Int) < l.items.length := by omega
      obtain ⟨b0, off, rfl, hcap, hb0, hrec⟩ := HV.out.at (by omega)
      obtain ⟨cs, hcs, hPR, hcl⟩ := hrec j hlt
      obtain ⟨y, rfl, hy⟩ := hPR
      have c0 := cell_later HB.out (hcl 0 (by omega))
      have c1 := cell_later HB.out (hcl 1 (by omega))
      have c2 := cell_later HB.out (hcl 2 (by omega))
      simp at c0 c1 c2
      have hcapi : (l.items.length : Int) ≤ cap := by omega
      have hEc := HE.out
      rw [drop_items l j hlt] at hEc
      have HEC := Lib.hid hEc
      have HY := Lib.hid hy
      have HSb := Lib.hid (nsized_at HS.out _ (List.getElem_mem hlt))
      obtain ⟨ya, yc, hys⟩ := nestD_slice D hy
      subst hys
      clear hcl hcs hrec hEc hy HE
      generalize (l.items[j]).1 = t at *
      generalize (l.items[j]).2.1 = nd at *
      generalize (l.items[j]).2.2 = b at *
      have hbX := below_alloc wr (.cells #[.int .i64 t, .int .i64 nd, .slice ya b.items.length yc] 51)
      have HBX := Lib.hid (HB.out.trans (hbX.mono HB.out.size))
      have hX := heap_alloc_new wr (.cells #[.int .i64 t, .int .i64 nd, .slice ya b.items.length yc] 51)
      have x1 := cells_row _ _ hX 1 _ rfl
      have x2 := cells_row _ _ hX 2 _ rfl
      have hnil := isNil_len b
      generalize hm : b.items.length = m at *
      clear hbX hX
      by_cases hz : m = 0
      · subst hz
        have HNL := Lib.hid (show b.isNil = true by rw [hnil]; rfl)
        clear hnil
        by_cases h1 : a ≤ nd
        · have e : r = true := by rw [← HEC.out, strangeP]; simp [HNL.out, h1]
          subst e
          go_wp2
          go_ret
          exact ⟨rfl, HBX.out⟩
        · have HN1 := Lib.hid (decide_eq_false h1)
          go_wp2_with fail
          refine (HSTR.out _ _ b a (nestD_below D HY.out HBX.out) HSb.out).mono ?_
          rintro e w4 ⟨rfl, hb4⟩
          have HB4 := Lib.hid (HBX.out.trans (hb4.mono HBX.out.size))
          clear hb4
          obtain ⟨sb, hsb⟩ : ∃ x, strangeP b a = x := ⟨_, rfl⟩
          rw [hsb]
          have HSB := Lib.hid hsb
          clear hsb
          cases sb with
          | true =>
            have e : r = true := by rw [← HEC.out, strangeP]; simp [HSB.out]
            subst e
            go_wp2
            go_ret
            exact ⟨rfl, HB4.out⟩
          | false =>
            have HR3 := Lib.hid (show strangeP (l.drop (j + 1)) a = r by rw [← HEC.out, strangeP, HSB.out]; simp only [HNL.out, HN1.out, Bool.and_false, Bool.false_or, Bool.or_false])
            have hll := HL.out
            go_wp2
            go_roundw
            case rel => exact ⟨j + 1, hlt, by go_num, HB4.out, HR3.out⟩
            case measure => simp [intOf]; omega
      · have hzi : ((m : Int) == 0) = false := by rw [beq_eq_false_iff_ne]; omega
        have HNL := Lib.hid (show b.isNil = false by rw [hnil, decide_eq_false hz])
        clear hnil
        go_wp2_with fail
        refine (HSTR.out _ _ b a (nestD_below D HY.out HBX.out) HSb.out).mono ?_
        rintro e w4 ⟨rfl, hb4⟩
        have HB4 := Lib.hid (HBX.out.trans (hb4.mono HBX.out.size))
        clear hb4
        obtain ⟨sb, hsb⟩ : ∃ x, strangeP b a = x := ⟨_, rfl⟩
        rw [hsb]
        have HSB := Lib.hid hsb
        clear hsb
        cases sb with
        | true =>
          have e : r = true := by rw [← HEC.out, strangeP]; simp [HSB.out]
          subst e
          go_wp2
          go_ret
          exact ⟨rfl, HB4.out⟩
        | false =>
          have HR3 := Lib.hid (show strangeP (l.drop (j + 1)) a = r by rw [← HEC.out, strangeP, HSB.out]; simp only [HNL.out, Bool.false_and, Bool.false_or, Bool.or_false])
          have hll := HL.out
          go_wp2
          go_roundw
          case rel => exact ⟨j + 1, hlt, by go_num, HB4.out, HR3.out⟩
          case measure => simp [intOf]; omega
    · obtain rfl : j = l.items.length := by omega
      have e := HE.out
      rw [drop_end, strangeP] at e
      subst e
      go_wp2
      go_ret
      exact ⟨rfl, HB.out⟩
theorem strange_any : ∀ D, StrangeOk D
  | 0 => strange_zero
  | D + 1 => strange_succ (strange_any D)
end Go.Proofs.Ytbmbfifempkhgaa

/- emit's fits. -/
namespace Go.Proofs.Ytbmbfifempkhgaa
open Go.RowKit

def regionP (total : Int) (r : GRegion) (n : Nat) : Bool := decide (0 ≤ r.base) && decide (r.base ≤ total) && decide ((n : Int) ≤ r.size) && decide (r.size ≤ total - r.base)
def regionsP (total : Int) : List GRegion → List GEdge → Bool
  | r :: rs, e :: es => regionP total r e.start.length && regionsP total rs es
  | _, _ => true
def fitsP (g : GGraph) (p : GPlan) : Bool := decide (p.regions.length = g.edges.length) && decide (0 ≤ p.total) && decide (p.total ≤ 1024) && regionsP p.total p.regions g.edges

theorem wrapP {x : Int} (h : 0 ≤ x) (h2 : x ≤ 1024) : IntKind.i64.wrap x = x := by
  exact IntWalk.i64_in _ (by omega)
theorem regionsP_nil {total : Int} {es : List GEdge} : regionsP total [] es = true := by cases es <;> rfl
theorem regionsP_cons {total : Int} {rs : List GRegion} {es : List GEdge} {j : Nat} (h : j < rs.length) (h2 : j < es.length) : regionsP total (rs.drop j) (es.drop j) = (regionP total rs[j] es[j].start.length && regionsP total (rs.drop (j + 1)) (es.drop (j + 1))) := by
  rw [List.drop_eq_getElem_cons h, List.drop_eq_getElem_cons h2, regionsP]


set_option maxRecDepth 100000 in
set_option maxHeartbeats 2000000 in
theorem fits_any (w : World) (vg vp : Value) (g : GGraph) (p : GPlan) (hg : HasGraph w vg g) (hp : HasPlan w vp p) (hle : g.edges.length ≤ 1000000) (hst : ∀ e ∈ g.edges, e.start.length ≤ 17600000000000) : Calls Try.prog 42 #[vg, vp] w (Tells (.bool (fitsP g p)) w) := by
  obtain ⟨va, ve, vi, vo, rfl, ra, re, ri, ro⟩ := hg.shape
  obtain ⟨vr, rfl, rr⟩ := hp
  obtain ⟨ae, ce, rfl⟩ := re.slice
  obtain ⟨ar, cr, rfl⟩ := rr.slice
  obtain ⟨F, hF⟩ : ∃ F, fitsP g p = F := ⟨_, rfl⟩
  rw [hF]
  have HF := Lib.hid hF
  have RE := Lib.hid re
  have RR := Lib.hid rr
  have HST := Lib.hid hst
  have HLE := Lib.hid hle
  have hb1 := below_alloc w (.cells #[.string g.name, va, .slice ae g.edges.length ce, vi, vo] 26)
  have hG := heap_alloc_new w (.cells #[.string g.name, va, .slice ae g.edges.length ce, vi, vo] 26)
  have hb2 := below_alloc (w.alloc (.cells #[.string g.name, va, .slice ae g.edges.length ce, vi, vo] 26)) (.cells #[.slice ar p.regions.length cr, .int .i64 p.total] 29)
  have hP := heap_alloc_new (w.alloc (.cells #[.string g.name, va, .slice ae g.edges.length ce, vi, vo] 26)) (.cells #[.slice ar p.regions.length cr, .int .i64 p.total] 29)
  rw [World.size_alloc] at hP
  have hG2 := block_alloc hG (.cells #[.slice ar p.regions.length cr, .int .i64 p.total] 29)
  have HB0 := Lib.hid (hb1.trans (hb2.mono hb1.size))
  have HSZ := Lib.hid (show w.heap.size + 2 ≤ ((w.alloc (.cells #[.string g.name, va, .slice ae g.edges.length ce, vi, vo] 26)).alloc (.cells #[.slice ar p.regions.length cr, .int .i64 p.total] 29)).heap.size by simp)
  generalize hW : (w.alloc (.cells #[.string g.name, va, .slice ae g.edges.length ce, vi, vo] 26)).alloc (.cells #[.slice ar p.regions.length cr, .int .i64 p.total] 29) = W at *
  have HG2 := Lib.hid hG2
  have HP := Lib.hid hP
  have e2 := cells_row _ _ hG2 2 _ rfl
  have t1 := cells_row _ _ hP 1 _ rfl
  have r0 := cells_row _ _ hP 0 _ rfl
  clear hF ra re ri ro rr hst hle hb1 hb2 hG hP hG2 hg
  by_cases hl : p.regions.length = g.edges.length
  · have hli : ((p.regions.length : Int) != g.edges.length) = false := by simp [hl]
    by_cases h1 : 0 ≤ p.total
    · have h1i : ¬ p.total < 0 := by omega
      by_cases h2 : p.total ≤ 1024
      · have h2i : ¬ (1024 : Int) < p.total := by omega
        have HE := Lib.hid (show regionsP p.total (p.regions.drop 0) (g.edges.drop 0) = F by rw [← HF.out, fitsP, decide_eq_true hl, decide_eq_true h1, decide_eq_true h2]; simp)
        rw [hl] at r0 ⊢
        rw [hl] at hli hW
        go_enter Try.func42, Try.ntmps42
        go_wp2_with fail
        clear hW r0
        go_loopw [27] (fun i wr => ∃ (j : Nat), j ≤ g.edges.length ∧ i = .int .i64 j ∧ Below W.heap.size W wr ∧ regionsP p.total (p.regions.drop j) (g.edges.drop j) = F) (fun i _ => g.edges.length - (intOf i).toNat)
        case atStart => exact ⟨0, Nat.zero_le _, rfl, Below.refl _ _, HE.out⟩
        case round =>
          clear HE
          obtain ⟨j, hj, rfl, hb, hE⟩ := hrel
          have HB := Lib.hid hb
          have HE := Lib.hid hE
          clear hb hE
          by_cases hlt : j < g.edges.length
          · have hlti : (j : Int) < g.edges.length := by omega
            have hlt2 : j < p.regions.length := by omega
            obtain ⟨br, orr, rfl, hcr, hbr, hrec⟩ := RR.out.at (by omega)
            obtain ⟨cs, hcs, hPR, hcl⟩ := hrec j hlt2
            obtain rfl := hPR
            have hbW := HB0.out.trans (HB.out.mono HB0.out.size)
            have c0 := cell_later hbW (hcl 0 (by omega))
            have c1 := cell_later hbW (hcl 1 (by omega))
            obtain ⟨be, oe, rfl, hce, hbe, hrece⟩ := RE.out.at (by omega)
            obtain ⟨cse, hcse, hPE, hcle⟩ := hrece j hlt
            obtain ⟨xs, rfl, hst⟩ := hPE
            have e4 := cell_later hbW (hcle 4 (by omega))
            simp at c0 c1 e4
            obtain ⟨sa, sc, hxs⟩ := Ints.slice hst
            subst hxs
            have hcri : (g.edges.length : Int) ≤ cr := by omega
            have hcei : (g.edges.length : Int) ≤ ce := by omega
            have hnn := HST.out _ (List.getElem_mem hlt)
            have hEc := HE.out
            rw [regionsP_cons hlt2 hlt, regionP] at hEc
            have HEC := Lib.hid hEc
            have t1' := cell_later HB.out t1
            have e2' := cell_later HB.out e2
            clear hcl hcs hrec hcle hcse hrece hst hEc HE
            generalize (g.edges[j]).start.length = n at *
            generalize (p.regions[j]).base = base at *
            generalize (p.regions[j]).size = size at *
            have hbX := below_alloc wr (.cells #[.int .i64 base, .int .i64 size] 70)
            have hX := heap_alloc_new wr (.cells #[.int .i64 base, .int .i64 size] 70)
            have x0 := cells_row _ _ hX 0 _ rfl
            have x1 := cells_row _ _ hX 1 _ rfl
            have t1 := cell_later hbX t1'
            have e2 := cell_later hbX e2'
            have e4 := cell_later hbX e4
            have HBX := Lib.hid (hbW.trans (hbX.mono hbW.size))
            have HBY := Lib.hid (HB.out.trans (hbX.mono HB.out.size))
            clear hbX hX hbW t1' e2' hli
            by_cases d1 : base < 0
            · skip
              have e : F = false := by rw [← HEC.out, decide_eq_false (by omega : ¬ 0 ≤ base)]; simp
              subst e
              go_wp2_with fail
              refine wp_region_lex (fun w' => w'.cell? ⟨wr.heap.size, 0, none⟩ = some (.int .i64 base) ∧ w'.cell? ⟨wr.heap.size, 1, none⟩ = some (.int .i64 size) ∧ w'.cell? ⟨w.heap.size + 1, 1, none⟩ = some (.int .i64 p.total) ∧ w'.cell? ⟨w.heap.size, 2, none⟩ = some (.slice (some ⟨be, oe, none⟩) g.edges.length ce) ∧ w'.cell? ⟨be, oe + j * 5 + 4, none⟩ = some (.slice sa n sc)) [0, 1, 2, 3, 4, 5, 6, 7, 8, 9, 10, 11, 12, 13, 14, 15, 16, 17, 18, 19, 20, 21, 22, 23, 24, 25, 26, 27, 28, 29, 30, 31] [] (by kernel_rfl) (by kernel_rfl) rfl (fun _ _ hx h => ⟨hx.cell h.1, hx.cell h.2.1, hx.cell h.2.2.1, hx.cell h.2.2.2.1, hx.cell h.2.2.2.2⟩) ⟨x0, x1, t1, e2, e4⟩ ?_
              intro Q' hQ'
              simp only [pickOps, List.flatMap_cons, List.flatMap_nil, List.drop_succ_cons, List.drop_zero, List.take_succ_cons, List.take_zero, List.cons_append, List.nil_append, List.append_nil]
              have b1 : decide (base < 0) = true := decide_eq_true d1
              have b2 : decide (p.total < base) = decide (p.total < base) := rfl
              have b3 : decide (size < (n : Int)) = decide (size < (n : Int)) := rfl
              have b4 : decide (IntKind.i64.wrap (p.total - base) < size) = decide (IntKind.i64.wrap (p.total - base) < size) := rfl
              repeat (first
                | (refine wpReads_skip (by rfl) ?_; (try simp only [Act.put, List.setIfInBounds_toArray, List.set_cons_zero, List.set_cons_succ]))
                | (refine wpReads_cons ?_ (by rfl) (by rfl) ?_ ?_; rotate_left; (intro wz hz; (try dsimp only at hz); go_simp; try with_reducible rfl); (try simp only [Act.put, List.setIfInBounds_toArray, List.set_cons_zero, List.set_cons_succ]))
                | (refine wpReads_any ?_ (by rfl) ?_ ?_; rotate_left; (intro wz; go_simp; try with_reducible rfl); (try simp only [Act.put, List.setIfInBounds_toArray, List.set_cons_zero, List.set_cons_succ])))
              refine wpReads_nil ?_
              go_wp2
              go_ret
              exact ⟨rfl, below_dr (n := 1) HBX.out⟩
            have d1i : ¬ base < 0 := d1
            by_cases d2 : p.total < base
            · skip
              have e : F = false := by rw [← HEC.out, decide_eq_false (by omega : ¬ base ≤ p.total)]; simp
              subst e
              go_wp2_with fail
              refine wp_region_lex (fun w' => w'.cell? ⟨wr.heap.size, 0, none⟩ = some (.int .i64 base) ∧ w'.cell? ⟨wr.heap.size, 1, none⟩ = some (.int .i64 size) ∧ w'.cell? ⟨w.heap.size + 1, 1, none⟩ = some (.int .i64 p.total) ∧ w'.cell? ⟨w.heap.size, 2, none⟩ = some (.slice (some ⟨be, oe, none⟩) g.edges.length ce) ∧ w'.cell? ⟨be, oe + j * 5 + 4, none⟩ = some (.slice sa n sc)) [0, 1, 2, 3, 4, 5, 6, 7, 8, 9, 10, 11, 12, 13, 14, 15, 16, 17, 18, 19, 20, 21, 22, 23, 24, 25, 26, 27, 28, 29, 30, 31] [] (by kernel_rfl) (by kernel_rfl) rfl (fun _ _ hx h => ⟨hx.cell h.1, hx.cell h.2.1, hx.cell h.2.2.1, hx.cell h.2.2.2.1, hx.cell h.2.2.2.2⟩) ⟨x0, x1, t1, e2, e4⟩ ?_
              intro Q' hQ'
              simp only [pickOps, List.flatMap_cons, List.flatMap_nil, List.drop_succ_cons, List.drop_zero, List.take_succ_cons, List.take_zero, List.cons_append, List.nil_append, List.append_nil]
              have b1 : decide (base < 0) = false := decide_eq_false (by omega)
              have b2 : decide (p.total < base) = true := decide_eq_true d2
              have b3 : decide (size < (n : Int)) = decide (size < (n : Int)) := rfl
              have b4 : decide (IntKind.i64.wrap (p.total - base) < size) = decide (IntKind.i64.wrap (p.total - base) < size) := rfl
              repeat (first
                | (refine wpReads_skip (by rfl) ?_; (try simp only [Act.put, List.setIfInBounds_toArray, List.set_cons_zero, List.set_cons_succ]))
                | (refine wpReads_cons ?_ (by rfl) (by rfl) ?_ ?_; rotate_left; (intro wz hz; (try dsimp only at hz); go_simp; try with_reducible rfl); (try simp only [Act.put, List.setIfInBounds_toArray, List.set_cons_zero, List.set_cons_succ]))
                | (refine wpReads_any ?_ (by rfl) ?_ ?_; rotate_left; (intro wz; go_simp; try with_reducible rfl); (try simp only [Act.put, List.setIfInBounds_toArray, List.set_cons_zero, List.set_cons_succ])))
              refine wpReads_nil ?_
              go_wp2
              go_ret
              exact ⟨rfl, below_dr (n := 1) HBX.out⟩
            have d2i : ¬ p.total < base := d2
            by_cases d3 : size < (n : Int)
            · skip
              have e : F = false := by rw [← HEC.out, decide_eq_false (by omega : ¬ (n : Int) ≤ size)]; simp
              subst e
              go_wp2_with fail
              refine wp_region_lex (fun w' => w'.cell? ⟨wr.heap.size, 0, none⟩ = some (.int .i64 base) ∧ w'.cell? ⟨wr.heap.size, 1, none⟩ = some (.int .i64 size) ∧ w'.cell? ⟨w.heap.size + 1, 1, none⟩ = some (.int .i64 p.total) ∧ w'.cell? ⟨w.heap.size, 2, none⟩ = some (.slice (some ⟨be, oe, none⟩) g.edges.length ce) ∧ w'.cell? ⟨be, oe + j * 5 + 4, none⟩ = some (.slice sa n sc)) [0, 1, 2, 3, 4, 5, 6, 7, 8, 9, 10, 11, 12, 13, 14, 15, 16, 17, 18, 19, 20, 21, 22, 23, 24, 25, 26, 27, 28, 29, 30, 31] [] (by kernel_rfl) (by kernel_rfl) rfl (fun _ _ hx h => ⟨hx.cell h.1, hx.cell h.2.1, hx.cell h.2.2.1, hx.cell h.2.2.2.1, hx.cell h.2.2.2.2⟩) ⟨x0, x1, t1, e2, e4⟩ ?_
              intro Q' hQ'
              simp only [pickOps, List.flatMap_cons, List.flatMap_nil, List.drop_succ_cons, List.drop_zero, List.take_succ_cons, List.take_zero, List.cons_append, List.nil_append, List.append_nil]
              have b1 : decide (base < 0) = false := decide_eq_false (by omega)
              have b2 : decide (p.total < base) = false := decide_eq_false (by omega)
              have b3 : decide (size < (n : Int)) = true := decide_eq_true d3
              have b4 : decide (IntKind.i64.wrap (p.total - base) < size) = decide (IntKind.i64.wrap (p.total - base) < size) := rfl
              repeat (first
                | (refine wpReads_skip (by rfl) ?_; (try simp only [Act.put, List.setIfInBounds_toArray, List.set_cons_zero, List.set_cons_succ]))
                | (refine wpReads_cons ?_ (by rfl) (by rfl) ?_ ?_; rotate_left; (intro wz hz; (try dsimp only at hz); go_simp; try with_reducible rfl); (try simp only [Act.put, List.setIfInBounds_toArray, List.set_cons_zero, List.set_cons_succ]))
                | (refine wpReads_any ?_ (by rfl) ?_ ?_; rotate_left; (intro wz; go_simp; try with_reducible rfl); (try simp only [Act.put, List.setIfInBounds_toArray, List.set_cons_zero, List.set_cons_succ])))
              refine wpReads_nil ?_
              go_wp2
              go_ret
              exact ⟨rfl, below_dr (n := 1) HBX.out⟩
            have d3i : ¬ size < (n : Int) := d3
            have hwr : IntKind.i64.wrap (p.total - base) = p.total - base := wrapP (by omega) (by omega)
            by_cases d4 : p.total - base < size
            · skip
              have e : F = false := by rw [← HEC.out, decide_eq_false (by omega : ¬ size ≤ p.total - base)]; simp
              subst e
              go_wp2_with fail
              refine wp_region_lex (fun w' => w'.cell? ⟨wr.heap.size, 0, none⟩ = some (.int .i64 base) ∧ w'.cell? ⟨wr.heap.size, 1, none⟩ = some (.int .i64 size) ∧ w'.cell? ⟨w.heap.size + 1, 1, none⟩ = some (.int .i64 p.total) ∧ w'.cell? ⟨w.heap.size, 2, none⟩ = some (.slice (some ⟨be, oe, none⟩) g.edges.length ce) ∧ w'.cell? ⟨be, oe + j * 5 + 4, none⟩ = some (.slice sa n sc)) [0, 1, 2, 3, 4, 5, 6, 7, 8, 9, 10, 11, 12, 13, 14, 15, 16, 17, 18, 19, 20, 21, 22, 23, 24, 25, 26, 27, 28, 29, 30, 31] [] (by kernel_rfl) (by kernel_rfl) rfl (fun _ _ hx h => ⟨hx.cell h.1, hx.cell h.2.1, hx.cell h.2.2.1, hx.cell h.2.2.2.1, hx.cell h.2.2.2.2⟩) ⟨x0, x1, t1, e2, e4⟩ ?_
              intro Q' hQ'
              simp only [pickOps, List.flatMap_cons, List.flatMap_nil, List.drop_succ_cons, List.drop_zero, List.take_succ_cons, List.take_zero, List.cons_append, List.nil_append, List.append_nil]
              have b1 : decide (base < 0) = false := decide_eq_false (by omega)
              have b2 : decide (p.total < base) = false := decide_eq_false (by omega)
              have b3 : decide (size < (n : Int)) = false := decide_eq_false (by omega)
              have b4 : decide (IntKind.i64.wrap (p.total - base) < size) = true := by rw [hwr]; exact decide_eq_true d4
              repeat (first
                | (refine wpReads_skip (by rfl) ?_; (try simp only [Act.put, List.setIfInBounds_toArray, List.set_cons_zero, List.set_cons_succ]))
                | (refine wpReads_cons ?_ (by rfl) (by rfl) ?_ ?_; rotate_left; (intro wz hz; (try dsimp only at hz); go_simp; try with_reducible rfl); (try simp only [Act.put, List.setIfInBounds_toArray, List.set_cons_zero, List.set_cons_succ]))
                | (refine wpReads_any ?_ (by rfl) ?_ ?_; rotate_left; (intro wz; go_simp; try with_reducible rfl); (try simp only [Act.put, List.setIfInBounds_toArray, List.set_cons_zero, List.set_cons_succ])))
              refine wpReads_nil ?_
              go_wp2
              go_ret
              exact ⟨rfl, below_dr (n := 1) HBX.out⟩
            have d4i : ¬ p.total - base < size := d4
            have HR1 := Lib.hid (show regionsP p.total (p.regions.drop (j + 1)) (g.edges.drop (j + 1)) = F by rw [← HEC.out, decide_eq_true (by omega : 0 ≤ base), decide_eq_true (by omega : base ≤ p.total), decide_eq_true (by omega : (n : Int) ≤ size), decide_eq_true (by omega : size ≤ p.total - base)]; simp)
            have hll := HLE.out
            go_wp2_with fail
            refine wp_region_lex (fun w' => w'.cell? ⟨wr.heap.size, 0, none⟩ = some (.int .i64 base) ∧ w'.cell? ⟨wr.heap.size, 1, none⟩ = some (.int .i64 size) ∧ w'.cell? ⟨w.heap.size + 1, 1, none⟩ = some (.int .i64 p.total) ∧ w'.cell? ⟨w.heap.size, 2, none⟩ = some (.slice (some ⟨be, oe, none⟩) g.edges.length ce) ∧ w'.cell? ⟨be, oe + j * 5 + 4, none⟩ = some (.slice sa n sc)) [0, 1, 2, 3, 4, 5, 6, 7, 8, 9, 10, 11, 12, 13, 14, 15, 16, 17, 18, 19, 20, 21, 22, 23, 24, 25, 26, 27, 28, 29, 30, 31] [] (by kernel_rfl) (by kernel_rfl) rfl (fun _ _ hx h => ⟨hx.cell h.1, hx.cell h.2.1, hx.cell h.2.2.1, hx.cell h.2.2.2.1, hx.cell h.2.2.2.2⟩) ⟨x0, x1, t1, e2, e4⟩ ?_
            intro Q' hQ'
            simp only [pickOps, List.flatMap_cons, List.flatMap_nil, List.drop_succ_cons, List.drop_zero, List.take_succ_cons, List.take_zero, List.cons_append, List.nil_append, List.append_nil]
            have b1 : decide (base < 0) = false := decide_eq_false (by omega)
            have b2 : decide (p.total < base) = false := decide_eq_false (by omega)
            have b3 : decide (size < (n : Int)) = false := decide_eq_false (by omega)
            have b4 : decide (IntKind.i64.wrap (p.total - base) < size) = false := by rw [hwr]; exact decide_eq_false (by omega)
            repeat (first
              | (refine wpReads_skip (by rfl) ?_; (try simp only [Act.put, List.setIfInBounds_toArray, List.set_cons_zero, List.set_cons_succ]))
              | (refine wpReads_cons ?_ (by rfl) (by rfl) ?_ ?_; rotate_left; (intro wz hz; (try dsimp only at hz); go_simp; try with_reducible rfl); (try simp only [Act.put, List.setIfInBounds_toArray, List.set_cons_zero, List.set_cons_succ]))
              | (refine wpReads_any ?_ (by rfl) ?_ ?_; rotate_left; (intro wz; go_simp; try with_reducible rfl); (try simp only [Act.put, List.setIfInBounds_toArray, List.set_cons_zero, List.set_cons_succ])))
            refine wpReads_nil ?_
            go_wp2
            go_roundw
            case rel => exact ⟨j + 1, hlt, by go_num, below_dr (n := 1) HBY.out, HR1.out⟩
            case measure => simp [intOf]; omega
          · obtain rfl : j = g.edges.length := by omega
            have e := HE.out
            rw [List.drop_of_length_le (by omega), regionsP_nil] at e
            subst e
            go_wp2
            go_ret
            exact ⟨rfl, HB0.out.trans (HB.out.mono HB0.out.size)⟩
      · obtain rfl : false = F := by rw [← HF.out, fitsP, decide_eq_false h2]; simp
        have h2i : (1024 : Int) < p.total := by omega
        rw [hl] at r0 ⊢
        rw [hl] at hli hW
        go_enter Try.func42, Try.ntmps42
        go_wp2
        go_ret
        exact ⟨rfl, HB0.out⟩
    · obtain rfl : false = F := by rw [← HF.out, fitsP, decide_eq_false h1]; simp
      have h1i : p.total < 0 := by omega
      rw [hl] at r0 ⊢
      rw [hl] at hli hW
      go_enter Try.func42, Try.ntmps42
      go_wp2
      go_ret
      exact ⟨rfl, HB0.out⟩
  · obtain rfl : false = F := by rw [← HF.out, fitsP, decide_eq_false hl]; simp
    have hli : ((p.regions.length : Int) != g.edges.length) = true := by simp; omega
    go_enter Try.func42, Try.ntmps42
    go_wp2
    go_ret
    exact ⟨rfl, HB0.out⟩
end Go.Proofs.Ytbmbfifempkhgaa

/- The checker's head. -/
namespace Go.Proofs.Ytbmbfifempkhgaa
open Go.RowKit


def headL (s : ByteArray) (n1 n2 n3 n4 : Nat) : Int := if !nameP s then 82 else if n1 = 0 then 80 else if 32 < n1 then 81 else if 96 < n2 then 81 else if 16 < n3 then 81 else if 16 < n4 then 81 else 0
theorem headE_eq (g : GGraph) : headE g = headL g.name g.actors.length g.edges.length g.ins.length g.outs.length := rfl


set_option maxRecDepth 100000 in
set_option maxHeartbeats 2000000 in
theorem ghead_any (w : World) (o : Col) (C B : Nat) (X : ChkV) (k : Chk) (a1 a2 a3 a4 : Option Addr) (n1 n2 n3 n4 c1 c2 c3 c4 : Nat) (h1 : X.va = .slice a1 n1 c1) (h2 : X.ve = .slice a2 n2 c2) (h3 : X.vi = .slice a3 n3 c3) (h4 : X.vo = .slice a4 n4 c4) (hs : X.name.size ≤ 4611686018427387904) (h : ChkAt w o C B X k) :
    Calls Try.prog 96 #[.pointer (some ⟨C, 0, none⟩)] w (ChkRet w o C B X (headL X.name n1 n2 n3 n4) k) := by
  obtain ⟨E, hE⟩ : ∃ E, headL X.name n1 n2 n3 n4 = E := ⟨_, rfl⟩
  rw [hE]
  have HE := Lib.hid hE
  have HS := Lib.hid hs
  have hbR := below_alloc w (.cells #[.int .u8 0, .int .i64 0, .int .i64 0] 140)
  have hC0 := h.below 7 hbR
  obtain ⟨q0, q1, q2, q3, q4, _⟩ := hC0.cells
  rw [h1] at q1
  rw [h2] at q2
  rw [h3] at q3
  rw [h4] at q4
  have HT0 := Lib.hid ((Turn.of_below o 7 hbR).mono (D := ChkC) (fun _ h => h.elim))
  have HC0 := Lib.hid hC0
  have HR0 := Lib.hid (spot_new w o 7)
  clear hE hs h hbR hC0 h1 h2 h3 h4
  go_enter Try.func96, Try.ntmps96
  go_wp2_with fail
  obtain ⟨R, hR⟩ : ∃ R, w.heap.size = R := ⟨_, rfl⟩
  have HRE := Lib.hid hR
  have hbG := below_alloc (w.alloc (.cells #[.int .u8 0, .int .i64 0, .int .i64 0] 140)) (.cells #[.string X.name, .slice a1 n1 c1, .slice a2 n2 c2, .slice a3 n3 c3, .slice a4 n4 c4] 26)
  have hG := heap_alloc_new (w.alloc (.cells #[.int .u8 0, .int .i64 0, .int .i64 0] 140)) (.cells #[.string X.name, .slice a1 n1 c1, .slice a2 n2 c2, .slice a3 n3 c3, .slice a4 n4 c4] 26)
  rw [World.size_alloc] at hG
  have HT1 := Lib.hid (HT0.out.trans ((Turn.of_below _ 8 hbG).mono (D := ChkC) (fun _ h => h.elim)) (fun _ h => h))
  have HR1 := Lib.hid (HR0.out.turn (Turn.of_below _ 8 hbG) (fun h => h))
  have HC1 := Lib.hid (HC0.out.below 8 hbG)
  have HG := Lib.hid hG
  rw [hR] at HR1 HT1 HC1 HG
  clear hbG hG q0 q1 q2 q3 q4 HT0 HC0 HR0
  refine (name_any _ X.name HS.out).mono ?_
  rintro e w2 ⟨rfl, hb2⟩
  have HT2 := Lib.hid (HT1.out.trans ((Turn.of_below _ 9 hb2).mono (D := ChkC) (fun _ h => h.elim)) (fun _ h => h))
  have HR2 := Lib.hid (HR1.out.turn (Turn.of_below _ 9 hb2) (fun h => h))
  have HC2 := Lib.hid (HC1.out.below 9 hb2)
  have hG2 := block_mods HG.out (Mods.of_below hb2 (fun _ => False)) (fun h => h)
  have q1 := cells_row w2 _ hG2 1 _ rfl
  have q2 := cells_row w2 _ hG2 2 _ rfl
  have q3 := cells_row w2 _ hG2 3 _ rfl
  have q4 := cells_row w2 _ hG2 4 _ rfl
  clear hb2 hG2 HT1 HR1 HC1 HG
  obtain ⟨np, hnp⟩ : ∃ x, nameP X.name = x := ⟨_, rfl⟩
  rw [hnp, hR]
  have HNP := Lib.hid hnp
  clear hnp hR
  cases np with
  | false =>
    have e : E = 82 := by rw [← HE.out, headL, HNP.out]; simp []
    subst e
    have z0 := HR2.out.cell 0 _ rfl
    have z1 := HR2.out.cell 1 _ rfl
    have z2 := HR2.out.cell 2 _ rfl
    have f0 := HR2.out.frozen 0
    have f1 := HR2.out.frozen 1
    have f2 := HR2.out.frozen 2
    go_wp2
    refine bodyPost_ret_by (results_tmp_row rfl _ _ _ _ _ _ _ rfl (spot_set HR2.out) Try.underlying140 rfl (by kernel_rfl)) rfl ?_
    exact ⟨⟨_, _, _, rfl⟩, _, HT2.out.late 7 (spot_mods (by have := HRE.out; omega) _ _ _), fun h => by cases h⟩
  | true =>
    by_cases d1 : n1 = 0
    · have d1i : ((n1 : Int) == 0) = true := by rw [beq_iff_eq]; omega
      have e : E = 80 := by rw [← HE.out, headL, HNP.out]; simp [d1]
      subst e
      have z0 := HR2.out.cell 0 _ rfl
      have z1 := HR2.out.cell 1 _ rfl
      have z2 := HR2.out.cell 2 _ rfl
      have f0 := HR2.out.frozen 0
      have f1 := HR2.out.frozen 1
      have f2 := HR2.out.frozen 2
      go_wp2
      refine bodyPost_ret_by (results_tmp_row rfl _ _ _ _ _ _ _ rfl (spot_set HR2.out) Try.underlying140 rfl (by kernel_rfl)) rfl ?_
      exact ⟨⟨_, _, _, rfl⟩, _, HT2.out.late 7 (spot_mods (by have := HRE.out; omega) _ _ _), fun h => by cases h⟩
    have d1i : ((n1 : Int) == 0) = false := by rw [beq_eq_false_iff_ne]; omega
    by_cases d2 : 32 < n1
    · have d2i : (32 : Int) < n1 := by omega
      have e : E = 81 := by rw [← HE.out, headL, HNP.out]; simp [d1, d2]
      subst e
      have z0 := HR2.out.cell 0 _ rfl
      have z1 := HR2.out.cell 1 _ rfl
      have z2 := HR2.out.cell 2 _ rfl
      have f0 := HR2.out.frozen 0
      have f1 := HR2.out.frozen 1
      have f2 := HR2.out.frozen 2
      go_wp2
      refine bodyPost_ret_by (results_tmp_row rfl _ _ _ _ _ _ _ rfl (spot_set HR2.out) Try.underlying140 rfl (by kernel_rfl)) rfl ?_
      exact ⟨⟨_, _, _, rfl⟩, _, HT2.out.late 7 (spot_mods (by have := HRE.out; omega) _ _ _), fun h => by cases h⟩
    have d2i : ¬ (32 : Int) < n1 := by omega
    by_cases d3 : 96 < n2
    · have d3i : (96 : Int) < n2 := by omega
      have e : E = 81 := by rw [← HE.out, headL, HNP.out]; simp [d1, d2, d3]
      subst e
      have z0 := HR2.out.cell 0 _ rfl
      have z1 := HR2.out.cell 1 _ rfl
      have z2 := HR2.out.cell 2 _ rfl
      have f0 := HR2.out.frozen 0
      have f1 := HR2.out.frozen 1
      have f2 := HR2.out.frozen 2
      go_wp2
      refine bodyPost_ret_by (results_tmp_row rfl _ _ _ _ _ _ _ rfl (spot_set HR2.out) Try.underlying140 rfl (by kernel_rfl)) rfl ?_
      exact ⟨⟨_, _, _, rfl⟩, _, HT2.out.late 7 (spot_mods (by have := HRE.out; omega) _ _ _), fun h => by cases h⟩
    have d3i : ¬ (96 : Int) < n2 := by omega
    by_cases d4 : 16 < n3
    · have d4i : (16 : Int) < n3 := by omega
      have e : E = 81 := by rw [← HE.out, headL, HNP.out]; simp [d1, d2, d3, d4]
      subst e
      have z0 := HR2.out.cell 0 _ rfl
      have z1 := HR2.out.cell 1 _ rfl
      have z2 := HR2.out.cell 2 _ rfl
      have f0 := HR2.out.frozen 0
      have f1 := HR2.out.frozen 1
      have f2 := HR2.out.frozen 2
      go_wp2
      refine bodyPost_ret_by (results_tmp_row rfl _ _ _ _ _ _ _ rfl (spot_set HR2.out) Try.underlying140 rfl (by kernel_rfl)) rfl ?_
      exact ⟨⟨_, _, _, rfl⟩, _, HT2.out.late 7 (spot_mods (by have := HRE.out; omega) _ _ _), fun h => by cases h⟩
    have d4i : ¬ (16 : Int) < n3 := by omega
    by_cases d5 : 16 < n4
    · have d5i : (16 : Int) < n4 := by omega
      have e : E = 81 := by rw [← HE.out, headL, HNP.out]; simp [d1, d2, d3, d4, d5]
      subst e
      have z0 := HR2.out.cell 0 _ rfl
      have z1 := HR2.out.cell 1 _ rfl
      have z2 := HR2.out.cell 2 _ rfl
      have f0 := HR2.out.frozen 0
      have f1 := HR2.out.frozen 1
      have f2 := HR2.out.frozen 2
      go_wp2
      refine bodyPost_ret_by (results_tmp_row rfl _ _ _ _ _ _ _ rfl (spot_set HR2.out) Try.underlying140 rfl (by kernel_rfl)) rfl ?_
      exact ⟨⟨_, _, _, rfl⟩, _, HT2.out.late 7 (spot_mods (by have := HRE.out; omega) _ _ _), fun h => by cases h⟩
    have d5i : ¬ (16 : Int) < n4 := by omega
    have e : E = 0 := by rw [← HE.out, headL, HNP.out]; simp [d1, d2, d3, d4, d5]
    subst e
    have z0 := HR2.out.cell 0 _ rfl
    have z1 := HR2.out.cell 1 _ rfl
    have z2 := HR2.out.cell 2 _ rfl
    have f0 := HR2.out.frozen 0
    have f1 := HR2.out.frozen 1
    have f2 := HR2.out.frozen 2
    go_wp2
    refine bodyPost_ret_by (results_tmp_row rfl _ _ _ _ _ _ _ rfl (spot_set HR2.out) Try.underlying140 rfl (by kernel_rfl)) rfl ?_
    exact ⟨⟨_, _, _, rfl⟩, _, HT2.out.late 7 (spot_mods (by have := HRE.out; omega) _ _ _), fun _ => HC2.out.spot HR2.out _ _ _⟩
end Go.Proofs.Ytbmbfifempkhgaa

/- The checker's edges. -/
namespace Go.Proofs.Ytbmbfifempkhgaa
open Go.RowKit


theorem edgesE_cons {c : Chk} {l : List GEdge} {j : Nat} (h : j < l.length) : edgesE c (l.drop j) = if edgeE c l[j] ≠ 0 then edgeE c l[j] else edgesE (edgeC c l[j]) (l.drop (j + 1)) := by
  rw [List.drop_eq_getElem_cons h, edgesE]
theorem edgesC_snoc {c : Chk} {l : List GEdge} {j : Nat} (h : j < l.length) : edgesC c (l.take (j + 1)) = edgeC (edgesC c (l.take j)) l[j] := by
  rw [List.take_succ_eq_append_getElem h, edgesC, List.foldl_append]; rfl
theorem edge_split {c : Chk} {e : GEdge} {r : Int} : (if edgeE c e ≠ 0 then edgeE c e else r) = if takeE c.outs e.src e.sport ≠ 0 then takeE c.outs e.src e.sport else if takeE c.ins e.dst e.dport ≠ 0 then takeE c.ins e.dst e.dport else if 256 < e.start.length then 88 else r := by
  unfold edgeE
  by_cases h : takeE c.outs e.src e.sport = 0
  · by_cases h2 : takeE c.ins e.dst e.dport = 0
    · by_cases h3 : 256 < e.start.length
      · simp [h, h2, h3]
      · simp [h, h2, h3]
    · simp [h, h2]
  · simp [h]

set_option maxRecDepth 100000 in
set_option maxHeartbeats 2000000 in
theorem gedges_any (w0 w : World) (o : Col) (C B : Nat) (X : ChkV) (k : Chk) (l : List GEdge) (hv : Recs w0 5 EdgeR X.ve l) (K : Kept w0.heap.size o w0 w) (hn : l.length ≤ 1000000) (h : ChkAt w o C B X k) :
    Calls Try.prog 98 #[.pointer (some ⟨C, 0, none⟩)] w (ChkRet w o C B X (edgesE k l) (edgesC k l)) := by
  obtain ⟨ao, cap, hve⟩ := hv.slice
  rw [hve] at hv
  obtain ⟨E, hE⟩ : ∃ E, edgesE k l = E := ⟨_, rfl⟩
  rw [hE]
  have HE := Lib.hid (show edgesE (edgesC k (l.take 0)) (l.drop 0) = E by simpa [edgesC] using hE)
  have HV := Lib.hid hv
  have HVE := Lib.hid hve
  have HN := Lib.hid hn
  have hbR := below_alloc w (.cells #[.int .u8 0, .int .i64 0, .int .i64 0] 140)
  have HT0 := Lib.hid ((Turn.of_below o 7 hbR).mono (D := ChkC) (fun _ h => h.elim))
  have HK0 := Lib.hid (K.of_below 7 hbR)
  have hC0 := h.below 7 hbR
  have q2 := hC0.cells.2.2.1
  rw [hve] at q2
  have HC0 : Hid (ChkAt _ _ C B X (edgesC k (l.take 0))) := Lib.hid (by simpa [edgesC] using hC0)
  have HR0 := Lib.hid (spot_new w o 7)
  clear hE hv hve hn K h hbR hC0
  go_enter Try.func98, Try.ntmps98
  go_wp2_with fail
  clear q2
  obtain ⟨R, hR⟩ : ∃ R, w.heap.size = R := ⟨_, rfl⟩
  have HRE := Lib.hid hR
  rw [hR] at HR0 HT0 HK0 HC0 ⊢
  clear hR
  go_loopw [14] (fun i wr => ∃ (j : Nat) (q : Col), j ≤ l.length ∧ i = .int .i64 j ∧ Kept w0.heap.size q w0 wr ∧ Turn o q ChkC w wr ∧ Blk wr q 7 R 140 #[.int .u8 0, .int .i64 0, .int .i64 0] ∧ ChkAt wr q C B X (edgesC k (l.take j)) ∧ edgesE (edgesC k (l.take j)) (l.drop j) = E) (fun i _ => l.length - (intOf i).toNat)
  case atStart => exact ⟨0, _, Nat.zero_le _, rfl, HK0.out, HT0.out, HR0.out, HC0.out, HE.out⟩
  case round =>
    clear HK0 HT0 HR0 HC0 HE
    obtain ⟨j, q, hj, rfl, hK, hT, hR, hC, hE⟩ := hrel
    have HK := Lib.hid hK
    have HT := Lib.hid hT
    have HR := Lib.hid hR
    have HC := Lib.hid hC
    have HE := Lib.hid hE
    clear hK hT hR hC hE
    by_cases hlt : j < l.length
    · have hlti : (j : Int) < l.length := by omega
      obtain ⟨b0, off, rfl, hcap, hb0, hrec⟩ := (HV.out.below edge_steady HK.out.below).at (by omega)
      obtain ⟨cs, hcs, hPR, hcl⟩ := hrec j hlt
      obtain ⟨xs, rfl, hst⟩ := hPR
      have c0 := hcl 0 (by omega)
      have c1 := hcl 1 (by omega)
      have c2 := hcl 2 (by omega)
      have c3 := hcl 3 (by omega)
      have c4 := hcl 4 (by omega)
      simp at c0 c1 c2 c3 c4
      have hcapi : (l.length : Int) ≤ cap := by omega
      have hEc := HE.out
      rw [edgesE_cons hlt] at hEc
      have HEC := Lib.hid hEc
      have HCn := Lib.hid (edgesC_snoc (c := k) hlt)
      have hst2 : Has wr xs (ivs l[j].start) := hst
      obtain ⟨sa, sc, hxs⟩ := Ints.slice hst2
      subst hxs
      clear hcl hcs hrec hst hst2 hEc HE
      generalize l[j] = p at *
      rw [edge_split] at HEC
      obtain ⟨kk, hkk⟩ : ∃ x, edgesC k (l.take j) = x := ⟨_, rfl⟩
      rw [hkk] at HEC HC HCn
      clear hkk
      have hbX := below_alloc wr (.cells #[.int .i64 p.src, .int .i64 p.sport, .int .i64 p.dst, .int .i64 p.dport, .slice sa p.start.length sc] 63)
      have hX : Blk (wr.alloc (.cells #[.int .i64 p.src, .int .i64 p.sport, .int .i64 p.dst, .int .i64 p.dport, .slice sa p.start.length sc] 63)) (ext q wr.heap.size 8) 8 wr.heap.size 63 #[.int .i64 p.src, .int .i64 p.sport, .int .i64 p.dst, .int .i64 p.dport, .slice sa p.start.length sc] := ⟨heap_alloc_new wr _, ext_new (Nat.le_refl _)⟩
      have hTX := (Turn.of_below q 8 hbX).mono (D := ChkC) (fun _ h => h.elim)
      have HK2 := Lib.hid (HK.out.of_below 8 hbX)
      have HT2 := Lib.hid (HT.out.trans hTX (fun _ h => h))
      have HR2 := Lib.hid (HR.out.turn (Turn.of_below q 8 hbX) (fun h => h))
      have HC2 := Lib.hid (HC.out.below 8 hbX)
      have HX := Lib.hid hX
      have y0 := hX.cell 0 _ rfl
      have y1 := hX.cell 1 _ rfl
      have y7 := HC2.out.cells.2.2.2.2.2.2.2
      obtain ⟨gO, hSO⟩ := HC2.out.outs
      have HSO := Lib.hid hSO
      clear hbX hX hTX HK HT HR HC hSO
      go_wp2_with fail
      refine wp_region_lex (fun w' => w'.cell? ⟨C, 7, none⟩ = some X.vO ∧ w'.cell? ⟨wr.heap.size, 0, none⟩ = some (.int .i64 p.src) ∧ w'.cell? ⟨wr.heap.size, 1, none⟩ = some (.int .i64 p.sport)) [0, 1, 2, 3, 4, 5, 6, 7] [8, 9] (by kernel_rfl) (by kernel_rfl) rfl (fun _ _ hx h => ⟨hx.cell h.1, hx.cell h.2.1, hx.cell h.2.2⟩) ⟨y7, y0, y1⟩ ?_
      intro Q' hQ'
      simp only [pickOps, List.flatMap_cons, List.flatMap_nil, List.drop_succ_cons, List.drop_zero, List.take_succ_cons, List.take_zero, List.cons_append, List.nil_append, List.append_nil]
      repeat (first
        | (refine wpReads_skip (by rfl) ?_; (try simp only [Act.put, List.setIfInBounds_toArray, List.set_cons_zero, List.set_cons_succ]))
        | (refine wpReads_cons ?_ (by rfl) (by rfl) ?_ ?_; rotate_left; (intro wz hz; (try dsimp only at hz); go_simp; try with_reducible rfl); (try simp only [Act.put, List.setIfInBounds_toArray, List.set_cons_zero, List.set_cons_succ]))
        | (refine wpReads_any ?_ (by rfl) ?_ ?_; rotate_left; (intro wz; go_simp; try with_reducible rfl); (try simp only [Act.put, List.setIfInBounds_toArray, List.set_cons_zero, List.set_cons_succ])))
      refine wpReads_nil ?_
      go_wp2_with fail
      refine (gtake_any _ (ext q wr.heap.size 8) 5 6 X.vO kk.outs gO p.src p.sport (by decide) (HSO.out.turn (Turn.of_quiet _ ⟨1, rfl⟩) (fun h => h) (fun h => h))).mono ?_
      rintro e w5 ⟨rfl, T5, hS5⟩
      have T6 := ((Turn.of_quiet (ext q wr.heap.size 8) ⟨1, rfl⟩).mono (D := fun x => x = 6) (fun _ h => h.elim)).trans T5 (fun _ h => h)
      have HK5 := Lib.hid (HK2.out.turn T6 (by decide))
      have HT5 := Lib.hid (HT2.out.trans T6 (fun x e => by subst e; unfold ChkC; omega))
      have HR5 := Lib.hid (HR2.out.turn T6 (by decide))
      have HX5 := Lib.hid (HX.out.turn T6 (by decide))
      have HC5 := Lib.hid (fun (e : takeE kk.outs p.src p.sport = 0) => HC2.out.tookO T6 (hS5 e))
      clear T5 T6 hS5 HK2 HT2 HR2 HX HC2 HSO y0 y1 y7
      generalize ext q wr.heap.size 8 = q5 at *
      obtain ⟨te, hte⟩ : ∃ x, takeE kk.outs p.src p.sport = x := ⟨_, rfl⟩
      rw [hte] at HEC HC5 ⊢
      clear hte
      by_cases h0 : te = 0
      · subst h0
        have hC6 := HC5.out rfl
        have HC6 := Lib.hid hC6
        obtain ⟨gI, hSI⟩ := hC6.ins
        have HSI := Lib.hid hSI
        have y2 := HX5.out.cell 2 _ rfl
        have y3 := HX5.out.cell 3 _ rfl
        have y6 := hC6.cells.2.2.2.2.2.2.1
        rw [if_neg (by simp)] at HEC
        clear hC6 hSI HC5
        go_wp2_with fail
        refine wp_region_lex (fun w' => w'.cell? ⟨C, 6, none⟩ = some X.vI ∧ w'.cell? ⟨wr.heap.size, 2, none⟩ = some (.int .i64 p.dst) ∧ w'.cell? ⟨wr.heap.size, 3, none⟩ = some (.int .i64 p.dport)) [0, 1, 2, 3, 4, 5, 6, 7] [8, 9] (by kernel_rfl) (by kernel_rfl) rfl (fun _ _ hx h => ⟨hx.cell h.1, hx.cell h.2.1, hx.cell h.2.2⟩) ⟨y6, y2, y3⟩ ?_
        intro Q' hQ'
        simp only [pickOps, List.flatMap_cons, List.flatMap_nil, List.drop_succ_cons, List.drop_zero, List.take_succ_cons, List.take_zero, List.cons_append, List.nil_append, List.append_nil]
        repeat (first
          | (refine wpReads_skip (by rfl) ?_; (try simp only [Act.put, List.setIfInBounds_toArray, List.set_cons_zero, List.set_cons_succ]))
          | (refine wpReads_cons ?_ (by rfl) (by rfl) ?_ ?_; rotate_left; (intro wz hz; (try dsimp only at hz); go_simp; try with_reducible rfl); (try simp only [Act.put, List.setIfInBounds_toArray, List.set_cons_zero, List.set_cons_succ]))
          | (refine wpReads_any ?_ (by rfl) ?_ ?_; rotate_left; (intro wz; go_simp; try with_reducible rfl); (try simp only [Act.put, List.setIfInBounds_toArray, List.set_cons_zero, List.set_cons_succ])))
        refine wpReads_nil ?_
        go_wp2_with fail
        refine (gtake_any _ q5 3 4 X.vI kk.ins gI p.dst p.dport (by decide) (HSI.out.turn (Turn.of_quiet _ ⟨1, rfl⟩) (fun h => h) (fun h => h))).mono ?_
        rintro e w7 ⟨rfl, T7, hS7⟩
        have T8 := ((Turn.of_quiet q5 ⟨1, rfl⟩).mono (D := fun x => x = 4) (fun _ h => h.elim)).trans T7 (fun _ h => h)
        have HK7 := Lib.hid (HK5.out.turn T8 (by decide))
        have HT7 := Lib.hid (HT5.out.trans T8 (fun x e => by subst e; unfold ChkC; omega))
        have HR7 := Lib.hid (HR5.out.turn T8 (by decide))
        have HX7 := Lib.hid (HX5.out.turn T8 (by decide))
        have HC7 := Lib.hid (fun (e : takeE kk.ins p.dst p.dport = 0) => HC6.out.tookI T8 (hS7 e))
        clear T7 T8 hS7 HK5 HT5 HR5 HX5 HC6 HSI y2 y3 y6
        obtain ⟨te, hte⟩ : ∃ x, takeE kk.ins p.dst p.dport = x := ⟨_, rfl⟩
        rw [hte] at HEC HC7 ⊢
        clear hte
        by_cases h0 : te = 0
        · subst h0
          have HC8 : Hid (ChkAt w7 q5 C B X (edgeC kk p)) := Lib.hid (HC7.out rfl)
          rw [if_neg (by simp)] at HEC
          have y4 := HX7.out.cell 4 _ rfl
          by_cases h256 : 256 < p.start.length
          · have h2i : (256 : Int) < p.start.length := by omega
            have e : E = 88 := by rw [← HEC.out, if_pos h256]
            subst e
            have z0 := HR7.out.cell 0 _ rfl
            have z1 := HR7.out.cell 1 _ rfl
            have z2 := HR7.out.cell 2 _ rfl
            have f0 := HR7.out.frozen 0
            have f1 := HR7.out.frozen 1
            have f2 := HR7.out.frozen 2
            go_wp2
            refine bodyPost_ret_by (results_tmp_row rfl _ _ _ _ _ _ _ rfl (spot_set HR7.out) Try.underlying140 rfl (by kernel_rfl)) rfl ?_
            exact ⟨⟨_, _, _, rfl⟩, _, HT7.out.late 7 (spot_mods (by have := HRE.out; omega) _ _ _), fun h => by cases h⟩
          · have h2i : ¬ (256 : Int) < p.start.length := by omega
            rw [if_neg h256] at HEC
            have HE2 : Hid (edgesE (edgesC k (l.take (j + 1))) (l.drop (j + 1)) = E) := Lib.hid (by rw [HCn.out]; exact HEC.out)
            have HC9 : Hid (ChkAt w7 q5 C B X (edgesC k (l.take (j + 1)))) := Lib.hid (by rw [HCn.out]; exact HC8.out)
            have hnn := HN.out
            clear HC7 HC8 HEC
            go_wp2
            go_roundw
            case rel => exact ⟨j + 1, q5, hlt, by go_num, HK7.out, HT7.out, HR7.out, HC9.out, HE2.out⟩
            case measure => simp [intOf]; omega
        · have e : E = te := by rw [← HEC.out, if_pos h0]
          subst e
          have z0 := HR7.out.cell 0 _ rfl
          have z1 := HR7.out.cell 1 _ rfl
          have z2 := HR7.out.cell 2 _ rfl
          have f0 := HR7.out.frozen 0
          have f1 := HR7.out.frozen 1
          have f2 := HR7.out.frozen 2
          go_wp2
          refine bodyPost_ret_by (results_tmp_row rfl _ _ _ _ _ _ _ rfl (spot_set HR7.out) Try.underlying140 rfl (by kernel_rfl)) rfl ?_
          exact ⟨⟨_, _, _, rfl⟩, _, HT7.out.late 7 (spot_mods (by have := HRE.out; omega) _ _ _), fun h => absurd h h0⟩
      · have e : E = te := by rw [← HEC.out, if_pos h0]
        subst e
        have z0 := HR5.out.cell 0 _ rfl
        have z1 := HR5.out.cell 1 _ rfl
        have z2 := HR5.out.cell 2 _ rfl
        have f0 := HR5.out.frozen 0
        have f1 := HR5.out.frozen 1
        have f2 := HR5.out.frozen 2
        go_wp2
        refine bodyPost_ret_by (results_tmp_row rfl _ _ _ _ _ _ _ rfl (spot_set HR5.out) Try.underlying140 rfl (by kernel_rfl)) rfl ?_
        exact ⟨⟨_, _, _, rfl⟩, _, HT5.out.late 7 (spot_mods (by have := HRE.out; omega) _ _ _), fun h => absurd h h0⟩
    · obtain rfl : j = l.length := by omega
      have hfin := HE.out
      rw [List.drop_length, List.take_length] at hfin
      obtain rfl : E = 0 := hfin.symm
      have hC9 := HC.out
      rw [List.take_length] at hC9
      have HC9 := Lib.hid hC9
      clear hfin hC9
      have z0 := HR.out.cell 0 _ rfl
      have z1 := HR.out.cell 1 _ rfl
      have z2 := HR.out.cell 2 _ rfl
      have f0 := HR.out.frozen 0
      have f1 := HR.out.frozen 1
      have f2 := HR.out.frozen 2
      go_wp2
      refine bodyPost_ret_by (results_tmp_row rfl _ _ _ _ _ _ _ rfl (spot_set HR.out) Try.underlying140 rfl (by kernel_rfl)) rfl ?_
      exact ⟨⟨_, _, _, rfl⟩, _, HT.out.late 7 (spot_mods (by have := HRE.out; omega) _ _ _), fun _ => HC9.out.spot HR.out _ _ _⟩
end Go.Proofs.Ytbmbfifempkhgaa
