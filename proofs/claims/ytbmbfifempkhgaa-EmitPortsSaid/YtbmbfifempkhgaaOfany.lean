/- shape.Of, any tag, any parameters. -/
import Derived.Test.YtbmbfifempkhgaaShapeOf
namespace Go.Proofs.Ytbmbfifempkhgaa
open Go.RowKit

theorem iv_cast {w : World} {o : Col} {c : Nat} {v : Value} {l l2 : List Int} (h : Ints w o c v l) (e : l = l2) : Ints w o c v l2 := e ▸ h

theorem of_1_any (w : World) {o : Col} {c : Nat} (ao : Option Addr) (n cap : Nat) (l : List Int) (hl : l.length ≤ 17600000000000) (h : Ints w o c (.slice ao n cap) l) : (goodP 1 l → Calls Try.prog 22 #[.int .u8 1, .slice ao n cap] w (OfOk w 1 l)) ∧ (¬ goodP 1 l → Calls Try.prog 22 #[.int .u8 1, .slice ao n cap] w (OfNo w 61)) := by
  obtain rfl := h.len
  match l, h, hl with
  | [], h, _ =>
    exact ⟨fun hg => absurd hg (by simp [goodP, oneP, pairP, hd, hd1] <;> omega), fun _ => of_1_l0 w ao cap⟩
  | [x], h, _ =>
    exact ⟨fun _ => of_1_l1 w ao cap x h, fun hg => absurd (by simp [goodP, oneP, pairP, hd, hd1] <;> omega) hg⟩
  | [x, y], h, _ =>
    exact ⟨fun _ => of_1_l2 w ao cap x y h, fun hg => absurd (by simp [goodP, oneP, pairP, hd, hd1] <;> omega) hg⟩
  | x :: y :: z :: r, h, hl =>
    simp only [List.length_cons] at hl h ⊢
    by_cases hr : r.length ≤ 13
    · exact ⟨fun _ => of_1_l3y w ao cap _ r.length rfl hr h, fun hg => absurd (by simp [goodP, oneP, pairP, hd, hd1] <;> omega) hg⟩
    · exact ⟨fun hg => absurd hg (by simp [goodP, oneP, pairP, hd, hd1] <;> omega), fun _ => of_1_l3n w ao cap _ r.length rfl (by omega) (by omega) h⟩

theorem of_2_any (w : World) {o : Col} {c : Nat} (ao : Option Addr) (n cap : Nat) (l : List Int) (hl : l.length ≤ 17600000000000) (h : Ints w o c (.slice ao n cap) l) : (goodP 2 l → Calls Try.prog 22 #[.int .u8 2, .slice ao n cap] w (OfOk w 2 l)) ∧ (¬ goodP 2 l → Calls Try.prog 22 #[.int .u8 2, .slice ao n cap] w (OfNo w 61)) := by
  obtain rfl := h.len
  match l, h, hl with
  | [], h, _ =>
    exact ⟨fun hg => absurd hg (by simp [goodP, oneP, pairP, hd, hd1] <;> omega), fun _ => of_2_l0 w ao cap⟩
  | [x], h, _ =>
    by_cases hx : 1 ≤ x ∧ x ≤ 64
    · exact ⟨fun _ => of_2_l1y w ao cap x hx.1 hx.2 h, fun hg => absurd (by simp [goodP, oneP, pairP, hd, hd1] <;> omega) hg⟩
    · exact ⟨fun hg => absurd hg (by simp [goodP, oneP, pairP, hd, hd1] <;> omega), fun _ => of_2_l1n w ao cap x (by omega) h⟩
  | [x, y], h, _ =>
    exact ⟨fun hg => absurd hg (by simp [goodP, oneP, pairP, hd, hd1] <;> omega), fun _ => of_2_l2 w ao cap x y h⟩
  | x :: y :: z :: r, h, hl =>
    simp only [List.length_cons] at hl h ⊢
    exact ⟨fun hg => absurd hg (by simp [goodP, oneP, pairP, hd, hd1] <;> omega), fun _ => of_2_l3 w ao cap _ r.length rfl (by omega) h⟩

theorem of_3_any (w : World) {o : Col} {c : Nat} (ao : Option Addr) (n cap : Nat) (l : List Int) (hl : l.length ≤ 17600000000000) (h : Ints w o c (.slice ao n cap) l) : (goodP 3 l → Calls Try.prog 22 #[.int .u8 3, .slice ao n cap] w (OfOk w 3 l)) ∧ (¬ goodP 3 l → Calls Try.prog 22 #[.int .u8 3, .slice ao n cap] w (OfNo w 61)) := by
  obtain rfl := h.len
  match l, h, hl with
  | [], h, _ =>
    exact ⟨fun hg => absurd hg (by simp [goodP, oneP, pairP, hd, hd1] <;> omega), fun _ => of_3_l0 w ao cap⟩
  | [x], h, _ =>
    by_cases hx : 1 ≤ x ∧ x ≤ 64
    · exact ⟨fun _ => of_3_l1y w ao cap x hx.1 hx.2 h, fun hg => absurd (by simp [goodP, oneP, pairP, hd, hd1] <;> omega) hg⟩
    · exact ⟨fun hg => absurd hg (by simp [goodP, oneP, pairP, hd, hd1] <;> omega), fun _ => of_3_l1n w ao cap x (by omega) h⟩
  | [x, y], h, _ =>
    exact ⟨fun hg => absurd hg (by simp [goodP, oneP, pairP, hd, hd1] <;> omega), fun _ => of_3_l2 w ao cap x y h⟩
  | x :: y :: z :: r, h, hl =>
    simp only [List.length_cons] at hl h ⊢
    exact ⟨fun hg => absurd hg (by simp [goodP, oneP, pairP, hd, hd1] <;> omega), fun _ => of_3_l3 w ao cap _ r.length rfl (by omega) h⟩

theorem of_4_any (w : World) {o : Col} {c : Nat} (ao : Option Addr) (n cap : Nat) (l : List Int) (hl : l.length ≤ 17600000000000) (h : Ints w o c (.slice ao n cap) l) : (goodP 4 l → Calls Try.prog 22 #[.int .u8 4, .slice ao n cap] w (OfOk w 4 l)) ∧ (¬ goodP 4 l → Calls Try.prog 22 #[.int .u8 4, .slice ao n cap] w (OfNo w 61)) := by
  obtain rfl := h.len
  match l, h, hl with
  | [], h, _ =>
    exact ⟨fun hg => absurd hg (by simp [goodP, oneP, pairP, hd, hd1] <;> omega), fun _ => of_4_l0 w ao cap⟩
  | [x], h, _ =>
    exact ⟨fun hg => absurd hg (by simp [goodP, oneP, pairP, hd, hd1] <;> omega), fun _ => of_4_l1 w ao cap x h⟩
  | [x, y], h, _ =>
    rcases pair_cases x y with hc | hc | hc | hc
    · exact ⟨fun hg => absurd hg (by simp [goodP, oneP, pairP, hd, hd1] <;> omega), fun _ => of_4_l2n w ao cap x y (.inl hc) h⟩
    · exact ⟨fun hg => absurd hg (by simp [goodP, oneP, pairP, hd, hd1] <;> omega), fun _ => of_4_l2n w ao cap x y (.inr (.inl hc)) h⟩
    · obtain ⟨u, rfl⟩ : ∃ u : Nat, x = u := ⟨x.toNat, by omega⟩
      obtain ⟨m, rfl⟩ : ∃ m : Nat, y = m := ⟨y.toNat, by omega⟩
      have hum : u * m ≤ 64 := by have := hc.2.2.2; exact_mod_cast this
      exact ⟨fun _ => of_4_l2y w ao cap u m (by omega) (by omega) (by omega) (by omega) hum h, fun hg => absurd (by simp [goodP, oneP, pairP, hd, hd1] <;> omega) hg⟩
    · exact ⟨fun hg => absurd hg (by simp [goodP, oneP, pairP, hd, hd1] <;> omega), fun _ => of_4_l2n w ao cap x y (.inr (.inr hc)) h⟩
  | x :: y :: z :: r, h, hl =>
    simp only [List.length_cons] at hl h ⊢
    exact ⟨fun hg => absurd hg (by simp [goodP, oneP, pairP, hd, hd1] <;> omega), fun _ => of_4_l3 w ao cap _ r.length rfl (by omega) h⟩

theorem of_5_any (w : World) {o : Col} {c : Nat} (ao : Option Addr) (n cap : Nat) (l : List Int) (hl : l.length ≤ 17600000000000) (h : Ints w o c (.slice ao n cap) l) : (goodP 5 l → Calls Try.prog 22 #[.int .u8 5, .slice ao n cap] w (OfOk w 5 l)) ∧ (¬ goodP 5 l → Calls Try.prog 22 #[.int .u8 5, .slice ao n cap] w (OfNo w 61)) := by
  obtain rfl := h.len
  match l, h, hl with
  | [], h, _ =>
    exact ⟨fun hg => absurd hg (by simp [goodP, oneP, pairP, hd, hd1] <;> omega), fun _ => of_5_l0 w ao cap⟩
  | [x], h, _ =>
    exact ⟨fun hg => absurd hg (by simp [goodP, oneP, pairP, hd, hd1] <;> omega), fun _ => of_5_l1 w ao cap x h⟩
  | [x, y], h, _ =>
    rcases pair_cases x y with hc | hc | hc | hc
    · exact ⟨fun hg => absurd hg (by simp [goodP, oneP, pairP, hd, hd1] <;> omega), fun _ => of_5_l2n w ao cap x y (.inl hc) h⟩
    · exact ⟨fun hg => absurd hg (by simp [goodP, oneP, pairP, hd, hd1] <;> omega), fun _ => of_5_l2n w ao cap x y (.inr (.inl hc)) h⟩
    · obtain ⟨u, rfl⟩ : ∃ u : Nat, x = u := ⟨x.toNat, by omega⟩
      obtain ⟨m, rfl⟩ : ∃ m : Nat, y = m := ⟨y.toNat, by omega⟩
      have hum : u * m ≤ 64 := by have := hc.2.2.2; exact_mod_cast this
      exact ⟨fun _ => of_5_l2y w ao cap u m (by omega) (by omega) (by omega) (by omega) hum h, fun hg => absurd (by simp [goodP, oneP, pairP, hd, hd1] <;> omega) hg⟩
    · exact ⟨fun hg => absurd hg (by simp [goodP, oneP, pairP, hd, hd1] <;> omega), fun _ => of_5_l2n w ao cap x y (.inr (.inr hc)) h⟩
  | x :: y :: z :: r, h, hl =>
    simp only [List.length_cons] at hl h ⊢
    exact ⟨fun hg => absurd hg (by simp [goodP, oneP, pairP, hd, hd1] <;> omega), fun _ => of_5_l3 w ao cap _ r.length rfl (by omega) h⟩

theorem of_6_any (w : World) {o : Col} {c : Nat} (ao : Option Addr) (n cap : Nat) (l : List Int) (hl : l.length ≤ 17600000000000) (h : Ints w o c (.slice ao n cap) l) : (goodP 6 l → Calls Try.prog 22 #[.int .u8 6, .slice ao n cap] w (OfOk w 6 l)) ∧ (¬ goodP 6 l → Calls Try.prog 22 #[.int .u8 6, .slice ao n cap] w (OfNo w 61)) := by
  obtain rfl := h.len
  match l, h, hl with
  | [], h, _ =>
    exact ⟨fun hg => absurd hg (by simp [goodP, oneP, pairP, hd, hd1] <;> omega), fun _ => of_6_l0 w ao cap⟩
  | [x], h, _ =>
    by_cases hx : 1 ≤ x ∧ x ≤ 16
    · obtain ⟨u, rfl⟩ : ∃ u : Nat, x = u := ⟨x.toNat, by omega⟩
      exact ⟨fun _ => of_6_l1y w ao cap u (by omega) (by omega) h, fun hg => absurd (by simp [goodP, oneP, pairP, hd, hd1] <;> omega) hg⟩
    · exact ⟨fun hg => absurd hg (by simp [goodP, oneP, pairP, hd, hd1] <;> omega), fun _ => of_6_l1n w ao cap x (by omega) h⟩
  | [x, y], h, _ =>
    exact ⟨fun hg => absurd hg (by simp [goodP, oneP, pairP, hd, hd1] <;> omega), fun _ => of_6_l2 w ao cap x y h⟩
  | x :: y :: z :: r, h, hl =>
    simp only [List.length_cons] at hl h ⊢
    exact ⟨fun hg => absurd hg (by simp [goodP, oneP, pairP, hd, hd1] <;> omega), fun _ => of_6_l3 w ao cap _ r.length rfl (by omega) h⟩

theorem of_7_any (w : World) {o : Col} {c : Nat} (ao : Option Addr) (n cap : Nat) (l : List Int) (hl : l.length ≤ 17600000000000) (h : Ints w o c (.slice ao n cap) l) : (goodP 7 l → Calls Try.prog 22 #[.int .u8 7, .slice ao n cap] w (OfOk w 7 l)) ∧ (¬ goodP 7 l → Calls Try.prog 22 #[.int .u8 7, .slice ao n cap] w (OfNo w 61)) := by
  obtain rfl := h.len
  match l, h, hl with
  | [], h, _ =>
    exact ⟨fun _ => of_7_l0 w ao cap, fun hg => absurd (by simp [goodP, oneP, pairP, hd, hd1] <;> omega) hg⟩
  | [x], h, _ =>
    exact ⟨fun hg => absurd hg (by simp [goodP, oneP, pairP, hd, hd1] <;> omega), fun _ => of_7_l1 w ao cap x h⟩
  | [x, y], h, _ =>
    exact ⟨fun hg => absurd hg (by simp [goodP, oneP, pairP, hd, hd1] <;> omega), fun _ => of_7_l2 w ao cap x y h⟩
  | x :: y :: z :: r, h, hl =>
    simp only [List.length_cons] at hl h ⊢
    exact ⟨fun hg => absurd hg (by simp [goodP, oneP, pairP, hd, hd1] <;> omega), fun _ => of_7_l3 w ao cap _ r.length rfl (by omega) h⟩

theorem of_8_any (w : World) {o : Col} {c : Nat} (ao : Option Addr) (n cap : Nat) (l : List Int) (hl : l.length ≤ 17600000000000) (h : Ints w o c (.slice ao n cap) l) : (goodP 8 l → Calls Try.prog 22 #[.int .u8 8, .slice ao n cap] w (OfOk w 8 l)) ∧ (¬ goodP 8 l → Calls Try.prog 22 #[.int .u8 8, .slice ao n cap] w (OfNo w 61)) := by
  obtain rfl := h.len
  match l, h, hl with
  | [], h, _ =>
    exact ⟨fun _ => of_8_l0 w ao cap, fun hg => absurd (by simp [goodP, oneP, pairP, hd, hd1] <;> omega) hg⟩
  | [x], h, _ =>
    exact ⟨fun hg => absurd hg (by simp [goodP, oneP, pairP, hd, hd1] <;> omega), fun _ => of_8_l1 w ao cap x h⟩
  | [x, y], h, _ =>
    exact ⟨fun hg => absurd hg (by simp [goodP, oneP, pairP, hd, hd1] <;> omega), fun _ => of_8_l2 w ao cap x y h⟩
  | x :: y :: z :: r, h, hl =>
    simp only [List.length_cons] at hl h ⊢
    exact ⟨fun hg => absurd hg (by simp [goodP, oneP, pairP, hd, hd1] <;> omega), fun _ => of_8_l3 w ao cap _ r.length rfl (by omega) h⟩

theorem of_9_any (w : World) {o : Col} {c : Nat} (ao : Option Addr) (n cap : Nat) (l : List Int) (hl : l.length ≤ 17600000000000) (h : Ints w o c (.slice ao n cap) l) : (goodP 9 l → Calls Try.prog 22 #[.int .u8 9, .slice ao n cap] w (OfOk w 9 l)) ∧ (¬ goodP 9 l → Calls Try.prog 22 #[.int .u8 9, .slice ao n cap] w (OfNo w 61)) := by
  obtain rfl := h.len
  match l, h, hl with
  | [], h, _ =>
    exact ⟨fun hg => absurd hg (by simp [goodP, oneP, pairP, hd, hd1] <;> omega), fun _ => of_9_l0 w ao cap⟩
  | [x], h, _ =>
    by_cases hx : 1 ≤ x ∧ x ≤ 16
    · obtain ⟨u, rfl⟩ : ∃ u : Nat, x = u := ⟨x.toNat, by omega⟩
      exact ⟨fun _ => of_9_l1y w ao cap u (by omega) (by omega) h, fun hg => absurd (by simp [goodP, oneP, pairP, hd, hd1] <;> omega) hg⟩
    · exact ⟨fun hg => absurd hg (by simp [goodP, oneP, pairP, hd, hd1] <;> omega), fun _ => of_9_l1n w ao cap x (by omega) h⟩
  | [x, y], h, _ =>
    exact ⟨fun hg => absurd hg (by simp [goodP, oneP, pairP, hd, hd1] <;> omega), fun _ => of_9_l2 w ao cap x y h⟩
  | x :: y :: z :: r, h, hl =>
    simp only [List.length_cons] at hl h ⊢
    exact ⟨fun hg => absurd hg (by simp [goodP, oneP, pairP, hd, hd1] <;> omega), fun _ => of_9_l3 w ao cap _ r.length rfl (by omega) h⟩

theorem of_10_any (w : World) {o : Col} {c : Nat} (ao : Option Addr) (n cap : Nat) (l : List Int) (hl : l.length ≤ 17600000000000) (h : Ints w o c (.slice ao n cap) l) : (goodP 10 l → Calls Try.prog 22 #[.int .u8 10, .slice ao n cap] w (OfOk w 10 l)) ∧ (¬ goodP 10 l → Calls Try.prog 22 #[.int .u8 10, .slice ao n cap] w (OfNo w 61)) := by
  obtain rfl := h.len
  match l, h, hl with
  | [], h, _ =>
    exact ⟨fun hg => absurd hg (by simp [goodP, oneP, pairP, hd, hd1] <;> omega), fun _ => of_10_l0 w ao cap⟩
  | [x], h, _ =>
    exact ⟨fun hg => absurd hg (by simp [goodP, oneP, pairP, hd, hd1] <;> omega), fun _ => of_10_l1 w ao cap x h⟩
  | [x, y], h, _ =>
    exact ⟨fun _ => of_10_l2 w ao cap x y h, fun hg => absurd (by simp [goodP, oneP, pairP, hd, hd1] <;> omega) hg⟩
  | x :: y :: z :: r, h, hl =>
    simp only [List.length_cons] at hl h ⊢
    exact ⟨fun hg => absurd hg (by simp [goodP, oneP, pairP, hd, hd1] <;> omega), fun _ => of_10_l3 w ao cap _ r.length rfl (by omega) h⟩

theorem of_11_any (w : World) {o : Col} {c : Nat} (ao : Option Addr) (n cap : Nat) (l : List Int) (hl : l.length ≤ 17600000000000) (h : Ints w o c (.slice ao n cap) l) : (goodP 11 l → Calls Try.prog 22 #[.int .u8 11, .slice ao n cap] w (OfOk w 11 l)) ∧ (¬ goodP 11 l → Calls Try.prog 22 #[.int .u8 11, .slice ao n cap] w (OfNo w 61)) := by
  obtain rfl := h.len
  match l, h, hl with
  | [], h, _ =>
    exact ⟨fun hg => absurd hg (by simp [goodP, oneP, pairP, hd, hd1] <;> omega), fun _ => of_11_l0 w ao cap⟩
  | [x], h, _ =>
    by_cases hx : 1 ≤ x ∧ x ≤ 64
    · exact ⟨fun _ => of_11_l1y w ao cap x hx.1 hx.2 h, fun hg => absurd (by simp [goodP, oneP, pairP, hd, hd1] <;> omega) hg⟩
    · exact ⟨fun hg => absurd hg (by simp [goodP, oneP, pairP, hd, hd1] <;> omega), fun _ => of_11_l1n w ao cap x (by omega) h⟩
  | [x, y], h, _ =>
    exact ⟨fun hg => absurd hg (by simp [goodP, oneP, pairP, hd, hd1] <;> omega), fun _ => of_11_l2 w ao cap x y h⟩
  | x :: y :: z :: r, h, hl =>
    simp only [List.length_cons] at hl h ⊢
    exact ⟨fun hg => absurd hg (by simp [goodP, oneP, pairP, hd, hd1] <;> omega), fun _ => of_11_l3 w ao cap _ r.length rfl (by omega) h⟩

end Go.Proofs.Ytbmbfifempkhgaa
