/- The shape of an actor: its rates. -/
import Derived.Test.YtbmbfifempkhgaaL1
import Derived.Test.YtbmbfifempkhgaaPlain
namespace Go.Proofs.Ytbmbfifempkhgaa
open Go.RowKit

theorem within_yes (w : World) (n m : Int) (h1 : 1 ≤ n) (h2 : n ≤ m) : Calls Try.prog 63 #[.int .i64 n, .int .i64 m] w fun e w' => e = .returned (.bool true) ∧ w = w' := by
  have := within_any w n m
  rwa [decide_eq_true (And.intro h1 h2)] at this
theorem within_no (w : World) (n m : Int) (h : n < 1 ∨ m < n) : Calls Try.prog 63 #[.int .i64 n, .int .i64 m] w fun e w' => e = .returned (.bool false) ∧ w = w' := by
  have := within_any w n m
  rwa [decide_eq_false (by omega)] at this

theorem ints_box (w : World) (vs : List Int) (hp : 0 < vs.length) : Ints (w.alloc (.cells (ivs vs).toArray 3)) (fun _ => 0) 0 (.slice (some ⟨w.heap.size, 0, none⟩) vs.length vs.length) vs := by
  have h := heap_alloc_new w (.cells (ivs vs).toArray 3)
  refine .inr ⟨by simpa using hp, w.heap.size, 0, vs.length, by simp, by simp, by simp, rfl, fun k hk => ?_⟩
  rw [Nat.zero_add]
  refine cells_row _ _ h k _ ?_
  rw [List.getElem?_toArray]
  simp at hk
  simp [hk]

/-- what 'Of' answers -/
def OfOk (w : World) (t : Int) (ps : List Int) (e : Ending) (w' : World) : Prop :=
  ∃ vi vo, e = .returned (.tuple #[vi, vo, .int .i64 0]) ∧ w'.ownsRow w.heap.size 3 1 vi (insP t ps).length (ivs (insP t ps)) ∧ w'.ownsRow w.heap.size 3 1 vo (outsP t ps).length (ivs (outsP t ps)) ∧ Below w.heap.size w w'
def OfNo (w : World) (x : Int) (e : Ending) (w' : World) : Prop := e = .returned (.tuple #[.slice none 0 0, .slice none 0 0, .int .i64 x]) ∧ Below w.heap.size w w'

theorem of_fin {w W0 w1 W1 w2 : World} {v1 v2 : Value} {n1 n2 : Nat} {l1 l2 : List Value} (h0 : Below w.heap.size w W0) (ho1 : w1.ownsRow W0.heap.size 3 1 v1 n1 l1) (hb1 : Below W0.heap.size W0 w1) (h1 : Below w1.heap.size w1 W1) (ho2 : w2.ownsRow W1.heap.size 3 1 v2 n2 l2) (hb2 : Below W1.heap.size W1 w2) :
    w2.ownsRow w.heap.size 3 1 v1 n1 l1 ∧ w2.ownsRow w.heap.size 3 1 v2 n2 l2 ∧ Below w.heap.size w w2 := by
  have s0 := h0.size
  have s1 := hb1.size
  have s2 := h1.size
  have b2 : Below w1.heap.size w1 w2 := h1.trans (hb2.mono s2)
  exact ⟨owns_base (owns_kept ho1 (Mods.of_below b2 (fun _ => False)) (fun _ _ h => h)) (fun k hk => by have := (ho1.lt k hk).1; omega), owns_base ho2 (fun k hk => by have := (ho2.lt k hk).1; omega), h0.trans ((hb1.mono s0).trans (b2.mono (by omega)))⟩
theorem of_fin1 {w W0 w1 : World} {v1 : Value} {n1 : Nat} {l1 : List Value} (h0 : Below w.heap.size w W0) (ho1 : w1.ownsRow W0.heap.size 3 1 v1 n1 l1) (hb1 : Below W0.heap.size W0 w1) :
    w1.ownsRow w.heap.size 3 1 v1 n1 l1 ∧ Below w.heap.size w w1 := by
  have s0 := h0.size
  exact ⟨owns_base ho1 (fun k hk => by have := (ho1.lt k hk).1; omega), h0.trans (hb1.mono s0)⟩

set_option maxRecDepth 100000 in
set_option maxHeartbeats 1000000 in
theorem of_tag (w : World) (t : Int) (v : Value) (h : t < 1 ∨ 11 < t) : Calls Try.prog 22 #[.int .u8 t, v] w (OfNo w 60) := by
  by_cases h1 : t < 1
  · go_enter Try.func22, Try.ntmps22
    go_wp2
    go_ret3
    exact ⟨rfl, Below.refl _ _⟩
  · have h2 : 11 < t := by omega
    go_enter Try.func22, Try.ntmps22
    go_wp2
    go_ret3
    exact ⟨rfl, Below.refl _ _⟩

theorem pair_cases (x y : Int) : (x < 1 ∨ 16 < x) ∨ ((1 ≤ x ∧ x ≤ 16) ∧ (y < 1 ∨ 64 < y)) ∨ ((1 ≤ x ∧ x ≤ 16) ∧ (1 ≤ y ∧ y ≤ 64) ∧ 0 ≤ x * y ∧ x * y ≤ 64) ∨ ((1 ≤ x ∧ x ≤ 16) ∧ (1 ≤ y ∧ y ≤ 64) ∧ 64 < x * y ∧ x * y ≤ 1024) := by
  by_cases h1 : x < 1 ∨ 16 < x
  · exact .inl h1
  · by_cases h2 : y < 1 ∨ 64 < y
    · exact .inr (.inl ⟨by omega, h2⟩)
    · have h3 : 0 ≤ x * y := Int.mul_nonneg (by omega) (by omega)
      have h4 : x * y ≤ 16 * 64 := Int.mul_le_mul (by omega) (by omega) (by omega) (by omega)
      by_cases h5 : x * y ≤ 64
      · exact .inr (.inr (.inl ⟨by omega, by omega, h3, h5⟩))
      · exact .inr (.inr (.inr ⟨by omega, by omega, by omega, by omega⟩))

set_option maxRecDepth 100000 in
set_option maxHeartbeats 4000000 in
theorem of_1_l0 (w : World) (ao : Option Addr) (cap : Nat) : Calls Try.prog 22 #[.int .u8 1, .slice ao 0 cap] w (OfNo w 61) := by
  go_enter Try.func22, Try.ntmps22
  go_wp2_with (go_at_call 63; (first | ((with_reducible refine (within_yes _ _ _ ?_ ?_).mono ?_); (focus omega); (focus omega)) | ((with_reducible refine (within_no _ _ _ ?_).mono ?_); (focus omega))); rintro e w' ⟨rfl, rfl⟩)
  go_ret3
  exact ⟨rfl, Below.refl _ _⟩

set_option maxRecDepth 100000 in
set_option maxHeartbeats 4000000 in
theorem of_1_l1 (w : World) {o : Col} {c : Nat} (ao : Option Addr) (cap : Nat) (x : Int) (h : Ints w o c (.slice ao 1 cap) [x]) : Calls Try.prog 22 #[.int .u8 1, .slice ao 1 cap] w (OfOk w 1 [x]) := by
  obtain ⟨b, off, rfl, -, hcap, -, -, hc⟩ := h.at (by simp)
  have c0 := hc 0 (by simp)
  simp at c0
  clear hc h
  go_enter Try.func22, Try.ntmps22
  go_wp2_with (go_at_call 63; (first | ((with_reducible refine (within_yes _ _ _ ?_ ?_).mono ?_); (focus omega); (focus omega)) | ((with_reducible refine (within_no _ _ _ ?_).mono ?_); (focus omega))); rintro e w' ⟨rfl, rfl⟩)
  refine (ports_any _ _ _ _ [1] (ints_box _ [1] (by simp))  (by simp)).mono ?_
  rintro e w1 ⟨g1, c1, rfl, ho1, hb1⟩
  go_wp2_with fail
  refine (ports_any _ _ _ _ [1] (ints_box _ [1] (by simp))  (by simp)).mono ?_
  rintro e w2 ⟨g2, c2, rfl, ho2, hb2⟩
  go_wp2
  go_ret3
  exact ⟨_, _, rfl, by simpa [insP, outsP, hd, hd1] using of_fin (by first | exact Below.refl _ _ | exact (Below.refl _ _).alloc (Nat.le_refl _) _) ho1 hb1 (by first | exact Below.refl _ _ | exact (Below.refl _ _).alloc (Nat.le_refl _) _) ho2 hb2⟩

set_option maxRecDepth 100000 in
set_option maxHeartbeats 4000000 in
theorem of_1_l2 (w : World) {o : Col} {c : Nat} (ao : Option Addr) (cap : Nat) (x y : Int) (h : Ints w o c (.slice ao 2 cap) [x, y]) : Calls Try.prog 22 #[.int .u8 1, .slice ao 2 cap] w (OfOk w 1 [x, y]) := by
  obtain ⟨b, off, rfl, -, hcap, -, -, hc⟩ := h.at (by simp)
  have c0 := hc 0 (by simp)
  have c1 := hc 1 (by simp)
  simp at c0 c1
  clear hc h
  have hcase : (x < 1 ∨ 16 < x) ∨ ((1 ≤ x ∧ x ≤ 16) ∧ (y < 1 ∨ 64 < y)) ∨ ((1 ≤ x ∧ x ≤ 16) ∧ (1 ≤ y ∧ y ≤ 64) ∧ 0 ≤ x * y ∧ x * y ≤ 64) ∨ ((1 ≤ x ∧ x ≤ 16) ∧ (1 ≤ y ∧ y ≤ 64) ∧ 64 < x * y ∧ x * y ≤ 1024) := pair_cases x y
  rcases hcase with hx | ⟨hx, hy⟩ | ⟨hx, hy, hz, hz2⟩ | ⟨hx, hy, hz, hz2⟩
  all_goals
    go_enter Try.func22, Try.ntmps22
    go_wp2_with (go_at_call 63; (first | ((with_reducible refine (within_yes _ _ _ ?_ ?_).mono ?_); (focus omega); (focus omega)) | ((with_reducible refine (within_no _ _ _ ?_).mono ?_); (focus omega))); rintro e w' ⟨rfl, rfl⟩)
    refine (ports_any _ _ _ _ [1] (ints_box _ [1] (by simp))  (by simp)).mono ?_
    rintro e w1 ⟨g1, c1, rfl, ho1, hb1⟩
    go_wp2_with fail
    refine (ports_any _ _ _ _ [1] (ints_box _ [1] (by simp))  (by simp)).mono ?_
    rintro e w2 ⟨g2, c2, rfl, ho2, hb2⟩
    go_wp2
    go_ret3
    exact ⟨_, _, rfl, by simpa [insP, outsP, hd, hd1] using of_fin (by first | exact Below.refl _ _ | exact (Below.refl _ _).alloc (Nat.le_refl _) _) ho1 hb1 (by first | exact Below.refl _ _ | exact (Below.refl _ _).alloc (Nat.le_refl _) _) ho2 hb2⟩

set_option maxRecDepth 100000 in
set_option maxHeartbeats 4000000 in
theorem of_1_l3y (w : World) {o : Col} {c : Nat} (ao : Option Addr) (cap : Nat) (l : List Int) (k : Nat) (hk : l.length = k + 3) (hm : k ≤ 13) (h : Ints w o c (.slice ao (k + 3) cap) l) : Calls Try.prog 22 #[.int .u8 1, .slice ao (k + 3) cap] w (OfOk w 1 l) := by
  obtain ⟨b, off, rfl, -, hcap, -, -, hc⟩ := h.at (by omega)
  have c0 := hc 0 (by omega)
  have c1 := hc 1 (by omega)
  generalize l[0]?.getD 0 = x at c0
  generalize l[1]?.getD 0 = y at c1
  have hkk : (k : Int) ≤ 17600000000000 := by omega
  rw [Nat.add_zero] at c0
  clear hc h hk
  go_enter Try.func22, Try.ntmps22
  go_wp2_with (go_at_call 63; (first | ((with_reducible refine (within_yes _ _ _ ?_ ?_).mono ?_); (focus omega); (focus omega)) | ((with_reducible refine (within_no _ _ _ ?_).mono ?_); (focus omega))); rintro e w' ⟨rfl, rfl⟩)
  refine (ports_any _ _ _ _ [1] (ints_box _ [1] (by simp))  (by simp)).mono ?_
  rintro e w1 ⟨g1, c1, rfl, ho1, hb1⟩
  go_wp2_with fail
  refine (ports_any _ _ _ _ [1] (ints_box _ [1] (by simp))  (by simp)).mono ?_
  rintro e w2 ⟨g2, c2, rfl, ho2, hb2⟩
  go_wp2
  go_ret3
  exact ⟨_, _, rfl, by simpa [insP, outsP, hd, hd1] using of_fin (by first | exact Below.refl _ _ | exact (Below.refl _ _).alloc (Nat.le_refl _) _) ho1 hb1 (by first | exact Below.refl _ _ | exact (Below.refl _ _).alloc (Nat.le_refl _) _) ho2 hb2⟩

set_option maxRecDepth 100000 in
set_option maxHeartbeats 4000000 in
theorem of_1_l3n (w : World) {o : Col} {c : Nat} (ao : Option Addr) (cap : Nat) (l : List Int) (k : Nat) (hk : l.length = k + 3) (hm1 : 13 < k) (hm : k ≤ 17600000000000) (h : Ints w o c (.slice ao (k + 3) cap) l) : Calls Try.prog 22 #[.int .u8 1, .slice ao (k + 3) cap] w (OfNo w 61) := by
  obtain ⟨b, off, rfl, -, hcap, -, -, hc⟩ := h.at (by omega)
  have c0 := hc 0 (by omega)
  have c1 := hc 1 (by omega)
  generalize l[0]?.getD 0 = x at c0
  generalize l[1]?.getD 0 = y at c1
  have hkk : (k : Int) ≤ 17600000000000 := by omega
  rw [Nat.add_zero] at c0
  clear hc h hk
  have hk1 : (13 : Int) < k := by omega
  go_enter Try.func22, Try.ntmps22
  go_wp2_with (go_at_call 63; (first | ((with_reducible refine (within_yes _ _ _ ?_ ?_).mono ?_); (focus omega); (focus omega)) | ((with_reducible refine (within_no _ _ _ ?_).mono ?_); (focus omega))); rintro e w' ⟨rfl, rfl⟩)
  go_ret3
  exact ⟨rfl, Below.refl _ _⟩

set_option maxRecDepth 100000 in
set_option maxHeartbeats 4000000 in
theorem of_2_l0 (w : World) (ao : Option Addr) (cap : Nat) : Calls Try.prog 22 #[.int .u8 2, .slice ao 0 cap] w (OfNo w 61) := by
  go_enter Try.func22, Try.ntmps22
  go_wp2_with (go_at_call 63; (first | ((with_reducible refine (within_yes _ _ _ ?_ ?_).mono ?_); (focus omega); (focus omega)) | ((with_reducible refine (within_no _ _ _ ?_).mono ?_); (focus omega))); rintro e w' ⟨rfl, rfl⟩)
  go_ret3
  exact ⟨rfl, Below.refl _ _⟩

set_option maxRecDepth 100000 in
set_option maxHeartbeats 4000000 in
theorem of_2_l1y (w : World) {o : Col} {c : Nat} (ao : Option Addr) (cap : Nat) (x : Int) (h1 : 1 ≤ x) (h2 : x ≤ 64) (h : Ints w o c (.slice ao 1 cap) [x]) : Calls Try.prog 22 #[.int .u8 2, .slice ao 1 cap] w (OfOk w 2 [x]) := by
  obtain ⟨b, off, rfl, -, hcap, -, -, hc⟩ := h.at (by simp)
  have c0 := hc 0 (by simp)
  simp at c0
  clear hc h
  go_enter Try.func22, Try.ntmps22
  go_wp2_with (go_at_call 63; (first | ((with_reducible refine (within_yes _ _ _ ?_ ?_).mono ?_); (focus omega); (focus omega)) | ((with_reducible refine (within_no _ _ _ ?_).mono ?_); (focus omega))); rintro e w' ⟨rfl, rfl⟩)
  refine (ports_any _ _ _ _ [1] (ints_box _ [1] (by simp))  (by simp)).mono ?_
  rintro e w1 ⟨g1, c1, rfl, ho1, hb1⟩
  go_wp2_with fail
  refine (ports_any _ _ _ _ [x] (ints_box _ [x] (by simp))  (by simp)).mono ?_
  rintro e w2 ⟨g2, c2, rfl, ho2, hb2⟩
  go_wp2
  go_ret3
  exact ⟨_, _, rfl, by simpa [insP, outsP, hd, hd1] using of_fin (by first | exact Below.refl _ _ | exact (Below.refl _ _).alloc (Nat.le_refl _) _) ho1 hb1 (by first | exact Below.refl _ _ | exact (Below.refl _ _).alloc (Nat.le_refl _) _) ho2 hb2⟩

set_option maxRecDepth 100000 in
set_option maxHeartbeats 4000000 in
theorem of_2_l1n (w : World) {o : Col} {c : Nat} (ao : Option Addr) (cap : Nat) (x : Int) (h1 : x < 1 ∨ 64 < x) (h : Ints w o c (.slice ao 1 cap) [x]) : Calls Try.prog 22 #[.int .u8 2, .slice ao 1 cap] w (OfNo w 61) := by
  obtain ⟨b, off, rfl, -, hcap, -, -, hc⟩ := h.at (by simp)
  have c0 := hc 0 (by simp)
  simp at c0
  clear hc h
  go_enter Try.func22, Try.ntmps22
  go_wp2_with (go_at_call 63; (first | ((with_reducible refine (within_yes _ _ _ ?_ ?_).mono ?_); (focus omega); (focus omega)) | ((with_reducible refine (within_no _ _ _ ?_).mono ?_); (focus omega))); rintro e w' ⟨rfl, rfl⟩)
  go_ret3
  exact ⟨rfl, Below.refl _ _⟩

set_option maxRecDepth 100000 in
set_option maxHeartbeats 4000000 in
theorem of_2_l2 (w : World) {o : Col} {c : Nat} (ao : Option Addr) (cap : Nat) (x y : Int) (h : Ints w o c (.slice ao 2 cap) [x, y]) : Calls Try.prog 22 #[.int .u8 2, .slice ao 2 cap] w (OfNo w 61) := by
  obtain ⟨b, off, rfl, -, hcap, -, -, hc⟩ := h.at (by simp)
  have c0 := hc 0 (by simp)
  have c1 := hc 1 (by simp)
  simp at c0 c1
  clear hc h
  have hcase : (x < 1 ∨ 16 < x) ∨ ((1 ≤ x ∧ x ≤ 16) ∧ (y < 1 ∨ 64 < y)) ∨ ((1 ≤ x ∧ x ≤ 16) ∧ (1 ≤ y ∧ y ≤ 64) ∧ 0 ≤ x * y ∧ x * y ≤ 64) ∨ ((1 ≤ x ∧ x ≤ 16) ∧ (1 ≤ y ∧ y ≤ 64) ∧ 64 < x * y ∧ x * y ≤ 1024) := pair_cases x y
  rcases hcase with hx | ⟨hx, hy⟩ | ⟨hx, hy, hz, hz2⟩ | ⟨hx, hy, hz, hz2⟩
  all_goals
    go_enter Try.func22, Try.ntmps22
    go_wp2_with (go_at_call 63; (first | ((with_reducible refine (within_yes _ _ _ ?_ ?_).mono ?_); (focus omega); (focus omega)) | ((with_reducible refine (within_no _ _ _ ?_).mono ?_); (focus omega))); rintro e w' ⟨rfl, rfl⟩)
    go_ret3
    exact ⟨rfl, Below.refl _ _⟩

set_option maxRecDepth 100000 in
set_option maxHeartbeats 4000000 in
theorem of_2_l3 (w : World) {o : Col} {c : Nat} (ao : Option Addr) (cap : Nat) (l : List Int) (k : Nat) (hk : l.length = k + 3) (hm : k ≤ 17600000000000) (h : Ints w o c (.slice ao (k + 3) cap) l) : Calls Try.prog 22 #[.int .u8 2, .slice ao (k + 3) cap] w (OfNo w 61) := by
  obtain ⟨b, off, rfl, -, hcap, -, -, hc⟩ := h.at (by omega)
  have c0 := hc 0 (by omega)
  have c1 := hc 1 (by omega)
  generalize l[0]?.getD 0 = x at c0
  generalize l[1]?.getD 0 = y at c1
  have hkk : (k : Int) ≤ 17600000000000 := by omega
  rw [Nat.add_zero] at c0
  clear hc h hk
  go_enter Try.func22, Try.ntmps22
  go_wp2_with (go_at_call 63; (first | ((with_reducible refine (within_yes _ _ _ ?_ ?_).mono ?_); (focus omega); (focus omega)) | ((with_reducible refine (within_no _ _ _ ?_).mono ?_); (focus omega))); rintro e w' ⟨rfl, rfl⟩)
  go_ret3
  exact ⟨rfl, Below.refl _ _⟩

set_option maxRecDepth 100000 in
set_option maxHeartbeats 4000000 in
theorem of_3_l0 (w : World) (ao : Option Addr) (cap : Nat) : Calls Try.prog 22 #[.int .u8 3, .slice ao 0 cap] w (OfNo w 61) := by
  go_enter Try.func22, Try.ntmps22
  go_wp2_with (go_at_call 63; (first | ((with_reducible refine (within_yes _ _ _ ?_ ?_).mono ?_); (focus omega); (focus omega)) | ((with_reducible refine (within_no _ _ _ ?_).mono ?_); (focus omega))); rintro e w' ⟨rfl, rfl⟩)
  go_ret3
  exact ⟨rfl, Below.refl _ _⟩

set_option maxRecDepth 100000 in
set_option maxHeartbeats 4000000 in
theorem of_3_l1y (w : World) {o : Col} {c : Nat} (ao : Option Addr) (cap : Nat) (x : Int) (h1 : 1 ≤ x) (h2 : x ≤ 64) (h : Ints w o c (.slice ao 1 cap) [x]) : Calls Try.prog 22 #[.int .u8 3, .slice ao 1 cap] w (OfOk w 3 [x]) := by
  obtain ⟨b, off, rfl, -, hcap, -, -, hc⟩ := h.at (by simp)
  have c0 := hc 0 (by simp)
  simp at c0
  clear hc h
  go_enter Try.func22, Try.ntmps22
  go_wp2_with (go_at_call 63; (first | ((with_reducible refine (within_yes _ _ _ ?_ ?_).mono ?_); (focus omega); (focus omega)) | ((with_reducible refine (within_no _ _ _ ?_).mono ?_); (focus omega))); rintro e w' ⟨rfl, rfl⟩)
  refine (ports_any _ _ _ _ [x] (ints_box _ [x] (by simp))  (by simp)).mono ?_
  rintro e w1 ⟨g1, c1, rfl, ho1, hb1⟩
  go_wp2_with fail
  refine (ports_any _ _ _ _ [1] (ints_box _ [1] (by simp))  (by simp)).mono ?_
  rintro e w2 ⟨g2, c2, rfl, ho2, hb2⟩
  go_wp2
  go_ret3
  exact ⟨_, _, rfl, by simpa [insP, outsP, hd, hd1] using of_fin (by first | exact Below.refl _ _ | exact (Below.refl _ _).alloc (Nat.le_refl _) _) ho1 hb1 (by first | exact Below.refl _ _ | exact (Below.refl _ _).alloc (Nat.le_refl _) _) ho2 hb2⟩

set_option maxRecDepth 100000 in
set_option maxHeartbeats 4000000 in
theorem of_3_l1n (w : World) {o : Col} {c : Nat} (ao : Option Addr) (cap : Nat) (x : Int) (h1 : x < 1 ∨ 64 < x) (h : Ints w o c (.slice ao 1 cap) [x]) : Calls Try.prog 22 #[.int .u8 3, .slice ao 1 cap] w (OfNo w 61) := by
  obtain ⟨b, off, rfl, -, hcap, -, -, hc⟩ := h.at (by simp)
  have c0 := hc 0 (by simp)
  simp at c0
  clear hc h
  go_enter Try.func22, Try.ntmps22
  go_wp2_with (go_at_call 63; (first | ((with_reducible refine (within_yes _ _ _ ?_ ?_).mono ?_); (focus omega); (focus omega)) | ((with_reducible refine (within_no _ _ _ ?_).mono ?_); (focus omega))); rintro e w' ⟨rfl, rfl⟩)
  go_ret3
  exact ⟨rfl, Below.refl _ _⟩

set_option maxRecDepth 100000 in
set_option maxHeartbeats 4000000 in
theorem of_3_l2 (w : World) {o : Col} {c : Nat} (ao : Option Addr) (cap : Nat) (x y : Int) (h : Ints w o c (.slice ao 2 cap) [x, y]) : Calls Try.prog 22 #[.int .u8 3, .slice ao 2 cap] w (OfNo w 61) := by
  obtain ⟨b, off, rfl, -, hcap, -, -, hc⟩ := h.at (by simp)
  have c0 := hc 0 (by simp)
  have c1 := hc 1 (by simp)
  simp at c0 c1
  clear hc h
  have hcase : (x < 1 ∨ 16 < x) ∨ ((1 ≤ x ∧ x ≤ 16) ∧ (y < 1 ∨ 64 < y)) ∨ ((1 ≤ x ∧ x ≤ 16) ∧ (1 ≤ y ∧ y ≤ 64) ∧ 0 ≤ x * y ∧ x * y ≤ 64) ∨ ((1 ≤ x ∧ x ≤ 16) ∧ (1 ≤ y ∧ y ≤ 64) ∧ 64 < x * y ∧ x * y ≤ 1024) := pair_cases x y
  rcases hcase with hx | ⟨hx, hy⟩ | ⟨hx, hy, hz, hz2⟩ | ⟨hx, hy, hz, hz2⟩
  all_goals
    go_enter Try.func22, Try.ntmps22
    go_wp2_with (go_at_call 63; (first | ((with_reducible refine (within_yes _ _ _ ?_ ?_).mono ?_); (focus omega); (focus omega)) | ((with_reducible refine (within_no _ _ _ ?_).mono ?_); (focus omega))); rintro e w' ⟨rfl, rfl⟩)
    go_ret3
    exact ⟨rfl, Below.refl _ _⟩

set_option maxRecDepth 100000 in
set_option maxHeartbeats 4000000 in
theorem of_3_l3 (w : World) {o : Col} {c : Nat} (ao : Option Addr) (cap : Nat) (l : List Int) (k : Nat) (hk : l.length = k + 3) (hm : k ≤ 17600000000000) (h : Ints w o c (.slice ao (k + 3) cap) l) : Calls Try.prog 22 #[.int .u8 3, .slice ao (k + 3) cap] w (OfNo w 61) := by
  obtain ⟨b, off, rfl, -, hcap, -, -, hc⟩ := h.at (by omega)
  have c0 := hc 0 (by omega)
  have c1 := hc 1 (by omega)
  generalize l[0]?.getD 0 = x at c0
  generalize l[1]?.getD 0 = y at c1
  have hkk : (k : Int) ≤ 17600000000000 := by omega
  rw [Nat.add_zero] at c0
  clear hc h hk
  go_enter Try.func22, Try.ntmps22
  go_wp2_with (go_at_call 63; (first | ((with_reducible refine (within_yes _ _ _ ?_ ?_).mono ?_); (focus omega); (focus omega)) | ((with_reducible refine (within_no _ _ _ ?_).mono ?_); (focus omega))); rintro e w' ⟨rfl, rfl⟩)
  go_ret3
  exact ⟨rfl, Below.refl _ _⟩

set_option maxRecDepth 100000 in
set_option maxHeartbeats 4000000 in
theorem of_4_l0 (w : World) (ao : Option Addr) (cap : Nat) : Calls Try.prog 22 #[.int .u8 4, .slice ao 0 cap] w (OfNo w 61) := by
  go_enter Try.func22, Try.ntmps22
  go_wp2_with (go_at_call 63; (first | ((with_reducible refine (within_yes _ _ _ ?_ ?_).mono ?_); (focus omega); (focus omega)) | ((with_reducible refine (within_no _ _ _ ?_).mono ?_); (focus omega))); rintro e w' ⟨rfl, rfl⟩)
  go_ret3
  exact ⟨rfl, Below.refl _ _⟩

set_option maxRecDepth 100000 in
set_option maxHeartbeats 4000000 in
theorem of_4_l1 (w : World) {o : Col} {c : Nat} (ao : Option Addr) (cap : Nat) (x : Int) (h : Ints w o c (.slice ao 1 cap) [x]) : Calls Try.prog 22 #[.int .u8 4, .slice ao 1 cap] w (OfNo w 61) := by
  obtain ⟨b, off, rfl, -, hcap, -, -, hc⟩ := h.at (by simp)
  have c0 := hc 0 (by simp)
  simp at c0
  clear hc h
  go_enter Try.func22, Try.ntmps22
  go_wp2_with (go_at_call 63; (first | ((with_reducible refine (within_yes _ _ _ ?_ ?_).mono ?_); (focus omega); (focus omega)) | ((with_reducible refine (within_no _ _ _ ?_).mono ?_); (focus omega))); rintro e w' ⟨rfl, rfl⟩)
  go_ret3
  exact ⟨rfl, Below.refl _ _⟩

set_option maxRecDepth 100000 in
set_option maxHeartbeats 4000000 in
theorem of_4_l2y (w : World) {o : Col} {c : Nat} (ao : Option Addr) (cap : Nat) (n k : Nat) (h1 : 1 ≤ n) (h2 : n ≤ 16) (h3 : 1 ≤ k) (h4 : k ≤ 64) (h5 : n * k ≤ 64) (h : Ints w o c (.slice ao 2 cap) [(n : Int), (k : Int)]) : Calls Try.prog 22 #[.int .u8 4, .slice ao 2 cap] w (OfOk w 4 [(n : Int), (k : Int)]) := by
  obtain ⟨b, off, rfl, -, hcap, -, -, hc⟩ := h.at (by simp)
  have c0 := hc 0 (by simp)
  have c1 := hc 1 (by simp)
  simp at c0 c1
  clear hc h
  have h1i : (1 : Int) ≤ n := by omega
  have h2i : (n : Int) ≤ 16 := by omega
  have h3i : (1 : Int) ≤ k := by omega
  have h4i : (k : Int) ≤ 64 := by omega
  have h5i : (n : Int) * k ≤ 64 := by exact_mod_cast h5
  have h6i : (0 : Int) ≤ (n : Int) * k := by exact_mod_cast Nat.zero_le _
  go_enter Try.func22, Try.ntmps22
  go_wp2_with (go_at_call 63; (first | ((with_reducible refine (within_yes _ _ _ ?_ ?_).mono ?_); (focus omega); (focus omega)) | ((with_reducible refine (within_no _ _ _ ?_).mono ?_); (focus omega))); rintro e w' ⟨rfl, rfl⟩)
  refine (same_any _ n k (by omega)).mono ?_
  rintro e w1 ⟨g1, c1, rfl, ho1, hb1⟩
  go_wp2_with fail
  refine (ports_any _ _ _ _ [(n : Int) * k] (ints_box _ [(n : Int) * k] (by simp))  (by simp)).mono ?_
  rintro e w2 ⟨g2, c2, rfl, ho2, hb2⟩
  go_wp2
  go_ret3
  exact ⟨_, _, rfl, by simpa [insP, outsP, hd, hd1] using of_fin (by first | exact Below.refl _ _ | exact (Below.refl _ _).alloc (Nat.le_refl _) _) ho1 hb1 (by first | exact Below.refl _ _ | exact (Below.refl _ _).alloc (Nat.le_refl _) _) ho2 hb2⟩

set_option maxRecDepth 100000 in
set_option maxHeartbeats 4000000 in
theorem of_4_l2n (w : World) {o : Col} {c : Nat} (ao : Option Addr) (cap : Nat) (x y : Int) (hcase : (x < 1 ∨ 16 < x) ∨ ((1 ≤ x ∧ x ≤ 16) ∧ (y < 1 ∨ 64 < y)) ∨ ((1 ≤ x ∧ x ≤ 16) ∧ (1 ≤ y ∧ y ≤ 64) ∧ 64 < x * y ∧ x * y ≤ 1024)) (h : Ints w o c (.slice ao 2 cap) [x, y]) : Calls Try.prog 22 #[.int .u8 4, .slice ao 2 cap] w (OfNo w 61) := by
  obtain ⟨b, off, rfl, -, hcap, -, -, hc⟩ := h.at (by simp)
  have c0 := hc 0 (by simp)
  have c1 := hc 1 (by simp)
  simp at c0 c1
  clear hc h
  rcases hcase with hx | ⟨hx, hy⟩ | ⟨hx, hy, hz, hz2⟩
  all_goals
    go_enter Try.func22, Try.ntmps22
    go_wp2_with (go_at_call 63; (first | ((with_reducible refine (within_yes _ _ _ ?_ ?_).mono ?_); (focus omega); (focus omega)) | ((with_reducible refine (within_no _ _ _ ?_).mono ?_); (focus omega))); rintro e w' ⟨rfl, rfl⟩)
    go_ret3
    exact ⟨rfl, Below.refl _ _⟩

set_option maxRecDepth 100000 in
set_option maxHeartbeats 4000000 in
theorem of_4_l3 (w : World) {o : Col} {c : Nat} (ao : Option Addr) (cap : Nat) (l : List Int) (k : Nat) (hk : l.length = k + 3) (hm : k ≤ 17600000000000) (h : Ints w o c (.slice ao (k + 3) cap) l) : Calls Try.prog 22 #[.int .u8 4, .slice ao (k + 3) cap] w (OfNo w 61) := by
  obtain ⟨b, off, rfl, -, hcap, -, -, hc⟩ := h.at (by omega)
  have c0 := hc 0 (by omega)
  have c1 := hc 1 (by omega)
  generalize l[0]?.getD 0 = x at c0
  generalize l[1]?.getD 0 = y at c1
  have hkk : (k : Int) ≤ 17600000000000 := by omega
  rw [Nat.add_zero] at c0
  clear hc h hk
  go_enter Try.func22, Try.ntmps22
  go_wp2_with (go_at_call 63; (first | ((with_reducible refine (within_yes _ _ _ ?_ ?_).mono ?_); (focus omega); (focus omega)) | ((with_reducible refine (within_no _ _ _ ?_).mono ?_); (focus omega))); rintro e w' ⟨rfl, rfl⟩)
  go_ret3
  exact ⟨rfl, Below.refl _ _⟩

set_option maxRecDepth 100000 in
set_option maxHeartbeats 4000000 in
theorem of_5_l0 (w : World) (ao : Option Addr) (cap : Nat) : Calls Try.prog 22 #[.int .u8 5, .slice ao 0 cap] w (OfNo w 61) := by
  go_enter Try.func22, Try.ntmps22
  go_wp2_with (go_at_call 63; (first | ((with_reducible refine (within_yes _ _ _ ?_ ?_).mono ?_); (focus omega); (focus omega)) | ((with_reducible refine (within_no _ _ _ ?_).mono ?_); (focus omega))); rintro e w' ⟨rfl, rfl⟩)
  go_ret3
  exact ⟨rfl, Below.refl _ _⟩

set_option maxRecDepth 100000 in
set_option maxHeartbeats 4000000 in
theorem of_5_l1 (w : World) {o : Col} {c : Nat} (ao : Option Addr) (cap : Nat) (x : Int) (h : Ints w o c (.slice ao 1 cap) [x]) : Calls Try.prog 22 #[.int .u8 5, .slice ao 1 cap] w (OfNo w 61) := by
  obtain ⟨b, off, rfl, -, hcap, -, -, hc⟩ := h.at (by simp)
  have c0 := hc 0 (by simp)
  simp at c0
  clear hc h
  go_enter Try.func22, Try.ntmps22
  go_wp2_with (go_at_call 63; (first | ((with_reducible refine (within_yes _ _ _ ?_ ?_).mono ?_); (focus omega); (focus omega)) | ((with_reducible refine (within_no _ _ _ ?_).mono ?_); (focus omega))); rintro e w' ⟨rfl, rfl⟩)
  go_ret3
  exact ⟨rfl, Below.refl _ _⟩

set_option maxRecDepth 100000 in
set_option maxHeartbeats 4000000 in
theorem of_5_l2y (w : World) {o : Col} {c : Nat} (ao : Option Addr) (cap : Nat) (n k : Nat) (h1 : 1 ≤ n) (h2 : n ≤ 16) (h3 : 1 ≤ k) (h4 : k ≤ 64) (h5 : n * k ≤ 64) (h : Ints w o c (.slice ao 2 cap) [(n : Int), (k : Int)]) : Calls Try.prog 22 #[.int .u8 5, .slice ao 2 cap] w (OfOk w 5 [(n : Int), (k : Int)]) := by
  obtain ⟨b, off, rfl, -, hcap, -, -, hc⟩ := h.at (by simp)
  have c0 := hc 0 (by simp)
  have c1 := hc 1 (by simp)
  simp at c0 c1
  clear hc h
  have h1i : (1 : Int) ≤ n := by omega
  have h2i : (n : Int) ≤ 16 := by omega
  have h3i : (1 : Int) ≤ k := by omega
  have h4i : (k : Int) ≤ 64 := by omega
  have h5i : (n : Int) * k ≤ 64 := by exact_mod_cast h5
  have h6i : (0 : Int) ≤ (n : Int) * k := by exact_mod_cast Nat.zero_le _
  go_enter Try.func22, Try.ntmps22
  go_wp2_with (go_at_call 63; (first | ((with_reducible refine (within_yes _ _ _ ?_ ?_).mono ?_); (focus omega); (focus omega)) | ((with_reducible refine (within_no _ _ _ ?_).mono ?_); (focus omega))); rintro e w' ⟨rfl, rfl⟩)
  refine (ports_any _ _ _ _ [(n : Int) * k] (ints_box _ [(n : Int) * k] (by simp))  (by simp)).mono ?_
  rintro e w1 ⟨g1, c1, rfl, ho1, hb1⟩
  go_wp2_with fail
  refine (same_any _ n k (by omega)).mono ?_
  rintro e w2 ⟨g2, c2, rfl, ho2, hb2⟩
  go_wp2
  go_ret3
  exact ⟨_, _, rfl, by simpa [insP, outsP, hd, hd1] using of_fin (by first | exact Below.refl _ _ | exact (Below.refl _ _).alloc (Nat.le_refl _) _) ho1 hb1 (by first | exact Below.refl _ _ | exact (Below.refl _ _).alloc (Nat.le_refl _) _) ho2 hb2⟩

set_option maxRecDepth 100000 in
set_option maxHeartbeats 4000000 in
theorem of_5_l2n (w : World) {o : Col} {c : Nat} (ao : Option Addr) (cap : Nat) (x y : Int) (hcase : (x < 1 ∨ 16 < x) ∨ ((1 ≤ x ∧ x ≤ 16) ∧ (y < 1 ∨ 64 < y)) ∨ ((1 ≤ x ∧ x ≤ 16) ∧ (1 ≤ y ∧ y ≤ 64) ∧ 64 < x * y ∧ x * y ≤ 1024)) (h : Ints w o c (.slice ao 2 cap) [x, y]) : Calls Try.prog 22 #[.int .u8 5, .slice ao 2 cap] w (OfNo w 61) := by
  obtain ⟨b, off, rfl, -, hcap, -, -, hc⟩ := h.at (by simp)
  have c0 := hc 0 (by simp)
  have c1 := hc 1 (by simp)
  simp at c0 c1
  clear hc h
  rcases hcase with hx | ⟨hx, hy⟩ | ⟨hx, hy, hz, hz2⟩
  all_goals
    go_enter Try.func22, Try.ntmps22
    go_wp2_with (go_at_call 63; (first | ((with_reducible refine (within_yes _ _ _ ?_ ?_).mono ?_); (focus omega); (focus omega)) | ((with_reducible refine (within_no _ _ _ ?_).mono ?_); (focus omega))); rintro e w' ⟨rfl, rfl⟩)
    go_ret3
    exact ⟨rfl, Below.refl _ _⟩

set_option maxRecDepth 100000 in
set_option maxHeartbeats 4000000 in
theorem of_5_l3 (w : World) {o : Col} {c : Nat} (ao : Option Addr) (cap : Nat) (l : List Int) (k : Nat) (hk : l.length = k + 3) (hm : k ≤ 17600000000000) (h : Ints w o c (.slice ao (k + 3) cap) l) : Calls Try.prog 22 #[.int .u8 5, .slice ao (k + 3) cap] w (OfNo w 61) := by
  obtain ⟨b, off, rfl, -, hcap, -, -, hc⟩ := h.at (by omega)
  have c0 := hc 0 (by omega)
  have c1 := hc 1 (by omega)
  generalize l[0]?.getD 0 = x at c0
  generalize l[1]?.getD 0 = y at c1
  have hkk : (k : Int) ≤ 17600000000000 := by omega
  rw [Nat.add_zero] at c0
  clear hc h hk
  go_enter Try.func22, Try.ntmps22
  go_wp2_with (go_at_call 63; (first | ((with_reducible refine (within_yes _ _ _ ?_ ?_).mono ?_); (focus omega); (focus omega)) | ((with_reducible refine (within_no _ _ _ ?_).mono ?_); (focus omega))); rintro e w' ⟨rfl, rfl⟩)
  go_ret3
  exact ⟨rfl, Below.refl _ _⟩

set_option maxRecDepth 100000 in
set_option maxHeartbeats 4000000 in
theorem of_6_l0 (w : World) (ao : Option Addr) (cap : Nat) : Calls Try.prog 22 #[.int .u8 6, .slice ao 0 cap] w (OfNo w 61) := by
  go_enter Try.func22, Try.ntmps22
  go_wp2_with (go_at_call 63; (first | ((with_reducible refine (within_yes _ _ _ ?_ ?_).mono ?_); (focus omega); (focus omega)) | ((with_reducible refine (within_no _ _ _ ?_).mono ?_); (focus omega))); rintro e w' ⟨rfl, rfl⟩)
  go_ret3
  exact ⟨rfl, Below.refl _ _⟩

set_option maxRecDepth 100000 in
set_option maxHeartbeats 4000000 in
theorem of_6_l1y (w : World) {o : Col} {c : Nat} (ao : Option Addr) (cap : Nat) (n : Nat) (h1 : 1 ≤ n) (h2 : n ≤ 16) (h : Ints w o c (.slice ao 1 cap) [(n : Int)]) : Calls Try.prog 22 #[.int .u8 6, .slice ao 1 cap] w (OfOk w 6 [(n : Int)]) := by
  obtain ⟨b, off, rfl, -, hcap, -, -, hc⟩ := h.at (by simp)
  have c0 := hc 0 (by simp)
  simp at c0
  clear hc h
  have h1i : (1 : Int) ≤ n := by omega
  have h2i : (n : Int) ≤ 16 := by omega
  go_enter Try.func22, Try.ntmps22
  go_wp2_with (go_at_call 63; (first | ((with_reducible refine (within_yes _ _ _ ?_ ?_).mono ?_); (focus omega); (focus omega)) | ((with_reducible refine (within_no _ _ _ ?_).mono ?_); (focus omega))); rintro e w' ⟨rfl, rfl⟩)
  refine (same_any _ n 1 (by omega)).mono ?_
  rintro e w1 ⟨g1, c1, rfl, ho1, hb1⟩
  go_wp2_with fail
  refine (ports_any _ _ _ _ [1] (ints_box _ [1] (by simp))  (by simp)).mono ?_
  rintro e w2 ⟨g2, c2, rfl, ho2, hb2⟩
  go_wp2
  go_ret3
  exact ⟨_, _, rfl, by simpa [insP, outsP, hd, hd1] using of_fin (by first | exact Below.refl _ _ | exact (Below.refl _ _).alloc (Nat.le_refl _) _) ho1 hb1 (by first | exact Below.refl _ _ | exact (Below.refl _ _).alloc (Nat.le_refl _) _) ho2 hb2⟩

set_option maxRecDepth 100000 in
set_option maxHeartbeats 4000000 in
theorem of_6_l1n (w : World) {o : Col} {c : Nat} (ao : Option Addr) (cap : Nat) (x : Int) (h1 : x < 1 ∨ 16 < x) (h : Ints w o c (.slice ao 1 cap) [x]) : Calls Try.prog 22 #[.int .u8 6, .slice ao 1 cap] w (OfNo w 61) := by
  obtain ⟨b, off, rfl, -, hcap, -, -, hc⟩ := h.at (by simp)
  have c0 := hc 0 (by simp)
  simp at c0
  clear hc h
  go_enter Try.func22, Try.ntmps22
  go_wp2_with (go_at_call 63; (first | ((with_reducible refine (within_yes _ _ _ ?_ ?_).mono ?_); (focus omega); (focus omega)) | ((with_reducible refine (within_no _ _ _ ?_).mono ?_); (focus omega))); rintro e w' ⟨rfl, rfl⟩)
  go_ret3
  exact ⟨rfl, Below.refl _ _⟩

set_option maxRecDepth 100000 in
set_option maxHeartbeats 4000000 in
theorem of_6_l2 (w : World) {o : Col} {c : Nat} (ao : Option Addr) (cap : Nat) (x y : Int) (h : Ints w o c (.slice ao 2 cap) [x, y]) : Calls Try.prog 22 #[.int .u8 6, .slice ao 2 cap] w (OfNo w 61) := by
  obtain ⟨b, off, rfl, -, hcap, -, -, hc⟩ := h.at (by simp)
  have c0 := hc 0 (by simp)
  have c1 := hc 1 (by simp)
  simp at c0 c1
  clear hc h
  have hcase : (x < 1 ∨ 16 < x) ∨ ((1 ≤ x ∧ x ≤ 16) ∧ (y < 1 ∨ 64 < y)) ∨ ((1 ≤ x ∧ x ≤ 16) ∧ (1 ≤ y ∧ y ≤ 64) ∧ 0 ≤ x * y ∧ x * y ≤ 64) ∨ ((1 ≤ x ∧ x ≤ 16) ∧ (1 ≤ y ∧ y ≤ 64) ∧ 64 < x * y ∧ x * y ≤ 1024) := pair_cases x y
  rcases hcase with hx | ⟨hx, hy⟩ | ⟨hx, hy, hz, hz2⟩ | ⟨hx, hy, hz, hz2⟩
  all_goals
    go_enter Try.func22, Try.ntmps22
    go_wp2_with (go_at_call 63; (first | ((with_reducible refine (within_yes _ _ _ ?_ ?_).mono ?_); (focus omega); (focus omega)) | ((with_reducible refine (within_no _ _ _ ?_).mono ?_); (focus omega))); rintro e w' ⟨rfl, rfl⟩)
    go_ret3
    exact ⟨rfl, Below.refl _ _⟩

set_option maxRecDepth 100000 in
set_option maxHeartbeats 4000000 in
theorem of_6_l3 (w : World) {o : Col} {c : Nat} (ao : Option Addr) (cap : Nat) (l : List Int) (k : Nat) (hk : l.length = k + 3) (hm : k ≤ 17600000000000) (h : Ints w o c (.slice ao (k + 3) cap) l) : Calls Try.prog 22 #[.int .u8 6, .slice ao (k + 3) cap] w (OfNo w 61) := by
  obtain ⟨b, off, rfl, -, hcap, -, -, hc⟩ := h.at (by omega)
  have c0 := hc 0 (by omega)
  have c1 := hc 1 (by omega)
  generalize l[0]?.getD 0 = x at c0
  generalize l[1]?.getD 0 = y at c1
  have hkk : (k : Int) ≤ 17600000000000 := by omega
  rw [Nat.add_zero] at c0
  clear hc h hk
  go_enter Try.func22, Try.ntmps22
  go_wp2_with (go_at_call 63; (first | ((with_reducible refine (within_yes _ _ _ ?_ ?_).mono ?_); (focus omega); (focus omega)) | ((with_reducible refine (within_no _ _ _ ?_).mono ?_); (focus omega))); rintro e w' ⟨rfl, rfl⟩)
  go_ret3
  exact ⟨rfl, Below.refl _ _⟩

set_option maxRecDepth 100000 in
set_option maxHeartbeats 4000000 in
theorem of_7_l0 (w : World) (ao : Option Addr) (cap : Nat) : Calls Try.prog 22 #[.int .u8 7, .slice ao 0 cap] w (OfOk w 7 []) := by
  go_enter Try.func22, Try.ntmps22
  go_wp2_with (go_at_call 63; (first | ((with_reducible refine (within_yes _ _ _ ?_ ?_).mono ?_); (focus omega); (focus omega)) | ((with_reducible refine (within_no _ _ _ ?_).mono ?_); (focus omega))); rintro e w' ⟨rfl, rfl⟩)
  refine (ports_any _ _ _ _ [1, 1] (ints_box _ [1, 1] (by simp))  (by simp)).mono ?_
  rintro e w1 ⟨g1, c1, rfl, ho1, hb1⟩
  go_wp2_with fail
  refine (ports_any _ _ _ _ [1] (ints_box _ [1] (by simp))  (by simp)).mono ?_
  rintro e w2 ⟨g2, c2, rfl, ho2, hb2⟩
  go_wp2
  go_ret3
  exact ⟨_, _, rfl, by simpa [insP, outsP, hd, hd1] using of_fin (by first | exact Below.refl _ _ | exact (Below.refl _ _).alloc (Nat.le_refl _) _) ho1 hb1 (by first | exact Below.refl _ _ | exact (Below.refl _ _).alloc (Nat.le_refl _) _) ho2 hb2⟩

set_option maxRecDepth 100000 in
set_option maxHeartbeats 4000000 in
theorem of_7_l1 (w : World) {o : Col} {c : Nat} (ao : Option Addr) (cap : Nat) (x : Int) (h : Ints w o c (.slice ao 1 cap) [x]) : Calls Try.prog 22 #[.int .u8 7, .slice ao 1 cap] w (OfNo w 61) := by
  obtain ⟨b, off, rfl, -, hcap, -, -, hc⟩ := h.at (by simp)
  have c0 := hc 0 (by simp)
  simp at c0
  clear hc h
  go_enter Try.func22, Try.ntmps22
  go_wp2_with (go_at_call 63; (first | ((with_reducible refine (within_yes _ _ _ ?_ ?_).mono ?_); (focus omega); (focus omega)) | ((with_reducible refine (within_no _ _ _ ?_).mono ?_); (focus omega))); rintro e w' ⟨rfl, rfl⟩)
  go_ret3
  exact ⟨rfl, Below.refl _ _⟩

set_option maxRecDepth 100000 in
set_option maxHeartbeats 4000000 in
theorem of_7_l2 (w : World) {o : Col} {c : Nat} (ao : Option Addr) (cap : Nat) (x y : Int) (h : Ints w o c (.slice ao 2 cap) [x, y]) : Calls Try.prog 22 #[.int .u8 7, .slice ao 2 cap] w (OfNo w 61) := by
  obtain ⟨b, off, rfl, -, hcap, -, -, hc⟩ := h.at (by simp)
  have c0 := hc 0 (by simp)
  have c1 := hc 1 (by simp)
  simp at c0 c1
  clear hc h
  have hcase : (x < 1 ∨ 16 < x) ∨ ((1 ≤ x ∧ x ≤ 16) ∧ (y < 1 ∨ 64 < y)) ∨ ((1 ≤ x ∧ x ≤ 16) ∧ (1 ≤ y ∧ y ≤ 64) ∧ 0 ≤ x * y ∧ x * y ≤ 64) ∨ ((1 ≤ x ∧ x ≤ 16) ∧ (1 ≤ y ∧ y ≤ 64) ∧ 64 < x * y ∧ x * y ≤ 1024) := pair_cases x y
  rcases hcase with hx | ⟨hx, hy⟩ | ⟨hx, hy, hz, hz2⟩ | ⟨hx, hy, hz, hz2⟩
  all_goals
    go_enter Try.func22, Try.ntmps22
    go_wp2_with (go_at_call 63; (first | ((with_reducible refine (within_yes _ _ _ ?_ ?_).mono ?_); (focus omega); (focus omega)) | ((with_reducible refine (within_no _ _ _ ?_).mono ?_); (focus omega))); rintro e w' ⟨rfl, rfl⟩)
    go_ret3
    exact ⟨rfl, Below.refl _ _⟩

set_option maxRecDepth 100000 in
set_option maxHeartbeats 4000000 in
theorem of_7_l3 (w : World) {o : Col} {c : Nat} (ao : Option Addr) (cap : Nat) (l : List Int) (k : Nat) (hk : l.length = k + 3) (hm : k ≤ 17600000000000) (h : Ints w o c (.slice ao (k + 3) cap) l) : Calls Try.prog 22 #[.int .u8 7, .slice ao (k + 3) cap] w (OfNo w 61) := by
  obtain ⟨b, off, rfl, -, hcap, -, -, hc⟩ := h.at (by omega)
  have c0 := hc 0 (by omega)
  have c1 := hc 1 (by omega)
  generalize l[0]?.getD 0 = x at c0
  generalize l[1]?.getD 0 = y at c1
  have hkk : (k : Int) ≤ 17600000000000 := by omega
  rw [Nat.add_zero] at c0
  clear hc h hk
  go_enter Try.func22, Try.ntmps22
  go_wp2_with (go_at_call 63; (first | ((with_reducible refine (within_yes _ _ _ ?_ ?_).mono ?_); (focus omega); (focus omega)) | ((with_reducible refine (within_no _ _ _ ?_).mono ?_); (focus omega))); rintro e w' ⟨rfl, rfl⟩)
  go_ret3
  exact ⟨rfl, Below.refl _ _⟩

set_option maxRecDepth 100000 in
set_option maxHeartbeats 4000000 in
theorem of_8_l0 (w : World) (ao : Option Addr) (cap : Nat) : Calls Try.prog 22 #[.int .u8 8, .slice ao 0 cap] w (OfOk w 8 []) := by
  go_enter Try.func22, Try.ntmps22
  go_wp2_with (go_at_call 63; (first | ((with_reducible refine (within_yes _ _ _ ?_ ?_).mono ?_); (focus omega); (focus omega)) | ((with_reducible refine (within_no _ _ _ ?_).mono ?_); (focus omega))); rintro e w' ⟨rfl, rfl⟩)
  refine (ports_any _ _ _ _ [1] (ints_box _ [1] (by simp))  (by simp)).mono ?_
  rintro e w1 ⟨g1, c1, rfl, ho1, hb1⟩
  go_wp2_with fail
  refine (ports_any _ _ _ _ [1] (ints_box _ [1] (by simp))  (by simp)).mono ?_
  rintro e w2 ⟨g2, c2, rfl, ho2, hb2⟩
  go_wp2
  go_ret3
  exact ⟨_, _, rfl, by simpa [insP, outsP, hd, hd1] using of_fin (by first | exact Below.refl _ _ | exact (Below.refl _ _).alloc (Nat.le_refl _) _) ho1 hb1 (by first | exact Below.refl _ _ | exact (Below.refl _ _).alloc (Nat.le_refl _) _) ho2 hb2⟩

set_option maxRecDepth 100000 in
set_option maxHeartbeats 4000000 in
theorem of_8_l1 (w : World) {o : Col} {c : Nat} (ao : Option Addr) (cap : Nat) (x : Int) (h : Ints w o c (.slice ao 1 cap) [x]) : Calls Try.prog 22 #[.int .u8 8, .slice ao 1 cap] w (OfNo w 61) := by
  obtain ⟨b, off, rfl, -, hcap, -, -, hc⟩ := h.at (by simp)
  have c0 := hc 0 (by simp)
  simp at c0
  clear hc h
  go_enter Try.func22, Try.ntmps22
  go_wp2_with (go_at_call 63; (first | ((with_reducible refine (within_yes _ _ _ ?_ ?_).mono ?_); (focus omega); (focus omega)) | ((with_reducible refine (within_no _ _ _ ?_).mono ?_); (focus omega))); rintro e w' ⟨rfl, rfl⟩)
  go_ret3
  exact ⟨rfl, Below.refl _ _⟩

set_option maxRecDepth 100000 in
set_option maxHeartbeats 4000000 in
theorem of_8_l2 (w : World) {o : Col} {c : Nat} (ao : Option Addr) (cap : Nat) (x y : Int) (h : Ints w o c (.slice ao 2 cap) [x, y]) : Calls Try.prog 22 #[.int .u8 8, .slice ao 2 cap] w (OfNo w 61) := by
  obtain ⟨b, off, rfl, -, hcap, -, -, hc⟩ := h.at (by simp)
  have c0 := hc 0 (by simp)
  have c1 := hc 1 (by simp)
  simp at c0 c1
  clear hc h
  have hcase : (x < 1 ∨ 16 < x) ∨ ((1 ≤ x ∧ x ≤ 16) ∧ (y < 1 ∨ 64 < y)) ∨ ((1 ≤ x ∧ x ≤ 16) ∧ (1 ≤ y ∧ y ≤ 64) ∧ 0 ≤ x * y ∧ x * y ≤ 64) ∨ ((1 ≤ x ∧ x ≤ 16) ∧ (1 ≤ y ∧ y ≤ 64) ∧ 64 < x * y ∧ x * y ≤ 1024) := pair_cases x y
  rcases hcase with hx | ⟨hx, hy⟩ | ⟨hx, hy, hz, hz2⟩ | ⟨hx, hy, hz, hz2⟩
  all_goals
    go_enter Try.func22, Try.ntmps22
    go_wp2_with (go_at_call 63; (first | ((with_reducible refine (within_yes _ _ _ ?_ ?_).mono ?_); (focus omega); (focus omega)) | ((with_reducible refine (within_no _ _ _ ?_).mono ?_); (focus omega))); rintro e w' ⟨rfl, rfl⟩)
    go_ret3
    exact ⟨rfl, Below.refl _ _⟩

set_option maxRecDepth 100000 in
set_option maxHeartbeats 4000000 in
theorem of_8_l3 (w : World) {o : Col} {c : Nat} (ao : Option Addr) (cap : Nat) (l : List Int) (k : Nat) (hk : l.length = k + 3) (hm : k ≤ 17600000000000) (h : Ints w o c (.slice ao (k + 3) cap) l) : Calls Try.prog 22 #[.int .u8 8, .slice ao (k + 3) cap] w (OfNo w 61) := by
  obtain ⟨b, off, rfl, -, hcap, -, -, hc⟩ := h.at (by omega)
  have c0 := hc 0 (by omega)
  have c1 := hc 1 (by omega)
  generalize l[0]?.getD 0 = x at c0
  generalize l[1]?.getD 0 = y at c1
  have hkk : (k : Int) ≤ 17600000000000 := by omega
  rw [Nat.add_zero] at c0
  clear hc h hk
  go_enter Try.func22, Try.ntmps22
  go_wp2_with (go_at_call 63; (first | ((with_reducible refine (within_yes _ _ _ ?_ ?_).mono ?_); (focus omega); (focus omega)) | ((with_reducible refine (within_no _ _ _ ?_).mono ?_); (focus omega))); rintro e w' ⟨rfl, rfl⟩)
  go_ret3
  exact ⟨rfl, Below.refl _ _⟩

set_option maxRecDepth 100000 in
set_option maxHeartbeats 4000000 in
theorem of_9_l0 (w : World) (ao : Option Addr) (cap : Nat) : Calls Try.prog 22 #[.int .u8 9, .slice ao 0 cap] w (OfNo w 61) := by
  go_enter Try.func22, Try.ntmps22
  go_wp2_with (go_at_call 63; (first | ((with_reducible refine (within_yes _ _ _ ?_ ?_).mono ?_); (focus omega); (focus omega)) | ((with_reducible refine (within_no _ _ _ ?_).mono ?_); (focus omega))); rintro e w' ⟨rfl, rfl⟩)
  go_ret3
  exact ⟨rfl, Below.refl _ _⟩

set_option maxRecDepth 100000 in
set_option maxHeartbeats 4000000 in
theorem of_9_l1y (w : World) {o : Col} {c : Nat} (ao : Option Addr) (cap : Nat) (n : Nat) (h1 : 1 ≤ n) (h2 : n ≤ 16) (h : Ints w o c (.slice ao 1 cap) [(n : Int)]) : Calls Try.prog 22 #[.int .u8 9, .slice ao 1 cap] w (OfOk w 9 [(n : Int)]) := by
  obtain ⟨b, off, rfl, -, hcap, -, -, hc⟩ := h.at (by simp)
  have c0 := hc 0 (by simp)
  simp at c0
  clear hc h
  have h1i : (1 : Int) ≤ n := by omega
  have h2i : (n : Int) ≤ 16 := by omega
  go_enter Try.func22, Try.ntmps22
  go_wp2_with (go_at_call 63; (first | ((with_reducible refine (within_yes _ _ _ ?_ ?_).mono ?_); (focus omega); (focus omega)) | ((with_reducible refine (within_no _ _ _ ?_).mono ?_); (focus omega))); rintro e w' ⟨rfl, rfl⟩)
  refine (ports_any _ _ _ _ [1] (ints_box _ [1] (by simp))  (by simp)).mono ?_
  rintro e w1 ⟨g1, c1, rfl, ho1, hb1⟩
  go_wp2_with fail
  refine (same_any _ n 1 (by omega)).mono ?_
  rintro e w2 ⟨g2, c2, rfl, ho2, hb2⟩
  go_wp2
  go_ret3
  exact ⟨_, _, rfl, by simpa [insP, outsP, hd, hd1] using of_fin (by first | exact Below.refl _ _ | exact (Below.refl _ _).alloc (Nat.le_refl _) _) ho1 hb1 (by first | exact Below.refl _ _ | exact (Below.refl _ _).alloc (Nat.le_refl _) _) ho2 hb2⟩

set_option maxRecDepth 100000 in
set_option maxHeartbeats 4000000 in
theorem of_9_l1n (w : World) {o : Col} {c : Nat} (ao : Option Addr) (cap : Nat) (x : Int) (h1 : x < 1 ∨ 16 < x) (h : Ints w o c (.slice ao 1 cap) [x]) : Calls Try.prog 22 #[.int .u8 9, .slice ao 1 cap] w (OfNo w 61) := by
  obtain ⟨b, off, rfl, -, hcap, -, -, hc⟩ := h.at (by simp)
  have c0 := hc 0 (by simp)
  simp at c0
  clear hc h
  go_enter Try.func22, Try.ntmps22
  go_wp2_with (go_at_call 63; (first | ((with_reducible refine (within_yes _ _ _ ?_ ?_).mono ?_); (focus omega); (focus omega)) | ((with_reducible refine (within_no _ _ _ ?_).mono ?_); (focus omega))); rintro e w' ⟨rfl, rfl⟩)
  go_ret3
  exact ⟨rfl, Below.refl _ _⟩

set_option maxRecDepth 100000 in
set_option maxHeartbeats 4000000 in
theorem of_9_l2 (w : World) {o : Col} {c : Nat} (ao : Option Addr) (cap : Nat) (x y : Int) (h : Ints w o c (.slice ao 2 cap) [x, y]) : Calls Try.prog 22 #[.int .u8 9, .slice ao 2 cap] w (OfNo w 61) := by
  obtain ⟨b, off, rfl, -, hcap, -, -, hc⟩ := h.at (by simp)
  have c0 := hc 0 (by simp)
  have c1 := hc 1 (by simp)
  simp at c0 c1
  clear hc h
  have hcase : (x < 1 ∨ 16 < x) ∨ ((1 ≤ x ∧ x ≤ 16) ∧ (y < 1 ∨ 64 < y)) ∨ ((1 ≤ x ∧ x ≤ 16) ∧ (1 ≤ y ∧ y ≤ 64) ∧ 0 ≤ x * y ∧ x * y ≤ 64) ∨ ((1 ≤ x ∧ x ≤ 16) ∧ (1 ≤ y ∧ y ≤ 64) ∧ 64 < x * y ∧ x * y ≤ 1024) := pair_cases x y
  rcases hcase with hx | ⟨hx, hy⟩ | ⟨hx, hy, hz, hz2⟩ | ⟨hx, hy, hz, hz2⟩
  all_goals
    go_enter Try.func22, Try.ntmps22
    go_wp2_with (go_at_call 63; (first | ((with_reducible refine (within_yes _ _ _ ?_ ?_).mono ?_); (focus omega); (focus omega)) | ((with_reducible refine (within_no _ _ _ ?_).mono ?_); (focus omega))); rintro e w' ⟨rfl, rfl⟩)
    go_ret3
    exact ⟨rfl, Below.refl _ _⟩

set_option maxRecDepth 100000 in
set_option maxHeartbeats 4000000 in
theorem of_9_l3 (w : World) {o : Col} {c : Nat} (ao : Option Addr) (cap : Nat) (l : List Int) (k : Nat) (hk : l.length = k + 3) (hm : k ≤ 17600000000000) (h : Ints w o c (.slice ao (k + 3) cap) l) : Calls Try.prog 22 #[.int .u8 9, .slice ao (k + 3) cap] w (OfNo w 61) := by
  obtain ⟨b, off, rfl, -, hcap, -, -, hc⟩ := h.at (by omega)
  have c0 := hc 0 (by omega)
  have c1 := hc 1 (by omega)
  generalize l[0]?.getD 0 = x at c0
  generalize l[1]?.getD 0 = y at c1
  have hkk : (k : Int) ≤ 17600000000000 := by omega
  rw [Nat.add_zero] at c0
  clear hc h hk
  go_enter Try.func22, Try.ntmps22
  go_wp2_with (go_at_call 63; (first | ((with_reducible refine (within_yes _ _ _ ?_ ?_).mono ?_); (focus omega); (focus omega)) | ((with_reducible refine (within_no _ _ _ ?_).mono ?_); (focus omega))); rintro e w' ⟨rfl, rfl⟩)
  go_ret3
  exact ⟨rfl, Below.refl _ _⟩

set_option maxRecDepth 100000 in
set_option maxHeartbeats 4000000 in
theorem of_10_l0 (w : World) (ao : Option Addr) (cap : Nat) : Calls Try.prog 22 #[.int .u8 10, .slice ao 0 cap] w (OfNo w 61) := by
  go_enter Try.func22, Try.ntmps22
  go_wp2_with (go_at_call 63; (first | ((with_reducible refine (within_yes _ _ _ ?_ ?_).mono ?_); (focus omega); (focus omega)) | ((with_reducible refine (within_no _ _ _ ?_).mono ?_); (focus omega))); rintro e w' ⟨rfl, rfl⟩)
  go_ret3
  exact ⟨rfl, Below.refl _ _⟩

set_option maxRecDepth 100000 in
set_option maxHeartbeats 4000000 in
theorem of_10_l1 (w : World) {o : Col} {c : Nat} (ao : Option Addr) (cap : Nat) (x : Int) (h : Ints w o c (.slice ao 1 cap) [x]) : Calls Try.prog 22 #[.int .u8 10, .slice ao 1 cap] w (OfNo w 61) := by
  obtain ⟨b, off, rfl, -, hcap, -, -, hc⟩ := h.at (by simp)
  have c0 := hc 0 (by simp)
  simp at c0
  clear hc h
  go_enter Try.func22, Try.ntmps22
  go_wp2_with (go_at_call 63; (first | ((with_reducible refine (within_yes _ _ _ ?_ ?_).mono ?_); (focus omega); (focus omega)) | ((with_reducible refine (within_no _ _ _ ?_).mono ?_); (focus omega))); rintro e w' ⟨rfl, rfl⟩)
  go_ret3
  exact ⟨rfl, Below.refl _ _⟩

set_option maxRecDepth 100000 in
set_option maxHeartbeats 4000000 in
theorem of_10_l2 (w : World) {o : Col} {c : Nat} (ao : Option Addr) (cap : Nat) (x y : Int) (h : Ints w o c (.slice ao 2 cap) [x, y]) : Calls Try.prog 22 #[.int .u8 10, .slice ao 2 cap] w (OfOk w 10 [x, y]) := by
  obtain ⟨b, off, rfl, -, hcap, -, -, hc⟩ := h.at (by simp)
  have c0 := hc 0 (by simp)
  have c1 := hc 1 (by simp)
  simp at c0 c1
  clear hc h
  have hcase : (x < 1 ∨ 16 < x) ∨ ((1 ≤ x ∧ x ≤ 16) ∧ (y < 1 ∨ 64 < y)) ∨ ((1 ≤ x ∧ x ≤ 16) ∧ (1 ≤ y ∧ y ≤ 64) ∧ 0 ≤ x * y ∧ x * y ≤ 64) ∨ ((1 ≤ x ∧ x ≤ 16) ∧ (1 ≤ y ∧ y ≤ 64) ∧ 64 < x * y ∧ x * y ≤ 1024) := pair_cases x y
  rcases hcase with hx | ⟨hx, hy⟩ | ⟨hx, hy, hz, hz2⟩ | ⟨hx, hy, hz, hz2⟩
  all_goals
    go_enter Try.func22, Try.ntmps22
    go_wp2_with (go_at_call 63; (first | ((with_reducible refine (within_yes _ _ _ ?_ ?_).mono ?_); (focus omega); (focus omega)) | ((with_reducible refine (within_no _ _ _ ?_).mono ?_); (focus omega))); rintro e w' ⟨rfl, rfl⟩)
    refine (ports_any _ _ _ _ [1] (ints_box _ [1] (by simp))  (by simp)).mono ?_
    rintro e w1 ⟨g1, c1, rfl, ho1, hb1⟩
    go_wp2
    go_ret3
    exact ⟨_, _, rfl, World.ownsRow_nil _ _ _ _, by simpa [insP, outsP, hd, hd1] using of_fin1 (by first | exact Below.refl _ _ | exact (Below.refl _ _).alloc (Nat.le_refl _) _) ho1 hb1⟩

set_option maxRecDepth 100000 in
set_option maxHeartbeats 4000000 in
theorem of_10_l3 (w : World) {o : Col} {c : Nat} (ao : Option Addr) (cap : Nat) (l : List Int) (k : Nat) (hk : l.length = k + 3) (hm : k ≤ 17600000000000) (h : Ints w o c (.slice ao (k + 3) cap) l) : Calls Try.prog 22 #[.int .u8 10, .slice ao (k + 3) cap] w (OfNo w 61) := by
  obtain ⟨b, off, rfl, -, hcap, -, -, hc⟩ := h.at (by omega)
  have c0 := hc 0 (by omega)
  have c1 := hc 1 (by omega)
  generalize l[0]?.getD 0 = x at c0
  generalize l[1]?.getD 0 = y at c1
  have hkk : (k : Int) ≤ 17600000000000 := by omega
  rw [Nat.add_zero] at c0
  clear hc h hk
  go_enter Try.func22, Try.ntmps22
  go_wp2_with (go_at_call 63; (first | ((with_reducible refine (within_yes _ _ _ ?_ ?_).mono ?_); (focus omega); (focus omega)) | ((with_reducible refine (within_no _ _ _ ?_).mono ?_); (focus omega))); rintro e w' ⟨rfl, rfl⟩)
  go_ret3
  exact ⟨rfl, Below.refl _ _⟩

set_option maxRecDepth 100000 in
set_option maxHeartbeats 4000000 in
theorem of_11_l0 (w : World) (ao : Option Addr) (cap : Nat) : Calls Try.prog 22 #[.int .u8 11, .slice ao 0 cap] w (OfNo w 61) := by
  go_enter Try.func22, Try.ntmps22
  go_wp2_with (go_at_call 63; (first | ((with_reducible refine (within_yes _ _ _ ?_ ?_).mono ?_); (focus omega); (focus omega)) | ((with_reducible refine (within_no _ _ _ ?_).mono ?_); (focus omega))); rintro e w' ⟨rfl, rfl⟩)
  go_ret3
  exact ⟨rfl, Below.refl _ _⟩

set_option maxRecDepth 100000 in
set_option maxHeartbeats 4000000 in
theorem of_11_l1y (w : World) {o : Col} {c : Nat} (ao : Option Addr) (cap : Nat) (x : Int) (h1 : 1 ≤ x) (h2 : x ≤ 64) (h : Ints w o c (.slice ao 1 cap) [x]) : Calls Try.prog 22 #[.int .u8 11, .slice ao 1 cap] w (OfOk w 11 [x]) := by
  obtain ⟨b, off, rfl, -, hcap, -, -, hc⟩ := h.at (by simp)
  have c0 := hc 0 (by simp)
  simp at c0
  clear hc h
  go_enter Try.func22, Try.ntmps22
  go_wp2_with (go_at_call 63; (first | ((with_reducible refine (within_yes _ _ _ ?_ ?_).mono ?_); (focus omega); (focus omega)) | ((with_reducible refine (within_no _ _ _ ?_).mono ?_); (focus omega))); rintro e w' ⟨rfl, rfl⟩)
  refine (ports_any _ _ _ _ [x] (ints_box _ [x] (by simp))  (by simp)).mono ?_
  rintro e w1 ⟨g1, c1, rfl, ho1, hb1⟩
  go_wp2
  go_ret3
  have hf := of_fin1 (w := w) (by first | exact Below.refl _ _ | exact (Below.refl _ _).alloc (Nat.le_refl _) _) ho1 hb1
  exact ⟨_, _, rfl, by simpa [insP, outsP, hd, hd1] using hf.1, World.ownsRow_nil _ _ _ _, hf.2⟩

set_option maxRecDepth 100000 in
set_option maxHeartbeats 4000000 in
theorem of_11_l1n (w : World) {o : Col} {c : Nat} (ao : Option Addr) (cap : Nat) (x : Int) (h1 : x < 1 ∨ 64 < x) (h : Ints w o c (.slice ao 1 cap) [x]) : Calls Try.prog 22 #[.int .u8 11, .slice ao 1 cap] w (OfNo w 61) := by
  obtain ⟨b, off, rfl, -, hcap, -, -, hc⟩ := h.at (by simp)
  have c0 := hc 0 (by simp)
  simp at c0
  clear hc h
  go_enter Try.func22, Try.ntmps22
  go_wp2_with (go_at_call 63; (first | ((with_reducible refine (within_yes _ _ _ ?_ ?_).mono ?_); (focus omega); (focus omega)) | ((with_reducible refine (within_no _ _ _ ?_).mono ?_); (focus omega))); rintro e w' ⟨rfl, rfl⟩)
  go_ret3
  exact ⟨rfl, Below.refl _ _⟩

set_option maxRecDepth 100000 in
set_option maxHeartbeats 4000000 in
theorem of_11_l2 (w : World) {o : Col} {c : Nat} (ao : Option Addr) (cap : Nat) (x y : Int) (h : Ints w o c (.slice ao 2 cap) [x, y]) : Calls Try.prog 22 #[.int .u8 11, .slice ao 2 cap] w (OfNo w 61) := by
  obtain ⟨b, off, rfl, -, hcap, -, -, hc⟩ := h.at (by simp)
  have c0 := hc 0 (by simp)
  have c1 := hc 1 (by simp)
  simp at c0 c1
  clear hc h
  have hcase : (x < 1 ∨ 16 < x) ∨ ((1 ≤ x ∧ x ≤ 16) ∧ (y < 1 ∨ 64 < y)) ∨ ((1 ≤ x ∧ x ≤ 16) ∧ (1 ≤ y ∧ y ≤ 64) ∧ 0 ≤ x * y ∧ x * y ≤ 64) ∨ ((1 ≤ x ∧ x ≤ 16) ∧ (1 ≤ y ∧ y ≤ 64) ∧ 64 < x * y ∧ x * y ≤ 1024) := pair_cases x y
  rcases hcase with hx | ⟨hx, hy⟩ | ⟨hx, hy, hz, hz2⟩ | ⟨hx, hy, hz, hz2⟩
  all_goals
    go_enter Try.func22, Try.ntmps22
    go_wp2_with (go_at_call 63; (first | ((with_reducible refine (within_yes _ _ _ ?_ ?_).mono ?_); (focus omega); (focus omega)) | ((with_reducible refine (within_no _ _ _ ?_).mono ?_); (focus omega))); rintro e w' ⟨rfl, rfl⟩)
    go_ret3
    exact ⟨rfl, Below.refl _ _⟩

set_option maxRecDepth 100000 in
set_option maxHeartbeats 4000000 in
theorem of_11_l3 (w : World) {o : Col} {c : Nat} (ao : Option Addr) (cap : Nat) (l : List Int) (k : Nat) (hk : l.length = k + 3) (hm : k ≤ 17600000000000) (h : Ints w o c (.slice ao (k + 3) cap) l) : Calls Try.prog 22 #[.int .u8 11, .slice ao (k + 3) cap] w (OfNo w 61) := by
  obtain ⟨b, off, rfl, -, hcap, -, -, hc⟩ := h.at (by omega)
  have c0 := hc 0 (by omega)
  have c1 := hc 1 (by omega)
  generalize l[0]?.getD 0 = x at c0
  generalize l[1]?.getD 0 = y at c1
  have hkk : (k : Int) ≤ 17600000000000 := by omega
  rw [Nat.add_zero] at c0
  clear hc h hk
  go_enter Try.func22, Try.ntmps22
  go_wp2_with (go_at_call 63; (first | ((with_reducible refine (within_yes _ _ _ ?_ ?_).mono ?_); (focus omega); (focus omega)) | ((with_reducible refine (within_no _ _ _ ?_).mono ?_); (focus omega))); rintro e w' ⟨rfl, rfl⟩)
  go_ret3
  exact ⟨rfl, Below.refl _ _⟩

end Go.Proofs.Ytbmbfifempkhgaa