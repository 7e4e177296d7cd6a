/- The shape of an actor: its rates. -/
import Derived.Test.YtaholpfikcdhbaaGreatDynRoomZ1
import Derived.Shelf.Bits.Mul64
namespace Go.Proofs.YtaholpfikcdhbaaGreat
open Go.RowKit
theorem within_yes (w : World) (n m : Int) (h1 : 1 ≤ n) (h2 : n ≤ m) : Calls Tryz.prog 75 #[.int .i64 n, .int .i64 m] w fun e w' => e = .returned (.bool true) ∧ w = w' := by
 have := within_any w n m
 rwa [decide_eq_true (And.intro h1 h2)] at this
theorem within_no (w : World) (n m : Int) (h : n < 1 ∨ m < n) : Calls Tryz.prog 75 #[.int .i64 n, .int .i64 m] w fun e w' => e = .returned (.bool false) ∧ w = w' := by
 have := within_any w n m
 rwa [decide_eq_false (by omega)] at this
theorem ints_box (w : World) (vs : List Int) (hp : 0 < vs.length) : Ints (w.alloc (.cells (ivs vs).toArray 3)) (fun _ => 0) 0 (.slice (some ⟨w.heap.size, 0, none⟩) vs.length vs.length) vs := by
 have h := heap_alloc_new w (.cells (ivs vs).toArray 3)
 refine .inr ⟨by simpa using hp, w.heap.size, 0, vs.length, by simp, by simp, by simp, rfl, fun k hk => ?_⟩
 rw [Nat.zero_add]
 refine cells_row _ _ h k _ ?_
 rw [List.getElem?_toArray]
 simp at hk
 simp [hk]
def OfOk (w : World) (t : Int) (ps : List Int) (e : Ending) (w' : World) : Prop :=
 ∃ vi vo, e = .returned (.tuple #[vi, vo, .int .i64 0]) ∧ w'.ownsRow w.heap.size 3 1 vi (insP t ps).length (ivs (insP t ps)) ∧ w'.ownsRow w.heap.size 3 1 vo (outsP t ps).length (ivs (outsP t ps)) ∧ Below w.heap.size w w'
def OfNo (w : World) (x : Int) (e : Ending) (w' : World) : Prop := e = .returned (.tuple #[.slice none 0 0, .slice none 0 0, .int .i64 x]) ∧ Below w.heap.size w w'
theorem of_fin {w W0 w1 W1 w2 : World} {v1 v2 : Value} {n1 n2 : Nat} {l1 l2 : List Value} (h0 : Below w.heap.size w W0) (ho1 : w1.ownsRow W0.heap.size 3 1 v1 n1 l1) (hb1 : Below W0.heap.size W0 w1) (h1 : Below w1.heap.size w1 W1) (ho2 : w2.ownsRow W1.heap.size 3 1 v2 n2 l2) (hb2 : Below W1.heap.size W1 w2) :
  w2.ownsRow w.heap.size 3 1 v1 n1 l1 ∧ w2.ownsRow w.heap.size 3 1 v2 n2 l2 ∧ Below w.heap.size w w2 := by
 have s0 := h0.size
 have s1 := hb1.size
 have s2 := h1.size
 have b2 : Below w1.heap.size w1 w2 := h1.trans (hb2.mono s2)
 exact ⟨owns_base (owns_kept ho1 (Mods.of_below b2 (fun _ => False)) (fun _ _ h => h)) (fun k hk => by have := (ho1.lt k hk).1; omega), owns_base ho2 (fun k hk => by have := (ho2.lt k hk).1; omega), h0.trans ((hb1.mono s0).trans (b2.mono (by omega)))⟩
theorem of_fin1 {w W0 w1 : World} {v1 : Value} {n1 : Nat} {l1 : List Value} (h0 : Below w.heap.size w W0) (ho1 : w1.ownsRow W0.heap.size 3 1 v1 n1 l1) (hb1 : Below W0.heap.size W0 w1) :
  w1.ownsRow w.heap.size 3 1 v1 n1 l1 ∧ Below w.heap.size w w1 := by
 have s0 := h0.size
 exact ⟨owns_base ho1 (fun k hk => by have := (ho1.lt k hk).1; omega), h0.trans (hb1.mono s0)⟩
set_option maxRecDepth 100000 in
set_option maxHeartbeats 1000000 in
theorem of_tag (w : World) (t : Int) (v : Value) (h : t < 1 ∨ 11 < t) : Calls Tryz.prog 60 #[.int .u8 t, v] w (OfNo w 60) := by
 by_cases h1 : t < 1
 ·
  go_enter Tryz.func60, Tryz.ntmps60
  go_wp2
  go_ret3
  exact ⟨rfl, Below.refl _ _⟩
 ·
  have h2 : 11 < t := by omega
  go_enter Tryz.func60, Tryz.ntmps60
  go_wp2
  go_ret3
  exact ⟨rfl, Below.refl _ _⟩
theorem pair_cases (x y : Int) : (x < 1 ∨ 16 < x) ∨ ((1 ≤ x ∧ x ≤ 16) ∧ (y < 1 ∨ 64 < y)) ∨ ((1 ≤ x ∧ x ≤ 16) ∧ (1 ≤ y ∧ y ≤ 64) ∧ 0 ≤ x * y ∧ x * y ≤ 64) ∨ ((1 ≤ x ∧ x ≤ 16) ∧ (1 ≤ y ∧ y ≤ 64) ∧ 64 < x * y ∧ x * y ≤ 1024) := by
 by_cases h1 : x < 1 ∨ 16 < x
 ·
  exact .inl h1
 ·
  by_cases h2 : y < 1 ∨ 64 < y
  ·
   exact .inr (.inl ⟨by omega, h2⟩)
  ·
   have h3 : 0 ≤ x * y := Int.mul_nonneg (by omega) (by omega)
   have h4 : x * y ≤ 16 * 64 := Int.mul_le_mul (by omega) (by omega) (by omega) (by omega)
   by_cases h5 : x * y ≤ 64
   ·
    exact .inr (.inr (.inl ⟨by omega, by omega, h3, h5⟩))
   ·
    exact .inr (.inr (.inr ⟨by omega, by omega, by omega, by omega⟩))
set_option maxRecDepth 100000 in
set_option maxHeartbeats 4000000 in
theorem of_1_l0 (w : World) (ao : Option Addr) (cap : Nat) : Calls Tryz.prog 60 #[.int .u8 1, .slice ao 0 cap] w (OfNo w 61) := by
 go_enter Tryz.func60, Tryz.ntmps60
 go_wp2_with (go_at_call 75; (first | ((with_reducible refine (within_yes _ _ _ ?_ ?_).mono ?_); (focus omega); (focus omega)) | ((with_reducible refine (within_no _ _ _ ?_).mono ?_); (focus omega))); rintro e w' ⟨rfl, rfl⟩)
 go_ret3
 exact ⟨rfl, Below.refl _ _⟩
set_option maxRecDepth 100000 in
set_option maxHeartbeats 4000000 in
theorem of_1_l1 (w : World) {o : Col} {c : Nat} (ao : Option Addr) (cap : Nat) (x : Int) (h : Ints w o c (.slice ao 1 cap) [x]) : Calls Tryz.prog 60 #[.int .u8 1, .slice ao 1 cap] w (OfOk w 1 [x]) := by
 obtain ⟨b, off, rfl, -, hcap, -, -, hc⟩ := h.at (by simp)
 have c0 := hc 0 (by simp)
 simp at c0
 clear hc h
 go_enter Tryz.func60, Tryz.ntmps60
 go_wp2_with (go_at_call 75; (first | ((with_reducible refine (within_yes _ _ _ ?_ ?_).mono ?_); (focus omega); (focus omega)) | ((with_reducible refine (within_no _ _ _ ?_).mono ?_); (focus omega))); rintro e w' ⟨rfl, rfl⟩)
 refine (ports_any _ _ _ _ [1] (ints_box _ [1] (by simp))  (by simp)).mono ?_
 rintro e w1 ⟨g1, c1, rfl, ho1, hb1⟩
 go_wp2_with fail
 refine (ports_any _ _ _ _ [1] (ints_box _ [1] (by simp))  (by simp)).mono ?_
 rintro e w2 ⟨g2, c2, rfl, ho2, hb2⟩
 go_wp2
 go_ret3
 exact ⟨_, _, rfl, by simpa [insP, outsP, hd, hd1] using of_fin (by first | exact Below.refl _ _ | exact (Below.refl _ _).alloc (Nat.le_refl _) _) ho1 hb1 (by first | exact Below.refl _ _ | exact (Below.refl _ _).alloc (Nat.le_refl _) _) ho2 hb2⟩
set_option maxRecDepth 100000 in
set_option maxHeartbeats 4000000 in
theorem of_1_l2 (w : World) {o : Col} {c : Nat} (ao : Option Addr) (cap : Nat) (x y : Int) (h : Ints w o c (.slice ao 2 cap) [x, y]) : Calls Tryz.prog 60 #[.int .u8 1, .slice ao 2 cap] w (OfOk w 1 [x, y]) := by
 obtain ⟨b, off, rfl, -, hcap, -, -, hc⟩ := h.at (by simp)
 have c0 := hc 0 (by simp)
 have c1 := hc 1 (by simp)
 simp at c0 c1
 clear hc h
 have hcase : (x < 1 ∨ 16 < x) ∨ ((1 ≤ x ∧ x ≤ 16) ∧ (y < 1 ∨ 64 < y)) ∨ ((1 ≤ x ∧ x ≤ 16) ∧ (1 ≤ y ∧ y ≤ 64) ∧ 0 ≤ x * y ∧ x * y ≤ 64) ∨ ((1 ≤ x ∧ x ≤ 16) ∧ (1 ≤ y ∧ y ≤ 64) ∧ 64 < x * y ∧ x * y ≤ 1024) := pair_cases x y
 rcases hcase with hx | ⟨hx, hy⟩ | ⟨hx, hy, hz, hz2⟩ | ⟨hx, hy, hz, hz2⟩
 all_goals
  go_enter Tryz.func60, Tryz.ntmps60
  go_wp2_with (go_at_call 75; (first | ((with_reducible refine (within_yes _ _ _ ?_ ?_).mono ?_); (focus omega); (focus omega)) | ((with_reducible refine (within_no _ _ _ ?_).mono ?_); (focus omega))); rintro e w' ⟨rfl, rfl⟩)
  refine (ports_any _ _ _ _ [1] (ints_box _ [1] (by simp))  (by simp)).mono ?_
  rintro e w1 ⟨g1, c1, rfl, ho1, hb1⟩
  go_wp2_with fail
  refine (ports_any _ _ _ _ [1] (ints_box _ [1] (by simp))  (by simp)).mono ?_
  rintro e w2 ⟨g2, c2, rfl, ho2, hb2⟩
  go_wp2
  go_ret3
  exact ⟨_, _, rfl, by simpa [insP, outsP, hd, hd1] using of_fin (by first | exact Below.refl _ _ | exact (Below.refl _ _).alloc (Nat.le_refl _) _) ho1 hb1 (by first | exact Below.refl _ _ | exact (Below.refl _ _).alloc (Nat.le_refl _) _) ho2 hb2⟩
set_option maxRecDepth 100000 in
set_option maxHeartbeats 4000000 in
theorem of_1_l3y (w : World) {o : Col} {c : Nat} (ao : Option Addr) (cap : Nat) (l : List Int) (k : Nat) (hk : l.length = k + 3) (hm : k ≤ 13) (h : Ints w o c (.slice ao (k + 3) cap) l) : Calls Tryz.prog 60 #[.int .u8 1, .slice ao (k + 3) cap] w (OfOk w 1 l) := by
 obtain ⟨b, off, rfl, -, hcap, -, -, hc⟩ := h.at (by omega)
 have c0 := hc 0 (by omega)
 have c1 := hc 1 (by omega)
 generalize l[0]?.getD 0 = x at c0
 generalize l[1]?.getD 0 = y at c1
 have hkk : (k : Int) ≤ 17600000000000 := by omega
 rw [Nat.add_zero] at c0
 clear hc h hk
 go_enter Tryz.func60, Tryz.ntmps60
 go_wp2_with (go_at_call 75; (first | ((with_reducible refine (within_yes _ _ _ ?_ ?_).mono ?_); (focus omega); (focus omega)) | ((with_reducible refine (within_no _ _ _ ?_).mono ?_); (focus omega))); rintro e w' ⟨rfl, rfl⟩)
 refine (ports_any _ _ _ _ [1] (ints_box _ [1] (by simp))  (by simp)).mono ?_
 rintro e w1 ⟨g1, c1, rfl, ho1, hb1⟩
 go_wp2_with fail
 refine (ports_any _ _ _ _ [1] (ints_box _ [1] (by simp))  (by simp)).mono ?_
 rintro e w2 ⟨g2, c2, rfl, ho2, hb2⟩
 go_wp2
 go_ret3
 exact ⟨_, _, rfl, by simpa [insP, outsP, hd, hd1] using of_fin (by first | exact Below.refl _ _ | exact (Below.refl _ _).alloc (Nat.le_refl _) _) ho1 hb1 (by first | exact Below.refl _ _ | exact (Below.refl _ _).alloc (Nat.le_refl _) _) ho2 hb2⟩
set_option maxRecDepth 100000 in
set_option maxHeartbeats 4000000 in
theorem of_1_l3n (w : World) {o : Col} {c : Nat} (ao : Option Addr) (cap : Nat) (l : List Int) (k : Nat) (hk : l.length = k + 3) (hm1 : 13 < k) (hm : k ≤ 17600000000000) (h : Ints w o c (.slice ao (k + 3) cap) l) : Calls Tryz.prog 60 #[.int .u8 1, .slice ao (k + 3) cap] w (OfNo w 61) := by
 obtain ⟨b, off, rfl, -, hcap, -, -, hc⟩ := h.at (by omega)
 have c0 := hc 0 (by omega)
 have c1 := hc 1 (by omega)
 generalize l[0]?.getD 0 = x at c0
 generalize l[1]?.getD 0 = y at c1
 have hkk : (k : Int) ≤ 17600000000000 := by omega
 rw [Nat.add_zero] at c0
 clear hc h hk
 have hk1 : (13 : Int) < k := by omega
 go_enter Tryz.func60, Tryz.ntmps60
 go_wp2_with (go_at_call 75; (first | ((with_reducible refine (within_yes _ _ _ ?_ ?_).mono ?_); (focus omega); (focus omega)) | ((with_reducible refine (within_no _ _ _ ?_).mono ?_); (focus omega))); rintro e w' ⟨rfl, rfl⟩)
 go_ret3
 exact ⟨rfl, Below.refl _ _⟩
set_option maxRecDepth 100000 in
set_option maxHeartbeats 4000000 in
theorem of_2_l0 (w : World) (ao : Option Addr) (cap : Nat) : Calls Tryz.prog 60 #[.int .u8 2, .slice ao 0 cap] w (OfNo w 61) := by
 go_enter Tryz.func60, Tryz.ntmps60
 go_wp2_with (go_at_call 75; (first | ((with_reducible refine (within_yes _ _ _ ?_ ?_).mono ?_); (focus omega); (focus omega)) | ((with_reducible refine (within_no _ _ _ ?_).mono ?_); (focus omega))); rintro e w' ⟨rfl, rfl⟩)
 go_ret3
 exact ⟨rfl, Below.refl _ _⟩
set_option maxRecDepth 100000 in
set_option maxHeartbeats 4000000 in
theorem of_2_l1y (w : World) {o : Col} {c : Nat} (ao : Option Addr) (cap : Nat) (x : Int) (h1 : 1 ≤ x) (h2 : x ≤ 64) (h : Ints w o c (.slice ao 1 cap) [x]) : Calls Tryz.prog 60 #[.int .u8 2, .slice ao 1 cap] w (OfOk w 2 [x]) := by
 obtain ⟨b, off, rfl, -, hcap, -, -, hc⟩ := h.at (by simp)
 have c0 := hc 0 (by simp)
 simp at c0
 clear hc h
 go_enter Tryz.func60, Tryz.ntmps60
 go_wp2_with (go_at_call 75; (first | ((with_reducible refine (within_yes _ _ _ ?_ ?_).mono ?_); (focus omega); (focus omega)) | ((with_reducible refine (within_no _ _ _ ?_).mono ?_); (focus omega))); rintro e w' ⟨rfl, rfl⟩)
 refine (ports_any _ _ _ _ [1] (ints_box _ [1] (by simp))  (by simp)).mono ?_
 rintro e w1 ⟨g1, c1, rfl, ho1, hb1⟩
 go_wp2_with fail
 refine (ports_any _ _ _ _ [x] (ints_box _ [x] (by simp))  (by simp)).mono ?_
 rintro e w2 ⟨g2, c2, rfl, ho2, hb2⟩
 go_wp2
 go_ret3
 exact ⟨_, _, rfl, by simpa [insP, outsP, hd, hd1] using of_fin (by first | exact Below.refl _ _ | exact (Below.refl _ _).alloc (Nat.le_refl _) _) ho1 hb1 (by first | exact Below.refl _ _ | exact (Below.refl _ _).alloc (Nat.le_refl _) _) ho2 hb2⟩
set_option maxRecDepth 100000 in
set_option maxHeartbeats 4000000 in
theorem of_2_l1n (w : World) {o : Col} {c : Nat} (ao : Option Addr) (cap : Nat) (x : Int) (h1 : x < 1 ∨ 64 < x) (h : Ints w o c (.slice ao 1 cap) [x]) : Calls Tryz.prog 60 #[.int .u8 2, .slice ao 1 cap] w (OfNo w 61) := by
 obtain ⟨b, off, rfl, -, hcap, -, -, hc⟩ := h.at (by simp)
 have c0 := hc 0 (by simp)
 simp at c0
 clear hc h
 go_enter Tryz.func60, Tryz.ntmps60
 go_wp2_with (go_at_call 75; (first | ((with_reducible refine (within_yes _ _ _ ?_ ?_).mono ?_); (focus omega); (focus omega)) | ((with_reducible refine (within_no _ _ _ ?_).mono ?_); (focus omega))); rintro e w' ⟨rfl, rfl⟩)
 go_ret3
 exact ⟨rfl, Below.refl _ _⟩
set_option maxRecDepth 100000 in
set_option maxHeartbeats 4000000 in
theorem of_2_l2 (w : World) {o : Col} {c : Nat} (ao : Option Addr) (cap : Nat) (x y : Int) (h : Ints w o c (.slice ao 2 cap) [x, y]) : Calls Tryz.prog 60 #[.int .u8 2, .slice ao 2 cap] w (OfNo w 61) := by
 obtain ⟨b, off, rfl, -, hcap, -, -, hc⟩ := h.at (by simp)
 have c0 := hc 0 (by simp)
 have c1 := hc 1 (by simp)
 simp at c0 c1
 clear hc h
 have hcase : (x < 1 ∨ 16 < x) ∨ ((1 ≤ x ∧ x ≤ 16) ∧ (y < 1 ∨ 64 < y)) ∨ ((1 ≤ x ∧ x ≤ 16) ∧ (1 ≤ y ∧ y ≤ 64) ∧ 0 ≤ x * y ∧ x * y ≤ 64) ∨ ((1 ≤ x ∧ x ≤ 16) ∧ (1 ≤ y ∧ y ≤ 64) ∧ 64 < x * y ∧ x * y ≤ 1024) := pair_cases x y
 rcases hcase with hx | ⟨hx, hy⟩ | ⟨hx, hy, hz, hz2⟩ | ⟨hx, hy, hz, hz2⟩
 all_goals
  go_enter Tryz.func60, Tryz.ntmps60
  go_wp2_with (go_at_call 75; (first | ((with_reducible refine (within_yes _ _ _ ?_ ?_).mono ?_); (focus omega); (focus omega)) | ((with_reducible refine (within_no _ _ _ ?_).mono ?_); (focus omega))); rintro e w' ⟨rfl, rfl⟩)
  go_ret3
  exact ⟨rfl, Below.refl _ _⟩
set_option maxRecDepth 100000 in
set_option maxHeartbeats 4000000 in
theorem of_2_l3 (w : World) {o : Col} {c : Nat} (ao : Option Addr) (cap : Nat) (l : List Int) (k : Nat) (hk : l.length = k + 3) (hm : k ≤ 17600000000000) (h : Ints w o c (.slice ao (k + 3) cap) l) : Calls Tryz.prog 60 #[.int .u8 2, .slice ao (k + 3) cap] w (OfNo w 61) := by
 obtain ⟨b, off, rfl, -, hcap, -, -, hc⟩ := h.at (by omega)
 have c0 := hc 0 (by omega)
 have c1 := hc 1 (by omega)
 generalize l[0]?.getD 0 = x at c0
 generalize l[1]?.getD 0 = y at c1
 have hkk : (k : Int) ≤ 17600000000000 := by omega
 rw [Nat.add_zero] at c0
 clear hc h hk
 go_enter Tryz.func60, Tryz.ntmps60
 go_wp2_with (go_at_call 75; (first | ((with_reducible refine (within_yes _ _ _ ?_ ?_).mono ?_); (focus omega); (focus omega)) | ((with_reducible refine (within_no _ _ _ ?_).mono ?_); (focus omega))); rintro e w' ⟨rfl, rfl⟩)
 go_ret3
 exact ⟨rfl, Below.refl _ _⟩
set_option maxRecDepth 100000 in
set_option maxHeartbeats 4000000 in
theorem of_3_l0 (w : World) (ao : Option Addr) (cap : Nat) : Calls Tryz.prog 60 #[.int .u8 3, .slice ao 0 cap] w (OfNo w 61) := by
 go_enter Tryz.func60, Tryz.ntmps60
 go_wp2_with (go_at_call 75; (first | ((with_reducible refine (within_yes _ _ _ ?_ ?_).mono ?_); (focus omega); (focus omega)) | ((with_reducible refine (within_no _ _ _ ?_).mono ?_); (focus omega))); rintro e w' ⟨rfl, rfl⟩)
 go_ret3
 exact ⟨rfl, Below.refl _ _⟩
set_option maxRecDepth 100000 in
set_option maxHeartbeats 4000000 in
theorem of_3_l1y (w : World) {o : Col} {c : Nat} (ao : Option Addr) (cap : Nat) (x : Int) (h1 : 1 ≤ x) (h2 : x ≤ 64) (h : Ints w o c (.slice ao 1 cap) [x]) : Calls Tryz.prog 60 #[.int .u8 3, .slice ao 1 cap] w (OfOk w 3 [x]) := by
 obtain ⟨b, off, rfl, -, hcap, -, -, hc⟩ := h.at (by simp)
 have c0 := hc 0 (by simp)
 simp at c0
 clear hc h
 go_enter Tryz.func60, Tryz.ntmps60
 go_wp2_with (go_at_call 75; (first | ((with_reducible refine (within_yes _ _ _ ?_ ?_).mono ?_); (focus omega); (focus omega)) | ((with_reducible refine (within_no _ _ _ ?_).mono ?_); (focus omega))); rintro e w' ⟨rfl, rfl⟩)
 refine (ports_any _ _ _ _ [x] (ints_box _ [x] (by simp))  (by simp)).mono ?_
 rintro e w1 ⟨g1, c1, rfl, ho1, hb1⟩
 go_wp2_with fail
 refine (ports_any _ _ _ _ [1] (ints_box _ [1] (by simp))  (by simp)).mono ?_
 rintro e w2 ⟨g2, c2, rfl, ho2, hb2⟩
 go_wp2
 go_ret3
 exact ⟨_, _, rfl, by simpa [insP, outsP, hd, hd1] using of_fin (by first | exact Below.refl _ _ | exact (Below.refl _ _).alloc (Nat.le_refl _) _) ho1 hb1 (by first | exact Below.refl _ _ | exact (Below.refl _ _).alloc (Nat.le_refl _) _) ho2 hb2⟩
set_option maxRecDepth 100000 in
set_option maxHeartbeats 4000000 in
theorem of_3_l1n (w : World) {o : Col} {c : Nat} (ao : Option Addr) (cap : Nat) (x : Int) (h1 : x < 1 ∨ 64 < x) (h : Ints w o c (.slice ao 1 cap) [x]) : Calls Tryz.prog 60 #[.int .u8 3, .slice ao 1 cap] w (OfNo w 61) := by
 obtain ⟨b, off, rfl, -, hcap, -, -, hc⟩ := h.at (by simp)
 have c0 := hc 0 (by simp)
 simp at c0
 clear hc h
 go_enter Tryz.func60, Tryz.ntmps60
 go_wp2_with (go_at_call 75; (first | ((with_reducible refine (within_yes _ _ _ ?_ ?_).mono ?_); (focus omega); (focus omega)) | ((with_reducible refine (within_no _ _ _ ?_).mono ?_); (focus omega))); rintro e w' ⟨rfl, rfl⟩)
 go_ret3
 exact ⟨rfl, Below.refl _ _⟩
set_option maxRecDepth 100000 in
set_option maxHeartbeats 4000000 in
theorem of_3_l2 (w : World) {o : Col} {c : Nat} (ao : Option Addr) (cap : Nat) (x y : Int) (h : Ints w o c (.slice ao 2 cap) [x, y]) : Calls Tryz.prog 60 #[.int .u8 3, .slice ao 2 cap] w (OfNo w 61) := by
 obtain ⟨b, off, rfl, -, hcap, -, -, hc⟩ := h.at (by simp)
 have c0 := hc 0 (by simp)
 have c1 := hc 1 (by simp)
 simp at c0 c1
 clear hc h
 have hcase : (x < 1 ∨ 16 < x) ∨ ((1 ≤ x ∧ x ≤ 16) ∧ (y < 1 ∨ 64 < y)) ∨ ((1 ≤ x ∧ x ≤ 16) ∧ (1 ≤ y ∧ y ≤ 64) ∧ 0 ≤ x * y ∧ x * y ≤ 64) ∨ ((1 ≤ x ∧ x ≤ 16) ∧ (1 ≤ y ∧ y ≤ 64) ∧ 64 < x * y ∧ x * y ≤ 1024) := pair_cases x y
 rcases hcase with hx | ⟨hx, hy⟩ | ⟨hx, hy, hz, hz2⟩ | ⟨hx, hy, hz, hz2⟩
 all_goals
  go_enter Tryz.func60, Tryz.ntmps60
  go_wp2_with (go_at_call 75; (first | ((with_reducible refine (within_yes _ _ _ ?_ ?_).mono ?_); (focus omega); (focus omega)) | ((with_reducible refine (within_no _ _ _ ?_).mono ?_); (focus omega))); rintro e w' ⟨rfl, rfl⟩)
  go_ret3
  exact ⟨rfl, Below.refl _ _⟩
set_option maxRecDepth 100000 in
set_option maxHeartbeats 4000000 in
theorem of_3_l3 (w : World) {o : Col} {c : Nat} (ao : Option Addr) (cap : Nat) (l : List Int) (k : Nat) (hk : l.length = k + 3) (hm : k ≤ 17600000000000) (h : Ints w o c (.slice ao (k + 3) cap) l) : Calls Tryz.prog 60 #[.int .u8 3, .slice ao (k + 3) cap] w (OfNo w 61) := by
 obtain ⟨b, off, rfl, -, hcap, -, -, hc⟩ := h.at (by omega)
 have c0 := hc 0 (by omega)
 have c1 := hc 1 (by omega)
 generalize l[0]?.getD 0 = x at c0
 generalize l[1]?.getD 0 = y at c1
 have hkk : (k : Int) ≤ 17600000000000 := by omega
 rw [Nat.add_zero] at c0
 clear hc h hk
 go_enter Tryz.func60, Tryz.ntmps60
 go_wp2_with (go_at_call 75; (first | ((with_reducible refine (within_yes _ _ _ ?_ ?_).mono ?_); (focus omega); (focus omega)) | ((with_reducible refine (within_no _ _ _ ?_).mono ?_); (focus omega))); rintro e w' ⟨rfl, rfl⟩)
 go_ret3
 exact ⟨rfl, Below.refl _ _⟩
set_option maxRecDepth 100000 in
set_option maxHeartbeats 4000000 in
theorem of_4_l0 (w : World) (ao : Option Addr) (cap : Nat) : Calls Tryz.prog 60 #[.int .u8 4, .slice ao 0 cap] w (OfNo w 61) := by
 go_enter Tryz.func60, Tryz.ntmps60
 go_wp2_with (go_at_call 75; (first | ((with_reducible refine (within_yes _ _ _ ?_ ?_).mono ?_); (focus omega); (focus omega)) | ((with_reducible refine (within_no _ _ _ ?_).mono ?_); (focus omega))); rintro e w' ⟨rfl, rfl⟩)
 go_ret3
 exact ⟨rfl, Below.refl _ _⟩
set_option maxRecDepth 100000 in
set_option maxHeartbeats 4000000 in
theorem of_4_l1 (w : World) {o : Col} {c : Nat} (ao : Option Addr) (cap : Nat) (x : Int) (h : Ints w o c (.slice ao 1 cap) [x]) : Calls Tryz.prog 60 #[.int .u8 4, .slice ao 1 cap] w (OfNo w 61) := by
 obtain ⟨b, off, rfl, -, hcap, -, -, hc⟩ := h.at (by simp)
 have c0 := hc 0 (by simp)
 simp at c0
 clear hc h
 go_enter Tryz.func60, Tryz.ntmps60
 go_wp2_with (go_at_call 75; (first | ((with_reducible refine (within_yes _ _ _ ?_ ?_).mono ?_); (focus omega); (focus omega)) | ((with_reducible refine (within_no _ _ _ ?_).mono ?_); (focus omega))); rintro e w' ⟨rfl, rfl⟩)
 go_ret3
 exact ⟨rfl, Below.refl _ _⟩
set_option maxRecDepth 100000 in
set_option maxHeartbeats 4000000 in
theorem of_4_l2y (w : World) {o : Col} {c : Nat} (ao : Option Addr) (cap : Nat) (n k : Nat) (h1 : 1 ≤ n) (h2 : n ≤ 16) (h3 : 1 ≤ k) (h4 : k ≤ 64) (h5 : n * k ≤ 64) (h : Ints w o c (.slice ao 2 cap) [(n : Int), (k : Int)]) : Calls Tryz.prog 60 #[.int .u8 4, .slice ao 2 cap] w (OfOk w 4 [(n : Int), (k : Int)]) := by
 obtain ⟨b, off, rfl, -, hcap, -, -, hc⟩ := h.at (by simp)
 have c0 := hc 0 (by simp)
 have c1 := hc 1 (by simp)
 simp at c0 c1
 clear hc h
 have h1i : (1 : Int) ≤ n := by omega
 have h2i : (n : Int) ≤ 16 := by omega
 have h3i : (1 : Int) ≤ k := by omega
 have h4i : (k : Int) ≤ 64 := by omega
 have h5i : (n : Int) * k ≤ 64 := by exact_mod_cast h5
 have h6i : (0 : Int) ≤ (n : Int) * k := by exact_mod_cast Nat.zero_le _
 go_enter Tryz.func60, Tryz.ntmps60
 go_wp2_with (go_at_call 75; (first | ((with_reducible refine (within_yes _ _ _ ?_ ?_).mono ?_); (focus omega); (focus omega)) | ((with_reducible refine (within_no _ _ _ ?_).mono ?_); (focus omega))); rintro e w' ⟨rfl, rfl⟩)
 refine (same_any _ n k (by omega)).mono ?_
 rintro e w1 ⟨g1, c1, rfl, ho1, hb1⟩
 go_wp2_with fail
 refine (ports_any _ _ _ _ [(n : Int) * k] (ints_box _ [(n : Int) * k] (by simp))  (by simp)).mono ?_
 rintro e w2 ⟨g2, c2, rfl, ho2, hb2⟩
 go_wp2
 go_ret3
 exact ⟨_, _, rfl, by simpa [insP, outsP, hd, hd1] using of_fin (by first | exact Below.refl _ _ | exact (Below.refl _ _).alloc (Nat.le_refl _) _) ho1 hb1 (by first | exact Below.refl _ _ | exact (Below.refl _ _).alloc (Nat.le_refl _) _) ho2 hb2⟩
set_option maxRecDepth 100000 in
set_option maxHeartbeats 4000000 in
theorem of_4_l2n (w : World) {o : Col} {c : Nat} (ao : Option Addr) (cap : Nat) (x y : Int) (hcase : (x < 1 ∨ 16 < x) ∨ ((1 ≤ x ∧ x ≤ 16) ∧ (y < 1 ∨ 64 < y)) ∨ ((1 ≤ x ∧ x ≤ 16) ∧ (1 ≤ y ∧ y ≤ 64) ∧ 64 < x * y ∧ x * y ≤ 1024)) (h : Ints w o c (.slice ao 2 cap) [x, y]) : Calls Tryz.prog 60 #[.int .u8 4, .slice ao 2 cap] w (OfNo w 61) := by
 obtain ⟨b, off, rfl, -, hcap, -, -, hc⟩ := h.at (by simp)
 have c0 := hc 0 (by simp)
 have c1 := hc 1 (by simp)
 simp at c0 c1
 clear hc h
 rcases hcase with hx | ⟨hx, hy⟩ | ⟨hx, hy, hz, hz2⟩
 all_goals
  go_enter Tryz.func60, Tryz.ntmps60
  go_wp2_with (go_at_call 75; (first | ((with_reducible refine (within_yes _ _ _ ?_ ?_).mono ?_); (focus omega); (focus omega)) | ((with_reducible refine (within_no _ _ _ ?_).mono ?_); (focus omega))); rintro e w' ⟨rfl, rfl⟩)
  go_ret3
  exact ⟨rfl, Below.refl _ _⟩
set_option maxRecDepth 100000 in
set_option maxHeartbeats 4000000 in
theorem of_4_l3 (w : World) {o : Col} {c : Nat} (ao : Option Addr) (cap : Nat) (l : List Int) (k : Nat) (hk : l.length = k + 3) (hm : k ≤ 17600000000000) (h : Ints w o c (.slice ao (k + 3) cap) l) : Calls Tryz.prog 60 #[.int .u8 4, .slice ao (k + 3) cap] w (OfNo w 61) := by
 obtain ⟨b, off, rfl, -, hcap, -, -, hc⟩ := h.at (by omega)
 have c0 := hc 0 (by omega)
 have c1 := hc 1 (by omega)
 generalize l[0]?.getD 0 = x at c0
 generalize l[1]?.getD 0 = y at c1
 have hkk : (k : Int) ≤ 17600000000000 := by omega
 rw [Nat.add_zero] at c0
 clear hc h hk
 go_enter Tryz.func60, Tryz.ntmps60
 go_wp2_with (go_at_call 75; (first | ((with_reducible refine (within_yes _ _ _ ?_ ?_).mono ?_); (focus omega); (focus omega)) | ((with_reducible refine (within_no _ _ _ ?_).mono ?_); (focus omega))); rintro e w' ⟨rfl, rfl⟩)
 go_ret3
 exact ⟨rfl, Below.refl _ _⟩
set_option maxRecDepth 100000 in
set_option maxHeartbeats 4000000 in
theorem of_5_l0 (w : World) (ao : Option Addr) (cap : Nat) : Calls Tryz.prog 60 #[.int .u8 5, .slice ao 0 cap] w (OfNo w 61) := by
 go_enter Tryz.func60, Tryz.ntmps60
 go_wp2_with (go_at_call 75; (first | ((with_reducible refine (within_yes _ _ _ ?_ ?_).mono ?_); (focus omega); (focus omega)) | ((with_reducible refine (within_no _ _ _ ?_).mono ?_); (focus omega))); rintro e w' ⟨rfl, rfl⟩)
 go_ret3
 exact ⟨rfl, Below.refl _ _⟩
set_option maxRecDepth 100000 in
set_option maxHeartbeats 4000000 in
theorem of_5_l1 (w : World) {o : Col} {c : Nat} (ao : Option Addr) (cap : Nat) (x : Int) (h : Ints w o c (.slice ao 1 cap) [x]) : Calls Tryz.prog 60 #[.int .u8 5, .slice ao 1 cap] w (OfNo w 61) := by
 obtain ⟨b, off, rfl, -, hcap, -, -, hc⟩ := h.at (by simp)
 have c0 := hc 0 (by simp)
 simp at c0
 clear hc h
 go_enter Tryz.func60, Tryz.ntmps60
 go_wp2_with (go_at_call 75; (first | ((with_reducible refine (within_yes _ _ _ ?_ ?_).mono ?_); (focus omega); (focus omega)) | ((with_reducible refine (within_no _ _ _ ?_).mono ?_); (focus omega))); rintro e w' ⟨rfl, rfl⟩)
 go_ret3
 exact ⟨rfl, Below.refl _ _⟩
set_option maxRecDepth 100000 in
set_option maxHeartbeats 4000000 in
theorem of_5_l2y (w : World) {o : Col} {c : Nat} (ao : Option Addr) (cap : Nat) (n k : Nat) (h1 : 1 ≤ n) (h2 : n ≤ 16) (h3 : 1 ≤ k) (h4 : k ≤ 64) (h5 : n * k ≤ 64) (h : Ints w o c (.slice ao 2 cap) [(n : Int), (k : Int)]) : Calls Tryz.prog 60 #[.int .u8 5, .slice ao 2 cap] w (OfOk w 5 [(n : Int), (k : Int)]) := by
 obtain ⟨b, off, rfl, -, hcap, -, -, hc⟩ := h.at (by simp)
 have c0 := hc 0 (by simp)
 have c1 := hc 1 (by simp)
 simp at c0 c1
 clear hc h
 have h1i : (1 : Int) ≤ n := by omega
 have h2i : (n : Int) ≤ 16 := by omega
 have h3i : (1 : Int) ≤ k := by omega
 have h4i : (k : Int) ≤ 64 := by omega
 have h5i : (n : Int) * k ≤ 64 := by exact_mod_cast h5
 have h6i : (0 : Int) ≤ (n : Int) * k := by exact_mod_cast Nat.zero_le _
 go_enter Tryz.func60, Tryz.ntmps60
 go_wp2_with (go_at_call 75; (first | ((with_reducible refine (within_yes _ _ _ ?_ ?_).mono ?_); (focus omega); (focus omega)) | ((with_reducible refine (within_no _ _ _ ?_).mono ?_); (focus omega))); rintro e w' ⟨rfl, rfl⟩)
 refine (ports_any _ _ _ _ [(n : Int) * k] (ints_box _ [(n : Int) * k] (by simp))  (by simp)).mono ?_
 rintro e w1 ⟨g1, c1, rfl, ho1, hb1⟩
 go_wp2_with fail
 refine (same_any _ n k (by omega)).mono ?_
 rintro e w2 ⟨g2, c2, rfl, ho2, hb2⟩
 go_wp2
 go_ret3
 exact ⟨_, _, rfl, by simpa [insP, outsP, hd, hd1] using of_fin (by first | exact Below.refl _ _ | exact (Below.refl _ _).alloc (Nat.le_refl _) _) ho1 hb1 (by first | exact Below.refl _ _ | exact (Below.refl _ _).alloc (Nat.le_refl _) _) ho2 hb2⟩
set_option maxRecDepth 100000 in
set_option maxHeartbeats 4000000 in
theorem of_5_l2n (w : World) {o : Col} {c : Nat} (ao : Option Addr) (cap : Nat) (x y : Int) (hcase : (x < 1 ∨ 16 < x) ∨ ((1 ≤ x ∧ x ≤ 16) ∧ (y < 1 ∨ 64 < y)) ∨ ((1 ≤ x ∧ x ≤ 16) ∧ (1 ≤ y ∧ y ≤ 64) ∧ 64 < x * y ∧ x * y ≤ 1024)) (h : Ints w o c (.slice ao 2 cap) [x, y]) : Calls Tryz.prog 60 #[.int .u8 5, .slice ao 2 cap] w (OfNo w 61) := by
 obtain ⟨b, off, rfl, -, hcap, -, -, hc⟩ := h.at (by simp)
 have c0 := hc 0 (by simp)
 have c1 := hc 1 (by simp)
 simp at c0 c1
 clear hc h
 rcases hcase with hx | ⟨hx, hy⟩ | ⟨hx, hy, hz, hz2⟩
 all_goals
  go_enter Tryz.func60, Tryz.ntmps60
  go_wp2_with (go_at_call 75; (first | ((with_reducible refine (within_yes _ _ _ ?_ ?_).mono ?_); (focus omega); (focus omega)) | ((with_reducible refine (within_no _ _ _ ?_).mono ?_); (focus omega))); rintro e w' ⟨rfl, rfl⟩)
  go_ret3
  exact ⟨rfl, Below.refl _ _⟩
set_option maxRecDepth 100000 in
set_option maxHeartbeats 4000000 in
theorem of_5_l3 (w : World) {o : Col} {c : Nat} (ao : Option Addr) (cap : Nat) (l : List Int) (k : Nat) (hk : l.length = k + 3) (hm : k ≤ 17600000000000) (h : Ints w o c (.slice ao (k + 3) cap) l) : Calls Tryz.prog 60 #[.int .u8 5, .slice ao (k + 3) cap] w (OfNo w 61) := by
 obtain ⟨b, off, rfl, -, hcap, -, -, hc⟩ := h.at (by omega)
 have c0 := hc 0 (by omega)
 have c1 := hc 1 (by omega)
 generalize l[0]?.getD 0 = x at c0
 generalize l[1]?.getD 0 = y at c1
 have hkk : (k : Int) ≤ 17600000000000 := by omega
 rw [Nat.add_zero] at c0
 clear hc h hk
 go_enter Tryz.func60, Tryz.ntmps60
 go_wp2_with (go_at_call 75; (first | ((with_reducible refine (within_yes _ _ _ ?_ ?_).mono ?_); (focus omega); (focus omega)) | ((with_reducible refine (within_no _ _ _ ?_).mono ?_); (focus omega))); rintro e w' ⟨rfl, rfl⟩)
 go_ret3
 exact ⟨rfl, Below.refl _ _⟩
set_option maxRecDepth 100000 in
set_option maxHeartbeats 4000000 in
theorem of_6_l0 (w : World) (ao : Option Addr) (cap : Nat) : Calls Tryz.prog 60 #[.int .u8 6, .slice ao 0 cap] w (OfNo w 61) := by
 go_enter Tryz.func60, Tryz.ntmps60
 go_wp2_with (go_at_call 75; (first | ((with_reducible refine (within_yes _ _ _ ?_ ?_).mono ?_); (focus omega); (focus omega)) | ((with_reducible refine (within_no _ _ _ ?_).mono ?_); (focus omega))); rintro e w' ⟨rfl, rfl⟩)
 go_ret3
 exact ⟨rfl, Below.refl _ _⟩
set_option maxRecDepth 100000 in
set_option maxHeartbeats 4000000 in
theorem of_6_l1y (w : World) {o : Col} {c : Nat} (ao : Option Addr) (cap : Nat) (n : Nat) (h1 : 1 ≤ n) (h2 : n ≤ 16) (h : Ints w o c (.slice ao 1 cap) [(n : Int)]) : Calls Tryz.prog 60 #[.int .u8 6, .slice ao 1 cap] w (OfOk w 6 [(n : Int)]) := by
 obtain ⟨b, off, rfl, -, hcap, -, -, hc⟩ := h.at (by simp)
 have c0 := hc 0 (by simp)
 simp at c0
 clear hc h
 have h1i : (1 : Int) ≤ n := by omega
 have h2i : (n : Int) ≤ 16 := by omega
 go_enter Tryz.func60, Tryz.ntmps60
 go_wp2_with (go_at_call 75; (first | ((with_reducible refine (within_yes _ _ _ ?_ ?_).mono ?_); (focus omega); (focus omega)) | ((with_reducible refine (within_no _ _ _ ?_).mono ?_); (focus omega))); rintro e w' ⟨rfl, rfl⟩)
 refine (same_any _ n 1 (by omega)).mono ?_
 rintro e w1 ⟨g1, c1, rfl, ho1, hb1⟩
 go_wp2_with fail
 refine (ports_any _ _ _ _ [1] (ints_box _ [1] (by simp))  (by simp)).mono ?_
 rintro e w2 ⟨g2, c2, rfl, ho2, hb2⟩
 go_wp2
 go_ret3
 exact ⟨_, _, rfl, by simpa [insP, outsP, hd, hd1] using of_fin (by first | exact Below.refl _ _ | exact (Below.refl _ _).alloc (Nat.le_refl _) _) ho1 hb1 (by first | exact Below.refl _ _ | exact (Below.refl _ _).alloc (Nat.le_refl _) _) ho2 hb2⟩
set_option maxRecDepth 100000 in
set_option maxHeartbeats 4000000 in
theorem of_6_l1n (w : World) {o : Col} {c : Nat} (ao : Option Addr) (cap : Nat) (x : Int) (h1 : x < 1 ∨ 16 < x) (h : Ints w o c (.slice ao 1 cap) [x]) : Calls Tryz.prog 60 #[.int .u8 6, .slice ao 1 cap] w (OfNo w 61) := by
 obtain ⟨b, off, rfl, -, hcap, -, -, hc⟩ := h.at (by simp)
 have c0 := hc 0 (by simp)
 simp at c0
 clear hc h
 go_enter Tryz.func60, Tryz.ntmps60
 go_wp2_with (go_at_call 75; (first | ((with_reducible refine (within_yes _ _ _ ?_ ?_).mono ?_); (focus omega); (focus omega)) | ((with_reducible refine (within_no _ _ _ ?_).mono ?_); (focus omega))); rintro e w' ⟨rfl, rfl⟩)
 go_ret3
 exact ⟨rfl, Below.refl _ _⟩
set_option maxRecDepth 100000 in
set_option maxHeartbeats 4000000 in
theorem of_6_l2 (w : World) {o : Col} {c : Nat} (ao : Option Addr) (cap : Nat) (x y : Int) (h : Ints w o c (.slice ao 2 cap) [x, y]) : Calls Tryz.prog 60 #[.int .u8 6, .slice ao 2 cap] w (OfNo w 61) := by
 obtain ⟨b, off, rfl, -, hcap, -, -, hc⟩ := h.at (by simp)
 have c0 := hc 0 (by simp)
 have c1 := hc 1 (by simp)
 simp at c0 c1
 clear hc h
 have hcase : (x < 1 ∨ 16 < x) ∨ ((1 ≤ x ∧ x ≤ 16) ∧ (y < 1 ∨ 64 < y)) ∨ ((1 ≤ x ∧ x ≤ 16) ∧ (1 ≤ y ∧ y ≤ 64) ∧ 0 ≤ x * y ∧ x * y ≤ 64) ∨ ((1 ≤ x ∧ x ≤ 16) ∧ (1 ≤ y ∧ y ≤ 64) ∧ 64 < x * y ∧ x * y ≤ 1024) := pair_cases x y
 rcases hcase with hx | ⟨hx, hy⟩ | ⟨hx, hy, hz, hz2⟩ | ⟨hx, hy, hz, hz2⟩
 all_goals
  go_enter Tryz.func60, Tryz.ntmps60
  go_wp2_with (go_at_call 75; (first | ((with_reducible refine (within_yes _ _ _ ?_ ?_).mono ?_); (focus omega); (focus omega)) | ((with_reducible refine (within_no _ _ _ ?_).mono ?_); (focus omega))); rintro e w' ⟨rfl, rfl⟩)
  go_ret3
  exact ⟨rfl, Below.refl _ _⟩
set_option maxRecDepth 100000 in
set_option maxHeartbeats 4000000 in
theorem of_6_l3 (w : World) {o : Col} {c : Nat} (ao : Option Addr) (cap : Nat) (l : List Int) (k : Nat) (hk : l.length = k + 3) (hm : k ≤ 17600000000000) (h : Ints w o c (.slice ao (k + 3) cap) l) : Calls Tryz.prog 60 #[.int .u8 6, .slice ao (k + 3) cap] w (OfNo w 61) := by
 obtain ⟨b, off, rfl, -, hcap, -, -, hc⟩ := h.at (by omega)
 have c0 := hc 0 (by omega)
 have c1 := hc 1 (by omega)
 generalize l[0]?.getD 0 = x at c0
 generalize l[1]?.getD 0 = y at c1
 have hkk : (k : Int) ≤ 17600000000000 := by omega
 rw [Nat.add_zero] at c0
 clear hc h hk
 go_enter Tryz.func60, Tryz.ntmps60
 go_wp2_with (go_at_call 75; (first | ((with_reducible refine (within_yes _ _ _ ?_ ?_).mono ?_); (focus omega); (focus omega)) | ((with_reducible refine (within_no _ _ _ ?_).mono ?_); (focus omega))); rintro e w' ⟨rfl, rfl⟩)
 go_ret3
 exact ⟨rfl, Below.refl _ _⟩
set_option maxRecDepth 100000 in
set_option maxHeartbeats 4000000 in
theorem of_7_l0 (w : World) (ao : Option Addr) (cap : Nat) : Calls Tryz.prog 60 #[.int .u8 7, .slice ao 0 cap] w (OfOk w 7 []) := by
 go_enter Tryz.func60, Tryz.ntmps60
 go_wp2_with (go_at_call 75; (first | ((with_reducible refine (within_yes _ _ _ ?_ ?_).mono ?_); (focus omega); (focus omega)) | ((with_reducible refine (within_no _ _ _ ?_).mono ?_); (focus omega))); rintro e w' ⟨rfl, rfl⟩)
 refine (ports_any _ _ _ _ [1, 1] (ints_box _ [1, 1] (by simp))  (by simp)).mono ?_
 rintro e w1 ⟨g1, c1, rfl, ho1, hb1⟩
 go_wp2_with fail
 refine (ports_any _ _ _ _ [1] (ints_box _ [1] (by simp))  (by simp)).mono ?_
 rintro e w2 ⟨g2, c2, rfl, ho2, hb2⟩
 go_wp2
 go_ret3
 exact ⟨_, _, rfl, by simpa [insP, outsP, hd, hd1] using of_fin (by first | exact Below.refl _ _ | exact (Below.refl _ _).alloc (Nat.le_refl _) _) ho1 hb1 (by first | exact Below.refl _ _ | exact (Below.refl _ _).alloc (Nat.le_refl _) _) ho2 hb2⟩
set_option maxRecDepth 100000 in
set_option maxHeartbeats 4000000 in
theorem of_7_l1 (w : World) {o : Col} {c : Nat} (ao : Option Addr) (cap : Nat) (x : Int) (h : Ints w o c (.slice ao 1 cap) [x]) : Calls Tryz.prog 60 #[.int .u8 7, .slice ao 1 cap] w (OfNo w 61) := by
 obtain ⟨b, off, rfl, -, hcap, -, -, hc⟩ := h.at (by simp)
 have c0 := hc 0 (by simp)
 simp at c0
 clear hc h
 go_enter Tryz.func60, Tryz.ntmps60
 go_wp2_with (go_at_call 75; (first | ((with_reducible refine (within_yes _ _ _ ?_ ?_).mono ?_); (focus omega); (focus omega)) | ((with_reducible refine (within_no _ _ _ ?_).mono ?_); (focus omega))); rintro e w' ⟨rfl, rfl⟩)
 go_ret3
 exact ⟨rfl, Below.refl _ _⟩
set_option maxRecDepth 100000 in
set_option maxHeartbeats 4000000 in
theorem of_7_l2 (w : World) {o : Col} {c : Nat} (ao : Option Addr) (cap : Nat) (x y : Int) (h : Ints w o c (.slice ao 2 cap) [x, y]) : Calls Tryz.prog 60 #[.int .u8 7, .slice ao 2 cap] w (OfNo w 61) := by
 obtain ⟨b, off, rfl, -, hcap, -, -, hc⟩ := h.at (by simp)
 have c0 := hc 0 (by simp)
 have c1 := hc 1 (by simp)
 simp at c0 c1
 clear hc h
 have hcase : (x < 1 ∨ 16 < x) ∨ ((1 ≤ x ∧ x ≤ 16) ∧ (y < 1 ∨ 64 < y)) ∨ ((1 ≤ x ∧ x ≤ 16) ∧ (1 ≤ y ∧ y ≤ 64) ∧ 0 ≤ x * y ∧ x * y ≤ 64) ∨ ((1 ≤ x ∧ x ≤ 16) ∧ (1 ≤ y ∧ y ≤ 64) ∧ 64 < x * y ∧ x * y ≤ 1024) := pair_cases x y
 rcases hcase with hx | ⟨hx, hy⟩ | ⟨hx, hy, hz, hz2⟩ | ⟨hx, hy, hz, hz2⟩
 all_goals
  go_enter Tryz.func60, Tryz.ntmps60
  go_wp2_with (go_at_call 75; (first | ((with_reducible refine (within_yes _ _ _ ?_ ?_).mono ?_); (focus omega); (focus omega)) | ((with_reducible refine (within_no _ _ _ ?_).mono ?_); (focus omega))); rintro e w' ⟨rfl, rfl⟩)
  go_ret3
  exact ⟨rfl, Below.refl _ _⟩
set_option maxRecDepth 100000 in
set_option maxHeartbeats 4000000 in
theorem of_7_l3 (w : World) {o : Col} {c : Nat} (ao : Option Addr) (cap : Nat) (l : List Int) (k : Nat) (hk : l.length = k + 3) (hm : k ≤ 17600000000000) (h : Ints w o c (.slice ao (k + 3) cap) l) : Calls Tryz.prog 60 #[.int .u8 7, .slice ao (k + 3) cap] w (OfNo w 61) := by
 obtain ⟨b, off, rfl, -, hcap, -, -, hc⟩ := h.at (by omega)
 have c0 := hc 0 (by omega)
 have c1 := hc 1 (by omega)
 generalize l[0]?.getD 0 = x at c0
 generalize l[1]?.getD 0 = y at c1
 have hkk : (k : Int) ≤ 17600000000000 := by omega
 rw [Nat.add_zero] at c0
 clear hc h hk
 go_enter Tryz.func60, Tryz.ntmps60
 go_wp2_with (go_at_call 75; (first | ((with_reducible refine (within_yes _ _ _ ?_ ?_).mono ?_); (focus omega); (focus omega)) | ((with_reducible refine (within_no _ _ _ ?_).mono ?_); (focus omega))); rintro e w' ⟨rfl, rfl⟩)
 go_ret3
 exact ⟨rfl, Below.refl _ _⟩
set_option maxRecDepth 100000 in
set_option maxHeartbeats 4000000 in
theorem of_8_l0 (w : World) (ao : Option Addr) (cap : Nat) : Calls Tryz.prog 60 #[.int .u8 8, .slice ao 0 cap] w (OfOk w 8 []) := by
 go_enter Tryz.func60, Tryz.ntmps60
 go_wp2_with (go_at_call 75; (first | ((with_reducible refine (within_yes _ _ _ ?_ ?_).mono ?_); (focus omega); (focus omega)) | ((with_reducible refine (within_no _ _ _ ?_).mono ?_); (focus omega))); rintro e w' ⟨rfl, rfl⟩)
 refine (ports_any _ _ _ _ [1] (ints_box _ [1] (by simp))  (by simp)).mono ?_
 rintro e w1 ⟨g1, c1, rfl, ho1, hb1⟩
 go_wp2_with fail
 refine (ports_any _ _ _ _ [1] (ints_box _ [1] (by simp))  (by simp)).mono ?_
 rintro e w2 ⟨g2, c2, rfl, ho2, hb2⟩
 go_wp2
 go_ret3
 exact ⟨_, _, rfl, by simpa [insP, outsP, hd, hd1] using of_fin (by first | exact Below.refl _ _ | exact (Below.refl _ _).alloc (Nat.le_refl _) _) ho1 hb1 (by first | exact Below.refl _ _ | exact (Below.refl _ _).alloc (Nat.le_refl _) _) ho2 hb2⟩
set_option maxRecDepth 100000 in
set_option maxHeartbeats 4000000 in
theorem of_8_l1 (w : World) {o : Col} {c : Nat} (ao : Option Addr) (cap : Nat) (x : Int) (h : Ints w o c (.slice ao 1 cap) [x]) : Calls Tryz.prog 60 #[.int .u8 8, .slice ao 1 cap] w (OfNo w 61) := by
 obtain ⟨b, off, rfl, -, hcap, -, -, hc⟩ := h.at (by simp)
 have c0 := hc 0 (by simp)
 simp at c0
 clear hc h
 go_enter Tryz.func60, Tryz.ntmps60
 go_wp2_with (go_at_call 75; (first | ((with_reducible refine (within_yes _ _ _ ?_ ?_).mono ?_); (focus omega); (focus omega)) | ((with_reducible refine (within_no _ _ _ ?_).mono ?_); (focus omega))); rintro e w' ⟨rfl, rfl⟩)
 go_ret3
 exact ⟨rfl, Below.refl _ _⟩
set_option maxRecDepth 100000 in
set_option maxHeartbeats 4000000 in
theorem of_8_l2 (w : World) {o : Col} {c : Nat} (ao : Option Addr) (cap : Nat) (x y : Int) (h : Ints w o c (.slice ao 2 cap) [x, y]) : Calls Tryz.prog 60 #[.int .u8 8, .slice ao 2 cap] w (OfNo w 61) := by
 obtain ⟨b, off, rfl, -, hcap, -, -, hc⟩ := h.at (by simp)
 have c0 := hc 0 (by simp)
 have c1 := hc 1 (by simp)
 simp at c0 c1
 clear hc h
 have hcase : (x < 1 ∨ 16 < x) ∨ ((1 ≤ x ∧ x ≤ 16) ∧ (y < 1 ∨ 64 < y)) ∨ ((1 ≤ x ∧ x ≤ 16) ∧ (1 ≤ y ∧ y ≤ 64) ∧ 0 ≤ x * y ∧ x * y ≤ 64) ∨ ((1 ≤ x ∧ x ≤ 16) ∧ (1 ≤ y ∧ y ≤ 64) ∧ 64 < x * y ∧ x * y ≤ 1024) := pair_cases x y
 rcases hcase with hx | ⟨hx, hy⟩ | ⟨hx, hy, hz, hz2⟩ | ⟨hx, hy, hz, hz2⟩
 all_goals
  go_enter Tryz.func60, Tryz.ntmps60
  go_wp2_with (go_at_call 75; (first | ((with_reducible refine (within_yes _ _ _ ?_ ?_).mono ?_); (focus omega); (focus omega)) | ((with_reducible refine (within_no _ _ _ ?_).mono ?_); (focus omega))); rintro e w' ⟨rfl, rfl⟩)
  go_ret3
  exact ⟨rfl, Below.refl _ _⟩
set_option maxRecDepth 100000 in
set_option maxHeartbeats 4000000 in
theorem of_8_l3 (w : World) {o : Col} {c : Nat} (ao : Option Addr) (cap : Nat) (l : List Int) (k : Nat) (hk : l.length = k + 3) (hm : k ≤ 17600000000000) (h : Ints w o c (.slice ao (k + 3) cap) l) : Calls Tryz.prog 60 #[.int .u8 8, .slice ao (k + 3) cap] w (OfNo w 61) := by
 obtain ⟨b, off, rfl, -, hcap, -, -, hc⟩ := h.at (by omega)
 have c0 := hc 0 (by omega)
 have c1 := hc 1 (by omega)
 generalize l[0]?.getD 0 = x at c0
 generalize l[1]?.getD 0 = y at c1
 have hkk : (k : Int) ≤ 17600000000000 := by omega
 rw [Nat.add_zero] at c0
 clear hc h hk
 go_enter Tryz.func60, Tryz.ntmps60
 go_wp2_with (go_at_call 75; (first | ((with_reducible refine (within_yes _ _ _ ?_ ?_).mono ?_); (focus omega); (focus omega)) | ((with_reducible refine (within_no _ _ _ ?_).mono ?_); (focus omega))); rintro e w' ⟨rfl, rfl⟩)
 go_ret3
 exact ⟨rfl, Below.refl _ _⟩
set_option maxRecDepth 100000 in
set_option maxHeartbeats 4000000 in
theorem of_9_l0 (w : World) (ao : Option Addr) (cap : Nat) : Calls Tryz.prog 60 #[.int .u8 9, .slice ao 0 cap] w (OfNo w 61) := by
 go_enter Tryz.func60, Tryz.ntmps60
 go_wp2_with (go_at_call 75; (first | ((with_reducible refine (within_yes _ _ _ ?_ ?_).mono ?_); (focus omega); (focus omega)) | ((with_reducible refine (within_no _ _ _ ?_).mono ?_); (focus omega))); rintro e w' ⟨rfl, rfl⟩)
 go_ret3
 exact ⟨rfl, Below.refl _ _⟩
set_option maxRecDepth 100000 in
set_option maxHeartbeats 4000000 in
theorem of_9_l1y (w : World) {o : Col} {c : Nat} (ao : Option Addr) (cap : Nat) (n : Nat) (h1 : 1 ≤ n) (h2 : n ≤ 16) (h : Ints w o c (.slice ao 1 cap) [(n : Int)]) : Calls Tryz.prog 60 #[.int .u8 9, .slice ao 1 cap] w (OfOk w 9 [(n : Int)]) := by
 obtain ⟨b, off, rfl, -, hcap, -, -, hc⟩ := h.at (by simp)
 have c0 := hc 0 (by simp)
 simp at c0
 clear hc h
 have h1i : (1 : Int) ≤ n := by omega
 have h2i : (n : Int) ≤ 16 := by omega
 go_enter Tryz.func60, Tryz.ntmps60
 go_wp2_with (go_at_call 75; (first | ((with_reducible refine (within_yes _ _ _ ?_ ?_).mono ?_); (focus omega); (focus omega)) | ((with_reducible refine (within_no _ _ _ ?_).mono ?_); (focus omega))); rintro e w' ⟨rfl, rfl⟩)
 refine (ports_any _ _ _ _ [1] (ints_box _ [1] (by simp))  (by simp)).mono ?_
 rintro e w1 ⟨g1, c1, rfl, ho1, hb1⟩
 go_wp2_with fail
 refine (same_any _ n 1 (by omega)).mono ?_
 rintro e w2 ⟨g2, c2, rfl, ho2, hb2⟩
 go_wp2
 go_ret3
 exact ⟨_, _, rfl, by simpa [insP, outsP, hd, hd1] using of_fin (by first | exact Below.refl _ _ | exact (Below.refl _ _).alloc (Nat.le_refl _) _) ho1 hb1 (by first | exact Below.refl _ _ | exact (Below.refl _ _).alloc (Nat.le_refl _) _) ho2 hb2⟩
set_option maxRecDepth 100000 in
set_option maxHeartbeats 4000000 in
theorem of_9_l1n (w : World) {o : Col} {c : Nat} (ao : Option Addr) (cap : Nat) (x : Int) (h1 : x < 1 ∨ 16 < x) (h : Ints w o c (.slice ao 1 cap) [x]) : Calls Tryz.prog 60 #[.int .u8 9, .slice ao 1 cap] w (OfNo w 61) := by
 obtain ⟨b, off, rfl, -, hcap, -, -, hc⟩ := h.at (by simp)
 have c0 := hc 0 (by simp)
 simp at c0
 clear hc h
 go_enter Tryz.func60, Tryz.ntmps60
 go_wp2_with (go_at_call 75; (first | ((with_reducible refine (within_yes _ _ _ ?_ ?_).mono ?_); (focus omega); (focus omega)) | ((with_reducible refine (within_no _ _ _ ?_).mono ?_); (focus omega))); rintro e w' ⟨rfl, rfl⟩)
 go_ret3
 exact ⟨rfl, Below.refl _ _⟩
set_option maxRecDepth 100000 in
set_option maxHeartbeats 4000000 in
theorem of_9_l2 (w : World) {o : Col} {c : Nat} (ao : Option Addr) (cap : Nat) (x y : Int) (h : Ints w o c (.slice ao 2 cap) [x, y]) : Calls Tryz.prog 60 #[.int .u8 9, .slice ao 2 cap] w (OfNo w 61) := by
 obtain ⟨b, off, rfl, -, hcap, -, -, hc⟩ := h.at (by simp)
 have c0 := hc 0 (by simp)
 have c1 := hc 1 (by simp)
 simp at c0 c1
 clear hc h
 have hcase : (x < 1 ∨ 16 < x) ∨ ((1 ≤ x ∧ x ≤ 16) ∧ (y < 1 ∨ 64 < y)) ∨ ((1 ≤ x ∧ x ≤ 16) ∧ (1 ≤ y ∧ y ≤ 64) ∧ 0 ≤ x * y ∧ x * y ≤ 64) ∨ ((1 ≤ x ∧ x ≤ 16) ∧ (1 ≤ y ∧ y ≤ 64) ∧ 64 < x * y ∧ x * y ≤ 1024) := pair_cases x y
 rcases hcase with hx | ⟨hx, hy⟩ | ⟨hx, hy, hz, hz2⟩ | ⟨hx, hy, hz, hz2⟩
 all_goals
  go_enter Tryz.func60, Tryz.ntmps60
  go_wp2_with (go_at_call 75; (first | ((with_reducible refine (within_yes _ _ _ ?_ ?_).mono ?_); (focus omega); (focus omega)) | ((with_reducible refine (within_no _ _ _ ?_).mono ?_); (focus omega))); rintro e w' ⟨rfl, rfl⟩)
  go_ret3
  exact ⟨rfl, Below.refl _ _⟩
set_option maxRecDepth 100000 in
set_option maxHeartbeats 4000000 in
theorem of_9_l3 (w : World) {o : Col} {c : Nat} (ao : Option Addr) (cap : Nat) (l : List Int) (k : Nat) (hk : l.length = k + 3) (hm : k ≤ 17600000000000) (h : Ints w o c (.slice ao (k + 3) cap) l) : Calls Tryz.prog 60 #[.int .u8 9, .slice ao (k + 3) cap] w (OfNo w 61) := by
 obtain ⟨b, off, rfl, -, hcap, -, -, hc⟩ := h.at (by omega)
 have c0 := hc 0 (by omega)
 have c1 := hc 1 (by omega)
 generalize l[0]?.getD 0 = x at c0
 generalize l[1]?.getD 0 = y at c1
 have hkk : (k : Int) ≤ 17600000000000 := by omega
 rw [Nat.add_zero] at c0
 clear hc h hk
 go_enter Tryz.func60, Tryz.ntmps60
 go_wp2_with (go_at_call 75; (first | ((with_reducible refine (within_yes _ _ _ ?_ ?_).mono ?_); (focus omega); (focus omega)) | ((with_reducible refine (within_no _ _ _ ?_).mono ?_); (focus omega))); rintro e w' ⟨rfl, rfl⟩)
 go_ret3
 exact ⟨rfl, Below.refl _ _⟩
set_option maxRecDepth 100000 in
set_option maxHeartbeats 4000000 in
theorem of_10_l0 (w : World) (ao : Option Addr) (cap : Nat) : Calls Tryz.prog 60 #[.int .u8 10, .slice ao 0 cap] w (OfNo w 61) := by
 go_enter Tryz.func60, Tryz.ntmps60
 go_wp2_with (go_at_call 75; (first | ((with_reducible refine (within_yes _ _ _ ?_ ?_).mono ?_); (focus omega); (focus omega)) | ((with_reducible refine (within_no _ _ _ ?_).mono ?_); (focus omega))); rintro e w' ⟨rfl, rfl⟩)
 go_ret3
 exact ⟨rfl, Below.refl _ _⟩
set_option maxRecDepth 100000 in
set_option maxHeartbeats 4000000 in
theorem of_10_l1 (w : World) {o : Col} {c : Nat} (ao : Option Addr) (cap : Nat) (x : Int) (h : Ints w o c (.slice ao 1 cap) [x]) : Calls Tryz.prog 60 #[.int .u8 10, .slice ao 1 cap] w (OfNo w 61) := by
 obtain ⟨b, off, rfl, -, hcap, -, -, hc⟩ := h.at (by simp)
 have c0 := hc 0 (by simp)
 simp at c0
 clear hc h
 go_enter Tryz.func60, Tryz.ntmps60
 go_wp2_with (go_at_call 75; (first | ((with_reducible refine (within_yes _ _ _ ?_ ?_).mono ?_); (focus omega); (focus omega)) | ((with_reducible refine (within_no _ _ _ ?_).mono ?_); (focus omega))); rintro e w' ⟨rfl, rfl⟩)
 go_ret3
 exact ⟨rfl, Below.refl _ _⟩
set_option maxRecDepth 100000 in
set_option maxHeartbeats 4000000 in
theorem of_10_l2 (w : World) {o : Col} {c : Nat} (ao : Option Addr) (cap : Nat) (x y : Int) (h : Ints w o c (.slice ao 2 cap) [x, y]) : Calls Tryz.prog 60 #[.int .u8 10, .slice ao 2 cap] w (OfOk w 10 [x, y]) := by
 obtain ⟨b, off, rfl, -, hcap, -, -, hc⟩ := h.at (by simp)
 have c0 := hc 0 (by simp)
 have c1 := hc 1 (by simp)
 simp at c0 c1
 clear hc h
 have hcase : (x < 1 ∨ 16 < x) ∨ ((1 ≤ x ∧ x ≤ 16) ∧ (y < 1 ∨ 64 < y)) ∨ ((1 ≤ x ∧ x ≤ 16) ∧ (1 ≤ y ∧ y ≤ 64) ∧ 0 ≤ x * y ∧ x * y ≤ 64) ∨ ((1 ≤ x ∧ x ≤ 16) ∧ (1 ≤ y ∧ y ≤ 64) ∧ 64 < x * y ∧ x * y ≤ 1024) := pair_cases x y
 rcases hcase with hx | ⟨hx, hy⟩ | ⟨hx, hy, hz, hz2⟩ | ⟨hx, hy, hz, hz2⟩
 all_goals
  go_enter Tryz.func60, Tryz.ntmps60
  go_wp2_with (go_at_call 75; (first | ((with_reducible refine (within_yes _ _ _ ?_ ?_).mono ?_); (focus omega); (focus omega)) | ((with_reducible refine (within_no _ _ _ ?_).mono ?_); (focus omega))); rintro e w' ⟨rfl, rfl⟩)
  refine (ports_any _ _ _ _ [1] (ints_box _ [1] (by simp))  (by simp)).mono ?_
  rintro e w1 ⟨g1, c1, rfl, ho1, hb1⟩
  go_wp2
  go_ret3
  exact ⟨_, _, rfl, World.ownsRow_nil _ _ _ _, by simpa [insP, outsP, hd, hd1] using of_fin1 (by first | exact Below.refl _ _ | exact (Below.refl _ _).alloc (Nat.le_refl _) _) ho1 hb1⟩
set_option maxRecDepth 100000 in
set_option maxHeartbeats 4000000 in
theorem of_10_l3 (w : World) {o : Col} {c : Nat} (ao : Option Addr) (cap : Nat) (l : List Int) (k : Nat) (hk : l.length = k + 3) (hm : k ≤ 17600000000000) (h : Ints w o c (.slice ao (k + 3) cap) l) : Calls Tryz.prog 60 #[.int .u8 10, .slice ao (k + 3) cap] w (OfNo w 61) := by
 obtain ⟨b, off, rfl, -, hcap, -, -, hc⟩ := h.at (by omega)
 have c0 := hc 0 (by omega)
 have c1 := hc 1 (by omega)
 generalize l[0]?.getD 0 = x at c0
 generalize l[1]?.getD 0 = y at c1
 have hkk : (k : Int) ≤ 17600000000000 := by omega
 rw [Nat.add_zero] at c0
 clear hc h hk
 go_enter Tryz.func60, Tryz.ntmps60
 go_wp2_with (go_at_call 75; (first | ((with_reducible refine (within_yes _ _ _ ?_ ?_).mono ?_); (focus omega); (focus omega)) | ((with_reducible refine (within_no _ _ _ ?_).mono ?_); (focus omega))); rintro e w' ⟨rfl, rfl⟩)
 go_ret3
 exact ⟨rfl, Below.refl _ _⟩
set_option maxRecDepth 100000 in
set_option maxHeartbeats 4000000 in
theorem of_11_l0 (w : World) (ao : Option Addr) (cap : Nat) : Calls Tryz.prog 60 #[.int .u8 11, .slice ao 0 cap] w (OfNo w 61) := by
 go_enter Tryz.func60, Tryz.ntmps60
 go_wp2_with (go_at_call 75; (first | ((with_reducible refine (within_yes _ _ _ ?_ ?_).mono ?_); (focus omega); (focus omega)) | ((with_reducible refine (within_no _ _ _ ?_).mono ?_); (focus omega))); rintro e w' ⟨rfl, rfl⟩)
 go_ret3
 exact ⟨rfl, Below.refl _ _⟩
set_option maxRecDepth 100000 in
set_option maxHeartbeats 4000000 in
theorem of_11_l1y (w : World) {o : Col} {c : Nat} (ao : Option Addr) (cap : Nat) (x : Int) (h1 : 1 ≤ x) (h2 : x ≤ 64) (h : Ints w o c (.slice ao 1 cap) [x]) : Calls Tryz.prog 60 #[.int .u8 11, .slice ao 1 cap] w (OfOk w 11 [x]) := by
 obtain ⟨b, off, rfl, -, hcap, -, -, hc⟩ := h.at (by simp)
 have c0 := hc 0 (by simp)
 simp at c0
 clear hc h
 go_enter Tryz.func60, Tryz.ntmps60
 go_wp2_with (go_at_call 75; (first | ((with_reducible refine (within_yes _ _ _ ?_ ?_).mono ?_); (focus omega); (focus omega)) | ((with_reducible refine (within_no _ _ _ ?_).mono ?_); (focus omega))); rintro e w' ⟨rfl, rfl⟩)
 refine (ports_any _ _ _ _ [x] (ints_box _ [x] (by simp))  (by simp)).mono ?_
 rintro e w1 ⟨g1, c1, rfl, ho1, hb1⟩
 go_wp2
 go_ret3
 have hf := of_fin1 (w := w) (by first | exact Below.refl _ _ | exact (Below.refl _ _).alloc (Nat.le_refl _) _) ho1 hb1
 exact ⟨_, _, rfl, by simpa [insP, outsP, hd, hd1] using hf.1, World.ownsRow_nil _ _ _ _, hf.2⟩
set_option maxRecDepth 100000 in
set_option maxHeartbeats 4000000 in
theorem of_11_l1n (w : World) {o : Col} {c : Nat} (ao : Option Addr) (cap : Nat) (x : Int) (h1 : x < 1 ∨ 64 < x) (h : Ints w o c (.slice ao 1 cap) [x]) : Calls Tryz.prog 60 #[.int .u8 11, .slice ao 1 cap] w (OfNo w 61) := by
 obtain ⟨b, off, rfl, -, hcap, -, -, hc⟩ := h.at (by simp)
 have c0 := hc 0 (by simp)
 simp at c0
 clear hc h
 go_enter Tryz.func60, Tryz.ntmps60
 go_wp2_with (go_at_call 75; (first | ((with_reducible refine (within_yes _ _ _ ?_ ?_).mono ?_); (focus omega); (focus omega)) | ((with_reducible refine (within_no _ _ _ ?_).mono ?_); (focus omega))); rintro e w' ⟨rfl, rfl⟩)
 go_ret3
 exact ⟨rfl, Below.refl _ _⟩
set_option maxRecDepth 100000 in
set_option maxHeartbeats 4000000 in
theorem of_11_l2 (w : World) {o : Col} {c : Nat} (ao : Option Addr) (cap : Nat) (x y : Int) (h : Ints w o c (.slice ao 2 cap) [x, y]) : Calls Tryz.prog 60 #[.int .u8 11, .slice ao 2 cap] w (OfNo w 61) := by
 obtain ⟨b, off, rfl, -, hcap, -, -, hc⟩ := h.at (by simp)
 have c0 := hc 0 (by simp)
 have c1 := hc 1 (by simp)
 simp at c0 c1
 clear hc h
 have hcase : (x < 1 ∨ 16 < x) ∨ ((1 ≤ x ∧ x ≤ 16) ∧ (y < 1 ∨ 64 < y)) ∨ ((1 ≤ x ∧ x ≤ 16) ∧ (1 ≤ y ∧ y ≤ 64) ∧ 0 ≤ x * y ∧ x * y ≤ 64) ∨ ((1 ≤ x ∧ x ≤ 16) ∧ (1 ≤ y ∧ y ≤ 64) ∧ 64 < x * y ∧ x * y ≤ 1024) := pair_cases x y
 rcases hcase with hx | ⟨hx, hy⟩ | ⟨hx, hy, hz, hz2⟩ | ⟨hx, hy, hz, hz2⟩
 all_goals
  go_enter Tryz.func60, Tryz.ntmps60
  go_wp2_with (go_at_call 75; (first | ((with_reducible refine (within_yes _ _ _ ?_ ?_).mono ?_); (focus omega); (focus omega)) | ((with_reducible refine (within_no _ _ _ ?_).mono ?_); (focus omega))); rintro e w' ⟨rfl, rfl⟩)
  go_ret3
  exact ⟨rfl, Below.refl _ _⟩
set_option maxRecDepth 100000 in
set_option maxHeartbeats 4000000 in
theorem of_11_l3 (w : World) {o : Col} {c : Nat} (ao : Option Addr) (cap : Nat) (l : List Int) (k : Nat) (hk : l.length = k + 3) (hm : k ≤ 17600000000000) (h : Ints w o c (.slice ao (k + 3) cap) l) : Calls Tryz.prog 60 #[.int .u8 11, .slice ao (k + 3) cap] w (OfNo w 61) := by
 obtain ⟨b, off, rfl, -, hcap, -, -, hc⟩ := h.at (by omega)
 have c0 := hc 0 (by omega)
 have c1 := hc 1 (by omega)
 generalize l[0]?.getD 0 = x at c0
 generalize l[1]?.getD 0 = y at c1
 have hkk : (k : Int) ≤ 17600000000000 := by omega
 rw [Nat.add_zero] at c0
 clear hc h hk
 go_enter Tryz.func60, Tryz.ntmps60
 go_wp2_with (go_at_call 75; (first | ((with_reducible refine (within_yes _ _ _ ?_ ?_).mono ?_); (focus omega); (focus omega)) | ((with_reducible refine (within_no _ _ _ ?_).mono ?_); (focus omega))); rintro e w' ⟨rfl, rfl⟩)
 go_ret3
 exact ⟨rfl, Below.refl _ _⟩
end Go.Proofs.YtaholpfikcdhbaaGreat
/- shape.Of, any tag, any parameters. -/
namespace Go.Proofs.YtaholpfikcdhbaaGreat
open Go.RowKit
theorem of_1_any (w : World) {o : Col} {c : Nat} (ao : Option Addr) (n cap : Nat) (l : List Int) (hl : l.length ≤ 17600000000000) (h : Ints w o c (.slice ao n cap) l) : (goodP 1 l → Calls Tryz.prog 60 #[.int .u8 1, .slice ao n cap] w (OfOk w 1 l)) ∧ (¬ goodP 1 l → Calls Tryz.prog 60 #[.int .u8 1, .slice ao n cap] w (OfNo w 61)) := by
 obtain rfl := h.len
 match l, h, hl with
 | [], h, _ =>
  exact ⟨fun hg => absurd hg (by simp [goodP, oneP, pairP, hd, hd1] <;> omega), fun _ => of_1_l0 w ao cap⟩
 | [x], h, _ =>
  exact ⟨fun _ => of_1_l1 w ao cap x h, fun hg => absurd (by simp [goodP, oneP, pairP, hd, hd1] <;> omega) hg⟩
 | [x, y], h, _ =>
  exact ⟨fun _ => of_1_l2 w ao cap x y h, fun hg => absurd (by simp [goodP, oneP, pairP, hd, hd1] <;> omega) hg⟩
 | x :: y :: z :: r, h, hl =>
  simp only [List.length_cons] at hl h ⊢
  by_cases hr : r.length ≤ 13
  ·
   exact ⟨fun _ => of_1_l3y w ao cap _ r.length rfl hr h, fun hg => absurd (by simp [goodP, oneP, pairP, hd, hd1] <;> omega) hg⟩
  ·
   exact ⟨fun hg => absurd hg (by simp [goodP, oneP, pairP, hd, hd1] <;> omega), fun _ => of_1_l3n w ao cap _ r.length rfl (by omega) (by omega) h⟩
theorem of_2_any (w : World) {o : Col} {c : Nat} (ao : Option Addr) (n cap : Nat) (l : List Int) (hl : l.length ≤ 17600000000000) (h : Ints w o c (.slice ao n cap) l) : (goodP 2 l → Calls Tryz.prog 60 #[.int .u8 2, .slice ao n cap] w (OfOk w 2 l)) ∧ (¬ goodP 2 l → Calls Tryz.prog 60 #[.int .u8 2, .slice ao n cap] w (OfNo w 61)) := by
 obtain rfl := h.len
 match l, h, hl with
 | [], h, _ =>
  exact ⟨fun hg => absurd hg (by simp [goodP, oneP, pairP, hd, hd1] <;> omega), fun _ => of_2_l0 w ao cap⟩
 | [x], h, _ =>
  by_cases hx : 1 ≤ x ∧ x ≤ 64
  ·
   exact ⟨fun _ => of_2_l1y w ao cap x hx.1 hx.2 h, fun hg => absurd (by simp [goodP, oneP, pairP, hd, hd1] <;> omega) hg⟩
  ·
   exact ⟨fun hg => absurd hg (by simp [goodP, oneP, pairP, hd, hd1] <;> omega), fun _ => of_2_l1n w ao cap x (by omega) h⟩
 | [x, y], h, _ =>
  exact ⟨fun hg => absurd hg (by simp [goodP, oneP, pairP, hd, hd1] <;> omega), fun _ => of_2_l2 w ao cap x y h⟩
 | x :: y :: z :: r, h, hl =>
  simp only [List.length_cons] at hl h ⊢
  exact ⟨fun hg => absurd hg (by simp [goodP, oneP, pairP, hd, hd1] <;> omega), fun _ => of_2_l3 w ao cap _ r.length rfl (by omega) h⟩
theorem of_3_any (w : World) {o : Col} {c : Nat} (ao : Option Addr) (n cap : Nat) (l : List Int) (hl : l.length ≤ 17600000000000) (h : Ints w o c (.slice ao n cap) l) : (goodP 3 l → Calls Tryz.prog 60 #[.int .u8 3, .slice ao n cap] w (OfOk w 3 l)) ∧ (¬ goodP 3 l → Calls Tryz.prog 60 #[.int .u8 3, .slice ao n cap] w (OfNo w 61)) := by
 obtain rfl := h.len
 match l, h, hl with
 | [], h, _ =>
  exact ⟨fun hg => absurd hg (by simp [goodP, oneP, pairP, hd, hd1] <;> omega), fun _ => of_3_l0 w ao cap⟩
 | [x], h, _ =>
  by_cases hx : 1 ≤ x ∧ x ≤ 64
  ·
   exact ⟨fun _ => of_3_l1y w ao cap x hx.1 hx.2 h, fun hg => absurd (by simp [goodP, oneP, pairP, hd, hd1] <;> omega) hg⟩
  ·
   exact ⟨fun hg => absurd hg (by simp [goodP, oneP, pairP, hd, hd1] <;> omega), fun _ => of_3_l1n w ao cap x (by omega) h⟩
 | [x, y], h, _ =>
  exact ⟨fun hg => absurd hg (by simp [goodP, oneP, pairP, hd, hd1] <;> omega), fun _ => of_3_l2 w ao cap x y h⟩
 | x :: y :: z :: r, h, hl =>
  simp only [List.length_cons] at hl h ⊢
  exact ⟨fun hg => absurd hg (by simp [goodP, oneP, pairP, hd, hd1] <;> omega), fun _ => of_3_l3 w ao cap _ r.length rfl (by omega) h⟩
theorem of_4_any (w : World) {o : Col} {c : Nat} (ao : Option Addr) (n cap : Nat) (l : List Int) (hl : l.length ≤ 17600000000000) (h : Ints w o c (.slice ao n cap) l) : (goodP 4 l → Calls Tryz.prog 60 #[.int .u8 4, .slice ao n cap] w (OfOk w 4 l)) ∧ (¬ goodP 4 l → Calls Tryz.prog 60 #[.int .u8 4, .slice ao n cap] w (OfNo w 61)) := by
 obtain rfl := h.len
 match l, h, hl with
 | [], h, _ =>
  exact ⟨fun hg => absurd hg (by simp [goodP, oneP, pairP, hd, hd1] <;> omega), fun _ => of_4_l0 w ao cap⟩
 | [x], h, _ =>
  exact ⟨fun hg => absurd hg (by simp [goodP, oneP, pairP, hd, hd1] <;> omega), fun _ => of_4_l1 w ao cap x h⟩
 | [x, y], h, _ =>
  rcases pair_cases x y with hc | hc | hc | hc
  ·
   exact ⟨fun hg => absurd hg (by simp [goodP, oneP, pairP, hd, hd1] <;> omega), fun _ => of_4_l2n w ao cap x y (.inl hc) h⟩
  ·
   exact ⟨fun hg => absurd hg (by simp [goodP, oneP, pairP, hd, hd1] <;> omega), fun _ => of_4_l2n w ao cap x y (.inr (.inl hc)) h⟩
  ·
   obtain ⟨u, rfl⟩ : ∃ u : Nat, x = u := ⟨x.toNat, by omega⟩
   obtain ⟨m, rfl⟩ : ∃ m : Nat, y = m := ⟨y.toNat, by omega⟩
   have hum : u * m ≤ 64 := by have := hc.2.2.2; exact_mod_cast this
   exact ⟨fun _ => of_4_l2y w ao cap u m (by omega) (by omega) (by omega) (by omega) hum h, fun hg => absurd (by simp [goodP, oneP, pairP, hd, hd1] <;> omega) hg⟩
  ·
   exact ⟨fun hg => absurd hg (by simp [goodP, oneP, pairP, hd, hd1] <;> omega), fun _ => of_4_l2n w ao cap x y (.inr (.inr hc)) h⟩
 | x :: y :: z :: r, h, hl =>
  simp only [List.length_cons] at hl h ⊢
  exact ⟨fun hg => absurd hg (by simp [goodP, oneP, pairP, hd, hd1] <;> omega), fun _ => of_4_l3 w ao cap _ r.length rfl (by omega) h⟩
theorem of_5_any (w : World) {o : Col} {c : Nat} (ao : Option Addr) (n cap : Nat) (l : List Int) (hl : l.length ≤ 17600000000000) (h : Ints w o c (.slice ao n cap) l) : (goodP 5 l → Calls Tryz.prog 60 #[.int .u8 5, .slice ao n cap] w (OfOk w 5 l)) ∧ (¬ goodP 5 l → Calls Tryz.prog 60 #[.int .u8 5, .slice ao n cap] w (OfNo w 61)) := by
 obtain rfl := h.len
 match l, h, hl with
 | [], h, _ =>
  exact ⟨fun hg => absurd hg (by simp [goodP, oneP, pairP, hd, hd1] <;> omega), fun _ => of_5_l0 w ao cap⟩
 | [x], h, _ =>
  exact ⟨fun hg => absurd hg (by simp [goodP, oneP, pairP, hd, hd1] <;> omega), fun _ => of_5_l1 w ao cap x h⟩
 | [x, y], h, _ =>
  rcases pair_cases x y with hc | hc | hc | hc
  ·
   exact ⟨fun hg => absurd hg (by simp [goodP, oneP, pairP, hd, hd1] <;> omega), fun _ => of_5_l2n w ao cap x y (.inl hc) h⟩
  ·
   exact ⟨fun hg => absurd hg (by simp [goodP, oneP, pairP, hd, hd1] <;> omega), fun _ => of_5_l2n w ao cap x y (.inr (.inl hc)) h⟩
  ·
   obtain ⟨u, rfl⟩ : ∃ u : Nat, x = u := ⟨x.toNat, by omega⟩
   obtain ⟨m, rfl⟩ : ∃ m : Nat, y = m := ⟨y.toNat, by omega⟩
   have hum : u * m ≤ 64 := by have := hc.2.2.2; exact_mod_cast this
   exact ⟨fun _ => of_5_l2y w ao cap u m (by omega) (by omega) (by omega) (by omega) hum h, fun hg => absurd (by simp [goodP, oneP, pairP, hd, hd1] <;> omega) hg⟩
  ·
   exact ⟨fun hg => absurd hg (by simp [goodP, oneP, pairP, hd, hd1] <;> omega), fun _ => of_5_l2n w ao cap x y (.inr (.inr hc)) h⟩
 | x :: y :: z :: r, h, hl =>
  simp only [List.length_cons] at hl h ⊢
  exact ⟨fun hg => absurd hg (by simp [goodP, oneP, pairP, hd, hd1] <;> omega), fun _ => of_5_l3 w ao cap _ r.length rfl (by omega) h⟩
theorem of_6_any (w : World) {o : Col} {c : Nat} (ao : Option Addr) (n cap : Nat) (l : List Int) (hl : l.length ≤ 17600000000000) (h : Ints w o c (.slice ao n cap) l) : (goodP 6 l → Calls Tryz.prog 60 #[.int .u8 6, .slice ao n cap] w (OfOk w 6 l)) ∧ (¬ goodP 6 l → Calls Tryz.prog 60 #[.int .u8 6, .slice ao n cap] w (OfNo w 61)) := by
 obtain rfl := h.len
 match l, h, hl with
 | [], h, _ =>
  exact ⟨fun hg => absurd hg (by simp [goodP, oneP, pairP, hd, hd1] <;> omega), fun _ => of_6_l0 w ao cap⟩
 | [x], h, _ =>
  by_cases hx : 1 ≤ x ∧ x ≤ 16
  ·
   obtain ⟨u, rfl⟩ : ∃ u : Nat, x = u := ⟨x.toNat, by omega⟩
   exact ⟨fun _ => of_6_l1y w ao cap u (by omega) (by omega) h, fun hg => absurd (by simp [goodP, oneP, pairP, hd, hd1] <;> omega) hg⟩
  ·
   exact ⟨fun hg => absurd hg (by simp [goodP, oneP, pairP, hd, hd1] <;> omega), fun _ => of_6_l1n w ao cap x (by omega) h⟩
 | [x, y], h, _ =>
  exact ⟨fun hg => absurd hg (by simp [goodP, oneP, pairP, hd, hd1] <;> omega), fun _ => of_6_l2 w ao cap x y h⟩
 | x :: y :: z :: r, h, hl =>
  simp only [List.length_cons] at hl h ⊢
  exact ⟨fun hg => absurd hg (by simp [goodP, oneP, pairP, hd, hd1] <;> omega), fun _ => of_6_l3 w ao cap _ r.length rfl (by omega) h⟩
theorem of_7_any (w : World) {o : Col} {c : Nat} (ao : Option Addr) (n cap : Nat) (l : List Int) (hl : l.length ≤ 17600000000000) (h : Ints w o c (.slice ao n cap) l) : (goodP 7 l → Calls Tryz.prog 60 #[.int .u8 7, .slice ao n cap] w (OfOk w 7 l)) ∧ (¬ goodP 7 l → Calls Tryz.prog 60 #[.int .u8 7, .slice ao n cap] w (OfNo w 61)) := by
 obtain rfl := h.len
 match l, h, hl with
 | [], h, _ =>
  exact ⟨fun _ => of_7_l0 w ao cap, fun hg => absurd (by simp [goodP, oneP, pairP, hd, hd1] <;> omega) hg⟩
 | [x], h, _ =>
  exact ⟨fun hg => absurd hg (by simp [goodP, oneP, pairP, hd, hd1] <;> omega), fun _ => of_7_l1 w ao cap x h⟩
 | [x, y], h, _ =>
  exact ⟨fun hg => absurd hg (by simp [goodP, oneP, pairP, hd, hd1] <;> omega), fun _ => of_7_l2 w ao cap x y h⟩
 | x :: y :: z :: r, h, hl =>
  simp only [List.length_cons] at hl h ⊢
  exact ⟨fun hg => absurd hg (by simp [goodP, oneP, pairP, hd, hd1] <;> omega), fun _ => of_7_l3 w ao cap _ r.length rfl (by omega) h⟩
theorem of_8_any (w : World) {o : Col} {c : Nat} (ao : Option Addr) (n cap : Nat) (l : List Int) (hl : l.length ≤ 17600000000000) (h : Ints w o c (.slice ao n cap) l) : (goodP 8 l → Calls Tryz.prog 60 #[.int .u8 8, .slice ao n cap] w (OfOk w 8 l)) ∧ (¬ goodP 8 l → Calls Tryz.prog 60 #[.int .u8 8, .slice ao n cap] w (OfNo w 61)) := by
 obtain rfl := h.len
 match l, h, hl with
 | [], h, _ =>
  exact ⟨fun _ => of_8_l0 w ao cap, fun hg => absurd (by simp [goodP, oneP, pairP, hd, hd1] <;> omega) hg⟩
 | [x], h, _ =>
  exact ⟨fun hg => absurd hg (by simp [goodP, oneP, pairP, hd, hd1] <;> omega), fun _ => of_8_l1 w ao cap x h⟩
 | [x, y], h, _ =>
  exact ⟨fun hg => absurd hg (by simp [goodP, oneP, pairP, hd, hd1] <;> omega), fun _ => of_8_l2 w ao cap x y h⟩
 | x :: y :: z :: r, h, hl =>
  simp only [List.length_cons] at hl h ⊢
  exact ⟨fun hg => absurd hg (by simp [goodP, oneP, pairP, hd, hd1] <;> omega), fun _ => of_8_l3 w ao cap _ r.length rfl (by omega) h⟩
theorem of_9_any (w : World) {o : Col} {c : Nat} (ao : Option Addr) (n cap : Nat) (l : List Int) (hl : l.length ≤ 17600000000000) (h : Ints w o c (.slice ao n cap) l) : (goodP 9 l → Calls Tryz.prog 60 #[.int .u8 9, .slice ao n cap] w (OfOk w 9 l)) ∧ (¬ goodP 9 l → Calls Tryz.prog 60 #[.int .u8 9, .slice ao n cap] w (OfNo w 61)) := by
 obtain rfl := h.len
 match l, h, hl with
 | [], h, _ =>
  exact ⟨fun hg => absurd hg (by simp [goodP, oneP, pairP, hd, hd1] <;> omega), fun _ => of_9_l0 w ao cap⟩
 | [x], h, _ =>
  by_cases hx : 1 ≤ x ∧ x ≤ 16
  ·
   obtain ⟨u, rfl⟩ : ∃ u : Nat, x = u := ⟨x.toNat, by omega⟩
   exact ⟨fun _ => of_9_l1y w ao cap u (by omega) (by omega) h, fun hg => absurd (by simp [goodP, oneP, pairP, hd, hd1] <;> omega) hg⟩
  ·
   exact ⟨fun hg => absurd hg (by simp [goodP, oneP, pairP, hd, hd1] <;> omega), fun _ => of_9_l1n w ao cap x (by omega) h⟩
 | [x, y], h, _ =>
  exact ⟨fun hg => absurd hg (by simp [goodP, oneP, pairP, hd, hd1] <;> omega), fun _ => of_9_l2 w ao cap x y h⟩
 | x :: y :: z :: r, h, hl =>
  simp only [List.length_cons] at hl h ⊢
  exact ⟨fun hg => absurd hg (by simp [goodP, oneP, pairP, hd, hd1] <;> omega), fun _ => of_9_l3 w ao cap _ r.length rfl (by omega) h⟩
theorem of_10_any (w : World) {o : Col} {c : Nat} (ao : Option Addr) (n cap : Nat) (l : List Int) (hl : l.length ≤ 17600000000000) (h : Ints w o c (.slice ao n cap) l) : (goodP 10 l → Calls Tryz.prog 60 #[.int .u8 10, .slice ao n cap] w (OfOk w 10 l)) ∧ (¬ goodP 10 l → Calls Tryz.prog 60 #[.int .u8 10, .slice ao n cap] w (OfNo w 61)) := by
 obtain rfl := h.len
 match l, h, hl with
 | [], h, _ =>
  exact ⟨fun hg => absurd hg (by simp [goodP, oneP, pairP, hd, hd1] <;> omega), fun _ => of_10_l0 w ao cap⟩
 | [x], h, _ =>
  exact ⟨fun hg => absurd hg (by simp [goodP, oneP, pairP, hd, hd1] <;> omega), fun _ => of_10_l1 w ao cap x h⟩
 | [x, y], h, _ =>
  exact ⟨fun _ => of_10_l2 w ao cap x y h, fun hg => absurd (by simp [goodP, oneP, pairP, hd, hd1] <;> omega) hg⟩
 | x :: y :: z :: r, h, hl =>
  simp only [List.length_cons] at hl h ⊢
  exact ⟨fun hg => absurd hg (by simp [goodP, oneP, pairP, hd, hd1] <;> omega), fun _ => of_10_l3 w ao cap _ r.length rfl (by omega) h⟩
theorem of_11_any (w : World) {o : Col} {c : Nat} (ao : Option Addr) (n cap : Nat) (l : List Int) (hl : l.length ≤ 17600000000000) (h : Ints w o c (.slice ao n cap) l) : (goodP 11 l → Calls Tryz.prog 60 #[.int .u8 11, .slice ao n cap] w (OfOk w 11 l)) ∧ (¬ goodP 11 l → Calls Tryz.prog 60 #[.int .u8 11, .slice ao n cap] w (OfNo w 61)) := by
 obtain rfl := h.len
 match l, h, hl with
 | [], h, _ =>
  exact ⟨fun hg => absurd hg (by simp [goodP, oneP, pairP, hd, hd1] <;> omega), fun _ => of_11_l0 w ao cap⟩
 | [x], h, _ =>
  by_cases hx : 1 ≤ x ∧ x ≤ 64
  ·
   exact ⟨fun _ => of_11_l1y w ao cap x hx.1 hx.2 h, fun hg => absurd (by simp [goodP, oneP, pairP, hd, hd1] <;> omega) hg⟩
  ·
   exact ⟨fun hg => absurd hg (by simp [goodP, oneP, pairP, hd, hd1] <;> omega), fun _ => of_11_l1n w ao cap x (by omega) h⟩
 | [x, y], h, _ =>
  exact ⟨fun hg => absurd hg (by simp [goodP, oneP, pairP, hd, hd1] <;> omega), fun _ => of_11_l2 w ao cap x y h⟩
 | x :: y :: z :: r, h, hl =>
  simp only [List.length_cons] at hl h ⊢
  exact ⟨fun hg => absurd hg (by simp [goodP, oneP, pairP, hd, hd1] <;> omega), fun _ => of_11_l3 w ao cap _ r.length rfl (by omega) h⟩
end Go.Proofs.YtaholpfikcdhbaaGreat

/- shape.Of, whole. -/
namespace Go.Proofs.YtaholpfikcdhbaaGreat
open Go.RowKit
theorem of_ok {o : Col} {c : Nat} (w : World) (t : Int) (ao : Option Addr) (n cap : Nat) (ps : List Int) (hg : goodP t ps) (hl : ps.length ≤ 17600000000000) (h : Ints w o c (.slice ao n cap) ps) : Calls Tryz.prog 60 #[.int .u8 t, .slice ao n cap] w (OfOk w t ps) := by
 rcases goodP_cases hg with rfl | rfl | rfl | rfl | rfl | rfl | rfl | rfl | rfl | rfl | rfl
 ·
  exact (of_1_any w ao n cap ps hl h).1 hg
 ·
  exact (of_2_any w ao n cap ps hl h).1 hg
 ·
  exact (of_3_any w ao n cap ps hl h).1 hg
 ·
  exact (of_4_any w ao n cap ps hl h).1 hg
 ·
  exact (of_5_any w ao n cap ps hl h).1 hg
 ·
  exact (of_6_any w ao n cap ps hl h).1 hg
 ·
  exact (of_7_any w ao n cap ps hl h).1 hg
 ·
  exact (of_8_any w ao n cap ps hl h).1 hg
 ·
  exact (of_9_any w ao n cap ps hl h).1 hg
 ·
  exact (of_10_any w ao n cap ps hl h).1 hg
 ·
  exact (of_11_any w ao n cap ps hl h).1 hg
theorem of_bad {o : Col} {c : Nat} (w : World) (t : Int) (ao : Option Addr) (n cap : Nat) (ps : List Int) (ht : TagOk t) (hg : ¬ goodP t ps) (hl : ps.length ≤ 17600000000000) (h : Ints w o c (.slice ao n cap) ps) : Calls Tryz.prog 60 #[.int .u8 t, .slice ao n cap] w (OfNo w 61) := by
 rcases ht with rfl | rfl | rfl | rfl | rfl | rfl | rfl | rfl | rfl | rfl | rfl
 ·
  exact (of_1_any w ao n cap ps hl h).2 hg
 ·
  exact (of_2_any w ao n cap ps hl h).2 hg
 ·
  exact (of_3_any w ao n cap ps hl h).2 hg
 ·
  exact (of_4_any w ao n cap ps hl h).2 hg
 ·
  exact (of_5_any w ao n cap ps hl h).2 hg
 ·
  exact (of_6_any w ao n cap ps hl h).2 hg
 ·
  exact (of_7_any w ao n cap ps hl h).2 hg
 ·
  exact (of_8_any w ao n cap ps hl h).2 hg
 ·
  exact (of_9_any w ao n cap ps hl h).2 hg
 ·
  exact (of_10_any w ao n cap ps hl h).2 hg
 ·
  exact (of_11_any w ao n cap ps hl h).2 hg
theorem of_no {o : Col} {c : Nat} (w : World) (t : Int) (ao : Option Addr) (n cap : Nat) (ps : List Int) (hg : ¬ goodP t ps) (hl : ps.length ≤ 17600000000000) (h : Ints w o c (.slice ao n cap) ps) : Calls Tryz.prog 60 #[.int .u8 t, .slice ao n cap] w (OfNo w (errP t)) := by
 unfold errP
 by_cases ht : 1 ≤ t ∧ t ≤ 11
 ·
  rw [if_pos ht]; exact of_bad w t ao n cap ps (by unfold TagOk; omega) hg hl h
 ·
  rw [if_neg ht]; exact of_tag w t _ (by omega)
end Go.Proofs.YtaholpfikcdhbaaGreat

/- A region that draws its order: first what only reads; the rest in whatever order, step by step. No program in sight. -/
namespace Go.Proofs.YtaholpfikcdhbaaGreat
section
variable {P : Program} {md : Region.Mode} {ops : Array Oper} {Q : Exit → Act → World → Prop} {S : World → Prop}
def setAll (l : Array Bool) (r : List Nat) : Array Bool := r.foldl (fun l i => l.setIfInBounds i true) l
def bsOf (ops : Array Oper) (reads M : List Nat) (j : Nat) : Bool := madeB ops j || reads.contains j || M.contains j
def restsOK (md : Region.Mode) (ops : Array Oper) (reads M : List Nat) : Bool :=
 Region.noSelect ops && (reads.all fun i => anyAt ops i || (List.range ops.size).all fun j => madeB ops j || reads.contains j || M.contains j || behindB md ops ops.size j i) &&
 stageHead md ops (fun _ => true) reads (Array.replicate ops.size false)
theorem wpAnyT_reads {reads M : List Nat} {n : Nat} (hsel : Region.noSelect ops = true) (hQ : ∀ c a a' w, Q (.panic c) a w → Q (.panic c) a' w)
  (hbe : ∀ i ∈ reads, anyAt ops i = false → ∀ j, j < ops.size → madeB ops j = true ∨ reads.contains j = true ∨ M.contains j = true ∨ behindB md ops ops.size j i = true) :
  ∀ (r : List Nat) (listed : Array Bool) (a : Act) (w : World), (∀ i ∈ r, i ∈ reads) → closedL md ops listed → stageHead md ops (fun _ => true) r listed = true → S w →
   wpReads P ops S (fun a' => wpAnyT P md ops Q S (bsOf ops reads M) n (setAll listed r) a' w) (pickOps ops r) a →
   wpAnyT P md ops Q S (bsOf ops reads M) (r.length + n) listed a w
 | [], listed, a, w, _, _, _, _, h => by
  rw [show ([] : List Nat).length + n = n by simp]
  exact h
 | i :: r, listed, a, w, hr, hcl, hB, hS, h => by
  simp only [stageHead, Bool.and_eq_true] at hB
  obtain ⟨⟨hrdy, hfree⟩, hB'⟩ := hB
  have hrdy' : i ∈ Region.ready md ops listed := by simpa using hrdy
  have hlt := ready_lt hrdy'
  have hi : ops[i]? = some ops[i] := Array.getElem?_eq_getElem hlt
  have hp : pickOps ops (i :: r) = ops[i] :: pickOps ops r := pick_one hi r
  rw [hp] at h
  obtain ⟨v, hy, hK⟩ := h
  rw [show (i :: r).length + n = (r.length + n) + 1 by simp; omega]
  refine wpAnyT_first (S' := fun w => anyB ops[i] = true ∨ S w) hi (Region.noSelect_spec hsel) (fun c a w h => hQ c _ _ w h) (fun j listed w w' hc hj hiun hb hS => ?_) (fun w _ _ h => h) _ listed a w hcl (Region.free_spec hi hfree) hrdy' hy (.inr hS) ?_
  ·
   rcases hS with hS | hS
   ·
    exact .inl hS
   ·
    cases hany : anyB ops[i] with
    | true => exact .inl rfl
    | false =>
     right
     rcases hbe i (hr i (by simp)) (by unfold anyAt; rw [hi]; exact hany) j (ready_lt hj) with h1 | h1 | h1 | h1
     ·
      exact hb (by simp [bsOf, h1]) hS
     ·
      exact hb (by unfold bsOf; rw [h1]; simp) hS
     ·
      exact hb (by unfold bsOf; rw [h1]; simp) hS
     ·
      have := behind_ready hc h1 hj
      rw [hiun] at this
      cases this
  ·
   exact wpAnyT_reads hsel hQ hbe r _ _ w (fun x hx => hr x (by simp [hx])) (closedL_set hcl hrdy') hB' hS hK
theorem wp_region_rest {id : Nat} {l : List Oper} {a : Act} {w : World} (S : World → Prop) (reads M : List Nat) (n : Nat) (hm : P.follows .mixedOrders = true)
  (hB : restsOK .any l.toArray reads M = true) (hlen : reads.length + n = l.length) (hS : S w.drew)
  (h : ∀ Q' : Exit → Act → World → Prop, (∀ a w, Q .normal a w → Q' .normal a w) → wpReads P l.toArray S (fun a' => wpAnyT P .any l.toArray Q' S (bsOf l.toArray reads M) n (setAll (Array.replicate l.length false) reads) a' w.drew) (pickOps l.toArray reads) a) : (Code.region id l.toArray true).wp P Q a w := by
 refine wp_region_noPanic ?_
 refine wp_region_any hm ?_
 simp only [restsOK, Bool.and_eq_true, List.all_eq_true, List.mem_range, Bool.or_eq_true] at hB
 obtain ⟨⟨hsel, hbe⟩, hl⟩ := hB
 refine wpAny_of_T (S := S) (B := bsOf l.toArray reads M) _ _ _ _ ?_
 have key := wpAnyT_reads (P := P) (md := .any) (Q := NoPanic Q) (S := S) (reads := reads) (M := M) (n := n) hsel (fun c a a' w h => h) (fun i hi hany j hj => by
  rcases hbe i hi with h0 | h0
  ·
   rw [hany] at h0; cases h0
  rcases h0 j hj with ((h1 | h1) | h1) | h1
  ·
   exact .inl h1
  ·
   exact .inr (.inl h1)
  ·
   exact .inr (.inr (.inl h1))
  ·
   exact .inr (.inr (.inr h1))) reads (Array.replicate l.toArray.size false) a { w with drawn := w.drawn + 1 } (fun _ h => h)
  (fun j oj _ hl => by rw [getD_replicate_false] at hl; cases hl) hl hS (by simpa using h (NoPanic Q) (fun _ _ h => NoPanic.normal h))
 rw [hlen] at key
 simpa using key
theorem wpOp_of_list {i : Nat} {K : Act → World → Prop} {a : Act} {w : World} (hi : i < ops.size) (h : wpList P ops (EndK Q K) (pickOps ops [i]) a w) : wpOp P ops Q i K a w := by
 have ho : ops[i]? = some ops[i] := Array.getElem?_eq_getElem hi
 rw [pick_one ho []] at h
 have hw : wpOp P ops (EndK Q K) i (wpList P ops (EndK Q K) (pickOps ops [])) a w := by unfold wpOp; simp only [ho]; exact h
 exact wpOp_endK (fun a' w' h' => h') hw
theorem wpAnyT_one {B : Nat → Bool} {n i : Nat} {listed : Array Bool} {a : Act} {w : World} (hr : Region.ready md ops listed = [i]) (h : wpList P ops (EndK Q fun a' w' => (B i = true → S w → S w') ∧ wpAnyT P md ops Q S B n (listed.setIfInBounds i true) a' w') (pickOps ops [i]) a w) : wpAnyT P md ops Q S B (n + 1) listed a w := by
 have hi : i ∈ Region.ready md ops listed := by rw [hr]; simp
 refine ⟨fun h0 => (by rw [h0] at hr; cases hr), fun j hj => ?_⟩
 rw [hr] at hj
 obtain rfl : j = i := by simpa using hj
 exact wpOp_of_list (ready_lt hi) h
theorem wpAnyT_two {B : Nat → Bool} {n i k : Nat} {listed : Array Bool} {a : Act} {w : World} (hr : Region.ready md ops listed = [i, k]) (h : wpList P ops (EndK Q fun a' w' => (B i = true → S w → S w') ∧ wpAnyT P md ops Q S B n (listed.setIfInBounds i true) a' w') (pickOps ops [i]) a w)
  (h' : wpList P ops (EndK Q fun a' w' => (B k = true → S w → S w') ∧ wpAnyT P md ops Q S B n (listed.setIfInBounds k true) a' w') (pickOps ops [k]) a w) : wpAnyT P md ops Q S B (n + 1) listed a w := by
 have hi : i ∈ Region.ready md ops listed := by rw [hr]; simp
 have hk : k ∈ Region.ready md ops listed := by rw [hr]; simp
 refine ⟨fun h0 => (by rw [h0] at hr; cases hr), fun j hj => ?_⟩
 rw [hr] at hj
 rcases List.mem_cons.1 hj with rfl | hj
 ·
  exact wpOp_of_list (ready_lt hi) h
 ·
  obtain rfl : j = k := by simpa using hj
  exact wpOp_of_list (ready_lt hk) h'
theorem wpAnyT_list {reads M : List Nat} {ks : List Nat} {listed : Array Bool} {a : Act} {w : World} (hSx : ∀ w w', Ext w w' → S w → S w') (hB : (stageTail md ops (fun l => (Region.ready md ops l).isEmpty) ks listed && ks.all fun k => !(reads.contains k || M.contains k)) = true) (h : wpList P ops Q (pickOps ops ks) a w) : wpAnyT P md ops Q S (bsOf ops reads M) ks.length listed a w := by
 simp only [Bool.and_eq_true, List.all_eq_true, Bool.not_eq_true'] at hB
 have go : ∀ (ks : List Nat) (listed : Array Bool) (a : Act) (w : World), stageTail md ops (fun l => (Region.ready md ops l).isEmpty) ks listed = true → (∀ k ∈ ks, (reads.contains k || M.contains k) = false) → wpList P ops Q (pickOps ops ks) a w → wpAnyT P md ops Q S (bsOf ops reads M) ks.length listed a w := by
  intro ks
  induction ks with
  | nil => exact fun listed a w h1 _ h => ⟨by simpa [stageTail] using h1, h⟩
  | cons k r ih =>
   intro listed a w h1 h2 h
   simp only [stageTail, Bool.and_eq_true, decide_eq_true_eq] at h1
   have hrdy : k ∈ Region.ready md ops listed := by rw [h1.1]; simp
   have hlt := ready_lt hrdy
   have ho : ops[k]? = some ops[k] := Array.getElem?_eq_getElem hlt
   rw [pick_one ho r] at h
   refine ⟨fun h0 => (by rw [h0] at h1; cases h1.1), fun j hj => ?_⟩
   rw [h1.1] at hj
   obtain rfl : j = k := by simpa using hj
   have hw : wpOp P ops Q j (wpList P ops Q (pickOps ops r)) a w := by unfold wpOp; simp only [ho]; exact h
   by_cases hm : madeB ops j = true
   ·
    obtain ⟨o, ho', hmo⟩ := madeB_some hm
    exact wpOp_mono (fun a' w' h' => ⟨fun _ hS => hSx _ _ h'.1 hS, ih _ a' w' h1.2 (fun x hx => h2 x (by simp [hx])) h'.2⟩) (wpOp_makes ho' hmo hw)
   ·
    have hf : bsOf ops reads M j = false := by
     have h3 := h2 j (by simp)
     rw [Bool.or_eq_false_iff] at h3
     unfold bsOf
     rw [h3.1, h3.2]
     simpa using hm
    exact wpOp_mono (fun a' w' h' => ⟨fun hb => (by rw [hf] at hb; cases hb), ih _ a' w' h1.2 (fun x hx => h2 x (by simp [hx])) h'⟩) hw
 exact go ks listed a w hB.1 (fun k hk => hB.2 k hk) h
end
end Go.Proofs.YtaholpfikcdhbaaGreat

/- Whole numbers, and whether they fit: Add, Sub, Mul, Sum, Dot. -/
namespace Go.Proofs.YtaholpfikcdhbaaGreat
open Go.RowKit
def Fits (n : Int) : Prop := -9223372036854775808 ≤ n ∧ n ≤ 9223372036854775807
instance (n : Int) : Decidable (Fits n) := by unfold Fits; infer_instance
set_option maxRecDepth 100000 in
set_option maxHeartbeats 1000000 in
theorem add_yes (w : World) (a b : Int) (_ha : Fits a) (hb : Fits b) (h : Fits (a + b)) : Calls Tryz.prog 154 #[.int .i64 a, .int .i64 b] w fun e w' => e = .returned (.tuple #[.int .i64 (a + b), .bool true]) ∧ w = w' := by
 unfold Fits at hb h
 by_cases h0 : 0 < b
 ·
  have h1 : ¬ b < 0 := by omega
  go_enter Tryz.func154, Tryz.ntmps154
  go_wp2
  go_ret2
  exact ⟨rfl, rfl⟩
 ·
  by_cases h1 : b < 0
  ·
   go_enter Tryz.func154, Tryz.ntmps154
   go_wp2
   go_ret2
   exact ⟨rfl, rfl⟩
  ·
   go_enter Tryz.func154, Tryz.ntmps154
   go_wp2
   go_ret2
   exact ⟨rfl, rfl⟩
set_option maxRecDepth 100000 in
set_option maxHeartbeats 1000000 in
theorem add_no (w : World) (a b : Int) (ha : Fits a) (hb : Fits b) (h : ¬ Fits (a + b)) : Calls Tryz.prog 154 #[.int .i64 a, .int .i64 b] w fun e w' => e = .returned (.tuple #[.int .i64 0, .bool false]) ∧ w = w' := by
 unfold Fits at ha hb h
 by_cases h0 : 0 < b
 ·
  have h1 : 9223372036854775807 - b < a := by omega
  clear h
  go_enter Tryz.func154, Tryz.ntmps154
  go_wp2
  go_ret2
  exact ⟨rfl, rfl⟩
 ·
  have h1 : b < 0 := by omega
  have h2 : a < -9223372036854775808 - b := by omega
  clear h
  go_enter Tryz.func154, Tryz.ntmps154
  go_wp2
  go_ret2
  exact ⟨rfl, rfl⟩
set_option maxRecDepth 100000 in
set_option maxHeartbeats 1000000 in
theorem sub_yes (w : World) (a b : Int) (_ha : Fits a) (hb : Fits b) (h : Fits (a - b)) : Calls Tryz.prog 165 #[.int .i64 a, .int .i64 b] w fun e w' => e = .returned (.tuple #[.int .i64 (a - b), .bool true]) ∧ w = w' := by
 unfold Fits at hb h
 by_cases h0 : b < 0
 ·
  have h1 : ¬ 0 < b := by omega
  go_enter Tryz.func165, Tryz.ntmps165
  go_wp2
  go_ret2
  exact ⟨rfl, rfl⟩
 ·
  by_cases h1 : 0 < b
  ·
   go_enter Tryz.func165, Tryz.ntmps165
   go_wp2
   go_ret2
   exact ⟨rfl, rfl⟩
  ·
   go_enter Tryz.func165, Tryz.ntmps165
   go_wp2
   go_ret2
   exact ⟨rfl, rfl⟩
set_option maxRecDepth 100000 in
set_option maxHeartbeats 1000000 in
theorem sub_no (w : World) (a b : Int) (ha : Fits a) (hb : Fits b) (h : ¬ Fits (a - b)) : Calls Tryz.prog 165 #[.int .i64 a, .int .i64 b] w fun e w' => e = .returned (.tuple #[.int .i64 0, .bool false]) ∧ w = w' := by
 unfold Fits at ha hb h
 by_cases h0 : b < 0
 ·
  have h1 : 9223372036854775807 + b < a := by omega
  clear h
  go_enter Tryz.func165, Tryz.ntmps165
  go_wp2
  go_ret2
  exact ⟨rfl, rfl⟩
 ·
  have h1 : 0 < b := by omega
  have h2 : a < -9223372036854775808 + b := by omega
  clear h
  go_enter Tryz.func165, Tryz.ntmps165
  go_wp2
  go_ret2
  exact ⟨rfl, rfl⟩
set_option maxRecDepth 100000 in
set_option maxHeartbeats 1000000 in
theorem mul64_any (x y : Nat) (hx : x < 18446744073709551616) (hy : y < 18446744073709551616) (w : World) :
  Calls Tryz.prog 155 #[.int .u64 x, .int .u64 y] w fun e w' => e = .returned (.tuple #[.int .u64 ((x * y / 18446744073709551616 : Nat) : Int), .int .u64 ((x * y % 18446744073709551616 : Nat) : Int)]) ∧ w = w' := by
 obtain ⟨bd, bt, bw, hhi⟩ := Lib.mul64_hi x y hx hy
 have ba := Lib.half_mul_le (a := x / 4294967296) (b := y / 4294967296) (by omega) (by omega)
 have bb := Lib.half_mul_le (a := x / 4294967296) (b := y % 4294967296) (by omega) (by omega)
 have bc := Lib.half_mul_le (a := x % 4294967296) (b := y / 4294967296) (by omega) (by omega)
 have ba' : x / 4294967296 * (y / 4294967296) < 18446744073709551616 := by omega
 have bb' : x / 4294967296 * (y % 4294967296) < 18446744073709551616 := by omega
 have bc' : x % 4294967296 * (y / 4294967296) < 18446744073709551616 := by omega
 have bh1 : x / 4294967296 * (y / 4294967296) + (x / 4294967296 * (y % 4294967296) + x % 4294967296 * (y % 4294967296) / 4294967296) / 4294967296 < 18446744073709551616 := by omega
 have bh : x / 4294967296 * (y / 4294967296) + (x / 4294967296 * (y % 4294967296) + x % 4294967296 * (y % 4294967296) / 4294967296) / 4294967296 + ((x / 4294967296 * (y % 4294967296) + x % 4294967296 * (y % 4294967296) / 4294967296) % 4294967296 + x % 4294967296 * (y / 4294967296)) / 4294967296 < 18446744073709551616 := by omega
 go_enter Tryz.func155, Tryz.ntmps155
 go_wp2
 simp only [Mul64.maskN x hx, Mul64.maskN y hy, Mul64.divN, Mul64.mulN, Mul64.addN, Mul64.wrapN _ bd, Mul64.wrapN _ bb', Mul64.wrapN _ bt, Mul64.maskN _ bt, Mul64.wrapN _ bc', Mul64.wrapN _ bw, Mul64.wrapN _ ba', Mul64.wrapN _ bh1, Mul64.wrapN _ bh, Mul64.wrapM (x * y)]
 rw [hhi]
 go_ret2
 exact ⟨rfl, rfl⟩
set_option maxRecDepth 100000 in
theorem size_any (w : World) (a : Int) (ha : Fits a) : Calls Tryz.prog 156 #[.int .i64 a] w fun e w' => e = .returned (.int .u64 (a.natAbs : Int)) ∧ w = w' := by
 unfold Fits at ha
 by_cases h0 : a < 0
 ·
  go_enter Tryz.func156, Tryz.ntmps156
  go_wp2
  go_ret
  exact ⟨ret_int (by rw [IntKind.wrap_u64, IntKind.wrap_u64]; omega), rfl⟩
 ·
  go_enter Tryz.func156, Tryz.ntmps156
  go_wp2
  go_ret
  exact ⟨ret_int (by omega), rfl⟩
theorem mul64_low (w : World) (x y p : Nat) (hp : x * y = p) (hx : x < 18446744073709551616) (hy : y < 18446744073709551616) (h : p < 18446744073709551616) :
  Calls Tryz.prog 155 #[.int .u64 x, .int .u64 y] w fun e w' => e = .returned (.tuple #[.int .u64 0, .int .u64 (p : Int)]) ∧ w = w' := by
 have := mul64_any x y hx hy w
 rw [hp, Nat.div_eq_of_lt h, Nat.mod_eq_of_lt h] at this
 exact this
theorem mul64_high (w : World) (x y : Nat) (hx : x < 18446744073709551616) (hy : y < 18446744073709551616) (h : 18446744073709551616 ≤ x * y) :
  Calls Tryz.prog 155 #[.int .u64 x, .int .u64 y] w fun e w' => (∃ u v : Int, 1 ≤ u ∧ e = .returned (.tuple #[.int .u64 u, .int .u64 v])) ∧ w = w' := by
 refine (mul64_any x y hx hy w).mono ?_
 rintro e w' ⟨rfl, rfl⟩
 refine ⟨⟨_, _, ?_, rfl⟩, rfl⟩
 have := Nat.div_le_div_right (c := 18446744073709551616) h
 omega
theorem mul_sign (a b : Int) : ((a < 0 ↔ b < 0) → a * b = ((a.natAbs * b.natAbs : Nat) : Int)) ∧ (¬ (a < 0 ↔ b < 0) → a * b = -((a.natAbs * b.natAbs : Nat) : Int)) := by
 rcases Int.natAbs_eq a with ha | ha <;> rcases Int.natAbs_eq b with hb | hb
 all_goals
  rw [ha, hb]
  simp only [Int.natAbs_neg, Int.natAbs_natCast, Int.natCast_mul, Int.neg_mul, Int.mul_neg, Int.neg_neg]
  generalize a.natAbs = x
  generalize b.natAbs = y
 ·
  exact ⟨fun _ => trivial, fun h => by omega⟩
 ·
  refine ⟨fun h => ?_, fun _ => trivial⟩
  obtain rfl : y = 0 := by omega
  simp
 ·
  refine ⟨fun h => ?_, fun _ => trivial⟩
  obtain rfl : x = 0 := by omega
  simp
 ·
  refine ⟨fun _ => trivial, fun h => ?_⟩
  rcases Nat.eq_zero_or_pos x with rfl | hx
  ·
   simp
  ·
   rcases Nat.eq_zero_or_pos y with rfl | hy
   ·
    simp
   ·
    exact absurd (by omega) h
theorem abs_lt {a : Int} (h : Fits a) : a.natAbs < 18446744073709551616 := by unfold Fits at h; omega
set_option maxRecDepth 100000 in
set_option maxHeartbeats 2000000 in
theorem mul_yes (w : World) (a b : Int) (ha : Fits a) (hb : Fits b) (h : Fits (a * b)) : Calls Tryz.prog 153 #[.int .i64 a, .int .i64 b] w fun e w' => e = .returned (.tuple #[.int .i64 (a * b), .bool true]) ∧ w = w' := by
 obtain ⟨hs1, hs2⟩ := mul_sign a b
 have hfa := Lib.hid ha
 have hfb := Lib.hid hb
 obtain ⟨p, hp⟩ : ∃ p, a.natAbs * b.natAbs = p := ⟨_, rfl⟩
 rw [hp] at hs1 hs2
 have Hp := Lib.hid hp
 clear hp ha hb
 generalize a * b = q at h hs1 hs2
 by_cases h0 : a < 0
 ·
  have t1 : decide (a < 0) = true := by simpa using h0
  by_cases h1 : b < 0
  ·
   have t2 : decide (b < 0) = true := by simpa using h1
   have Hq := Lib.hid (hs1 ⟨fun _ => h1, fun _ => h0⟩)
   have hpl : (p : Int) ≤ 9223372036854775807 := by have := Hq.out; unfold Fits at h; omega
   clear hs1 hs2 h
   go_enter Tryz.func153, Tryz.ntmps153
   go_wp2_with fail
   refine (size_any _ a hfa.out).mono ?_
   rintro e w1 ⟨rfl, rfl⟩
   go_wp2_with fail
   refine (size_any _ b hfb.out).mono ?_
   rintro e w1 ⟨rfl, rfl⟩
   go_wp2_with fail
   refine (mul64_low _ _ _ p Hp.out (abs_lt hfa.out) (abs_lt hfb.out) (by omega)).mono ?_
   rintro e w1 ⟨rfl, rfl⟩
   go_wp2
   go_ret2
   exact ⟨by rw [Hq.out]; rfl, rfl⟩
  ·
   have t2 : decide (b < 0) = false := by simpa using h1
   have Hq := Lib.hid (hs2 (fun x => h1 (x.1 h0)))
   have hpl : (p : Int) ≤ 9223372036854775808 := by have := Hq.out; unfold Fits at h; omega
   have Hr : Hid (wrap64 (IntKind.u64.wrap (-(p : Int))) = q) := Lib.hid (by rw [IntKind.wrap_u64, Hq.out]; unfold wrap64; omega)
   clear hs1 hs2 h
   go_enter Tryz.func153, Tryz.ntmps153
   go_wp2_with fail
   refine (size_any _ a hfa.out).mono ?_
   rintro e w1 ⟨rfl, rfl⟩
   go_wp2_with fail
   refine (size_any _ b hfb.out).mono ?_
   rintro e w1 ⟨rfl, rfl⟩
   go_wp2_with fail
   refine (mul64_low _ _ _ p Hp.out (abs_lt hfa.out) (abs_lt hfb.out) (by omega)).mono ?_
   rintro e w1 ⟨rfl, rfl⟩
   go_wp2
   go_ret2
   exact ⟨by rw [← Hr.out]; rfl, rfl⟩
 ·
  have t1 : decide (a < 0) = false := by simpa using h0
  by_cases h1 : b < 0
  ·
   have t2 : decide (b < 0) = true := by simpa using h1
   have Hq := Lib.hid (hs2 (fun x => h0 (x.2 h1)))
   have hpl : (p : Int) ≤ 9223372036854775808 := by have := Hq.out; unfold Fits at h; omega
   have Hr : Hid (wrap64 (IntKind.u64.wrap (-(p : Int))) = q) := Lib.hid (by rw [IntKind.wrap_u64, Hq.out]; unfold wrap64; omega)
   clear hs1 hs2 h
   go_enter Tryz.func153, Tryz.ntmps153
   go_wp2_with fail
   refine (size_any _ a hfa.out).mono ?_
   rintro e w1 ⟨rfl, rfl⟩
   go_wp2_with fail
   refine (size_any _ b hfb.out).mono ?_
   rintro e w1 ⟨rfl, rfl⟩
   go_wp2_with fail
   refine (mul64_low _ _ _ p Hp.out (abs_lt hfa.out) (abs_lt hfb.out) (by omega)).mono ?_
   rintro e w1 ⟨rfl, rfl⟩
   go_wp2
   go_ret2
   exact ⟨by rw [← Hr.out]; rfl, rfl⟩
  ·
   have t2 : decide (b < 0) = false := by simpa using h1
   have Hq := Lib.hid (hs1 ⟨fun x => absurd x h0, fun x => absurd x h1⟩)
   have hpl : (p : Int) ≤ 9223372036854775807 := by have := Hq.out; unfold Fits at h; omega
   clear hs1 hs2 h
   go_enter Tryz.func153, Tryz.ntmps153
   go_wp2_with fail
   refine (size_any _ a hfa.out).mono ?_
   rintro e w1 ⟨rfl, rfl⟩
   go_wp2_with fail
   refine (size_any _ b hfb.out).mono ?_
   rintro e w1 ⟨rfl, rfl⟩
   go_wp2_with fail
   refine (mul64_low _ _ _ p Hp.out (abs_lt hfa.out) (abs_lt hfb.out) (by omega)).mono ?_
   rintro e w1 ⟨rfl, rfl⟩
   go_wp2
   go_ret2
   exact ⟨by rw [Hq.out]; rfl, rfl⟩
set_option maxRecDepth 100000 in
set_option maxHeartbeats 2000000 in
theorem mul_no (w : World) (a b : Int) (ha : Fits a) (hb : Fits b) (h : ¬ Fits (a * b)) : Calls Tryz.prog 153 #[.int .i64 a, .int .i64 b] w fun e w' => e = .returned (.tuple #[.int .i64 0, .bool false]) ∧ w = w' := by
 obtain ⟨hs1, hs2⟩ := mul_sign a b
 have hfa := Lib.hid ha
 have hfb := Lib.hid hb
 by_cases hbig : 18446744073709551616 ≤ a.natAbs * b.natAbs
 ·
  have Hb := Lib.hid hbig
  clear hbig hs1 hs2 h ha hb
  go_enter Tryz.func153, Tryz.ntmps153
  go_wp2_with fail
  refine (size_any _ a hfa.out).mono ?_
  rintro e w1 ⟨rfl, rfl⟩
  go_wp2_with fail
  refine (size_any _ b hfb.out).mono ?_
  rintro e w1 ⟨rfl, rfl⟩
  go_wp2_with fail
  refine (mul64_high _ _ _ (abs_lt hfa.out) (abs_lt hfb.out) Hb.out).mono ?_
  rintro e w1 ⟨⟨u, v, hu, rfl⟩, rfl⟩
  have hu0 : (u == 0) = false := by simp; omega
  go_wp2
  go_ret2
  exact ⟨rfl, rfl⟩
 ·
  obtain ⟨p, hp⟩ : ∃ p, a.natAbs * b.natAbs = p := ⟨_, rfl⟩
  rw [hp] at hs1 hs2 hbig
  have Hp := Lib.hid hp
  clear hp ha hb
  generalize a * b = q at h hs1 hs2
  unfold Fits at h
  by_cases h0 : a < 0
  ·
   have t1 : decide (a < 0) = true := by simpa using h0
   by_cases h1 : b < 0
   ·
    have t2 : decide (b < 0) = true := by simpa using h1
    have hpl : (9223372036854775807 : Int) < p := by have := hs1 ⟨fun _ => h1, fun _ => h0⟩; omega
    clear hs1 hs2 h
    go_enter Tryz.func153, Tryz.ntmps153
    go_wp2_with fail
    refine (size_any _ a hfa.out).mono ?_
    rintro e w1 ⟨rfl, rfl⟩
    go_wp2_with fail
    refine (size_any _ b hfb.out).mono ?_
    rintro e w1 ⟨rfl, rfl⟩
    go_wp2_with fail
    refine (mul64_low _ _ _ p Hp.out (abs_lt hfa.out) (abs_lt hfb.out) (by omega)).mono ?_
    rintro e w1 ⟨rfl, rfl⟩
    go_wp2
    go_ret2
    exact ⟨rfl, rfl⟩
   ·
    have t2 : decide (b < 0) = false := by simpa using h1
    have hpl : (9223372036854775808 : Int) < p := by have := hs2 (fun x => h1 (x.1 h0)); omega
    clear hs1 hs2 h
    go_enter Tryz.func153, Tryz.ntmps153
    go_wp2_with fail
    refine (size_any _ a hfa.out).mono ?_
    rintro e w1 ⟨rfl, rfl⟩
    go_wp2_with fail
    refine (size_any _ b hfb.out).mono ?_
    rintro e w1 ⟨rfl, rfl⟩
    go_wp2_with fail
    refine (mul64_low _ _ _ p Hp.out (abs_lt hfa.out) (abs_lt hfb.out) (by omega)).mono ?_
    rintro e w1 ⟨rfl, rfl⟩
    go_wp2
    go_ret2
    exact ⟨rfl, rfl⟩
  ·
   have t1 : decide (a < 0) = false := by simpa using h0
   by_cases h1 : b < 0
   ·
    have t2 : decide (b < 0) = true := by simpa using h1
    have hpl : (9223372036854775808 : Int) < p := by have := hs2 (fun x => h0 (x.2 h1)); omega
    clear hs1 hs2 h
    go_enter Tryz.func153, Tryz.ntmps153
    go_wp2_with fail
    refine (size_any _ a hfa.out).mono ?_
    rintro e w1 ⟨rfl, rfl⟩
    go_wp2_with fail
    refine (size_any _ b hfb.out).mono ?_
    rintro e w1 ⟨rfl, rfl⟩
    go_wp2_with fail
    refine (mul64_low _ _ _ p Hp.out (abs_lt hfa.out) (abs_lt hfb.out) (by omega)).mono ?_
    rintro e w1 ⟨rfl, rfl⟩
    go_wp2
    go_ret2
    exact ⟨rfl, rfl⟩
   ·
    have t2 : decide (b < 0) = false := by simpa using h1
    have hpl : (9223372036854775807 : Int) < p := by have := hs1 ⟨fun x => absurd x h0, fun x => absurd x h1⟩; omega
    clear hs1 hs2 h
    go_enter Tryz.func153, Tryz.ntmps153
    go_wp2_with fail
    refine (size_any _ a hfa.out).mono ?_
    rintro e w1 ⟨rfl, rfl⟩
    go_wp2_with fail
    refine (size_any _ b hfb.out).mono ?_
    rintro e w1 ⟨rfl, rfl⟩
    go_wp2_with fail
    refine (mul64_low _ _ _ p Hp.out (abs_lt hfa.out) (abs_lt hfb.out) (by omega)).mono ?_
    rintro e w1 ⟨rfl, rfl⟩
    go_wp2
    go_ret2
    exact ⟨rfl, rfl⟩
def dotP : Int → List Int → List Int → Option Int
 | acc, x :: xs, y :: ys => if Fits (x * y) ∧ Fits (acc + x * y) then dotP (acc + x * y) xs ys else none
 | acc, _, _ => some acc
def sumP : Int → List Int → Option Int
 | acc, x :: xs => if Fits (acc + x) then sumP (acc + x) xs else none
 | acc, [] => some acc
def optB (r : Option Int) : Value := .tuple #[.int .i64 (r.getD 0), .bool r.isSome]
theorem dotP_step {acc : Int} {xs ys : List Int} {k : Nat} (h1 : k < xs.length) (h2 : k < ys.length) : dotP acc (xs.drop k) (ys.drop k) =
  if Fits (xs[k] * ys[k]) ∧ Fits (acc + xs[k] * ys[k]) then dotP (acc + xs[k] * ys[k]) (xs.drop (k + 1)) (ys.drop (k + 1)) else none := by
 rw [List.drop_eq_getElem_cons h1, List.drop_eq_getElem_cons h2, dotP]
theorem sumP_step {acc : Int} {xs : List Int} {k : Nat} (h1 : k < xs.length) : sumP acc (xs.drop k) = if Fits (acc + xs[k]) then sumP (acc + xs[k]) (xs.drop (k + 1)) else none := by
 rw [List.drop_eq_getElem_cons h1, sumP]
set_option maxRecDepth 100000 in
set_option maxHeartbeats 2000000 in
theorem sum_any {o : Col} {c : Nat} (w : World) (ao : Option Addr) (n cap : Nat) (l : List Int) (hl : Ints w o c (.slice ao n cap) l) (hn : l.length ≤ 17600000000000) (hf : ∀ x ∈ l, Fits x) :
  Calls Tryz.prog 163 #[.slice ao n cap] w fun e w' => e = .returned (optB (sumP 0 l)) ∧ w = w' := by
 obtain rfl := hl.len
 have HL := Lib.hid hl
 have HF := Lib.hid hf
 have hni : (l.length : Int) ≤ 17600000000000 := by omega
 obtain ⟨R, hR⟩ : ∃ R, sumP 0 l = R := ⟨_, rfl⟩
 rw [hR]
 have HR := Lib.hid hR
 clear hl hf hn hR
 go_enter Tryz.func163, Tryz.ntmps163
 go_wp2_with fail
 go_loop [4, 10] (fun t i => ∃ (k : Nat) (acc : Int), k ≤ l.length ∧ i = .int .i64 k ∧ t = .int .i64 acc ∧ Fits acc ∧ sumP acc (l.drop k) = R) (fun _ i => l.length - (intOf i).toNat)
 case atStart => exact ⟨0, 0, Nat.zero_le _, rfl, rfl, by unfold Fits; omega, HR.out⟩
 case round =>
  obtain ⟨k, acc, hk, rfl, rfl, hacc, hres⟩ := hrel
  have Hacc := Lib.hid hacc
  have Hres := Lib.hid hres
  clear hacc hres
  by_cases hlt : k < l.length
  ·
   have hlti : (k : Int) < l.length := by omega
   obtain ⟨b, off, e1, -, -, -, -, hc⟩ := HL.out.at (by omega)
   subst e1
   have hck := hc k hlt
   have hx : l[k]?.getD 0 = l[k] := by simp [hlt]
   rw [hx] at hck
   have hstep := sumP_step (acc := acc) hlt
   rw [Hres.out] at hstep
   have hfx : Fits l[k] := HF.out _ (List.getElem_mem hlt)
   have Hst := Lib.hid hstep
   have Hfx := Lib.hid hfx
   clear hc hx hstep hfx
   generalize l[k] = x at hck Hst Hfx
   go_wp2_with fail
   by_cases hfit : Fits (acc + x)
   ·
    refine (add_yes _ acc x Hacc.out Hfx.out hfit).mono ?_
    rintro e w1 ⟨rfl, rfl⟩
    have Hfit := Lib.hid hfit
    clear hfit
    go_wp2
    go_round
    case rel => exact ⟨k + 1, acc + x, by omega, by go_num, rfl, Hfit.out, by have := Hst.out; rw [if_pos Hfit.out] at this; exact this.symm⟩
    case measure => simp [intOf]; omega
   ·
    refine (add_no _ acc x Hacc.out Hfx.out hfit).mono ?_
    rintro e w1 ⟨rfl, rfl⟩
    have Hfit := Lib.hid hfit
    clear hfit
    go_wp2
    go_ret2
    refine ⟨?_, rfl⟩
    have := Hst.out
    rw [if_neg Hfit.out] at this
    rw [this]
    rfl
  ·
   obtain rfl : k = l.length := by omega
   go_wp2
   go_ret2
   refine ⟨?_, rfl⟩
   have := Hres.out
   rw [List.drop_length, sumP] at this
   rw [← this]
   rfl
set_option maxRecDepth 100000 in
set_option maxHeartbeats 2000000 in
theorem dot_any {o o' : Col} {c c' : Nat} (w : World) (ao bo : Option Addr) (n m cap cap' : Nat) (xs ys : List Int) (hx : Ints w o c (.slice ao n cap) xs) (hy : Ints w o' c' (.slice bo m cap') ys) (hxy : xs.length = ys.length) (hn : xs.length ≤ 17600000000000) (hfx : ∀ x ∈ xs, Fits x) (hfy : ∀ x ∈ ys, Fits x) :
  Calls Tryz.prog 152 #[.slice ao n cap, .slice bo m cap'] w fun e w' => e = .returned (optB (dotP 0 xs ys)) ∧ w = w' := by
 obtain rfl := hx.len
 have hm := hy.len
 rw [← hxy] at hm
 subst hm
 have HX := Lib.hid hx
 have HY := Lib.hid hy
 have HFX := Lib.hid hfx
 have HFY := Lib.hid hfy
 have HXY := Lib.hid hxy
 have hni : (xs.length : Int) ≤ 17600000000000 := by omega
 obtain ⟨R, hR⟩ : ∃ R, dotP 0 xs ys = R := ⟨_, rfl⟩
 rw [hR]
 have HR := Lib.hid hR
 clear hx hy hfx hfy hn hR hxy
 go_enter Tryz.func152, Tryz.ntmps152
 go_wp2_with fail
 go_loop [6, 18] (fun t i => ∃ (k : Nat) (acc : Int), k ≤ xs.length ∧ i = .int .i64 k ∧ t = .int .i64 acc ∧ Fits acc ∧ dotP acc (xs.drop k) (ys.drop k) = R) (fun _ i => xs.length - (intOf i).toNat)
 case atStart => exact ⟨0, 0, Nat.zero_le _, rfl, rfl, by unfold Fits; omega, HR.out⟩
 case round =>
  obtain ⟨k, acc, hk, rfl, rfl, hacc, hres⟩ := hrel
  have Hacc := Lib.hid hacc
  have Hres := Lib.hid hres
  clear hacc hres
  by_cases hlt : k < xs.length
  ·
   have hlti : (k : Int) < xs.length := by omega
   have hlty : k < ys.length := by have := HXY.out; omega
   obtain ⟨b, off, e1, -, -, -, -, hc⟩ := HX.out.at (by omega)
   obtain ⟨b', off', e2, -, -, -, -, hc'⟩ := HY.out.at (by omega)
   subst e1 e2
   have hck := hc k hlt
   have hck' := hc' k hlty
   rw [show xs[k]?.getD 0 = xs[k] by simp [hlt]] at hck
   rw [show ys[k]?.getD 0 = ys[k] by simp [hlty]] at hck'
   have hstep := dotP_step (acc := acc) hlt hlty
   rw [Hres.out] at hstep
   have Hst := Lib.hid hstep
   have Hfx := Lib.hid (HFX.out _ (List.getElem_mem hlt))
   have Hfy := Lib.hid (HFY.out _ (List.getElem_mem hlty))
   clear hc hc' hstep
   generalize xs[k] = x at hck Hst Hfx
   generalize ys[k] = y at hck' Hst Hfy
   clear hlty
   go_wp2_with fail
   by_cases hf1 : Fits (x * y)
   ·
    refine (mul_yes _ x y Hfx.out Hfy.out hf1).mono ?_
    rintro e w1 ⟨rfl, rfl⟩
    have Hf1 := Lib.hid hf1
    clear hf1
    go_wp2_with fail
    by_cases hf2 : Fits (acc + x * y)
    ·
     refine (add_yes _ acc (x * y) Hacc.out Hf1.out hf2).mono ?_
     rintro e w1 ⟨rfl, rfl⟩
     have Hf2 := Lib.hid hf2
     clear hf2
     go_wp2
     go_round
     case rel => exact ⟨k + 1, acc + x * y, by omega, by go_num, rfl, Hf2.out, by have := Hst.out; rw [if_pos ⟨Hf1.out, Hf2.out⟩] at this; exact this.symm⟩
     case measure => simp [intOf]; omega
    ·
     refine (add_no _ acc (x * y) Hacc.out Hf1.out hf2).mono ?_
     rintro e w1 ⟨rfl, rfl⟩
     have Hf2 := Lib.hid hf2
     clear hf2
     go_wp2
     go_ret2
     refine ⟨?_, rfl⟩
     have := Hst.out
     rw [if_neg (fun h => Hf2.out h.2)] at this
     rw [this]
     rfl
   ·
    refine (mul_no _ x y Hfx.out Hfy.out hf1).mono ?_
    rintro e w1 ⟨rfl, rfl⟩
    have Hf1 := Lib.hid hf1
    clear hf1
    go_wp2
    go_ret2
    refine ⟨?_, rfl⟩
    have := Hst.out
    rw [if_neg (fun h => Hf1.out h.1)] at this
    rw [this]
    rfl
  ·
   obtain rfl : k = xs.length := by omega
   go_wp2
   go_ret2
   refine ⟨?_, rfl⟩
   have := Hres.out
   rw [List.drop_length, dotP] at this
   ·
    rw [← this]
    rfl
   ·
    intro x xs' y ys' h; cases h
end Go.Proofs.YtaholpfikcdhbaaGreat

/- An actor is made: its kind's block in memory. -/
namespace Go.Proofs.YtaholpfikcdhbaaGreat
open Go.RowKit
def kS (t : Int) : TypeId := if t = 1 then 181 else if t = 2 then 184 else if t = 3 then 186 else if t = 4 then 188 else if t = 5 then 190 else if t = 6 then 192 else if t = 7 then 194 else if t = 8 then 199 else if t = 9 then 201 else if t = 10 then 204 else 206
def kP (t : Int) : TypeId := if t = 1 then 179 else if t = 2 then 182 else if t = 3 then 185 else if t = 4 then 187 else if t = 5 then 189 else if t = 6 then 191 else if t = 7 then 193 else if t = 8 then 195 else if t = 9 then 200 else if t = 10 then 202 else 205
def kcells (t : Int) (vi vo : Value) (n x b : Int) (vt vs : Value) : Array Value :=
 if t = 1 then #[vi, vo, .int .i64 n, vt, vs] else if t = 8 then #[vi, vo, .int .i64 n, .int .i64 x] else if t = 10 then #[vi, vo, .int .i64 n, .int .i64 x, .int .i64 b] else #[vi, vo, .int .i64 n]
def keep0 (t : Int) (ps : List Int) : List Int := if t = 1 then List.replicate (ps.length - 1) 0 else if t = 8 then [0] else if t = 10 then [hd ps] else []
def Made (w : World) (t : Int) (vi vo : Value) (ps : List Int) (e : Ending) (w' : World) : Prop :=
 ∃ K vt vs, e = .returned (.iface (kP t) (.pointer (some ⟨K, 0, none⟩))) ∧ w'.heap[K]? = some (.cells (kcells t vi vo 0 (hd (keep0 t ps)) (hd1 ps) vt vs) (kS t) (0, 0)) ∧ w.heap.size ≤ K ∧ Below w.heap.size w w' ∧
  (t = 1 → w'.ownsRow w.heap.size 3 1 vt ps.length (ivs ps) ∧ w'.ownsRow w.heap.size 3 1 vs (keep0 1 ps).length (ivs (keep0 1 ps)) ∧ vt.ownBlock ≠ some K ∧ vs.ownBlock ≠ some K)
theorem made_fin {w w1 : World} {t : Int} {vi vo : Value} {ps : List Int} {cs : Array Value} {e : Ending} {n : Nat} (ht : t ≠ 1) (hcs : kcells t vi vo 0 (hd (keep0 t ps)) (hd1 ps) undef undef = cs) (hn : n = w1.heap.size) (he : e = .returned (.iface (kP t) (.pointer (some ⟨n, 0, none⟩)))) (hb : Below w.heap.size w w1) : Made w t vi vo ps e (w1.alloc (.cells cs (kS t))) := by
 subst hn hcs
 exact ⟨w1.heap.size, undef, undef, he, heap_alloc_new _ _, hb.size, hb.alloc hb.size _, fun h => absurd h ht⟩
theorem made_fin1 {w w1 : World} {vi vo vt vs : Value} {ps : List Int} {e : Ending} {n : Nat} (hn : n = w1.heap.size) (he : e = .returned (.iface (kP 1) (.pointer (some ⟨n, 0, none⟩)))) (hb : Below w.heap.size w w1)
  (h1 : w1.ownsRow w.heap.size 3 1 vt ps.length (ivs ps)) (h2 : w1.ownsRow w.heap.size 3 1 vs (keep0 1 ps).length (ivs (keep0 1 ps))) : Made w 1 vi vo ps e (w1.alloc (.cells #[vi, vo, .int .i64 0, vt, vs] 181)) := by
 subst hn
 exact ⟨w1.heap.size, vt, vs, he, heap_alloc_new _ _, hb.size, hb.alloc hb.size _, fun _ => ⟨h1.alloc _, h2.alloc _, fun e => Nat.lt_irrefl _ (h1.lt _ e).2, fun e => Nat.lt_irrefl _ (h2.lt _ e).2⟩⟩
theorem make_2 (w : World) (vi vo v : Value) (ps : List Int) : Calls Tryz.prog 66 #[.int .u8 2, .agg #[vi, vo, .int .i64 0], v] w (Made w 2 vi vo ps) := by
 go_enter Tryz.func66, Tryz.ntmps66
 go_wp2
 go_ret
 exact made_fin (by decide) rfl (by simp) rfl ((Below.refl _ _).alloc (Nat.le_refl _) _)
theorem make_3 (w : World) (vi vo v : Value) (ps : List Int) : Calls Tryz.prog 66 #[.int .u8 3, .agg #[vi, vo, .int .i64 0], v] w (Made w 3 vi vo ps) := by
 go_enter Tryz.func66, Tryz.ntmps66
 go_wp2
 go_ret
 exact made_fin (by decide) rfl (by simp) rfl ((Below.refl _ _).alloc (Nat.le_refl _) _)
theorem make_4 (w : World) (vi vo v : Value) (ps : List Int) : Calls Tryz.prog 66 #[.int .u8 4, .agg #[vi, vo, .int .i64 0], v] w (Made w 4 vi vo ps) := by
 go_enter Tryz.func66, Tryz.ntmps66
 go_wp2
 go_ret
 exact made_fin (by decide) rfl (by simp) rfl ((Below.refl _ _).alloc (Nat.le_refl _) _)
theorem make_5 (w : World) (vi vo v : Value) (ps : List Int) : Calls Tryz.prog 66 #[.int .u8 5, .agg #[vi, vo, .int .i64 0], v] w (Made w 5 vi vo ps) := by
 go_enter Tryz.func66, Tryz.ntmps66
 go_wp2
 go_ret
 exact made_fin (by decide) rfl (by simp) rfl ((Below.refl _ _).alloc (Nat.le_refl _) _)
theorem make_6 (w : World) (vi vo v : Value) (ps : List Int) : Calls Tryz.prog 66 #[.int .u8 6, .agg #[vi, vo, .int .i64 0], v] w (Made w 6 vi vo ps) := by
 go_enter Tryz.func66, Tryz.ntmps66
 go_wp2
 go_ret
 exact made_fin (by decide) rfl (by simp) rfl ((Below.refl _ _).alloc (Nat.le_refl _) _)
theorem make_7 (w : World) (vi vo v : Value) (ps : List Int) : Calls Tryz.prog 66 #[.int .u8 7, .agg #[vi, vo, .int .i64 0], v] w (Made w 7 vi vo ps) := by
 go_enter Tryz.func66, Tryz.ntmps66
 go_wp2
 go_ret
 exact made_fin (by decide) rfl (by simp) rfl ((Below.refl _ _).alloc (Nat.le_refl _) _)
theorem make_8 (w : World) (vi vo v : Value) (ps : List Int) : Calls Tryz.prog 66 #[.int .u8 8, .agg #[vi, vo, .int .i64 0], v] w (Made w 8 vi vo ps) := by
 go_enter Tryz.func66, Tryz.ntmps66
 go_wp2
 go_ret
 exact made_fin (by decide) rfl (by simp) rfl ((Below.refl _ _).alloc (Nat.le_refl _) _)
theorem make_9 (w : World) (vi vo v : Value) (ps : List Int) : Calls Tryz.prog 66 #[.int .u8 9, .agg #[vi, vo, .int .i64 0], v] w (Made w 9 vi vo ps) := by
 go_enter Tryz.func66, Tryz.ntmps66
 go_wp2
 go_ret
 exact made_fin (by decide) rfl (by simp) rfl ((Below.refl _ _).alloc (Nat.le_refl _) _)
theorem make_11 (w : World) (vi vo v : Value) (ps : List Int) : Calls Tryz.prog 66 #[.int .u8 11, .agg #[vi, vo, .int .i64 0], v] w (Made w 11 vi vo ps) := by
 go_enter Tryz.func66, Tryz.ntmps66
 go_wp2
 go_ret
 exact made_fin (by decide) rfl (by simp) rfl ((Below.refl _ _).alloc (Nat.le_refl _) _)
set_option maxRecDepth 100000 in
set_option maxHeartbeats 1000000 in
theorem make_10 {o : Col} {c : Nat} (w : World) (vi vo : Value) (ao : Option Addr) (cap : Nat) (x y : Int) (h : Ints w o c (.slice ao 2 cap) [x, y]) : Calls Tryz.prog 66 #[.int .u8 10, .agg #[vi, vo, .int .i64 0], .slice ao 2 cap] w (Made w 10 vi vo [x, y]) := by
 obtain ⟨b, off, rfl, -, hcap, -, -, hc⟩ := h.at (by simp)
 have c0 := hc 0 (by simp)
 have c1 := hc 1 (by simp)
 simp at c0 c1
 clear hc h
 have a0 := ca (o := .cells #[vi, vo, .int .i64 0] 154) c0
 have a1 := ca (o := .cells #[vi, vo, .int .i64 0] 154) c1
 have hB := heap_alloc_new w (.cells #[vi, vo, .int .i64 0] 154)
 have q0 := cells_row _ _ hB 0 vi rfl
 have q1 := cells_row _ _ hB 1 vo rfl
 have q2 := cells_row _ _ hB 2 (.int .i64 0) rfl
 go_enter Tryz.func66, Tryz.ntmps66
 go_wp2
 refine wp_region_lex (fun w' => (w'.cell? ⟨w.heap.size, 0, none⟩ = some vi ∧ w'.cell? ⟨w.heap.size, 1, none⟩ = some vo ∧ w'.cell? ⟨w.heap.size, 2, none⟩ = some (.int .i64 0)) ∧ w'.cell? ⟨b, off, none⟩ = some (.int .i64 x) ∧ w'.cell? ⟨b, off + 1, none⟩ = some (.int .i64 y)) [0, 1, 2, 3, 4, 5, 6, 7, 8] [9, 10, 11] (by kernel_rfl) (by kernel_rfl) rfl (fun _ _ hx h => ⟨⟨hx.cell h.1.1, hx.cell h.1.2.1, hx.cell h.1.2.2⟩, hx.cell h.2.1, hx.cell h.2.2⟩) ⟨⟨q0, q1, q2⟩, a0, a1⟩ ?_
 intro Q' hQ'
 simp only [pickOps, List.flatMap_cons, List.flatMap_nil, List.drop_succ_cons, List.drop_zero, List.take_succ_cons, List.take_zero, List.cons_append, List.nil_append, List.append_nil]
 repeat (first
  | (refine wpReads_skip (by rfl) ?_; (try simp only [Act.put, List.setIfInBounds_toArray, List.set_cons_zero, List.set_cons_succ]))
  | (refine wpReads_cons ?_ (by rfl) (by rfl) ?_ ?_; rotate_left; (intro wz hz; (try dsimp only at hz); go_simp; try with_reducible rfl); (try simp only [Act.put, List.setIfInBounds_toArray, List.set_cons_zero, List.set_cons_succ]))
  | (refine wpReads_any ?_ (by rfl) ?_ ?_; rotate_left; (intro wz; go_simp; try with_reducible rfl); (try simp only [Act.put, List.setIfInBounds_toArray, List.set_cons_zero, List.set_cons_succ])))
 refine wpReads_nil ?_
 go_wp2
 go_ret
 exact made_fin (w1 := (w.alloc (.cells #[vi, vo, .int .i64 0] 154)).drew) (by decide) rfl (by simp) rfl (((Below.refl _ _).alloc (Nat.le_refl _) _).drew)
set_option maxRecDepth 100000 in
set_option maxHeartbeats 2000000 in
theorem make_1 {o : Col} {c : Nat} (w : World) (vi vo : Value) (ao : Option Addr) (n cap : Nat) (l : List Int) (h : Ints w o c (.slice ao n cap) l) (hl : 1 ≤ l.length) (hl2 : l.length ≤ 16) : Calls Tryz.prog 66 #[.int .u8 1, .agg #[vi, vo, .int .i64 0], .slice ao n cap] w (Made w 1 vi vo l) := by
 obtain rfl := h.len
 have HH := Lib.hid h
 obtain ⟨i0, hi, hz0, hz1, hz2⟩ := info_parts info_int
 have hB := heap_alloc_new w (.cells #[vi, vo, .int .i64 0] 154)
 have q0 := cells_row _ _ hB 0 vi rfl
 have q1 := cells_row _ _ hB 1 vo rfl
 have q2 := cells_row _ _ hB 2 (.int .i64 0) rfl
 have hli : (1 : Int) ≤ l.length := by omega
 have hli2 : (l.length : Int) ≤ 16 := by omega
 clear h
 go_enter Tryz.func66, Tryz.ntmps66
 go_wp2
 have hb0 : Below w.heap.size w (w.alloc (.cells #[vi, vo, .int .i64 0] 154)) := (Below.refl _ _).alloc (Nat.le_refl _) _
 have hs0 : (w.alloc (.cells #[vi, vo, .int .i64 0] 154)).heap.size = w.heap.size + 1 := by simp
 have HH0 := Lib.hid (HH.out.has.below hb0)
 generalize w.alloc (.cells #[vi, vo, .int .i64 0] 154) = w0 at *
 have hwrap : IntKind.i64.wrap ((l.length : Int) - 1) = (l.length : Int) - 1 := IntWalk.i64_in _ (by omega)
 refine wp_region_rest (fun w' => w'.cell? ⟨w.heap.size, 0, none⟩ = some vi ∧ w'.cell? ⟨w.heap.size, 1, none⟩ = some vo ∧ w'.cell? ⟨w.heap.size, 2, none⟩ = some (.int .i64 0)) [0, 1, 3, 4, 5] [2, 6] 6 (by kernel_rfl) (by kernel_rfl) rfl ⟨q0, q1, q2⟩ ?_
 intro Q' hQ'
 simp only [pickOps, List.flatMap_cons, List.flatMap_nil, List.drop_succ_cons, List.drop_zero, List.take_succ_cons, List.take_zero, List.cons_append, List.nil_append, List.append_nil]
 repeat (first
  | (refine wpReads_skip (by rfl) ?_; (try simp only [Act.put, List.setIfInBounds_toArray, List.set_cons_zero, List.set_cons_succ]))
  | (refine wpReads_cons ?_ (by rfl) (by rfl) ?_ ?_; rotate_left; (intro wz hz; (try dsimp only at hz); go_simp; try with_reducible rfl); (try simp only [Act.put, List.setIfInBounds_toArray, List.set_cons_zero, List.set_cons_succ]))
  | (refine wpReads_any ?_ (by rfl) ?_ ?_; rotate_left; (intro wz; go_simp; try with_reducible rfl); (try simp only [Act.put, List.setIfInBounds_toArray, List.set_cons_zero, List.set_cons_succ])))
 refine wpReads_nil ?_
 clear hwrap
 have hb0' : Below w.heap.size w w0.drew := hb0.drew
 have HHd : Hid (Has w0.drew (.slice ao l.length cap) (ivs l)) := Lib.hid (HH0.out.drewN 1)
 have hcast : ((l.length - 1 : Nat) : Int) = (l.length : Int) - 1 := by omega
 refine wpAnyT_two (i := 2) (k := 6) (by kernel_rfl) ?_ ?_
 ·
  simp only [pickOps, List.flatMap_cons, List.flatMap_nil, List.drop_succ_cons, List.drop_zero, List.take_succ_cons, List.take_zero, List.append_nil]
  go_wp2_with fail
  refine (clone_any _ _ _ _ l HHd.out (by omega)).mono ?_
  rintro e w1 ⟨g, cp, rfl, ho1, hb1⟩
  have hb1 : Below w0.heap.size w0 w1 := below_ld (n := 1) hb1
  have ho1 : w1.ownsRow w0.heap.size 3 1 (.slice (some ⟨g, 0, none⟩) l.length cp) l.length (ivs l) := ho1
  go_wp2
  refine ⟨fun _ hS => ⟨cell_later hb1 q0, cell_later hb1 q1, cell_later hb1 q2⟩, ?_⟩
  refine wpAnyT_one (i := 6) (by kernel_rfl) ?_
  simp only [pickOps, List.flatMap_cons, List.flatMap_nil, List.drop_succ_cons, List.drop_zero, List.take_succ_cons, List.take_zero, List.append_nil]
  obtain ⟨w2, hr, hown, hg⟩ := run_make_full (P := Tryz.prog) w1 w1.heap.size 27 3 i0 _ 1 Tryz.underlying27 hi hz0 hz1 .i64 .i64 (l.length - 1) (by rw [hz2]; omega) (by unfold maxLen; omega) (Nat.le_refl _)
  rw [hcast] at hr
  clear hcast
  rw [made_ints] at hown
  have hb2 : Below w1.heap.size w1 w2 := ((Mods.refl (fun _ => False) w1).grown hg (fun k hk _ => by cases hk)).below (Nat.le_refl _) (fun _ _ h => h)
  have s1 := hb1.size
  have hb20 : Below w0.heap.size w0 w2 := hb1.trans (hb2.mono s1)
  go_wp2
  refine ⟨fun _ hS => ⟨cell_later hb20 q0, cell_later hb20 q1, cell_later hb20 q2⟩, ?_⟩
  refine wpAnyT_list (ks := [7, 8, 9, 10]) (fun _ _ hx h => ⟨hx.cell h.1, hx.cell h.2.1, hx.cell h.2.2⟩) (by kernel_rfl) ?_
  simp only [pickOps, List.flatMap_cons, List.flatMap_nil, List.drop_succ_cons, List.drop_zero, List.take_succ_cons, List.take_zero, List.cons_append, List.nil_append, List.append_nil]
  have hbw : Below w.heap.size w w2 := hb0.trans (hb20.mono (by omega))
  have r1 := owns_base (owns_kept ho1 (Mods.of_below hb2 (fun _ => False)) (fun _ _ h => h)) (base' := w.heap.size) (fun k hk => by have := (ho1.lt k hk).1; omega)
  have r2 := owns_base hown (base' := w.heap.size) (fun k hk => by have := (hown.lt k hk).1; omega)
  clear ho1 hown hg hb1 hb2 hb20 q0 q1 q2 hB hr
  go_wp2
  go_ret
  exact made_fin1 rfl rfl hbw r1 (by simpa [keep0] using r2)
 ·
  simp only [pickOps, List.flatMap_cons, List.flatMap_nil, List.drop_succ_cons, List.drop_zero, List.take_succ_cons, List.take_zero, List.append_nil]
  obtain ⟨w1, hr, hown, hg⟩ := run_make_full (P := Tryz.prog) w0.drew w0.heap.size 27 3 i0 _ 1 Tryz.underlying27 hi hz0 hz1 .i64 .i64 (l.length - 1) (by rw [hz2]; omega) (by unfold maxLen; omega) (Nat.le_refl _)
  rw [hcast] at hr
  clear hcast
  rw [made_ints] at hown
  have hb1 : Below w0.heap.size w0 w1 := ((Mods.refl (fun _ => False) w0).drew.grown (b := w0.drew) hg (fun k hk _ => by cases hk)).below (Nat.le_refl _) (fun _ _ h => h)
  go_wp2
  refine ⟨fun _ hS => ⟨cell_later hb1 q0, cell_later hb1 q1, cell_later hb1 q2⟩, ?_⟩
  refine wpAnyT_one (i := 2) (by kernel_rfl) ?_
  simp only [pickOps, List.flatMap_cons, List.flatMap_nil, List.drop_succ_cons, List.drop_zero, List.take_succ_cons, List.take_zero, List.append_nil]
  clear hr
  go_wp2_with fail
  refine (clone_any _ _ _ _ l (HH0.out.below hb1) (by omega)).mono ?_
  rintro e w2 ⟨g, cp, rfl, ho2, hb2⟩
  have s1 := hb1.size
  have hb20 : Below w0.heap.size w0 w2 := hb1.trans (hb2.mono s1)
  go_wp2
  refine ⟨fun _ hS => ⟨cell_later hb20 q0, cell_later hb20 q1, cell_later hb20 q2⟩, ?_⟩
  refine wpAnyT_list (ks := [7, 8, 9, 10]) (fun _ _ hx h => ⟨hx.cell h.1, hx.cell h.2.1, hx.cell h.2.2⟩) (by kernel_rfl) ?_
  simp only [pickOps, List.flatMap_cons, List.flatMap_nil, List.drop_succ_cons, List.drop_zero, List.take_succ_cons, List.take_zero, List.cons_append, List.nil_append, List.append_nil]
  have hbw : Below w.heap.size w w2 := hb0.trans (hb20.mono (by omega))
  have r1 := owns_base ho2 (base' := w.heap.size) (fun k hk => by have := (ho2.lt k hk).1; omega)
  have r2 := owns_base (owns_kept hown (Mods.of_below hb2 (fun _ => False)) (fun _ _ h => h)) (base' := w.heap.size) (fun k hk => by have := (hown.lt k hk).1; omega)
  clear ho2 hown hg hb1 hb2 hb20 q0 q1 q2 hB
  go_wp2
  go_ret
  exact made_fin1 rfl rfl hbw r1 (by rw [show w0.drew.heap.size = w.heap.size + 1 from hs0] at r2; simpa [keep0] using r2)
end Go.Proofs.YtaholpfikcdhbaaGreat

/- Which function a call through the kind is, kind by kind. -/
namespace Go.Proofs.YtaholpfikcdhbaaGreat
open Go.RowKit
def kF (t : Int) : Nat := if t = 1 then 151 else if t = 2 then 158 else if t = 3 then 159 else if t = 4 then 160 else if t = 5 then 161 else if t = 6 then 162 else if t = 7 then 164 else if t = 8 then 167 else if t = 9 then 168 else if t = 10 then 169 else 170
theorem disp_fired {t : Int} (h : TagOk t) (K : Nat) (w : World) : (method 363 (kP t) (.pointer (some ⟨K, 0, none⟩)) "pianola/actors.fired").run Tryz.prog w = .ok (148, .pointer (some ⟨K, 0, none⟩)) w := by
 rcases h with rfl | rfl | rfl | rfl | rfl | rfl | rfl | rfl | rfl | rfl | rfl <;> kernel_rfl
theorem disp_rates {t : Int} (h : TagOk t) (K : Nat) (w : World) : (method 363 (kP t) (.pointer (some ⟨K, 0, none⟩)) "pianola/actors.rates").run Tryz.prog w = .ok (150, .pointer (some ⟨K, 0, none⟩)) w := by
 rcases h with rfl | rfl | rfl | rfl | rfl | rfl | rfl | rfl | rfl | rfl | rfl <;> kernel_rfl
theorem disp_reckon {t : Int} (h : TagOk t) (K : Nat) (w : World) : (method 363 (kP t) (.pointer (some ⟨K, 0, none⟩)) "pianola/actors.reckon").run Tryz.prog w = .ok (kF t, .pointer (some ⟨K, 0, none⟩)) w := by
 rcases h with rfl | rfl | rfl | rfl | rfl | rfl | rfl | rfl | rfl | rfl | rfl <;> kernel_rfl
end Go.Proofs.YtaholpfikcdhbaaGreat

/- What the kinds of actors do in a firing: down, up, drop, quot, sum, tick. -/
namespace Go.Proofs.YtaholpfikcdhbaaGreat
open Go.RowKit
def Reck (w : World) (K : Nat) (ks : TypeId) (cells : Array Value) (outs : List (List Int)) (e : Ending) (w' : World) : Prop :=
 ∃ ov, e = .returned (.tuple #[ov, .bool true]) ∧ Mods (fun k => k = K) w w' ∧ w'.heap[K]? = some (.cells cells ks (0, 0)) ∧ Outs w' (canon w.heap.size K) 1 ov outs
def ReckNo (w : World) (e : Ending) (w' : World) : Prop := (∃ ov, e = .returned (.tuple #[ov, .bool false])) ∧ Below w.heap.size w w'
theorem owns_lit (w : World) (l : List Int) (hl : l.length ≤ 1000000) : (w.alloc (.cells (ivs l).toArray 3)).ownsRow w.heap.size 3 1 (.slice (some ⟨w.heap.size, 0, none⟩) l.length l.length) l.length (ivs l) :=
 ⟨by simp, .inr ⟨w.heap.size, l.length, (ivs l).toArray, rfl, Nat.le_refl _, heap_alloc_new w _, Nat.le_refl _, by unfold maxLen; omega, by simp, by simp [List.take_of_length_le]⟩⟩
theorem reck_one {w w1 : World} {K : Nat} {ks : TypeId} {cells : Array Value} {l : List Int} {e : Ending} (he : e = .returned (.tuple #[.slice (some ⟨w1.heap.size + 1, 0, none⟩) 1 1, .bool true])) (hl : l.length ≤ 1000000) (hm : Mods (fun k => k = K) w w1) (hK : w1.heap[K]? = some (.cells cells ks (0, 0))) (hKw : K < w.heap.size) :
  Reck w K ks cells [l] e ((w1.alloc (.cells (ivs l).toArray 3)).alloc (.cells #[.slice (some ⟨w1.heap.size, 0, none⟩) l.length l.length] 27)) := by
 have hs := hm.size
 have h1 := owns_base (owns_lit w1 l hl) (base' := w.heap.size) (fun k hk => by have e : w1.heap.size = k := Option.some.inj hk; omega)
 have h2 := outs_row (w1 := w1.alloc (.cells (ivs l).toArray 3)) (N := w.heap.size) (R := K) h1 (by simp; omega) (fun e => by have e : w1.heap.size = K := Option.some.inj e; omega) (by simp; omega)
 simp only [World.size_alloc] at h2
 exact ⟨_, he, (hm.alloc _).alloc _, block_alloc (block_alloc hK _) _, h2⟩
theorem reck_num {w w1 : World} {K : Nat} {ks : TypeId} {cells : Array Value} {z z' : Int} {n : Nat} {e : Ending} (he : e = .returned (.tuple #[.slice (some ⟨n + 1, 0, none⟩) 1 1, .bool true])) (hz : z' = z) (hn : n = w1.heap.size) (hm : Mods (fun k => k = K) w w1) (hK : w1.heap[K]? = some (.cells cells ks (0, 0))) (hKw : K < w.heap.size) :
  Reck w K ks cells [[z]] e ((w1.alloc (.cells #[.int .i64 z'] 3)).alloc (.cells #[.slice (some ⟨n, 0, none⟩) 1 1] 27)) := by
 subst hz hn
 exact reck_one (l := [z']) he (by simp) hm hK hKw
theorem tdiv_wrap {x y : Int} (hx : -9223372036854775808 ≤ x ∧ x ≤ 9223372036854775807) (h0 : ¬ y = 0) (h1 : ¬ y = -1) : wrap64 (x.tdiv y) = x.tdiv y := by
 refine IntWalk.wrap64_in _ ?_
 by_cases h2 : y = 1
 ·
  subst h2; simpa using hx
 ·
  have h3 : 2 ≤ y.natAbs := by omega
  have h4 : (x.tdiv y).natAbs = x.natAbs / y.natAbs := Int.natAbs_tdiv x y
  have h5 : x.natAbs / y.natAbs ≤ x.natAbs / 2 := Nat.div_le_div_left h3 (by omega)
  omega
set_option maxHeartbeats 800000 in
theorem down_reck (w : World) (K : Nat) (insv : Value) (cells : Array Value) (l : List Int) (hp : 0 < l.length) (hK : w.heap[K]? = some (.cells cells 186 (0, 0))) (hins : LL w insv [l]) :
  Calls Tryz.prog 159 #[.pointer (some ⟨K, 0, none⟩), insv] w (Reck w K 186 cells [[l[0]?.getD 0]]) := by
 obtain ⟨iao, icp, rfl⟩ := hins.slice
 obtain ⟨bi, oi, ie, hci, hrow⟩ := hins.at (by simp)
 subst ie
 obtain ⟨a0, c0, hr0, hh0⟩ := hrow 0 (by simp)
 obtain ⟨b0, o0, e0, -, hc0, -, -, hcell⟩ := Vals.at hh0 (by have := hp; simp; omega)
 subst e0
 have hx0 := hcell 0 (by have := hp; simp; omega)
 rw [ivs_get (by have := hp; simp; omega)] at hx0
 simp only [List.getElem?_cons_zero, Option.getD_some, Nat.add_zero, List.length_cons, List.length_nil, Nat.zero_add] at hr0 hx0 hc0 hci
 clear hcell hrow hh0 hins
 have hlp : (0 : Int) < l.length := by omega
 generalize l[0]?.getD 0 = x at *
 go_enter Tryz.func159, Tryz.ntmps159
 go_wp2
 go_ret2
 exact reck_one (l := [x]) rfl (by simp) (Mods.refl _ w) hK (block_lt hK)
theorem drop_reck (w : World) (K : Nat) (insv : Value) (cells : Array Value) (hK : w.heap[K]? = some (.cells cells 206 (0, 0))) :
  Calls Tryz.prog 170 #[.pointer (some ⟨K, 0, none⟩), insv] w (Reck w K 206 cells []) := by
 go_enter Tryz.func170, Tryz.ntmps170
 go_wp2
 go_ret2
 exact ⟨_, rfl, Mods.refl _ _, hK, Outs.nil _ _ _⟩
theorem set_rep0 (u : Nat) (x : Int) (hu : 1 ≤ u) : (ivs (List.replicate u 0)).set 0 (iv x) = ivs (x :: List.replicate (u - 1) 0) := by
 obtain ⟨m, rfl⟩ : ∃ m, u = m + 1 := ⟨u - 1, by omega⟩
 rfl
set_option maxHeartbeats 800000 in
theorem up_reck (w : World) (K : Nat) (vi vo nv insv : Value) (x : Int) (u : Nat) (hu : 1 ≤ u) (hu2 : u ≤ 64) (hK : w.heap[K]? = some (.cells #[vi, vo, nv] 184 (0, 0))) (hvo : Has w vo (ivs [(u : Int)])) (hins : LL w insv [[x]]) :
  Calls Tryz.prog 158 #[.pointer (some ⟨K, 0, none⟩), insv] w (Reck w K 184 #[vi, vo, nv] [x :: List.replicate (u - 1) 0]) := by
 obtain ⟨iao, icp, rfl⟩ := hins.slice
 obtain ⟨bi, oi, ie, hci, hrow⟩ := hins.at (by simp)
 subst ie
 obtain ⟨a0, c0, hr0, hh0⟩ := hrow 0 (by simp)
 obtain ⟨b0, o0, e0, -, hc0, -, -, hcell⟩ := Vals.at hh0 (by simp)
 subst e0
 have hx0 := hcell 0 (by simp)
 simp at hr0 hx0 hc0 hci
 clear hcell hrow hh0 hins
 obtain ⟨oao, ocp, rfl⟩ := hvo.slice
 obtain ⟨bo, oo, eo, -, hco, -, -, hco0⟩ := Vals.at hvo (by simp)
 subst eo
 have hu0 := hco0 0 (by simp)
 simp at hu0 hco
 have hk1 := cells_row w K hK 1 _ rfl
 obtain ⟨i0, hi, hz0, hz1, hz2⟩ := info_parts info_int
 obtain ⟨w1, hr, hown, hg⟩ := run_make_full (P := Tryz.prog) w w.heap.size 27 3 i0 _ 1 Tryz.underlying27 hi hz0 hz1 .i64 .i64 u (by rw [hz2]; omega) (by unfold maxLen; omega) (Nat.le_refl _)
 have hb1 : Below w.heap.size w w1 := ((Mods.refl (fun _ => False) w).grown hg (fun k hk _ => by cases hk)).below (Nat.le_refl _) (fun _ _ h => h)
 rw [made_ints] at hown
 have r1 := cell_later hb1 hr0
 have x1 := cell_later hb1 hx0
 have hK1 := block_mods hK (Mods.of_below hb1 (fun _ => False)) (fun h => h)
 obtain ⟨-, -, g', -, eg, hcg, hfg, -⟩ := owns_cell hown (by simp; omega)
 cases eg
 have hcg0 := hcg 0 (iv 0) (by rw [ivs, List.map_replicate, List.getElem?_replicate, if_pos (by omega)])
 have hfg0 := hfg 0
 obtain ⟨ho2, hg2⟩ := hown.stored 0 (iv x)
 rw [set_rep0 u x hu] at ho2
 have hm2 : Mods (fun k => k = K) w (w1.setCell ⟨w.heap.size, 0, none⟩ (iv x)) := ((Mods.of_below hb1 _).grown hg2 (fun k hk hlt => by have e : w.heap.size = k := Option.some.inj hk; omega))
 have hKw := block_lt hK
 have hs1 := hb1.size
 have hK2 : (w1.setCell ⟨w.heap.size, 0, none⟩ (iv x)).heap[K]? = _ := block_setCell_ne hK1 (by show K ≠ w.heap.size; omega) _
 have hui : (1 : Int) ≤ u := by omega
 clear hcg hfg hown hg hco0 hvo hg2 hb1
 go_enter Tryz.func158, Tryz.ntmps158
 go_wp2
 go_ret2
 have hl : (x :: List.replicate (u - 1) (0 : Int)).length = u := by simp; omega
 have h2 := outs_row (w1 := w1.setCell ⟨w.heap.size, 0, none⟩ (iv x)) (N := w.heap.size) (R := K) (v := .slice (some ⟨w.heap.size, 0, none⟩) u u) (l := x :: List.replicate (u - 1) 0) (by rw [hl]; exact ho2) hm2.size (fun e => by have e : w.heap.size = K := Option.some.inj e; omega) (by have := hm2.size; omega)
 exact ⟨.slice (some ⟨w1.heap.size, 0, none⟩) 1 1, rfl, hm2.alloc _, block_alloc hK2 _, by rw [size_setCell'] at h2; exact h2⟩
theorem Reck.drewN {w : World} {K : Nat} {ks : TypeId} {cells : Array Value} {outs : List (List Int)} {e : Ending} {w' : World} {m : Nat} (h : Reck (w.drewN m) K ks cells outs e w') : Reck w K ks cells outs e w' := by
 obtain ⟨ov, h1, h2, h3, h4⟩ := h
 exact ⟨ov, h1, mods_ld h2, h3, h4⟩
def quotP (x y : Int) : Option Int := if y = 0 then none else if y = -1 then (if Fits (0 - x) then some (0 - x) else none) else some (x.tdiv y)
theorem reckno {w w1 : World} {e : Ending} {ov : Value} (he : e = .returned (.tuple #[ov, .bool false])) (hb : Below w.heap.size w w1) : ReckNo w e w1 := ⟨⟨ov, he⟩, hb⟩
set_option maxRecDepth 100000 in
set_option maxHeartbeats 2000000 in
theorem quot_reck (w : World) (K : Nat) (insv : Value) (cells : Array Value) (x y : Int) (hfx : Fits x) (hfy : Fits y) (hK : w.heap[K]? = some (.cells cells 194 (0, 0))) (hins : LL w insv [[x], [y]]) :
  Calls Tryz.prog 164 #[.pointer (some ⟨K, 0, none⟩), insv] w fun e w' => match quotP x y with
   | some z => Reck w K 194 cells [[z]] e w'
   | none => ReckNo w e w' := by
 obtain ⟨iao, icp, rfl⟩ := hins.slice
 obtain ⟨bi, oi, ie, hci, hrow⟩ := hins.at (by simp)
 subst ie
 obtain ⟨a0, c0, hr0, hh0⟩ := hrow 0 (by simp)
 obtain ⟨b0, o0, e0, -, hc0, -, -, hcell⟩ := Vals.at hh0 (by simp)
 subst e0
 have hx0 := hcell 0 (by simp)
 obtain ⟨a1, c1, hr1, hh1⟩ := hrow 1 (by simp)
 obtain ⟨b1, o1, e1, -, hc1, -, -, hcell1⟩ := Vals.at hh1 (by simp)
 subst e1
 have hx1 := hcell1 0 (by simp)
 simp at hr0 hx0 hc0 hci hr1 hx1 hc1
 clear hcell hrow hh0 hins hcell1 hh1
 have HX := Lib.hid hfx
 have HY := Lib.hid hfy
 have hici : (2 : Int) ≤ icp := by omega
 by_cases h0 : y = 0
 ·
  subst h0
  rw [show quotP x 0 = none from rfl]
  clear hfx hfy
  go_enter Tryz.func164, Tryz.ntmps164
  go_wp2
  go_quiet (fail)
  go_wp2
  go_ret2
  exact reckno rfl (below_dr (Below.refl _ _))
 ·
  by_cases h1 : y = -1
  ·
   subst h1
   by_cases hf : Fits (0 - x)
   ·
    rw [show quotP x (-1) = some (0 - x) by unfold quotP; rw [if_neg (by decide), if_pos rfl, if_pos hf]]
    have HF := Lib.hid hf
    clear hfx hfy hf
    go_enter Tryz.func164, Tryz.ntmps164
    go_wp2
    go_quiet (fail)
    go_wp2_with fail
    refine (sub_yes _ 0 x (by unfold Fits; omega) HX.out HF.out).mono ?_
    rintro e w1 ⟨rfl, rfl⟩
    go_wp2
    go_ret2
    exact reck_num rfl (by omega) rfl ((Mods.refl _ w).drewN _) hK (block_lt hK)
   ·
    rw [show quotP x (-1) = none by unfold quotP; rw [if_neg (by decide), if_pos rfl, if_neg hf]]
    have HF := Lib.hid hf
    clear hfx hfy hf
    go_enter Tryz.func164, Tryz.ntmps164
    go_wp2
    go_quiet (fail)
    go_wp2_with fail
    refine (sub_no _ 0 x (by unfold Fits; omega) HX.out HF.out).mono ?_
    rintro e w1 ⟨rfl, rfl⟩
    go_wp2
    go_ret2
    exact reckno rfl (((below_dr (Below.refl _ _)).alloc (Nat.le_refl _) _).alloc (by simp) _)
  ·
   rw [show quotP x y = some (x.tdiv y) by unfold quotP; rw [if_neg h0, if_neg h1]]
   have h0b : (y == 0) = false := by simpa using h0
   have h1b : (y == -1) = false := by simpa using h1
   unfold Fits at hfx hfy
   go_enter Tryz.func164, Tryz.ntmps164
   go_wp2
   go_quiet (fail)
   go_wp2
   go_ret2
   exact reck_num rfl (tdiv_wrap hfx h0 h1) rfl ((Mods.refl _ w).drewN _) hK (block_lt hK)
theorem reck_set {w w1 : World} {K : Nat} {ks : TypeId} {cells : Array Value} (hm : Mods (fun _ => False) w w1) (hK : w.heap[K]? = some (.cells cells ks (0, 0))) (i : Nat) (u : Value) :
  Mods (fun k => k = K) w (w1.setCell ⟨K, i, none⟩ u) ∧ (w1.setCell ⟨K, i, none⟩ u).heap[K]? = some (.cells (cells.setIfInBounds i u) ks (0, 0)) :=
 ⟨(hm.mono (G := fun k => k = K) (fun _ _ h => h.elim)).setCell (F := fun k => k = K) (p := ⟨K, i, none⟩) (fun _ => rfl) u, block_setCell (block_mods hK hm (fun h => h)) i u⟩
set_option maxRecDepth 100000 in
set_option maxHeartbeats 2000000 in
theorem sum_reck (w : World) (K : Nat) (vi vo nv insv : Value) (s x : Int) (hfs : Fits s) (hfx : Fits x) (hK : w.heap[K]? = some (.cells #[vi, vo, nv, .int .i64 s] 199 (0, 0))) (hins : LL w insv [[x]]) :
  Calls Tryz.prog 167 #[.pointer (some ⟨K, 0, none⟩), insv] w fun e w' => if Fits (s + x) then Reck w K 199 #[vi, vo, nv, .int .i64 (s + x)] [[s + x]] e w' else ReckNo w e w' := by
 obtain ⟨iao, icp, rfl⟩ := hins.slice
 obtain ⟨bi, oi, ie, hci, hrow⟩ := hins.at (by simp)
 subst ie
 obtain ⟨a0, c0, hr0, hh0⟩ := hrow 0 (by simp)
 obtain ⟨b0, o0, e0, -, hc0, -, -, hcell⟩ := Vals.at hh0 (by simp)
 subst e0
 have hx0 := hcell 0 (by simp)
 simp at hr0 hx0 hc0 hci
 clear hcell hrow hh0 hins
 have HX := Lib.hid hfx
 have HS := Lib.hid hfs
 have k3 := cells_row w K hK 3 (.int .i64 s) rfl
 have kf := frozen_of_block hK 3
 clear hfx hfs
 by_cases hf : Fits (s + x)
 ·
  simp only [if_pos hf]
  have HF := Lib.hid hf
  clear hf
  go_enter Tryz.func167, Tryz.ntmps167
  go_wp2
  go_quiet ((go_at_call 154; exact Calls.quiet_of_same ((add_yes _ s x HS.out HX.out HF.out).mono fun e w' ⟨h1, h2⟩ => ⟨h1, h2.symm⟩)))
  go_wp2
  go_ret2
  obtain ⟨h1, h2⟩ := reck_set (w1 := w.drewN nq) ((Mods.refl _ w).drewN nq) hK 3 (.int .i64 (s + x))
  exact reck_num rfl rfl (by rw [size_setCell']; rfl) h1 h2 (block_lt hK)
 ·
  simp only [if_neg hf]
  have HF := Lib.hid hf
  clear hf
  go_enter Tryz.func167, Tryz.ntmps167
  go_wp2
  go_quiet ((go_at_call 154; exact Calls.quiet_of_same ((add_no _ s x HS.out HX.out HF.out).mono fun e w' ⟨h1, h2⟩ => ⟨h1, h2.symm⟩)))
  go_wp2
  go_ret2
  exact reckno rfl (((below_dr (Below.refl _ _)).alloc (Nat.le_refl _) _).alloc (by simp) _)
set_option maxRecDepth 100000 in
set_option maxHeartbeats 2000000 in
theorem tick_reck (w : World) (K : Nat) (vi vo nv insv : Value) (s x : Int) (hfs : Fits s) (hfx : Fits x) (hK : w.heap[K]? = some (.cells #[vi, vo, nv, .int .i64 s, .int .i64 x] 204 (0, 0))) :
  Calls Tryz.prog 169 #[.pointer (some ⟨K, 0, none⟩), insv] w fun e w' => if Fits (s + x) then Reck w K 204 #[vi, vo, nv, .int .i64 (s + x), .int .i64 x] [[s]] e w' else ReckNo w e w' := by
 have HX := Lib.hid hfx
 have HS := Lib.hid hfs
 have k3 := cells_row w K hK 3 (.int .i64 s) rfl
 have k4 := cells_row w K hK 4 (.int .i64 x) rfl
 have kf := frozen_of_block hK 3
 clear hfx hfs
 by_cases hf : Fits (s + x)
 ·
  simp only [if_pos hf]
  have HF := Lib.hid hf
  clear hf
  go_enter Tryz.func169, Tryz.ntmps169
  go_wp2
  go_quiet ((go_at_call 154; exact Calls.quiet_of_same ((add_yes _ s x HS.out HX.out HF.out).mono fun e w' ⟨h1, h2⟩ => ⟨h1, h2.symm⟩)))
  go_wp2
  go_ret2
  obtain ⟨h1, h2⟩ := reck_set (w1 := w.drewN nq) ((Mods.refl _ w).drewN nq) hK 3 (.int .i64 (s + x))
  exact reck_num rfl rfl (by rw [size_setCell']; rfl) h1 h2 (block_lt hK)
 ·
  simp only [if_neg hf]
  have HF := Lib.hid hf
  clear hf
  go_enter Tryz.func169, Tryz.ntmps169
  go_wp2
  go_quiet ((go_at_call 154; exact Calls.quiet_of_same ((add_no _ s x HS.out HX.out HF.out).mono fun e w' ⟨h1, h2⟩ => ⟨h1, h2.symm⟩)))
  go_wp2
  go_ret2
  exact reckno rfl (((below_dr (Below.refl _ _)).alloc (Nat.le_refl _) _).alloc (by simp) _)
end Go.Proofs.YtaholpfikcdhbaaGreat

/- Small lemmas of this seat. No function in sight. -/
namespace Go.Proofs.YtaholpfikcdhbaaGreat
open Go.RowKit
theorem below_alloc (w : World) (x : Obj) : Below w.heap.size w (w.alloc x) := (Below.refl _ _).alloc (Nat.le_refl _) _
theorem Kept.of_below {B : Nat} {o : Col} {w0 w w' : World} (h : Kept B o w0 w) (c : Nat) (hb : Below w.heap.size w w') : Kept B (ext o w.heap.size c) w0 w' := h.turn (Turn.of_below o c hb) (fun h => h)
theorem Kept.drewN {B : Nat} {o : Col} {w0 w : World} (h : Kept B o w0 w) (m : Nat) : Kept B o w0 (w.drewN m) := h.turn (Turn.of_quiet o ⟨m, rfl⟩) (fun h => h)
theorem below_app {w w2 : World} {N e sz : Nat} {tmp : Obj} {v : Value} {n : Nat} {xs : List Value} (hi : w.ownsRow N e sz v n xs) (hg : (w.alloc tmp).grownBy w2 v.ownBlock) (hb : N ≤ w.heap.size) : Below N w w2 :=
 (((Mods.refl (fun k => v.ownBlock = some k) w).alloc tmp).grown hg (fun k hk _ => hk)).below hb fun k hk e => by have := (hi.lt k e).1; omega
theorem Has.drewN {w : World} {v : Value} {vs : List Value} (h : Has w v vs) (m : Nat) : Has (w.drewN m) v vs := Vals.drewN h m
def Tells (v : Value) (w : World) (e : Ending) (w' : World) : Prop := e = .returned v ∧ Below w.heap.size w w'
def SameW (v : Value) (w : World) (e : Ending) (w' : World) : Prop := e = .returned v ∧ w = w'
def Hush (v : Value) (w : World) (e : Ending) (w' : World) : Prop := e = .returned v ∧ ∃ m, w' = w.drewN m
theorem Hush.tells {v : Value} {w : World} {e : Ending} {w' : World} (h : Hush v w e w') : Tells v w e w' := by
 obtain ⟨rfl, m, rfl⟩ := h
 exact ⟨rfl, below_dr (Below.refl _ _)⟩
theorem SameW.tells {v : Value} {w : World} {e : Ending} {w' : World} (h : SameW v w e w') : Tells v w e w' := by
 obtain ⟨rfl, rfl⟩ := h
 exact ⟨rfl, Below.refl _ _⟩
end Go.Proofs.YtaholpfikcdhbaaGreat

/- What the kinds of actors do in a firing: weave, add, copies, unweave. -/
namespace Go.Proofs.YtaholpfikcdhbaaGreat
open Go.RowKit
def atP (ins : List (List Int)) (j : Nat) : List Int := ins.map fun l => l[j]?.getD 0
def weaveP (ins : List (List Int)) (m : Nat) : List Int := (List.range m).flatMap (atP ins)
theorem weaveP_succ (ins : List (List Int)) (m : Nat) : weaveP ins (m + 1) = weaveP ins m ++ atP ins m := by simp [weaveP, List.range_succ]
theorem atP_take (ins : List (List Int)) (j i : Nat) (h : i < ins.length) : atP (ins.take (i + 1)) j = atP (ins.take i) j ++ [(ins[i]?.getD [])[j]?.getD 0] := by
 rw [List.take_succ_eq_append_getElem h]
 unfold atP
 rw [List.map_append]
 congr 1
 simp [h]
theorem weaveP_len (ins : List (List Int)) (m : Nat) : (weaveP ins m).length = m * ins.length := by
 induction m with
 | zero => simp [weaveP]
 | succ m ih => rw [weaveP_succ, List.length_append, ih]; simp [atP, Nat.add_mul]
set_option maxRecDepth 100000 in
set_option maxHeartbeats 2000000 in
theorem weave_reck (w : World) (K : Nat) (vi vo nv insv : Value) (n m : Nat) (ins : List (List Int)) (hn : n ≤ 16) (hm : m ≤ 64) (hn1 : 1 ≤ n) (hins0 : ins.length = n) (hinsm : ∀ l ∈ ins, l.length = m) (hK : w.heap[K]? = some (.cells #[vi, vo, nv] 188 (0, 0)))
  (hvi : Has w vi (ivs (List.replicate n (m : Int)))) (hvo : Has w vo (ivs [(n : Int) * m])) (hins : LL w insv ins) :
  Calls Tryz.prog 160 #[.pointer (some ⟨K, 0, none⟩), insv] w (Reck w K 188 #[vi, vo, nv] [weaveP ins m]) := by
 obtain ⟨i0, hi, hz0, hz1, hz2⟩ := info_parts info_int
 have hnm : n * m ≤ 16 * 64 := Nat.mul_le_mul hn hm
 obtain ⟨oao, ocp, rfl⟩ := hvo.slice
 obtain ⟨bo, oo, eo, -, hco, -, -, hco0⟩ := Vals.at hvo (by simp)
 subst eo
 have hu0 := hco0 0 (by simp)
 obtain ⟨qao, qcp, rfl⟩ := hvi.slice
 obtain ⟨bq, oq, eq, -, hcq, -, -, hcq0⟩ := Vals.at hvi (by simp; omega)
 subst eq
 have hq0 := hcq0 0 (by simp; omega)
 rw [ivs_get (by simp; omega), List.getElem?_replicate, if_pos (by omega)] at hq0
 simp at hu0 hco hq0 hcq
 have hk0 := cells_row w K hK 0 _ rfl
 have hk1 := cells_row w K hK 1 _ rfl
 simp at hk0 hk1
 have hnm0 : ((n * m : Nat) : Int) = (n : Int) * m := by push_cast; rfl
 obtain ⟨w1, hr, hown, hg⟩ := run_make_own (P := Tryz.prog) w w.heap.size 27 3 i0 _ 1 Tryz.underlying27 hi hz0 hz1 .i64 .i64 (n * m) (by rw [hz2]; omega) (by unfold maxLen; omega) (Nat.le_refl _)
 rw [hnm0] at hr
 have hb1 : Below w.heap.size w w1 := ((Mods.refl (fun _ => False) w).grown hg (fun k hk _ => by cases hk)).below (Nat.le_refl _) (fun _ _ h => h)
 have hs1 := hb1.size
 have q1 := cell_later hb1 hq0
 have hk01 := cell_later hb1 hk0
 have HI := Lib.hid hins
 have HL := Lib.hid hins0
 have HM := Lib.hid hinsm
 obtain ⟨iao, icp, rfl⟩ := hins.slice
 have hni : (n : Int) ≤ 16 := by omega
 have hmi : (m : Int) ≤ 64 := by omega
 have hni1 : (1 : Int) ≤ n := by omega
 have HK := Lib.hid hK
 have hKw := block_lt hK
 rw [hins0]
 clear hco0 hcq0 hvi hvo hnm0 hg hins hins0 hinsm hK
 go_enter Tryz.func160, Tryz.ntmps160
 go_wp2_with fail
 go_loopw [6, 24] (fun v i wr => ∃ k : Nat, k ≤ m ∧ i = .int .i64 k ∧ wr.ownsRow w.heap.size 3 1 v (weaveP ins k).length (ivs (weaveP ins k)) ∧ Below w.heap.size w wr) (fun _ i _ => m - (intOf i).toNat)
 case atStart => exact ⟨0, Nat.zero_le _, rfl, by simpa [weaveP] using hown, hb1⟩
 case round =>
  clear hown hb1 hs1 q1 hk01 hr
  obtain ⟨k, hk, rfl, ho, hb⟩ := hrel
  by_cases hlt : k < m
  ·
   have hlti : (k : Int) < m := by omega
   go_wp2_with fail
   go_loopw [6, 29] (fun v i wr => ∃ j : Nat, j ≤ n ∧ i = .int .i64 j ∧ wr.ownsRow w.heap.size 3 1 v (weaveP ins k ++ atP (ins.take j) k).length (ivs (weaveP ins k ++ atP (ins.take j) k)) ∧ Below w.heap.size w wr) (fun _ i _ => n - (intOf i).toNat)
   case atStart => exact ⟨0, Nat.zero_le _, rfl, by simpa [atP] using ho, hb⟩
   case round =>
    clear ho hb
    obtain ⟨j, hj, rfl, ho, hb⟩ := hrel
    have hs := hb.size
    by_cases hjn : j < n
    ·
     have hjni : (j : Int) < n := by omega
     obtain ⟨bi, oi, ie, hci, hrow⟩ := HI.out.at (by have := HL.out; omega)
     subst ie
     obtain ⟨a0, c0, hr0, hh0⟩ := hrow j (by have := HL.out; omega)
     have hlm : (ins[j]?.getD []).length = m := by
      have hjl : j < ins.length := by have := HL.out; omega
      simp only [List.getElem?_eq_getElem hjl, Option.getD_some]
      exact HM.out _ (List.getElem_mem hjl)
     rw [hlm] at hr0 hh0
     obtain ⟨b0, o0, e0, -, hc0, -, -, hcell⟩ := Vals.at hh0 (by rw [ivs_len, hlm]; omega)
     subst e0
     have hx0 := hcell k (by rw [ivs_len, hlm]; exact hlt)
     rw [ivs_get (by rw [hlm]; exact hlt)] at hx0
     have hr1 := cell_later hb hr0
     have hx1 := cell_later hb hx0
     have hlen : (weaveP ins k ++ atP (ins.take j) k).length ≤ 2000 := by
      rw [List.length_append, weaveP_len]
      have := HL.out
      have h1 : k * ins.length ≤ 64 * 16 := Nat.mul_le_mul (by omega) (by omega)
      simp [atP]; omega
     have HS := Lib.hid (atP_take ins k j (by have := HL.out; omega))
     generalize (ins[j]?.getD [])[k]?.getD 0 = x at hx1 HS
     obtain ⟨sv, cv, rfl⟩ := owns_slice ho
     have hciI : (n : Int) ≤ icp := by have := HL.out; omega
     have hc0I : (m : Int) ≤ c0 := by omega
     clear hcell hrow hh0 hr0 hx0 hlm
     generalize hacc : weaveP ins k ++ atP (ins.take j) k = acc at ho hlen
     have HA := Lib.hid hacc
     have Hlen := Lib.hid hlen
     clear hacc hlen
     go_wp2_with (at_builtin; refine stop_here ?_)
     refine go_on ?_
     refine wpList_app rfl _ _ 27 rfl w.heap.size 3 i0 _ 1 8 Tryz.underlying27 hi hz0 hz1 hz2 rfl (.slice sv acc.length cv) acc.length _ rfl (ho.alloc (.cells #[.int .i64 x] 3)) (some ⟨wr.heap.size, 0, none⟩) 1 1 [.int .i64 x] rfl rfl (fun h => by cases h) (news_alloc wr [.int .i64 x] 3) (by simp [Value.oneCell']) (by have := Hlen.out; unfold maxLen; omega) (grow_ok (by have := Hlen.out; omega)) (size_le_alloc hs _) ?_
     intro v5 w5 k1 k20 _ _
     have k2 : (wr.alloc (.cells #[.int .i64 x] 3)).grownBy w5 (Value.slice sv acc.length cv).ownBlock := k20
     have hb5 := hb.trans (below_app ho k2 hs)
     have k3 : w5.ownsRow w.heap.size 3 1 v5 (weaveP ins k ++ atP (ins.take (j + 1)) k).length (ivs (weaveP ins k ++ atP (ins.take (j + 1)) k)) := by
      rw [HS.out, ← List.append_assoc, HA.out]; simpa using k1
     clear k1 k20 k2 ho hb
     go_wp2
     go_roundw
     case rel => exact ⟨j + 1, by omega, by go_num, k3, hb5⟩
     case measure => simp [intOf]; omega
    ·
     obtain rfl : j = n := by omega
     rw [List.take_of_length_le (by have := HL.out; omega), ← weaveP_succ] at ho
     go_wp2
     go_roundw
     case rel => exact ⟨k + 1, by omega, by go_num, ho, hb⟩
     case measure => simp [intOf]; omega
  ·
   obtain rfl : k = m := by omega
   obtain ⟨sv, cv, rfl⟩ := owns_slice ho
   go_wp2
   go_ret2
   have hs := hb.size
   have h2 := outs_row (R := K) ho hs (fun e => by have := (ho.lt K e).1; omega) (by omega)
   exact ⟨_, rfl, (Mods.of_below hb _).alloc _, block_alloc (block_mods HK.out (Mods.of_below hb (fun _ => False)) (fun h => h)) _, h2⟩
def firsts (ins : List (List Int)) : List Int := ins.map fun l => l[0]?.getD 0
theorem firsts_take (ins : List (List Int)) (i : Nat) (h : i < ins.length) : firsts (ins.take (i + 1)) = firsts (ins.take i) ++ [(ins[i]?.getD [])[0]?.getD 0] := atP_take ins 0 i h
def ReckOpt (w : World) (K : Nat) (ks : TypeId) (r : Option (Array Value × List (List Int))) (e : Ending) (w' : World) : Prop :=
 match r with
 | some (cells, outs) => Reck w K ks cells outs e w'
 | none => ReckNo w e w'
set_option maxRecDepth 100000 in
set_option maxHeartbeats 2000000 in
theorem add_reck (w : World) (K : Nat) (insv : Value) (cells : Array Value) (ins : List (List Int)) (hn : ins.length ≤ 1000) (hp : ∀ l ∈ ins, 0 < l.length) (hf : ∀ x ∈ firsts ins, Fits x) (hK : w.heap[K]? = some (.cells cells 192 (0, 0))) (hins : LL w insv ins) :
  Calls Tryz.prog 162 #[.pointer (some ⟨K, 0, none⟩), insv] w (ReckOpt w K 192 ((sumP 0 (firsts ins)).map fun y => (cells, [[y]]))) := by
 obtain ⟨i0, hi, hz0, hz1, hz2⟩ := info_parts info_int
 have HI := Lib.hid hins
 have HP := Lib.hid hp
 have HF := Lib.hid hf
 have HN := Lib.hid hn
 have hni : (ins.length : Int) ≤ 1000 := by omega
 obtain ⟨iao, icp, rfl⟩ := hins.slice
 have HK := Lib.hid hK
 have hKw := block_lt hK
 clear hins hp hf hn hK
 go_enter Tryz.func162, Tryz.ntmps162
 go_wp2_with fail
 go_loopw [6, 13] (fun v i wr => ∃ j : Nat, j ≤ ins.length ∧ i = .int .i64 j ∧ wr.ownsRow w.heap.size 3 1 v (firsts (ins.take j)).length (ivs (firsts (ins.take j))) ∧ Below w.heap.size w wr) (fun _ i _ => ins.length - (intOf i).toNat)
 case atStart => exact ⟨0, Nat.zero_le _, rfl, by simpa [firsts] using World.ownsRow_nil w w.heap.size 3 1, Below.refl _ _⟩
 case round =>
  obtain ⟨j, hj, rfl, ho, hb⟩ := hrel
  have hs := hb.size
  obtain ⟨sv, cv, rfl⟩ := owns_slice ho
  by_cases hjn : j < ins.length
  ·
   have hjni : (j : Int) < ins.length := by omega
   obtain ⟨bi, oi, ie, hci, hrow⟩ := HI.out.at (by omega)
   subst ie
   obtain ⟨a0, c0, hr0, hh0⟩ := hrow j hjn
   have hlm : 0 < (ins[j]?.getD []).length := by
    simp only [List.getElem?_eq_getElem hjn, Option.getD_some]
    exact HP.out _ (List.getElem_mem hjn)
   obtain ⟨b0, o0, e0, -, hc0, -, -, hcell⟩ := Vals.at hh0 (by rw [ivs_len]; exact hlm)
   subst e0
   have hx0 := hcell 0 (by rw [ivs_len]; exact hlm)
   rw [ivs_get hlm, Nat.add_zero] at hx0
   have hr1 := cell_later hb hr0
   have hx1 := cell_later hb hx0
   have HS := Lib.hid (firsts_take ins j hjn)
   have hlen : (firsts (ins.take j)).length ≤ 1000 := by simp [firsts]; have := HN.out; omega
   have hlmi : (0 : Int) < (ins[j]?.getD []).length := by omega
   have hciI : (ins.length : Int) ≤ icp := by omega
   generalize (ins[j]?.getD [])[0]?.getD 0 = x at hx1 HS
   generalize (ins[j]?.getD []).length = lm at hr1 hlm hlmi hc0
   generalize hacc : firsts (ins.take j) = acc at ho hlen
   have HA := Lib.hid hacc
   have Hlen := Lib.hid hlen
   clear hcell hrow hh0 hr0 hx0 hacc hlen
   go_wp2_with (at_builtin; refine stop_here ?_)
   refine go_on ?_
   refine wpList_app rfl _ _ 27 rfl w.heap.size 3 i0 _ 1 8 Tryz.underlying27 hi hz0 hz1 hz2 rfl (.slice sv acc.length cv) acc.length _ rfl (ho.alloc (.cells #[.int .i64 x] 3)) (some ⟨wr.heap.size, 0, none⟩) 1 1 [.int .i64 x] rfl rfl (fun h => by cases h) (news_alloc wr [.int .i64 x] 3) (by simp [Value.oneCell']) (by have := Hlen.out; unfold maxLen; omega) (grow_ok (by have := Hlen.out; omega)) (size_le_alloc hs _) ?_
   intro v5 w5 k1 k20 _ _
   have k2 : (wr.alloc (.cells #[.int .i64 x] 3)).grownBy w5 (Value.slice sv acc.length cv).ownBlock := k20
   have hb5 := hb.trans (below_app ho k2 hs)
   have k3 : w5.ownsRow w.heap.size 3 1 v5 (firsts (ins.take (j + 1))).length (ivs (firsts (ins.take (j + 1)))) := by
    rw [HS.out, HA.out]; simpa using k1
   clear k1 k20 k2 ho hb
   go_wp2
   go_roundw
   case rel => exact ⟨j + 1, by omega, by go_num, k3, hb5⟩
   case measure => simp [intOf]; omega
  ·
   obtain rfl : j = ins.length := by omega
   rw [List.take_length] at ho
   have hkb := block_mods HK.out (Mods.of_below hb (fun _ => False)) (fun h => h)
   have Hints := (Own.made (fun _ => 0) 0 ho).vals.has
   have hfl : (firsts ins).length ≤ 1000 := by simp [firsts]; exact HN.out
   obtain ⟨R, hR⟩ : ∃ R, sumP 0 (firsts ins) = R := ⟨_, rfl⟩
   go_wp2_with fail
   have hlen2 := ho.1
   refine (sum_any (l := firsts ins) _ _ _ _ (by simpa using Hints) (by omega) HF.out).mono ?_
   rintro e w1 ⟨rfl, rfl⟩
   rw [hR]
   unfold optB
   have HR := Lib.hid hR
   clear hR Hints ho hfl hlen2
   cases R with
   | none =>
    go_wp2
    go_ret2
    rw [HR.out]
    exact reckno rfl ((hb.alloc hs _).alloc (by simp; omega) _)
   | some y =>
    go_wp2
    go_ret2
    rw [HR.out]
    exact reck_num rfl rfl rfl (Mods.of_below hb _) hkb hKw
end Go.Proofs.YtaholpfikcdhbaaGreat
