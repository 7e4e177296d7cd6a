/- Whole numbers, and whether they fit: Add, Sub, Mul, Sum, Dot. -/
import Derived.Test.YtknmiiajeafjpaaL1
import Derived.Shelf.Bits.Mul64
namespace Go.Proofs.Ytknmiiajeafjpaa
open Go.RowKit

/-- does it fit an int? -/
def Fits (n : Int) : Prop := -9223372036854775808 ≤ n ∧ n ≤ 9223372036854775807
instance (n : Int) : Decidable (Fits n) := by unfold Fits; infer_instance

set_option maxRecDepth 100000 in
set_option maxHeartbeats 1000000 in
theorem add_yes (w : World) (a b : Int) (_ha : Fits a) (hb : Fits b) (h : Fits (a + b)) : Calls Try.prog 80 #[.int .i64 a, .int .i64 b] w fun e w' => e = .returned (.tuple #[.int .i64 (a + b), .bool true]) ∧ w = w' := by
  unfold Fits at hb h
  by_cases h0 : 0 < b
  · have h1 : ¬ b < 0 := by omega
    go_enter Try.func80, Try.ntmps80
    go_wp2
    go_ret2
    exact ⟨rfl, rfl⟩
  · by_cases h1 : b < 0
    · go_enter Try.func80, Try.ntmps80
      go_wp2
      go_ret2
      exact ⟨rfl, rfl⟩
    · go_enter Try.func80, Try.ntmps80
      go_wp2
      go_ret2
      exact ⟨rfl, rfl⟩

set_option maxRecDepth 100000 in
set_option maxHeartbeats 1000000 in
theorem add_no (w : World) (a b : Int) (ha : Fits a) (hb : Fits b) (h : ¬ Fits (a + b)) : Calls Try.prog 80 #[.int .i64 a, .int .i64 b] w fun e w' => e = .returned (.tuple #[.int .i64 0, .bool false]) ∧ w = w' := by
  unfold Fits at ha hb h
  by_cases h0 : 0 < b
  · have h1 : 9223372036854775807 - b < a := by omega
    clear h
    go_enter Try.func80, Try.ntmps80
    go_wp2
    go_ret2
    exact ⟨rfl, rfl⟩
  · have h1 : b < 0 := by omega
    have h2 : a < -9223372036854775808 - b := by omega
    clear h
    go_enter Try.func80, Try.ntmps80
    go_wp2
    go_ret2
    exact ⟨rfl, rfl⟩

set_option maxRecDepth 100000 in
set_option maxHeartbeats 1000000 in
theorem sub_yes (w : World) (a b : Int) (_ha : Fits a) (hb : Fits b) (h : Fits (a - b)) : Calls Try.prog 91 #[.int .i64 a, .int .i64 b] w fun e w' => e = .returned (.tuple #[.int .i64 (a - b), .bool true]) ∧ w = w' := by
  unfold Fits at hb h
  by_cases h0 : b < 0
  · have h1 : ¬ 0 < b := by omega
    go_enter Try.func91, Try.ntmps91
    go_wp2
    go_ret2
    exact ⟨rfl, rfl⟩
  · by_cases h1 : 0 < b
    · go_enter Try.func91, Try.ntmps91
      go_wp2
      go_ret2
      exact ⟨rfl, rfl⟩
    · go_enter Try.func91, Try.ntmps91
      go_wp2
      go_ret2
      exact ⟨rfl, rfl⟩

set_option maxRecDepth 100000 in
set_option maxHeartbeats 1000000 in
theorem sub_no (w : World) (a b : Int) (ha : Fits a) (hb : Fits b) (h : ¬ Fits (a - b)) : Calls Try.prog 91 #[.int .i64 a, .int .i64 b] w fun e w' => e = .returned (.tuple #[.int .i64 0, .bool false]) ∧ w = w' := by
  unfold Fits at ha hb h
  by_cases h0 : b < 0
  · have h1 : 9223372036854775807 + b < a := by omega
    clear h
    go_enter Try.func91, Try.ntmps91
    go_wp2
    go_ret2
    exact ⟨rfl, rfl⟩
  · have h1 : 0 < b := by omega
    have h2 : a < -9223372036854775808 + b := by omega
    clear h
    go_enter Try.func91, Try.ntmps91
    go_wp2
    go_ret2
    exact ⟨rfl, rfl⟩

set_option maxRecDepth 100000 in
set_option maxHeartbeats 1000000 in
theorem mul64_any (x y : Nat) (hx : x < 18446744073709551616) (hy : y < 18446744073709551616) (w : World) :
    Calls Try.prog 81 #[.int .u64 x, .int .u64 y] w fun e w' => e = .returned (.tuple #[.int .u64 ((x * y / 18446744073709551616 : Nat) : Int), .int .u64 ((x * y % 18446744073709551616 : Nat) : Int)]) ∧ w = w' := by
  obtain ⟨bd, bt, bw, hhi⟩ := Lib.mul64_hi x y hx hy
  have ba := Lib.half_mul_le (a := x / 4294967296) (b := y / 4294967296) (by omega) (by omega)
  have bb := Lib.half_mul_le (a := x / 4294967296) (b := y % 4294967296) (by omega) (by omega)
  have bc := Lib.half_mul_le (a := x % 4294967296) (b := y / 4294967296) (by omega) (by omega)
  have ba' : x / 4294967296 * (y / 4294967296) < 18446744073709551616 := by omega
  have bb' : x / 4294967296 * (y % 4294967296) < 18446744073709551616 := by omega
  have bc' : x % 4294967296 * (y / 4294967296) < 18446744073709551616 := by omega
  have bh1 : x / 4294967296 * (y / 4294967296) + (x / 4294967296 * (y % 4294967296) + x % 4294967296 * (y % 4294967296) / 4294967296) / 4294967296 < 18446744073709551616 := by omega
  have bh : x / 4294967296 * (y / 4294967296) + (x / 4294967296 * (y % 4294967296) + x % 4294967296 * (y % 4294967296) / 4294967296) / 4294967296 + ((x / 4294967296 * (y % 4294967296) + x % 4294967296 * (y % 4294967296) / 4294967296) % 4294967296 + x % 4294967296 * (y / 4294967296)) / 4294967296 < 18446744073709551616 := by omega
  go_enter Try.func81, Try.ntmps81
  go_wp2
  simp only [Mul64.maskN x hx, Mul64.maskN y hy, Mul64.divN, Mul64.mulN, Mul64.addN, Mul64.wrapN _ bd, Mul64.wrapN _ bb', Mul64.wrapN _ bt, Mul64.maskN _ bt, Mul64.wrapN _ bc', Mul64.wrapN _ bw, Mul64.wrapN _ ba', Mul64.wrapN _ bh1, Mul64.wrapN _ bh, Mul64.wrapM (x * y)]
  rw [hhi]
  go_ret2
  exact ⟨rfl, rfl⟩

set_option maxRecDepth 100000 in
theorem size_any (w : World) (a : Int) (ha : Fits a) : Calls Try.prog 82 #[.int .i64 a] w fun e w' => e = .returned (.int .u64 (a.natAbs : Int)) ∧ w = w' := by
  unfold Fits at ha
  by_cases h0 : a < 0
  · go_enter Try.func82, Try.ntmps82
    go_wp2
    go_ret
    exact ⟨ret_int (by rw [IntKind.wrap_u64, IntKind.wrap_u64]; omega), rfl⟩
  · go_enter Try.func82, Try.ntmps82
    go_wp2
    go_ret
    exact ⟨ret_int (by omega), rfl⟩

theorem mul64_low (w : World) (x y p : Nat) (hp : x * y = p) (hx : x < 18446744073709551616) (hy : y < 18446744073709551616) (h : p < 18446744073709551616) :
    Calls Try.prog 81 #[.int .u64 x, .int .u64 y] w fun e w' => e = .returned (.tuple #[.int .u64 0, .int .u64 (p : Int)]) ∧ w = w' := by
  have := mul64_any x y hx hy w
  rw [hp, Nat.div_eq_of_lt h, Nat.mod_eq_of_lt h] at this
  exact this
theorem mul64_high (w : World) (x y : Nat) (hx : x < 18446744073709551616) (hy : y < 18446744073709551616) (h : 18446744073709551616 ≤ x * y) :
    Calls Try.prog 81 #[.int .u64 x, .int .u64 y] w fun e w' => (∃ u v : Int, 1 ≤ u ∧ e = .returned (.tuple #[.int .u64 u, .int .u64 v])) ∧ w = w' := by
  refine (mul64_any x y hx hy w).mono ?_
  rintro e w' ⟨rfl, rfl⟩
  refine ⟨⟨_, _, ?_, rfl⟩, rfl⟩
  have := Nat.div_le_div_right (c := 18446744073709551616) h
  omega

theorem mul_sign (a b : Int) : ((a < 0 ↔ b < 0) → a * b = ((a.natAbs * b.natAbs : Nat) : Int)) ∧ (¬ (a < 0 ↔ b < 0) → a * b = -((a.natAbs * b.natAbs : Nat) : Int)) := by
  rcases Int.natAbs_eq a with ha | ha <;> rcases Int.natAbs_eq b with hb | hb
  all_goals
    rw [ha, hb]
    simp only [Int.natAbs_neg, Int.natAbs_natCast, Int.natCast_mul, Int.neg_mul, Int.mul_neg, Int.neg_neg]
    generalize a.natAbs = x
    generalize b.natAbs = y
  · exact ⟨fun _ => trivial, fun h => by omega⟩
  · refine ⟨fun h => ?_, fun _ => trivial⟩
    obtain rfl : y = 0 := by omega
    simp
  · refine ⟨fun h => ?_, fun _ => trivial⟩
    obtain rfl : x = 0 := by omega
    simp
  · refine ⟨fun _ => trivial, fun h => ?_⟩
    rcases Nat.eq_zero_or_pos x with rfl | hx
    · simp
    · rcases Nat.eq_zero_or_pos y with rfl | hy
      · simp
      · exact absurd (by omega) h

theorem abs_lt {a : Int} (h : Fits a) : a.natAbs < 18446744073709551616 := by unfold Fits at h; omega

set_option maxRecDepth 100000 in
set_option maxHeartbeats 2000000 in
theorem mul_yes (w : World) (a b : Int) (ha : Fits a) (hb : Fits b) (h : Fits (a * b)) : Calls Try.prog 79 #[.int .i64 a, .int .i64 b] w fun e w' => e = .returned (.tuple #[.int .i64 (a * b), .bool true]) ∧ w = w' := by
  obtain ⟨hs1, hs2⟩ := mul_sign a b
  have hfa := Lib.hid ha
  have hfb := Lib.hid hb
  obtain ⟨p, hp⟩ : ∃ p, a.natAbs * b.natAbs = p := ⟨_, rfl⟩
  rw [hp] at hs1 hs2
  have Hp := Lib.hid hp
  clear hp ha hb
  generalize a * b = q at h hs1 hs2
  by_cases h0 : a < 0
  · have t1 : decide (a < 0) = true := by simpa using h0
    by_cases h1 : b < 0
    · have t2 : decide (b < 0) = true := by simpa using h1
      have Hq := Lib.hid (hs1 ⟨fun _ => h1, fun _ => h0⟩)
      have hpl : (p : Int) ≤ 9223372036854775807 := by have := Hq.out; unfold Fits at h; omega
      clear hs1 hs2 h
      go_enter Try.func79, Try.ntmps79
      go_wp2_with fail
      refine (size_any _ a hfa.out).mono ?_
      rintro e w1 ⟨rfl, rfl⟩
      go_wp2_with fail
      refine (size_any _ b hfb.out).mono ?_
      rintro e w1 ⟨rfl, rfl⟩
      go_wp2_with fail
      refine (mul64_low _ _ _ p Hp.out (abs_lt hfa.out) (abs_lt hfb.out) (by omega)).mono ?_
      rintro e w1 ⟨rfl, rfl⟩
      go_wp2
      go_ret2
      exact ⟨by rw [Hq.out]; rfl, rfl⟩
    · have t2 : decide (b < 0) = false := by simpa using h1
      have Hq := Lib.hid (hs2 (fun x => h1 (x.1 h0)))
      have hpl : (p : Int) ≤ 9223372036854775808 := by have := Hq.out; unfold Fits at h; omega
      have Hr : Hid (wrap64 (IntKind.u64.wrap (-(p : Int))) = q) := Lib.hid (by rw [IntKind.wrap_u64, Hq.out]; unfold wrap64; omega)
      clear hs1 hs2 h
      go_enter Try.func79, Try.ntmps79
      go_wp2_with fail
      refine (size_any _ a hfa.out).mono ?_
      rintro e w1 ⟨rfl, rfl⟩
      go_wp2_with fail
      refine (size_any _ b hfb.out).mono ?_
      rintro e w1 ⟨rfl, rfl⟩
      go_wp2_with fail
      refine (mul64_low _ _ _ p Hp.out (abs_lt hfa.out) (abs_lt hfb.out) (by omega)).mono ?_
      rintro e w1 ⟨rfl, rfl⟩
      go_wp2
      go_ret2
      exact ⟨by rw [← Hr.out]; rfl, rfl⟩
  · have t1 : decide (a < 0) = false := by simpa using h0
    by_cases h1 : b < 0
    · have t2 : decide (b < 0) = true := by simpa using h1
      have Hq := Lib.hid (hs2 (fun x => h0 (x.2 h1)))
      have hpl : (p : Int) ≤ 9223372036854775808 := by have := Hq.out; unfold Fits at h; omega
      have Hr : Hid (wrap64 (IntKind.u64.wrap (-(p : Int))) = q) := Lib.hid (by rw [IntKind.wrap_u64, Hq.out]; unfold wrap64; omega)
      clear hs1 hs2 h
      go_enter Try.func79, Try.ntmps79
      go_wp2_with fail
      refine (size_any _ a hfa.out).mono ?_
      rintro e w1 ⟨rfl, rfl⟩
      go_wp2_with fail
      refine (size_any _ b hfb.out).mono ?_
      rintro e w1 ⟨rfl, rfl⟩
      go_wp2_with fail
      refine (mul64_low _ _ _ p Hp.out (abs_lt hfa.out) (abs_lt hfb.out) (by omega)).mono ?_
      rintro e w1 ⟨rfl, rfl⟩
      go_wp2
      go_ret2
      exact ⟨by rw [← Hr.out]; rfl, rfl⟩
    · have t2 : decide (b < 0) = false := by simpa using h1
      have Hq := Lib.hid (hs1 ⟨fun x => absurd x h0, fun x => absurd x h1⟩)
      have hpl : (p : Int) ≤ 9223372036854775807 := by have := Hq.out; unfold Fits at h; omega
      clear hs1 hs2 h
      go_enter Try.func79, Try.ntmps79
      go_wp2_with fail
      refine (size_any _ a hfa.out).mono ?_
      rintro e w1 ⟨rfl, rfl⟩
      go_wp2_with fail
      refine (size_any _ b hfb.out).mono ?_
      rintro e w1 ⟨rfl, rfl⟩
      go_wp2_with fail
      refine (mul64_low _ _ _ p Hp.out (abs_lt hfa.out) (abs_lt hfb.out) (by omega)).mono ?_
      rintro e w1 ⟨rfl, rfl⟩
      go_wp2
      go_ret2
      exact ⟨by rw [Hq.out]; rfl, rfl⟩

set_option maxRecDepth 100000 in
set_option maxHeartbeats 2000000 in
theorem mul_no (w : World) (a b : Int) (ha : Fits a) (hb : Fits b) (h : ¬ Fits (a * b)) : Calls Try.prog 79 #[.int .i64 a, .int .i64 b] w fun e w' => e = .returned (.tuple #[.int .i64 0, .bool false]) ∧ w = w' := by
  obtain ⟨hs1, hs2⟩ := mul_sign a b
  have hfa := Lib.hid ha
  have hfb := Lib.hid hb
  by_cases hbig : 18446744073709551616 ≤ a.natAbs * b.natAbs
  · have Hb := Lib.hid hbig
    clear hbig hs1 hs2 h ha hb
    go_enter Try.func79, Try.ntmps79
    go_wp2_with fail
    refine (size_any _ a hfa.out).mono ?_
    rintro e w1 ⟨rfl, rfl⟩
    go_wp2_with fail
    refine (size_any _ b hfb.out).mono ?_
    rintro e w1 ⟨rfl, rfl⟩
    go_wp2_with fail
    refine (mul64_high _ _ _ (abs_lt hfa.out) (abs_lt hfb.out) Hb.out).mono ?_
    rintro e w1 ⟨⟨u, v, hu, rfl⟩, rfl⟩
    have hu0 : (u == 0) = false := by simp; omega
    go_wp2
    go_ret2
    exact ⟨rfl, rfl⟩
  · obtain ⟨p, hp⟩ : ∃ p, a.natAbs * b.natAbs = p := ⟨_, rfl⟩
    rw [hp] at hs1 hs2 hbig
    have Hp := Lib.hid hp
    clear hp ha hb
    generalize a * b = q at h hs1 hs2
    unfold Fits at h
    by_cases h0 : a < 0
    · have t1 : decide (a < 0) = true := by simpa using h0
      by_cases h1 : b < 0
      · have t2 : decide (b < 0) = true := by simpa using h1
        have hpl : (9223372036854775807 : Int) < p := by have := hs1 ⟨fun _ => h1, fun _ => h0⟩; omega
        clear hs1 hs2 h
        go_enter Try.func79, Try.ntmps79
        go_wp2_with fail
        refine (size_any _ a hfa.out).mono ?_
        rintro e w1 ⟨rfl, rfl⟩
        go_wp2_with fail
        refine (size_any _ b hfb.out).mono ?_
        rintro e w1 ⟨rfl, rfl⟩
        go_wp2_with fail
        refine (mul64_low _ _ _ p Hp.out (abs_lt hfa.out) (abs_lt hfb.out) (by omega)).mono ?_
        rintro e w1 ⟨rfl, rfl⟩
        go_wp2
        go_ret2
        exact ⟨rfl, rfl⟩
      · have t2 : decide (b < 0) = false := by simpa using h1
        have hpl : (9223372036854775808 : Int) < p := by have := hs2 (fun x => h1 (x.1 h0)); omega
        clear hs1 hs2 h
        go_enter Try.func79, Try.ntmps79
        go_wp2_with fail
        refine (size_any _ a hfa.out).mono ?_
        rintro e w1 ⟨rfl, rfl⟩
        go_wp2_with fail
        refine (size_any _ b hfb.out).mono ?_
        rintro e w1 ⟨rfl, rfl⟩
        go_wp2_with fail
        refine (mul64_low _ _ _ p Hp.out (abs_lt hfa.out) (abs_lt hfb.out) (by omega)).mono ?_
        rintro e w1 ⟨rfl, rfl⟩
        go_wp2
        go_ret2
        exact ⟨rfl, rfl⟩
    · have t1 : decide (a < 0) = false := by simpa using h0
      by_cases h1 : b < 0
      · have t2 : decide (b < 0) = true := by simpa using h1
        have hpl : (9223372036854775808 : Int) < p := by have := hs2 (fun x => h0 (x.2 h1)); omega
        clear hs1 hs2 h
        go_enter Try.func79, Try.ntmps79
        go_wp2_with fail
        refine (size_any _ a hfa.out).mono ?_
        rintro e w1 ⟨rfl, rfl⟩
        go_wp2_with fail
        refine (size_any _ b hfb.out).mono ?_
        rintro e w1 ⟨rfl, rfl⟩
        go_wp2_with fail
        refine (mul64_low _ _ _ p Hp.out (abs_lt hfa.out) (abs_lt hfb.out) (by omega)).mono ?_
        rintro e w1 ⟨rfl, rfl⟩
        go_wp2
        go_ret2
        exact ⟨rfl, rfl⟩
      · have t2 : decide (b < 0) = false := by simpa using h1
        have hpl : (9223372036854775807 : Int) < p := by have := hs1 ⟨fun x => absurd x h0, fun x => absurd x h1⟩; omega
        clear hs1 hs2 h
        go_enter Try.func79, Try.ntmps79
        go_wp2_with fail
        refine (size_any _ a hfa.out).mono ?_
        rintro e w1 ⟨rfl, rfl⟩
        go_wp2_with fail
        refine (size_any _ b hfb.out).mono ?_
        rintro e w1 ⟨rfl, rfl⟩
        go_wp2_with fail
        refine (mul64_low _ _ _ p Hp.out (abs_lt hfa.out) (abs_lt hfb.out) (by omega)).mono ?_
        rintro e w1 ⟨rfl, rfl⟩
        go_wp2
        go_ret2
        exact ⟨rfl, rfl⟩

/-- products, added up from the left; none: one does not fit -/
def dotP : Int → List Int → List Int → Option Int
  | acc, x :: xs, y :: ys => if Fits (x * y) ∧ Fits (acc + x * y) then dotP (acc + x * y) xs ys else none
  | acc, _, _ => some acc
/-- numbers, added up from the left -/
def sumP : Int → List Int → Option Int
  | acc, x :: xs => if Fits (acc + x) then sumP (acc + x) xs else none
  | acc, [] => some acc

def optB (r : Option Int) : Value := .tuple #[.int .i64 (r.getD 0), .bool r.isSome]

theorem dotP_step {acc : Int} {xs ys : List Int} {k : Nat} (h1 : k < xs.length) (h2 : k < ys.length) : dotP acc (xs.drop k) (ys.drop k) =
    if Fits (xs[k] * ys[k]) ∧ Fits (acc + xs[k] * ys[k]) then dotP (acc + xs[k] * ys[k]) (xs.drop (k + 1)) (ys.drop (k + 1)) else none := by
  rw [List.drop_eq_getElem_cons h1, List.drop_eq_getElem_cons h2, dotP]
theorem sumP_step {acc : Int} {xs : List Int} {k : Nat} (h1 : k < xs.length) : sumP acc (xs.drop k) = if Fits (acc + xs[k]) then sumP (acc + xs[k]) (xs.drop (k + 1)) else none := by
  rw [List.drop_eq_getElem_cons h1, sumP]

set_option maxRecDepth 100000 in
set_option maxHeartbeats 2000000 in
theorem sum_any {o : Col} {c : Nat} (w : World) (ao : Option Addr) (n cap : Nat) (l : List Int) (hl : Ints w o c (.slice ao n cap) l) (hn : l.length ≤ 17600000000000) (hf : ∀ x ∈ l, Fits x) :
    Calls Try.prog 89 #[.slice ao n cap] w fun e w' => e = .returned (optB (sumP 0 l)) ∧ w = w' := by
  obtain rfl := hl.len
  have HL := Lib.hid hl
  have HF := Lib.hid hf
  have hni : (l.length : Int) ≤ 17600000000000 := by omega
  obtain ⟨R, hR⟩ : ∃ R, sumP 0 l = R := ⟨_, rfl⟩
  rw [hR]
  have HR := Lib.hid hR
  clear hl hf hn hR
  go_enter Try.func89, Try.ntmps89
  go_wp2_with fail
  go_loop [4, 10] (fun t i => ∃ (k : Nat) (acc : Int), k ≤ l.length ∧ i = .int .i64 k ∧ t = .int .i64 acc ∧ Fits acc ∧ sumP acc (l.drop k) = R) (fun _ i => l.length - (intOf i).toNat)
  case atStart => exact ⟨0, 0, Nat.zero_le _, rfl, rfl, by unfold Fits; omega, HR.out⟩
  case round =>
    obtain ⟨k, acc, hk, rfl, rfl, hacc, hres⟩ := hrel
    have Hacc := Lib.hid hacc
    have Hres := Lib.hid hres
    clear hacc hres
    by_cases hlt : k < l.length
    · have hlti : (k : Int) < l.length := by omega
      obtain ⟨b, off, e1, -, -, -, -, hc⟩ := HL.out.at (by omega)
      subst e1
      have hck := hc k hlt
      have hx : l[k]?.getD 0 = l[k] := by simp [hlt]
      rw [hx] at hck
      have hstep := sumP_step (acc := acc) hlt
      rw [Hres.out] at hstep
      have hfx : Fits l[k] := HF.out _ (List.getElem_mem hlt)
      have Hst := Lib.hid hstep
      have Hfx := Lib.hid hfx
      clear hc hx hstep hfx
      generalize l[k] = x at hck Hst Hfx
      go_wp2_with fail
      by_cases hfit : Fits (acc + x)
      · refine (add_yes _ acc x Hacc.out Hfx.out hfit).mono ?_
        rintro e w1 ⟨rfl, rfl⟩
        have Hfit := Lib.hid hfit
        clear hfit
        go_wp2
        go_round
        case rel => exact ⟨k + 1, acc + x, by omega, by go_num, rfl, Hfit.out, by have := Hst.out; rw [if_pos Hfit.out] at this; exact this.symm⟩
        case measure => simp [intOf]; omega
      · refine (add_no _ acc x Hacc.out Hfx.out hfit).mono ?_
        rintro e w1 ⟨rfl, rfl⟩
        have Hfit := Lib.hid hfit
        clear hfit
        go_wp2
        go_ret2
        refine ⟨?_, rfl⟩
        have := Hst.out
        rw [if_neg Hfit.out] at this
        rw [this]
        rfl
    · obtain rfl : k = l.length := by omega
      go_wp2
      go_ret2
      refine ⟨?_, rfl⟩
      have := Hres.out
      rw [List.drop_length, sumP] at this
      rw [← this]
      rfl

set_option maxRecDepth 100000 in
set_option maxHeartbeats 2000000 in
theorem dot_any {o o' : Col} {c c' : Nat} (w : World) (ao bo : Option Addr) (n m cap cap' : Nat) (xs ys : List Int) (hx : Ints w o c (.slice ao n cap) xs) (hy : Ints w o' c' (.slice bo m cap') ys) (hxy : xs.length = ys.length) (hn : xs.length ≤ 17600000000000) (hfx : ∀ x ∈ xs, Fits x) (hfy : ∀ x ∈ ys, Fits x) :
    Calls Try.prog 78 #[.slice ao n cap, .slice bo m cap'] w fun e w' => e = .returned (optB (dotP 0 xs ys)) ∧ w = w' := by
  obtain rfl := hx.len
  have hm := hy.len
  rw [← hxy] at hm
  subst hm
  have HX := Lib.hid hx
  have HY := Lib.hid hy
  have HFX := Lib.hid hfx
  have HFY := Lib.hid hfy
  have HXY := Lib.hid hxy
  have hni : (xs.length : Int) ≤ 17600000000000 := by omega
  obtain ⟨R, hR⟩ : ∃ R, dotP 0 xs ys = R := ⟨_, rfl⟩
  rw [hR]
  have HR := Lib.hid hR
  clear hx hy hfx hfy hn hR hxy
  go_enter Try.func78, Try.ntmps78
  go_wp2_with fail
  go_loop [6, 18] (fun t i => ∃ (k : Nat) (acc : Int), k ≤ xs.length ∧ i = .int .i64 k ∧ t = .int .i64 acc ∧ Fits acc ∧ dotP acc (xs.drop k) (ys.drop k) = R) (fun _ i => xs.length - (intOf i).toNat)
  case atStart => exact ⟨0, 0, Nat.zero_le _, rfl, rfl, by unfold Fits; omega, HR.out⟩
  case round =>
    obtain ⟨k, acc, hk, rfl, rfl, hacc, hres⟩ := hrel
    have Hacc := Lib.hid hacc
    have Hres := Lib.hid hres
    clear hacc hres
    by_cases hlt : k < xs.length
    · have hlti : (k : Int) < xs.length := by omega
      have hlty : k < ys.length := by have := HXY.out; omega
      obtain ⟨b, off, e1, -, -, -, -, hc⟩ := HX.out.at (by omega)
      obtain ⟨b', off', e2, -, -, -, -, hc'⟩ := HY.out.at (by omega)
      subst e1 e2
      have hck := hc k hlt
      have hck' := hc' k hlty
      rw [show xs[k]?.getD 0 = xs[k] by simp [hlt]] at hck
      rw [show ys[k]?.getD 0 = ys[k] by simp [hlty]] at hck'
      have hstep := dotP_step (acc := acc) hlt hlty
      rw [Hres.out] at hstep
      have Hst := Lib.hid hstep
      have Hfx := Lib.hid (HFX.out _ (List.getElem_mem hlt))
      have Hfy := Lib.hid (HFY.out _ (List.getElem_mem hlty))
      clear hc hc' hstep
      generalize xs[k] = x at hck Hst Hfx
      generalize ys[k] = y at hck' Hst Hfy
      clear hlty
      go_wp2_with fail
      by_cases hf1 : Fits (x * y)
      · refine (mul_yes _ x y Hfx.out Hfy.out hf1).mono ?_
        rintro e w1 ⟨rfl, rfl⟩
        have Hf1 := Lib.hid hf1
        clear hf1
        go_wp2_with fail
        by_cases hf2 : Fits (acc + x * y)
        · refine (add_yes _ acc (x * y) Hacc.out Hf1.out hf2).mono ?_
          rintro e w1 ⟨rfl, rfl⟩
          have Hf2 := Lib.hid hf2
          clear hf2
          go_wp2
          go_round
          case rel => exact ⟨k + 1, acc + x * y, by omega, by go_num, rfl, Hf2.out, by have := Hst.out; rw [if_pos ⟨Hf1.out, Hf2.out⟩] at this; exact this.symm⟩
          case measure => simp [intOf]; omega
        · refine (add_no _ acc (x * y) Hacc.out Hf1.out hf2).mono ?_
          rintro e w1 ⟨rfl, rfl⟩
          have Hf2 := Lib.hid hf2
          clear hf2
          go_wp2
          go_ret2
          refine ⟨?_, rfl⟩
          have := Hst.out
          rw [if_neg (fun h => Hf2.out h.2)] at this
          rw [this]
          rfl
      · refine (mul_no _ x y Hfx.out Hfy.out hf1).mono ?_
        rintro e w1 ⟨rfl, rfl⟩
        have Hf1 := Lib.hid hf1
        clear hf1
        go_wp2
        go_ret2
        refine ⟨?_, rfl⟩
        have := Hst.out
        rw [if_neg (fun h => Hf1.out h.1)] at this
        rw [this]
        rfl
    · obtain rfl : k = xs.length := by omega
      go_wp2
      go_ret2
      refine ⟨?_, rfl⟩
      have := Hres.out
      rw [List.drop_length, dotP] at this
      · rw [← this]
        rfl
      · intro x xs' y ys' h; cases h
end Go.Proofs.Ytknmiiajeafjpaa
