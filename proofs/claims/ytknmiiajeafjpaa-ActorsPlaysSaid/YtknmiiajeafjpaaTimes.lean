/- The reference's sums and products, where they fit. -/
import Derived.Test.YtknmiiajeafjpaaUpDown
namespace Go.Proofs.Ytknmiiajeafjpaa
open Go.RowKit

def mulP (a b : Int) : Option Int := if Fits (a * b) then some (a * b) else none
def plusP (a b : Int) : Option Int := if Fits (a + b) then some (a + b) else none

theorem wrap64_mod (n : Int) : ∃ q : Int, wrap64 n = n + q * 18446744073709551616 ∧ -9223372036854775808 ≤ wrap64 n ∧ wrap64 n ≤ 9223372036854775807 := by
  unfold wrap64
  exact ⟨-((n + 9223372036854775808) / 18446744073709551616), by omega, by omega, by omega⟩

theorem wrap64_exact {p z : Int} (hp : ∃ q : Int, p = z + q * 18446744073709551616) (h : (p - z).natAbs < 18446744073709551616) : p = z := by
  obtain ⟨q, e⟩ := hp
  omega

/-- a product that is divided back -/
theorem times_back {a b : Int} (fa : Fits a) (fb : Fits b) (h0 : b ≠ 0) (hm : ¬ (b = -1 ∧ a = -9223372036854775808)) : wrap64 ((wrap64 (a * b)).tdiv b) = a ↔ Fits (a * b) := by
  unfold Fits at *
  constructor
  · intro h
    obtain ⟨q, e, p1, p2⟩ := wrap64_mod (a * b)
    generalize wrap64 (a * b) = p at *
    have hpd : p.tdiv b = a := by
      by_cases hb : b = -1
      · subst hb
        have e1 : p.tdiv (-1) = -p := by simp
        rw [e1] at h ⊢
        by_cases hp : p = -9223372036854775808
        · subst hp
          exfalso
          have : wrap64 (-(-9223372036854775808)) = -9223372036854775808 := by unfold wrap64; omega
          rw [this] at h
          exact hm ⟨rfl, h.symm⟩
        · rw [IntWalk.wrap64_in _ (by omega)] at h
          exact h
      · rw [tdiv_wrap ⟨p1, p2⟩ h0 hb] at h
        exact h
    have hdm := Int.mul_tdiv_add_tmod p b
    rw [hpd] at hdm
    have hlt : (p.tmod b).natAbs < b.natAbs := by
      rw [Int.natAbs_tmod]
      exact Nat.mod_lt _ (by omega)
    have hpe : p = a * b := wrap64_exact ⟨q, e⟩ (by
      have e2 : p - a * b = p.tmod b := by rw [Int.mul_comm a b]; omega
      rw [e2]; omega)
    omega
  · intro h
    rw [IntWalk.wrap64_in _ h, Int.mul_tdiv_cancel _ h0]
    exact IntWalk.wrap64_in _ fa

set_option maxRecDepth 100000 in
set_option maxHeartbeats 2000000 in
theorem times_any (w : World) (a b : Int) (fa : Fits a) (fb : Fits b) : Calls Try.prog 17 #[.int .i64 a, .int .i64 b] w fun e w' => e = .returned (optB (mulP a b)) ∧ w = w' := by
  by_cases ha : a = 0
  · subst ha
    have e : mulP 0 b = some 0 := by simp [mulP, Fits]
    rw [e]
    go_enter Try.func17, Try.ntmps17
    go_wp2
    go_ret2
    exact ⟨rfl, rfl⟩
  by_cases hb : b = 0
  · subst hb
    have e : mulP a 0 = some 0 := by simp [mulP, Fits]
    rw [e]
    go_enter Try.func17, Try.ntmps17
    go_wp2
    go_ret2
    exact ⟨rfl, rfl⟩
  by_cases h1 : a = -1 ∧ b = -9223372036854775808
  · obtain ⟨rfl, rfl⟩ := h1
    have e : mulP (-1) (-9223372036854775808) = none := by decide
    rw [e]
    clear fa fb ha hb
    go_enter Try.func17, Try.ntmps17
    go_wp2
    go_ret2
    exact ⟨rfl, rfl⟩
  by_cases h2 : b = -1 ∧ a = -9223372036854775808
  · obtain ⟨rfl, rfl⟩ := h2
    have e : mulP (-9223372036854775808) (-1) = none := by decide
    rw [e]
    clear fa fb ha hb h1
    go_enter Try.func17, Try.ntmps17
    go_wp2
    go_ret2
    exact ⟨rfl, rfl⟩
  have hback := times_back fa fb hb h2
  have hw : Fits (a * b) → wrap64 (a * b) = a * b := fun h => IntWalk.wrap64_in _ h
  obtain ⟨p, hp⟩ : ∃ p, mulP a b = p := ⟨_, rfl⟩
  rw [hp]
  have HP := Lib.hid hp
  have HB := Lib.hid hback
  have HW := Lib.hid hw
  clear fa fb hp hback hw
  have key : (wrap64 ((wrap64 (a * b)).tdiv b) = a ∧ wrap64 (a * b) = a * b ∧ p = some (a * b)) ∨ (¬ wrap64 ((wrap64 (a * b)).tdiv b) = a ∧ p = none) := by
    by_cases hf : Fits (a * b)
    · exact .inl ⟨HB.out.2 hf, HW.out hf, by rw [← HP.out, mulP, if_pos hf]⟩
    · exact .inr ⟨fun e => hf (HB.out.1 e), by rw [← HP.out, mulP, if_neg hf]⟩
  clear HP HB HW
  have hA0 : (a == 0) = false := by simpa using ha
  have hB0 : (b == 0) = false := by simpa using hb
  obtain ⟨x, hA1⟩ : ∃ x, (a == -1) = x := ⟨_, rfl⟩
  obtain ⟨y, hB1⟩ : ∃ x, (b == -1) = x := ⟨_, rfl⟩
  obtain ⟨u, hAm⟩ : ∃ x, (a == -9223372036854775808) = x := ⟨_, rfl⟩
  obtain ⟨v, hBm⟩ : ∃ x, (b == -9223372036854775808) = x := ⟨_, rfl⟩
  have hc1 : ¬ (x = true ∧ v = true) := by
    rintro ⟨rfl, rfl⟩
    exact h1 ⟨by simpa using hA1, by simpa using hBm⟩
  have hc2 : ¬ (y = true ∧ u = true) := by
    rintro ⟨rfl, rfl⟩
    exact h2 ⟨by simpa using hB1, by simpa using hAm⟩
  clear h1 h2
  rcases key with ⟨hq, hw, rfl⟩ | ⟨hq, rfl⟩
  · have hq' : (wrap64 ((wrap64 (a * b)).tdiv b) != a) = false := by simpa using hq
    have HW := Lib.hid hw
    clear hq hw
    cases x <;> cases y <;> cases u <;> cases v <;> first
      | exact absurd ⟨rfl, rfl⟩ hc1
      | exact absurd ⟨rfl, rfl⟩ hc2
      | (clear hc1 hc2
         go_enter Try.func17, Try.ntmps17
         go_wp2
         go_ret2
         show Ending.returned (.tuple #[.int .i64 (wrap64 (a * b)), .bool true]) = _ ∧ _
         rw [HW.out]
         exact ⟨rfl, rfl⟩)
  · have hq' : (wrap64 ((wrap64 (a * b)).tdiv b) != a) = true := by simpa using hq
    clear hq
    cases x <;> cases y <;> cases u <;> cases v <;> first
      | exact absurd ⟨rfl, rfl⟩ hc1
      | exact absurd ⟨rfl, rfl⟩ hc2
      | (clear hc1 hc2
         go_enter Try.func17, Try.ntmps17
         go_wp2
         go_ret2
         exact ⟨rfl, rfl⟩)

theorem sumP_rep (x : Int) : ∀ (n : Nat) (k : Int), 0 ≤ k → Fits (k * x) → sumP (k * x) (List.replicate n x) = if Fits ((k + n) * x) then some ((k + n) * x) else none
  | 0, k, _, hf => by simp [sumP, hf]
  | n + 1, k, hk, hf => by
    rw [List.replicate_succ, sumP]
    have e1 : k * x + x = (k + 1) * x := by rw [Int.add_mul, Int.one_mul]
    have e2 : k + ((n + 1 : Nat) : Int) = k + 1 + n := by omega
    rw [e1, e2]
    by_cases h1 : Fits ((k + 1) * x)
    · rw [if_pos h1]
      exact sumP_rep x n (k + 1) (by omega) h1
    · rw [if_neg h1, if_neg]
      intro h2
      apply h1
      have e3 : (k + 1 + n) * x = (k + 1) * x + n * x := Int.add_mul _ _ _
      rw [e3] at h2
      unfold Fits at *
      rcases Int.le_total 0 x with hx | hx
      · have g1 : 0 ≤ (n : Int) * x := Int.mul_nonneg (by omega) hx
        have g2 : 0 ≤ (k + 1) * x := Int.mul_nonneg (by omega) hx
        omega
      · have g1 : (n : Int) * x ≤ 0 := Int.mul_nonpos_of_nonneg_of_nonpos (by omega) hx
        have g2 : (k + 1) * x ≤ 0 := Int.mul_nonpos_of_nonneg_of_nonpos (by omega) hx
        omega
theorem sumP_times (x : Int) (n : Nat) : sumP 0 (List.replicate n x) = mulP n x := by
  have := sumP_rep x n 0 (Int.le_refl _) (by simp [Fits])
  rw [Int.zero_mul] at this
  rw [this]
  simp [mulP]
theorem firsts_rep (n : Nat) (x : Int) : firsts (List.replicate n [x]) = List.replicate n x := by simp [firsts]
end Go.Proofs.Ytknmiiajeafjpaa
