/- What is wrong with a nest: as plain functions. No program in sight. -/
import Derived.Test.YtbmbfifempkhgaaGData
namespace Go.Proofs.Ytbmbfifempkhgaa

/-- loops checked, d deep, n leaves before: the error, and the leaves then -/
def nestE : Nest → Nat → Nat → Int × Nat
  | .nil, _, n => (0, n)
  | .cons t nd b r, d, n =>
    if 2048 ≤ n then (5, n)
    else if !b.isNil && decide (16 ≤ d) then (161, n)
    else if t < 1 then (160, n)
    else if !b.isNil && decide (nd ≠ 0) then (162, n)
    else if b.isNil && (decide (nd < 0) || decide (32 ≤ nd)) then (100, n)
    else if b.isNil then nestE r d (n + 1)
    else if (nestE b (d + 1) n).1 ≠ 0 then nestE b (d + 1) n else nestE r d (nestE b (d + 1) n).2
/-- one loop checked -/
def oneE (t nd : Int) (b : Nest) (d n : Nat) : Int × Nat :=
  if 2048 ≤ n then (5, n)
  else if !b.isNil && decide (16 ≤ d) then (161, n)
  else if t < 1 then (160, n)
  else if !b.isNil && decide (nd ≠ 0) then (162, n)
  else if b.isNil && (decide (nd < 0) || decide (32 ≤ nd)) then (100, n)
  else if b.isNil then (0, n + 1)
  else nestE b (d + 1) n
theorem nestE_cons (t nd : Int) (b r : Nest) (d n : Nat) : nestE (.cons t nd b r) d n = if (oneE t nd b d n).1 ≠ 0 then oneE t nd b d n else nestE r d (oneE t nd b d n).2 := by
  unfold oneE
  rw [nestE]
  by_cases h1 : 2048 ≤ n
  · rw [if_pos h1, if_pos h1]; simp
  rw [if_neg h1, if_neg h1]
  by_cases h2 : (!b.isNil && decide (16 ≤ d)) = true
  · rw [if_pos h2, if_pos h2]; simp
  rw [if_neg h2, if_neg h2]
  by_cases h3 : t < 1
  · rw [if_pos h3, if_pos h3]; simp
  rw [if_neg h3, if_neg h3]
  by_cases h4 : (!b.isNil && decide (nd ≠ 0)) = true
  · rw [if_pos h4, if_pos h4]; simp
  rw [if_neg h4, if_neg h4]
  by_cases h5 : (b.isNil && (decide (nd < 0) || decide (32 ≤ nd))) = true
  · rw [if_pos h5, if_pos h5]; simp
  rw [if_neg h5, if_neg h5]
  by_cases h6 : b.isNil = true
  · rw [if_pos h6, if_pos h6]; simp
  rw [if_neg h6, if_neg h6]

/-- firings, counted onto s; 2049 where they are too many -/
def totalP : Nest → Int → Int
  | .nil, s => s
  | .cons t _ b r, s =>
    let n : Int := if b.isNil then 1 else totalP b 0
    if 2048 < t ∨ 2048 < n then 2049 else if 2048 < s + n * t then 2049 else totalP r (s + n * t)
def nestCheckE (l : Nest) : Int := if (nestE l 0 0).1 ≠ 0 then (nestE l 0 0).1 else if 2048 < totalP l 0 then 5 else 0

def Nest.drop : Nest → Nat → Nest
  | l, 0 => l
  | .nil, _ + 1 => .nil
  | .cons _ _ _ r, k + 1 => r.drop k
theorem drop_zero : ∀ l : Nest, l.drop 0 = l
  | .nil => rfl
  | .cons _ _ _ _ => rfl
theorem drop_items : ∀ (l : Nest) (k : Nat) (h : k < l.items.length), l.drop k = .cons (l.items[k]).1 (l.items[k]).2.1 (l.items[k]).2.2 (l.drop (k + 1))
  | .nil, k, h => by simp [Nest.items] at h
  | .cons t nd b r, 0, h => by simp [Nest.drop, Nest.items]
  | .cons t nd b r, k + 1, h => by
    have h' : k < r.items.length := by simpa [Nest.items] using h
    have := drop_items r k h'
    simpa [Nest.drop, Nest.items] using this
theorem drop_end : ∀ (l : Nest), l.drop l.items.length = .nil
  | .nil => rfl
  | .cons t nd b r => by simp [Nest.drop, Nest.items, drop_end r]
theorem isNil_len : ∀ (l : Nest), l.isNil = decide (l.items.length = 0)
  | .nil => rfl
  | .cons _ _ _ _ => by simp [Nest.isNil, Nest.items]

/-- no list is longer than a machine has -/
def NSized : Nest → Prop
  | .nil => True
  | .cons _ _ b r => NSized b ∧ NSized r ∧ r.items.length + 1 ≤ 17600000000000
theorem nsized_len : ∀ {l : Nest}, NSized l → l.items.length ≤ 17600000000000
  | .nil, _ => by simp [Nest.items]
  | .cons _ _ _ _, h => by simp only [Nest.items, List.length_cons]; exact h.2.2
theorem nsized_at : ∀ {l : Nest}, NSized l → ∀ x ∈ l.items, NSized x.2.2
  | .nil, _, x, hx => by simp [Nest.items] at hx
  | .cons _ _ _ _, h, x, hx => by
    simp only [Nest.items, List.mem_cons] at hx
    rcases hx with rfl | hx
    · exact h.1
    · exact nsized_at h.2.1 x hx
theorem nestE_le : ∀ (l : Nest) (d n : Nat), n ≤ 2048 → (nestE l d n).2 ≤ 2048
  | .nil, _, n, h => h
  | .cons t nd b r, d, n, h => by
    have hone : (oneE t nd b d n).2 ≤ 2048 := by
      unfold oneE
      by_cases h1 : 2048 ≤ n
      · rw [if_pos h1]; exact h
      rw [if_neg h1]
      split
      · exact h
      split
      · exact h
      split
      · exact h
      split
      · exact h
      split
      · show n + 1 ≤ 2048; omega
      · exact nestE_le b (d + 1) n h
    rw [nestE_cons]
    split
    · exact hone
    · exact nestE_le r d _ hone
theorem oneE_le (t nd : Int) (b : Nest) (d n : Nat) (h : n ≤ 2048) : (oneE t nd b d n).2 ≤ 2048 := by
  unfold oneE
  by_cases h1 : 2048 ≤ n
  · rw [if_pos h1]; exact h
  rw [if_neg h1]
  split
  · exact h
  split
  · exact h
  split
  · exact h
  split
  · exact h
  split
  · show n + 1 ≤ 2048; omega
  · exact nestE_le b (d + 1) n h
end Go.Proofs.Ytbmbfifempkhgaa
