/- The taps laid against what was taken. No program in sight. -/
import Derived.Test.YtknmiiajeafjpaaUpDown
namespace Go.Proofs.Ytknmiiajeafjpaa

/-- taps against the latest first; beyond the end lie noughts -/
def sumT : List Int → List Int → Int
  | [], _ => 0
  | t :: ts, rs => t * rs.headD 0 + sumT ts rs.tail

theorem sumT_nil : ∀ ts : List Int, sumT ts [] = 0
  | [] => rfl
  | t :: ts => by simp [sumT, sumT_nil ts]
theorem sumT_congr : ∀ (ts a b : List Int), (∀ i, i < ts.length → a[i]?.getD 0 = b[i]?.getD 0) → sumT ts a = sumT ts b
  | [], _, _, _ => rfl
  | t :: ts, a, b, h => by
    have h0 := h 0 (by simp)
    have ih := sumT_congr ts a.tail b.tail (fun i hi => by
      have := h (i + 1) (by simpa using hi)
      simpa [List.getElem?_tail] using this)
    have e : ∀ l : List Int, l.headD 0 = l[0]?.getD 0 := fun l => by cases l <;> rfl
    rw [sumT, sumT, ih, e a, e b, h0]
theorem sumT_drop (ts rs : List Int) (j : Nat) (hj : j < ts.length) : sumT (ts.drop j) (rs.drop j) = ts[j]?.getD 0 * rs[j]?.getD 0 + sumT (ts.drop (j + 1)) (rs.drop (j + 1)) := by
  rw [List.drop_eq_getElem_cons hj, sumT, List.tail_drop]
  have e : (rs.drop j).headD 0 = rs[j]?.getD 0 := by
    rw [List.headD_eq_head?_getD, List.head?_drop]
  rw [e]
  simp [hj]
theorem dot_sum : ∀ (ts ys : List Int) (acc y : Int), dotP acc ts ys = some y → Fits acc → y = acc + sumT ts ys ∧ Fits y
  | [], ys, acc, y, h, hf => by
    simp only [dotP, Option.some.injEq] at h
    subst h
    exact ⟨by simp [sumT], hf⟩
  | t :: ts, [], acc, y, h, hf => by
    simp only [dotP, Option.some.injEq] at h
    subst h
    exact ⟨by simp [sumT_nil], hf⟩
  | t :: ts, x :: ys, acc, y, h, hf => by
    rw [dotP] at h
    by_cases hc : Fits (t * x) ∧ Fits (acc + t * x)
    · rw [if_pos hc] at h
      obtain ⟨h1, h2⟩ := dot_sum ts ys _ y h hc.2
      refine ⟨?_, h2⟩
      rw [h1, sumT]
      simp only [List.headD_cons, List.tail_cons]
      omega
    · rw [if_neg hc] at h; cases h

/-- what is kept: the latest first, beyond them noughts -/
def KeepAt (n : Nat) (keep tk : List Int) : Prop := keep.length + 1 = n ∧ ∀ i, i < keep.length → keep[i]?.getD 0 = tk.reverse[i]?.getD 0

theorem KeepAt.start {n : Nat} (hn : 1 ≤ n) : KeepAt n (List.replicate (n - 1) 0) [] :=
  ⟨by simp; omega, fun i hi => by simp at hi; simp [hi]⟩
theorem KeepAt.next {n : Nat} {keep tk : List Int} (h : KeepAt n keep tk) (x : Int) : KeepAt n ((x :: keep).take keep.length) (tk ++ [x]) := by
  obtain ⟨h1, h2⟩ := h
  refine ⟨by simp; omega, fun i hi => ?_⟩
  have hi' : i < keep.length := by simpa using hi
  rw [List.getElem?_take_of_lt hi', List.reverse_append]
  cases i with
  | zero => rfl
  | succ i => simpa using h2 i (by omega)
theorem KeepAt.sum {taps keep tk : List Int} (h : KeepAt taps.length keep tk) (x : Int) : sumT taps (x :: keep) = sumT taps (tk ++ [x]).reverse := by
  obtain ⟨h1, h2⟩ := h
  refine sumT_congr _ _ _ fun i hi => ?_
  rw [List.reverse_append]
  cases i with
  | zero => rfl
  | succ i => simpa using h2 i (by omega)
theorem filter_reckP (taps keep : List Int) (x : Int) : reckP 1 taps keep [[x]] = (dotP 0 taps (x :: keep)).map fun y => ([[y]], (x :: keep).take keep.length) := rfl
theorem rev_at (tk : List Int) (j : Nat) (h : j < tk.length) : tk[tk.length - 1 - j]?.getD 0 = tk.reverse[j]?.getD 0 := by
  rw [List.getElem?_reverse h]
theorem sumT_end {ts rs : List Int} {j : Nat} (h : ts.length ≤ j ∨ rs.length ≤ j) : sumT (ts.drop j) (rs.drop j) = 0 := by
  rcases h with h | h
  · rw [List.drop_of_length_le h]; rfl
  · rw [List.drop_of_length_le h]; exact sumT_nil _
end Go.Proofs.Ytknmiiajeafjpaa
