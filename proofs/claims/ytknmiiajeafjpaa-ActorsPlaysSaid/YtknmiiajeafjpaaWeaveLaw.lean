/- Weaving what was parted gives the row again. No program in sight. -/
import Derived.Test.YtknmiiajeafjpaaReck3
namespace Go.Proofs.Ytknmiiajeafjpaa

theorem range_drop (l : List Int) (s n : Nat) (h : s + n ≤ l.length) : (List.range n).map (fun i => l[s + i]?.getD 0) = (l.drop s).take n := by
  refine List.ext_getElem (by simp; omega) fun i h1 h2 => ?_
  have hi : i < n := by simpa using h1
  have hi2 : s + i < l.length := by omega
  simp [hi2]

theorem atP_part (n m : Nat) (l : List Int) (j : Nat) (hj : j < m) (h : j * n + n ≤ l.length) : atP (partP n m l) j = (l.drop (j * n)).take n := by
  rw [← range_drop l (j * n) n h]
  unfold atP partP
  rw [List.map_map]
  refine List.map_congr_left fun i _ => ?_
  simp [hj]

theorem weave_part (n m : Nat) (l : List Int) (h : l.length = n * m) : weaveP (partP n m l) m = l := by
  have key : ∀ k, k ≤ m → weaveP (partP n m l) k = l.take (k * n) := by
    intro k
    induction k with
    | zero => intro _; simp [weaveP]
    | succ k ih =>
      intro hk
      have h1 : (k + 1) * n ≤ l.length := by rw [h, Nat.mul_comm n m]; exact Nat.mul_le_mul_right _ hk
      have h2 : (k + 1) * n = k * n + n := Nat.succ_mul _ _
      rw [weaveP_succ, ih (by omega), atP_part n m l k (by omega) (by omega), h2, List.take_add]
  have := key m (Nat.le_refl _)
  rw [this, Nat.mul_comm, ← h, List.take_length]

theorem part_len (n m : Nat) (l : List Int) : (partP n m l).length = n := by simp [partP]
theorem part_row (n m : Nat) (l : List Int) (i : Nat) (hi : i < n) : (partP n m l)[i]?.getD [] = (List.range m).map fun j => l[j * n + i]?.getD 0 := by simp [partP, hi]
theorem part_row_len (n m : Nat) (l : List Int) (i : Nat) (hi : i < n) : ((partP n m l)[i]?.getD []).length = m := by rw [part_row n m l i hi]; simp
theorem part_head (n m : Nat) (l : List Int) (i : Nat) (hi : i < n) (hm : 1 ≤ m) : ((partP n m l)[i]?.getD [])[0]?.getD 0 = l[i]?.getD 0 := by
  rw [part_row n m l i hi]
  simp [show 0 < m by omega]
theorem part_fits {P : Int → Prop} (n m : Nat) (l : List Int) (h : l.length = n * m) (hf : ∀ x ∈ l, P x) : ∀ r ∈ partP n m l, ∀ x ∈ r, P x := by
  intro r hr x hx
  simp only [partP, List.mem_map, List.mem_range] at hr
  obtain ⟨i, hi, rfl⟩ := hr
  simp only [List.mem_map, List.mem_range] at hx
  obtain ⟨j, hj, rfl⟩ := hx
  have h1 : (j + 1) * n ≤ m * n := Nat.mul_le_mul_right _ hj
  have h2 : (j + 1) * n = j * n + n := Nat.succ_mul _ _
  have h3 : n * m = m * n := Nat.mul_comm _ _
  have hlt : j * n + i < l.length := by omega
  rw [List.getElem?_eq_getElem hlt, Option.getD_some]
  exact hf _ (List.getElem_mem _)
theorem part_lens (n m : Nat) (l : List Int) : (partP n m l).map (fun r => (r.length : Int)) = List.replicate n (m : Int) := by
  refine List.ext_getElem (by simp [partP]) fun i h1 h2 => ?_
  simp [partP]
end Go.Proofs.Ytknmiiajeafjpaa
