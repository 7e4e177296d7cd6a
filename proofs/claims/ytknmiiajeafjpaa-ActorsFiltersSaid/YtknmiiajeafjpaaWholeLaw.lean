/- Whole numbers as digits by 2^30, the lowest first. No program in sight. -/
import Derived.WalkKit
namespace Go.Proofs.Ytknmiiajeafjpaa

/-- what digits stand for -/
def valD : List Int → Int
  | [] => 0
  | d :: r => d + 1073741824 * valD r
def Digs (ds : List Int) : Prop := ∀ d ∈ ds, 0 ≤ d ∧ d < 1073741824
/-- .. none of the highest ones 0 -/
def Trim (ds : List Int) : Prop := Digs ds ∧ ∀ h : ds ≠ [], ds.getLast h ≠ 0

theorem valD_nonneg : ∀ {ds : List Int}, Digs ds → 0 ≤ valD ds
  | [], _ => Int.le_refl _
  | d :: r, h => by
    have h1 := h d (by simp)
    have h2 := valD_nonneg (ds := r) (fun x hx => h x (by simp [hx]))
    simp only [valD]; omega
theorem valD_append : ∀ (a b : List Int), valD (a ++ b) = valD a + 1073741824 ^ a.length * valD b
  | [], b => by simp [valD]
  | d :: r, b => by
    simp only [List.cons_append, valD, valD_append r b, List.length_cons, Int.pow_succ]
    rw [Int.mul_add, ← Int.mul_assoc, Int.mul_comm (1073741824 ^ r.length) 1073741824]
    omega
theorem valD_lt : ∀ {ds : List Int}, Digs ds → valD ds < 1073741824 ^ ds.length
  | [], _ => by simp [valD]
  | d :: r, h => by
    have h1 := h d (by simp)
    have h2 := valD_lt (ds := r) (fun x hx => h x (by simp [hx]))
    simp only [valD, List.length_cons, Int.pow_succ]
    omega

theorem pow_pos' (n : Nat) : (1 : Int) ≤ 1073741824 ^ n := by
  induction n with
  | zero => simp
  | succ n ih => rw [Int.pow_succ]; omega

theorem digs_take {ds : List Int} (h : Digs ds) (k : Nat) : Digs (ds.take k) := fun d hd => h d (List.mem_of_mem_take hd)
theorem digs_drop {ds : List Int} (h : Digs ds) (k : Nat) : Digs (ds.drop k) := fun d hd => h d (List.mem_of_mem_drop hd)

/-- what the highest digits decide -/
theorem valD_split (ds : List Int) (k : Nat) (hk : k ≤ ds.length) : valD ds = valD (ds.take k) + 1073741824 ^ k * valD (ds.drop k) := by
  have h := valD_append (ds.take k) (ds.drop k)
  rw [List.take_append_drop, List.length_take, Nat.min_eq_left hk] at h
  exact h

theorem valD_lt_of {a b : List Int} (ha : Digs a) (hb : Digs b) {k : Nat} (hka : k ≤ a.length) (hkb : k ≤ b.length) (h : valD (a.drop k) < valD (b.drop k)) : valD a < valD b := by
  rw [valD_split a k hka, valD_split b k hkb]
  have h1 := valD_lt (digs_take ha k)
  rw [List.length_take, Nat.min_eq_left hka] at h1
  have h2 := valD_nonneg (digs_take hb k)
  have hp := pow_pos' k
  generalize (1073741824 : Int) ^ k = p at *
  have h3 : p * (valD (a.drop k) + 1) ≤ p * valD (b.drop k) := Int.mul_le_mul_of_nonneg_left (by omega) (by omega)
  rw [Int.mul_add] at h3
  omega

/-- one digit at the top: as many digits, as much at least -/
theorem valD_ge {ds : List Int} (h : Trim ds) (hp : 0 < ds.length) : 1073741824 ^ (ds.length - 1) ≤ valD ds := by
  have hne : ds ≠ [] := by intro e; rw [e] at hp; simp at hp
  have hl := h.2 hne
  have hm := h.1 _ (List.getLast_mem hne)
  have e := valD_split ds (ds.length - 1) (by omega)
  have hd : ds.drop (ds.length - 1) = [ds.getLast hne] := by
    rw [List.drop_eq_getElem_cons (by omega), List.getLast_eq_getElem, show ds.length - 1 + 1 = ds.length by omega, List.drop_length]
  rw [hd] at e
  have h2 := valD_nonneg (digs_take h.1 (ds.length - 1))
  have hp := pow_pos' (ds.length - 1)
  simp only [valD, Int.mul_zero, Int.add_zero] at e
  generalize (1073741824 : Int) ^ (ds.length - 1) = p at *
  have h3 : p * 1 ≤ p * ds.getLast hne := Int.mul_le_mul_of_nonneg_left (by omega) (by omega)
  omega
theorem pow_le' {m n : Nat} (h : m ≤ n) : (1073741824 : Int) ^ m ≤ 1073741824 ^ n := by
  obtain ⟨k, rfl⟩ := Nat.exists_eq_add_of_le h
  rw [Int.pow_add]
  have h1 := pow_pos' m
  have h2 := pow_pos' k
  generalize (1073741824 : Int) ^ m = p at *
  generalize (1073741824 : Int) ^ k = q at *
  have := Int.mul_le_mul_of_nonneg_left h2 (show 0 ≤ p by omega)
  omega
/-- fewer digits: less -/
theorem valD_short {a b : List Int} (ha : Trim a) (hb : Trim b) (h : a.length < b.length) : valD a < valD b := by
  have h1 := valD_lt ha.1
  have h2 := valD_ge hb (by omega)
  have h3 := pow_le' (show a.length ≤ b.length - 1 by omega)
  omega

theorem valD_drop (a : List Int) (k : Nat) : valD (a.drop k) = a[k]?.getD 0 + 1073741824 * valD (a.drop (k + 1)) := by
  by_cases h : k < a.length
  · rw [List.drop_eq_getElem_cons h]
    simp [valD, h]
  · have h1 : a.drop k = [] := List.drop_of_length_le (by omega)
    have h2 : a.drop (k + 1) = [] := List.drop_of_length_le (by omega)
    rw [h1, h2]
    simp [valD, show a.length ≤ k by omega]
theorem digs_at {a : List Int} (h : Digs a) (k : Nat) : 0 ≤ a[k]?.getD 0 ∧ a[k]?.getD 0 < 1073741824 := by
  by_cases hk : k < a.length
  · have := h _ (List.getElem_mem hk)
    simpa [hk] using this
  · simp [show a.length ≤ k by omega]
theorem digs_snoc {a : List Int} {d : Int} (h : Digs a) (hd : 0 ≤ d ∧ d < 1073741824) : Digs (a ++ [d]) := fun x hx => by
  rcases List.mem_append.1 hx with hx | hx
  · exact h x hx
  · rw [List.mem_singleton.1 hx]; exact hd
/-- one digit of a sum -/
theorem add_step {out a b : List Int} {c V : Int} {k : Nat} (hk : out.length = k) (h : valD out + 1073741824 ^ k * (c + valD (a.drop k) + valD (b.drop k)) = V) :
    valD (out ++ [(c + a[k]?.getD 0 + b[k]?.getD 0) % 1073741824]) + 1073741824 ^ (k + 1) * ((c + a[k]?.getD 0 + b[k]?.getD 0) / 1073741824 + valD (a.drop (k + 1)) + valD (b.drop (k + 1))) = V := by
  rw [valD_append, hk, Int.pow_succ, ← h, valD_drop a k, valD_drop b k]
  generalize a[k]?.getD 0 = x
  generalize b[k]?.getD 0 = y
  generalize valD (a.drop (k + 1)) = A
  generalize valD (b.drop (k + 1)) = B
  generalize (1073741824 : Int) ^ k = p
  simp only [valD, Int.mul_zero, Int.add_zero]
  have e : (c + x + y) % 1073741824 + 1073741824 * ((c + x + y) / 1073741824) = c + x + y := Int.emod_add_mul_ediv _ _
  generalize (c + x + y) % 1073741824 = r at *
  generalize (c + x + y) / 1073741824 = q at *
  have e2 : c + (x + 1073741824 * A) + (y + 1073741824 * B) = r + 1073741824 * (q + A + B) := by omega
  rw [e2, Int.mul_assoc, Int.mul_add p r]
  have : p * (1073741824 * (q + A + B)) = p * (1073741824 * (q + A + B)) := rfl
  omega
/-- noughts at the high end count nothing -/
theorem valD_trim (ds : List Int) (n : Nat) (hn : n ≤ ds.length) (h : ∀ k, n ≤ k → k < ds.length → ds[k]?.getD 0 = 0) : valD (ds.take n) = valD ds := by
  have hz : ∀ (l : List Int), (∀ k, k < l.length → l[k]?.getD 0 = 0) → valD l = 0 := by
    intro l
    induction l with
    | nil => intro _; rfl
    | cons d r ih =>
      intro hl
      have h0 := hl 0 (by simp)
      have h1 := ih (fun k hk => by simpa using hl (k + 1) (by simp; omega))
      simp at h0
      simp [valD, h0, h1]
  have := valD_split ds n hn
  rw [hz (ds.drop n) (fun k hk => by
    have hk' : k < ds.length - n := by simpa using hk
    have := h (n + k) (by omega) (by omega)
    simpa [List.getElem?_drop] using this)] at this
  omega

/-- one digit of a difference: c is what was borrowed -/
theorem less_step {out a b : List Int} {c q r V : Int} {k : Nat} (hk : out.length = k) (h : valD out + 1073741824 ^ k * (valD (a.drop k) - valD (b.drop k) - c) = V) (e : r = a[k]?.getD 0 - c - b[k]?.getD 0 + 1073741824 * q) :
    valD (out ++ [r]) + 1073741824 ^ (k + 1) * (valD (a.drop (k + 1)) - valD (b.drop (k + 1)) - q) = V := by
  rw [valD_append, hk, Int.pow_succ, ← h, valD_drop a k, valD_drop b k, e]
  generalize a[k]?.getD 0 = x
  generalize b[k]?.getD 0 = y
  generalize valD (a.drop (k + 1)) = A
  generalize valD (b.drop (k + 1)) = B
  generalize (1073741824 : Int) ^ k = p
  simp only [valD, Int.mul_zero, Int.add_zero]
  have e2 : x + 1073741824 * A - (y + 1073741824 * B) - c = (x - c - y + 1073741824 * q) + 1073741824 * (A - B - q) := by omega
  rw [e2, Int.mul_assoc, Int.mul_add p (x - c - y + 1073741824 * q)]
  omega

/-- a digit is written anew -/
theorem valD_set : ∀ (l : List Int) (j : Nat) (_ : j < l.length) (y : Int), valD (l.set j y) = valD l + 1073741824 ^ j * (y - l[j]?.getD 0)
  | [], j, h, _ => absurd h (by simp)
  | d :: r, 0, _, y => by simp [valD]; omega
  | d :: r, j + 1, h, y => by
    have ih := valD_set r j (by simpa using h) y
    simp only [List.set_cons_succ, valD, ih, List.getElem?_cons_succ, Int.pow_succ]
    generalize y - r[j]?.getD 0 = u
    generalize (1073741824 : Int) ^ j = p
    have : p * 1073741824 * u = 1073741824 * (p * u) := by rw [Int.mul_comm p 1073741824, Int.mul_assoc]
    omega
theorem digs_set {l : List Int} (h : Digs l) (j : Nat) {y : Int} (hy : 0 ≤ y ∧ y < 1073741824) : Digs (l.set j y) := fun x hx => by
  rcases List.mem_or_eq_of_mem_set hx with h1 | h1
  · exact h x h1
  · rw [h1]; exact hy
theorem digs_rep (n : Nat) : Digs (List.replicate n 0) := fun x hx => by
  rw [(List.mem_replicate.1 hx).2]; omega
theorem valD_rep (n : Nat) : valD (List.replicate n 0) = 0 := by
  induction n with
  | zero => rfl
  | succ n ih => simp [List.replicate_succ, valD, ih]

/-- one digit of a product is no longer than two -/
theorem prod_fits {o x y c : Int} (ho : 0 ≤ o ∧ o < 1073741824) (hx : 0 ≤ x ∧ x < 1073741824) (hy : 0 ≤ y ∧ y < 1073741824) (hc : 0 ≤ c ∧ c < 1073741824) : 0 ≤ x * y ∧ x * y ≤ 1152921502459363329 ∧ 0 ≤ o + x * y + c ∧ o + x * y + c < 1152921504606846976 := by
  have h1 : 0 ≤ x * y := Int.mul_nonneg hx.1 hy.1
  have h2 : x * y ≤ 1073741823 * 1073741823 := Int.mul_le_mul (by omega) (by omega) hy.1 (by omega)
  omega

theorem times_step {out b : List Int} {x c V : Int} {i k : Nat} (hj : i + k < out.length) (h : valD out + 1073741824 ^ (i + k) * (c + x * valD (b.drop k)) = V) :
    valD (out.set (i + k) ((out[i + k]?.getD 0 + x * b[k]?.getD 0 + c) % 1073741824)) + 1073741824 ^ (i + (k + 1)) * ((out[i + k]?.getD 0 + x * b[k]?.getD 0 + c) / 1073741824 + x * valD (b.drop (k + 1))) = V := by
  rw [valD_set _ _ hj, ← h, valD_drop b k, show i + (k + 1) = i + k + 1 by omega, Int.pow_succ]
  generalize out[i + k]?.getD 0 = z
  generalize b[k]?.getD 0 = y
  generalize valD (b.drop (k + 1)) = B
  generalize (1073741824 : Int) ^ (i + k) = p
  have e : (z + x * y + c) % 1073741824 + 1073741824 * ((z + x * y + c) / 1073741824) = z + x * y + c := Int.emod_add_mul_ediv _ _
  generalize (z + x * y + c) % 1073741824 = r at *
  generalize (z + x * y + c) / 1073741824 = q at *
  have e2 : c + x * (y + 1073741824 * B) = (r - z) + 1073741824 * (q + x * B) := by
    rw [Int.mul_add, Int.mul_add, show x * (1073741824 * B) = 1073741824 * (x * B) by rw [← Int.mul_assoc, Int.mul_comm x, Int.mul_assoc]]
    omega
  rw [e2, Int.mul_add p (r - z), Int.mul_assoc p 1073741824]
  omega
/-- .. and a digit of the first number -/
theorem times_row {out a b : List Int} {V : Int} {i : Nat} (h : valD out + 1073741824 ^ i * (valD (a.drop i) * valD b) = V) :
    (valD out + 1073741824 ^ (i + 0) * (0 + a[i]?.getD 0 * valD (b.drop 0))) + 1073741824 ^ (i + 1) * (valD (a.drop (i + 1)) * valD b) = V := by
  rw [← h, valD_drop a i, Int.pow_succ, List.drop_zero, Nat.add_zero]
  generalize a[i]?.getD 0 = x
  generalize valD (a.drop (i + 1)) = A
  generalize valD b = B
  generalize (1073741824 : Int) ^ i = p
  rw [Int.add_mul, Int.mul_add p (x * B), Int.zero_add, Int.mul_assoc p 1073741824, Int.mul_assoc 1073741824 A B]
  omega

/-- -1, 0, 1 -/
def sgnP (x y : Int) : Int := if x < y then -1 else if y < x then 1 else 0
theorem sgnP_lt {x y : Int} (h : x < y) : sgnP x y = -1 := if_pos h
theorem sgnP_gt {x y : Int} (h : y < x) : sgnP x y = 1 := by unfold sgnP; rw [if_neg (by omega), if_pos h]
theorem sgnP_eq {x y : Int} (h : x = y) : sgnP x y = 0 := by unfold sgnP; rw [if_neg (by omega), if_neg (by omega)]

/-- a whole number: its sign, its digits -/
def numD (below : Bool) (ds : List Int) : Int := if below then -valD ds else valD ds
def WhP (below : Bool) (ds : List Int) (z : Int) : Prop := Trim ds ∧ z = numD below ds ∧ (below = true → ds ≠ [])

theorem valD_pos {ds : List Int} (h : Trim ds) (hne : ds ≠ []) : 1 ≤ valD ds := by
  have hp : 0 < ds.length := by cases ds with | nil => exact absurd rfl hne | cons => simp
  have h1 := valD_ge h hp
  have h2 := pow_pos' (ds.length - 1)
  omega
theorem trim_nil : Trim [] := ⟨fun d h => by simp at h, fun h => absurd rfl h⟩
theorem nil_of_val {ds : List Int} (h : Trim ds) (hv : valD ds = 0) : ds = [] := by
  refine Decidable.byContradiction fun hne => ?_
  have := valD_pos h hne
  omega
theorem trim_snoc {ds : List Int} {d : Int} (h : Digs ds) (hd : 0 < d ∧ d < 1073741824) : Trim (ds ++ [d]) :=
  ⟨digs_snoc h ⟨by omega, hd.2⟩, fun _ => by simp; omega⟩
theorem valD_snoc (ds : List Int) (d : Int) : valD (ds ++ [d]) = valD ds + 1073741824 ^ ds.length * d := by
  rw [valD_append]; simp [valD]

/-- one digit of an int: u is what is left of its size -/
theorem of_step {out : List Int} {u V : Int} {k : Nat} (hk : out.length = k) (h : valD out + 1073741824 ^ k * u = V) : valD (out ++ [u % 1073741824]) + 1073741824 ^ (k + 1) * (u / 1073741824) = V := by
  rw [valD_snoc, hk, ← h, Int.pow_succ, Int.mul_assoc, Int.add_assoc, ← Int.mul_add, Int.emod_add_mul_ediv]
theorem of_short {out : List Int} {u V : Int} {k : Nat} (hd : Digs out) (hu : 0 < u) (h : valD out + 1073741824 ^ k * u = V) (hV : V ≤ 9223372036854775808) : k ≤ 2 := by
  refine Decidable.byContradiction fun hk => ?_
  have h1 := valD_nonneg hd
  have h2 := pow_le' (show 3 ≤ k by omega)
  have h3 := pow_pos' k
  generalize (1073741824 : Int) ^ k = p at *
  have h4 : p * 1 ≤ p * u := Int.mul_le_mul_of_nonneg_left (by omega) (by omega)
  omega
theorem neg_div {m : Int} (h : m < 0) : m.tmod 1073741824 = -((-m) % 1073741824) ∧ m.tdiv 1073741824 = -((-m) / 1073741824) := by
  obtain ⟨u, rfl⟩ : ∃ u, m = -u := ⟨-m, by omega⟩
  rw [Int.neg_tmod, Int.neg_tdiv, Int.neg_neg, Int.tmod_eq_emod_of_nonneg (by omega), Int.tdiv_eq_ediv_of_nonneg (by omega)]
  exact ⟨rfl, rfl⟩
theorem pos_div {m : Int} (h : 0 ≤ m) : m.tmod 1073741824 = m % 1073741824 ∧ m.tdiv 1073741824 = m / 1073741824 :=
  ⟨Int.tmod_eq_emod_of_nonneg h, Int.tdiv_eq_ediv_of_nonneg h⟩

/-- digits are no more than the number is long -/
theorem len_of_val {ds : List Int} (h : Trim ds) {k : Nat} (hv : valD ds < 1073741824 ^ k) : ds.length ≤ k := by
  refine Decidable.byContradiction fun hk => ?_
  have h1 := valD_ge h (by omega)
  have h2 := pow_le' (show k ≤ ds.length - 1 by omega)
  omega
theorem valD_drop_le {ds : List Int} (h : Digs ds) (k : Nat) : valD (ds.drop k) ≤ valD ds := by
  by_cases hk : k ≤ ds.length
  · rw [valD_split ds k hk]
    have h1 := valD_nonneg (digs_take h k)
    have h2 := valD_nonneg (digs_drop h k)
    have h3 := pow_pos' k
    generalize (1073741824 : Int) ^ k = p at *
    have h4 : 1 * valD (ds.drop k) ≤ p * valD (ds.drop k) := Int.mul_le_mul_of_nonneg_right h3 h2
    omega
  · rw [List.drop_of_length_le (by omega)]
    exact valD_nonneg h
/-- at one digit they differ -/
theorem valD_at_lt {a b : List Int} (ha : Digs a) (hb : Digs b) {k : Nat} (hka : k ≤ a.length) (hkb : k ≤ b.length) (e : valD (a.drop (k + 1)) = valD (b.drop (k + 1))) (h : a[k]?.getD 0 < b[k]?.getD 0) : valD a < valD b :=
  valD_lt_of ha hb hka hkb (by rw [valD_drop a k, valD_drop b k, e]; omega)

/-- a signed number compared with another -/
theorem num_nonneg {ds : List Int} (h : Digs ds) : 0 ≤ numD false ds := valD_nonneg h
theorem num_neg {b : Bool} {ds : List Int} {z : Int} (h : WhP b ds z) : (b = true ↔ z < 0) := by
  obtain ⟨h1, rfl, h3⟩ := h
  have h4 := valD_nonneg h1.1
  cases b with
  | false => simp [numD]; exact h4
  | true => simp [numD]; have := valD_pos h1 (h3 rfl); omega
end Go.Proofs.Ytknmiiajeafjpaa
