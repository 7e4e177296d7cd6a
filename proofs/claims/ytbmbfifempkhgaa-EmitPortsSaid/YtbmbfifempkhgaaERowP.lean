/- What the maker's row writes, plainly; rows of operations in memory. No function in sight. -/
import Derived.Test.YtbmbfifempkhgaaEOa
import Derived.Test.YtbmbfifempkhgaaNLaw
namespace Go.Proofs.Ytbmbfifempkhgaa
open Go.RowKit

def HasRow (w : World) (v : Value) (l : List GOp) : Prop := ∃ ao cap, v = .slice ao l.length cap ∧ (ao = none → l.length = 0) ∧ (l.length ≤ cap ∧ ∀ ad, ao = some ad → ad.spot = none) ∧ ∀ ad, ao = some ad → ∀ j u, (opsV l)[j]? = some u → w.cell? (ad.add j) = some u
theorem HasRow.below {w w' : World} {v : Value} {l : List GOp} (h : HasRow w v l) (hb : Below w.heap.size w w') : HasRow w' v l := by
  obtain ⟨ao, cap, h1, h2, h3, h4⟩ := h
  refine ⟨ao, cap, h1, h2, h3, fun ad e j u hu => ?_⟩
  have := h4 ad e j u hu
  exact (hb.cell (World.block_lt_of_cell? _ _ this)).trans this
theorem HasRow.at {w : World} {ao : Option Addr} {n cap : Nat} {l : List GOp} (h : HasRow w (.slice ao n cap) l) {k : Nat} (hk : k < l.length) : n = l.length ∧ n ≤ cap ∧ ∃ b off, ao = some ⟨b, off, none⟩ ∧ ∀ i (hi : i < l.length), w.cell? ⟨b, off + i * 3, none⟩ = some (.int .u8 l[i].kind) ∧ w.cell? ⟨b, off + i * 3 + 1, none⟩ = some (.int .i64 l[i].a) ∧ w.cell? ⟨b, off + i * 3 + 2, none⟩ = some (.int .i64 l[i].b) := by
  obtain ⟨ao', cap', e, h2, h3, h4⟩ := h
  cases e
  refine ⟨rfl, h3.1, ?_⟩
  cases ao with
  | none => have := h2 rfl; omega
  | some ad =>
    obtain ⟨b, off, sp⟩ := ad
    obtain rfl : sp = none := h3.2 _ rfl
    refine ⟨b, off, rfl, fun i hi => ?_⟩
    obtain ⟨g1, g2, g3⟩ := opsV_get l i hi
    have a1 := h4 _ rfl _ _ g1
    have a2 := h4 _ rfl _ _ g2
    have a3 := h4 _ rfl _ _ g3
    rw [Addr.add_lit] at a1 a2 a3
    rw [Nat.add_assoc, Nat.add_assoc]
    exact ⟨a1, a2, a3⟩
theorem HasRow.slice {w : World} {v : Value} {l : List GOp} (h : HasRow w v l) : ∃ ao cap, v = .slice ao l.length cap := by
  obtain ⟨ao, cap, e, _⟩ := h
  exact ⟨ao, cap, e⟩
def RowR (w : World) (l : List GOp) (cs : List Value) : Prop := ∃ y, cs = [y] ∧ HasRow w y l
theorem row_steady : Steady RowR := fun _ _ _ _ hb ⟨y, h1, h2⟩ => ⟨y, h1, h2.below hb⟩
/-- a slice of rows of operations -/
def HasM (w : World) (v : Value) (m : List (List GOp)) : Prop := Recs w 1 RowR v m
theorem Own.row {w : World} {o : Col} {c : Nat} {v : Value} {l : List GOp} (h : Own w o c 61 3 v l.length (opsV l)) : HasRow w v l := by
  rcases h.1.2 with ⟨rfl, h0⟩ | ⟨G, cap, cur, rfl, _, _, hnc, _⟩
  · refine ⟨none, 0, by rw [h0], fun _ => h0, ⟨by omega, fun ad e => by cases e⟩, fun ad e => by cases e⟩
  · refine ⟨_, cap, rfl, (fun e => by cases e), ⟨hnc, fun ad e => by cases e; rfl⟩, fun ad e j u hu => ?_⟩
    obtain rfl := Option.some.inj e
    exact h.1.cells (g := G) rfl j u hu
theorem OpM.has {w : World} {o : Col} {c d : Nat} {v : Value} {m : List (List GOp)} {vs : List Value} (h : OpM w o c d v m vs) : HasM w v m := by
  have hl := h.len
  rcases h.own.1.2 with ⟨rfl, h0⟩ | ⟨G, cap, cur, rfl, _, hg, hnc, _⟩
  · exact .inl ⟨List.eq_nil_of_length_eq_zero h0, none, 0, rfl⟩
  · by_cases hp : 0 < m.length
    · refine .inr ⟨hp, G, 0, cap, rfl, hnc, block_lt hg, fun k hk => ⟨[vs[k]?.getD undef], rfl, ⟨_, rfl, ?_⟩, fun i hi => ?_⟩⟩
      · have := h.rows k hk
        rw [List.getElem?_eq_getElem hk, Option.getD_some] at this
        exact this.row
      · obtain rfl : i = 0 := by omega
        have := h.own.1.cells (g := G) rfl k vs[k] (by simp [show k < vs.length by omega])
        rw [Addr.add_lit] at this
        simpa [show k < vs.length by omega] using this
    · exact .inl ⟨List.eq_nil_of_length_eq_zero (by omega), some ⟨G, 0, none⟩, cap, by rw [show m.length = 0 by omega]⟩

def openP (op : Nat) (t : Int) (s : List GOp × Nat) : List GOp × Nat := (s.1 ++ [⟨1, op, t⟩], max s.2 (op + 1))
def closeP (op to : Nat) (s : List GOp × Nat) : List GOp × Nat := (s.1 ++ [⟨2, op, to⟩], s.2)
def leafP (F : List (List GOp)) (nd : Int) (s : List GOp × Nat) : List GOp × Nat := (s.1 ++ rowM F nd.toNat, s.2)
/-- what is written for a list of loops -/
def rowP (F : List (List GOp)) : Nest → Nat → List GOp × Nat → List GOp × Nat
  | .nil, _, s => s
  | .cons t nd b r, op, s => rowP F r op (if 1 < t then closeP op (s.1.length + 1) (if b.isNil then leafP F nd (openP op t s) else rowP F b (op + 1) (openP op t s)) else if b.isNil then leafP F nd s else rowP F b op s)

def costN : Nest → Nat
  | .nil => 0
  | .cons _ _ b r => 35 + costN b + costN r
def depthN : Nest → Nat
  | .nil => 0
  | .cons _ _ b r => max (depthN b + 1) (depthN r)
/-- each leaf is one of n actors -/
def LeafOk (n : Nat) : Nest → Prop
  | .nil => True
  | .cons _ nd b r => (b.isNil = true → 0 ≤ nd ∧ nd < n) ∧ LeafOk n b ∧ LeafOk n r

theorem rowP_len {F : List (List GOp)} (hF : ∀ k, (rowM F k).length ≤ 33) : ∀ (l : Nest) (op : Nat) (s : List GOp × Nat), (rowP F l op s).1.length ≤ s.1.length + costN l
  | .nil, _, s => by simp [rowP, costN]
  | .cons t nd b r, op, s => by
    rw [rowP]
    refine Nat.le_trans (rowP_len hF r op _) ?_
    rw [costN]
    have hl := hF nd.toNat
    have h1 := rowP_len hF b (op + 1) (openP op t s)
    have h2 := rowP_len hF b op s
    have h3 : (openP op t s).1.length = s.1.length + 1 := by simp [openP]
    split <;> split <;> (try simp only [closeP, leafP, List.length_append, List.length_cons, List.length_nil]) <;> omega
theorem rowP_cnt {F : List (List GOp)} : ∀ (l : Nest) (op : Nat) (s : List GOp × Nat), (rowP F l op s).2 ≤ max s.2 (op + depthN l)
  | .nil, _, s => by rw [rowP]; omega
  | .cons t nd b r, op, s => by
    rw [rowP]
    refine Nat.le_trans (rowP_cnt r op _) ?_
    rw [depthN]
    have h1 := rowP_cnt (F := F) b (op + 1) (openP op t s)
    have h2 := rowP_cnt (F := F) b op s
    have h3 : (openP op t s).2 = max s.2 (op + 1) := rfl
    split <;> split <;> (try simp only [closeP, leafP]) <;> omega
theorem leafOk_drop {n : Nat} : ∀ (l : Nest) (k : Nat), LeafOk n l → LeafOk n (l.drop k)
  | _, 0, h => by rw [drop_zero]; exact h
  | .nil, _ + 1, h => h
  | .cons _ _ _ r, k + 1, h => by rw [Nest.drop]; exact leafOk_drop r k h.2.2
/-- one loop -/
def stepP (F : List (List GOp)) (t nd : Int) (b : Nest) (op : Nat) (s : List GOp × Nat) : List GOp × Nat := if 1 < t then closeP op (s.1.length + 1) (if b.isNil then leafP F nd (openP op t s) else rowP F b (op + 1) (openP op t s)) else if b.isNil then leafP F nd s else rowP F b op s
theorem rowP_cons {F : List (List GOp)} {t nd : Int} {b r : Nest} {op : Nat} {s : List GOp × Nat} : rowP F (.cons t nd b r) op s = rowP F r op (stepP F t nd b op s) := by rw [rowP, stepP]
theorem stepP_len {F : List (List GOp)} (hF : ∀ k, (rowM F k).length ≤ 33) (t nd : Int) (b : Nest) (op : Nat) (s : List GOp × Nat) : (stepP F t nd b op s).1.length ≤ s.1.length + (35 + costN b) := by
  have := rowP_len hF (.cons t nd b .nil) op s
  rw [rowP_cons, rowP, costN, costN] at this
  omega
theorem stepP_cnt {F : List (List GOp)} (t nd : Int) (b : Nest) (op : Nat) (s : List GOp × Nat) : (stepP F t nd b op s).2 ≤ max s.2 (op + (depthN b + 1)) := by
  have := rowP_cnt (F := F) (.cons t nd b .nil) op s
  rw [rowP_cons, rowP, depthN, depthN] at this
  omega
/-- how much there is of a nest that is checked -/
def leafN : Nest → Nat
  | .nil => 0
  | .cons _ _ b r => (if b.isNil then 1 else leafN b) + leafN r
theorem leafN_pos : ∀ (b : Nest), b.isNil = false → 1 ≤ leafN b
  | .nil, h => by cases h
  | .cons _ _ b r, _ => by
    rw [leafN]
    by_cases h : b.isNil = true
    · rw [if_pos h]; omega
    · rw [if_neg h]
      have := leafN_pos b (by simpa using h)
      omega
theorem nestE_count : ∀ (l : Nest) (d n : Nat), d ≤ 16 → (nestE l d n).1 = 0 → (nestE l d n).2 = n + leafN l ∧ costN l ≤ 35 * (leafN l * (17 - d)) ∧ d + depthN l ≤ 17 ∧ LeafOk 32 l
  | .nil, d, n, hd, h => by simp [nestE, leafN, costN, depthN, LeafOk]; omega
  | .cons t nd b r, d, n, hd, h => by
    rw [nestE_cons] at h ⊢
    by_cases h0 : (oneE t nd b d n).1 = 0
    · rw [if_neg (by simpa using h0)] at h ⊢
      have ih := nestE_count r d _ hd h
      unfold oneE at h0 ih
      by_cases h1 : 2048 ≤ n
      · rw [if_pos h1] at h0; cases h0
      rw [if_neg h1] at h0 ih
      by_cases h2 : (!b.isNil && decide (16 ≤ d)) = true
      · rw [if_pos h2] at h0; cases h0
      rw [if_neg h2] at h0 ih
      by_cases h3 : t < 1
      · rw [if_pos h3] at h0; cases h0
      rw [if_neg h3] at h0 ih
      by_cases h4 : (!b.isNil && decide (nd ≠ 0)) = true
      · rw [if_pos h4] at h0; cases h0
      rw [if_neg h4] at h0 ih
      by_cases h5 : (b.isNil && (decide (nd < 0) || decide (32 ≤ nd))) = true
      · rw [if_pos h5] at h0; cases h0
      rw [if_neg h5] at h0 ih
      by_cases h6 : b.isNil = true
      · rw [if_pos h6] at h0 ih
        have hb : b = .nil := by cases b with | nil => rfl | cons _ _ _ _ => cases h6
        subst hb
        simp only [Nest.isNil, Bool.true_and, Bool.or_eq_true, decide_eq_true_eq] at h5
        have e : oneE t nd .nil d n = (0, n + 1) := by
          unfold oneE
          rw [if_neg h1, if_neg h2, if_neg h3, if_neg h4, if_neg (by simpa [Nest.isNil] using h5), if_pos h6]
        rw [e]
        obtain ⟨i1, i2, i3, i4⟩ := ih
        simp only [leafN, costN, depthN, LeafOk, Nest.isNil, if_true]
        dsimp only at i1
        refine ⟨by omega, ?_, by omega, ⟨fun _ => by omega, trivial, i4⟩⟩
        rw [Nat.add_mul]
        omega
      · rw [if_neg h6] at h0 ih
        have e : oneE t nd b d n = nestE b (d + 1) n := by
          unfold oneE
          rw [if_neg h1, if_neg h2, if_neg h3, if_neg h4, if_neg h5, if_neg h6]
        rw [e]
        have hb : b.isNil = false := by simpa using h6
        rw [hb] at h2
        have hd2 : d + 1 ≤ 16 := by simp at h2; omega
        obtain ⟨k1, k2, k3, k4⟩ := nestE_count b (d + 1) n hd2 h0
        obtain ⟨i1, i2, i3, i4⟩ := ih
        have hp := leafN_pos b hb
        refine ⟨by simp only [leafN, hb]; simp; omega, ?_, by simp only [depthN]; omega, ⟨fun h => (by rw [hb] at h; cases h), k4, i4⟩⟩
        simp only [leafN, costN, hb]
        rw [show 17 - d = (17 - (d + 1)) + 1 by omega, Nat.mul_add] at i2 ⊢
        simp only [Bool.false_eq_true, if_false]
        rw [Nat.add_mul]
        omega
    · rw [if_pos (by simpa using h0)] at h
      exact absurd h h0
end Go.Proofs.Ytbmbfifempkhgaa
