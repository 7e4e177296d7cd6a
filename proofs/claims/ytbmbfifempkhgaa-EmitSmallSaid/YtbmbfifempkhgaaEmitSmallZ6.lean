/- The program that is made is sound, plainly. No function in sight. -/
import Derived.Test.YtbmbfifempkhgaaEmitSmallZ5
import Derived.Test.YtbmbfifempkhgaaEmitSmallZ3
import Derived.Test.YtbmbfifempkhgaaEmitSmallZ2
import Derived.Deep.Cut
import Derived.Deep.CutRange
namespace Go.Proofs.Ytbmbfifempkhgaa
open Go.RowKit

/-- the operations that are written for a list of loops, op loops open, at place i -/
def rowL (F : List (List GOp)) : Nest → Nat → Nat → List GOp
  | .nil, _, _ => []
  | .cons t nd b r, op, i =>
    (if 1 < t then ⟨1, op, t⟩ :: ((if b.isNil then rowM F nd.toNat else rowL F b (op + 1) (i + 1)) ++ [⟨2, op, ((i + 1 : Nat) : Int)⟩]) else if b.isNil then rowM F nd.toNat else rowL F b op i) ++
    rowL F r op (i + (if 1 < t then ⟨1, op, t⟩ :: ((if b.isNil then rowM F nd.toNat else rowL F b (op + 1) (i + 1)) ++ [⟨2, op, ((i + 1 : Nat) : Int)⟩]) else if b.isNil then rowM F nd.toNat else rowL F b op i).length)
def inL (F : List (List GOp)) (nd : Int) (b : Nest) (op i : Nat) : List GOp := if b.isNil then rowM F nd.toNat else rowL F b op i
def oneL (F : List (List GOp)) (t nd : Int) (b : Nest) (op i : Nat) : List GOp := if 1 < t then ⟨1, op, t⟩ :: (inL F nd b (op + 1) (i + 1) ++ [⟨2, op, ((i + 1 : Nat) : Int)⟩]) else inL F nd b op i
theorem rowL_cons {F : List (List GOp)} {t nd : Int} {b r : Nest} {op i : Nat} : rowL F (.cons t nd b r) op i = oneL F t nd b op i ++ rowL F r op (i + (oneL F t nd b op i).length) := by
  rw [rowL, oneL, inL, inL]
theorem rowP_ops {F : List (List GOp)} : ∀ (l : Nest) (op : Nat) (s : List GOp × Nat), (rowP F l op s).1 = s.1 ++ rowL F l op s.1.length
  | .nil, _, s => by simp [rowP, rowL]
  | .cons t nd b r, op, s => by
    rw [rowP_cons, rowP_ops r, rowL_cons]
    have h : (stepP F t nd b op s).1 = s.1 ++ oneL F t nd b op s.1.length := by
      unfold stepP oneL inL
      by_cases h1 : 1 < t
      · rw [if_pos h1, if_pos h1]
        by_cases h2 : b.isNil = true
        · rw [if_pos h2, if_pos h2]
          simp [closeP, leafP, openP]
        · rw [if_neg h2, if_neg h2]
          simp only [closeP]
          rw [rowP_ops b]
          simp [openP]
      · rw [if_neg h1, if_neg h1]
        by_cases h2 : b.isNil = true
        · rw [if_pos h2, if_pos h2]
          simp [leafP]
        · rw [if_neg h2, if_neg h2]
          exact rowP_ops b op s
    rw [h, List.append_assoc, List.length_append]
/-- how many counters -/
def cntP : Nest → Nat → Nat → Nat
  | .nil, _, c => c
  | .cons t _ b r, op, c => cntP r op (if 1 < t then cntP b (op + 1) (max c (op + 1)) else cntP b op c)
theorem rowP_cntP {F : List (List GOp)} : ∀ (l : Nest) (op : Nat) (s : List GOp × Nat), (rowP F l op s).2 = cntP l op s.2
  | .nil, _, _ => rfl
  | .cons t nd b r, op, s => by
    rw [rowP_cons, rowP_cntP r, cntP]
    congr 1
    have hb : b.isNil = true → ∀ o c, cntP b o c = c := fun h o c => by cases b with | nil => rfl | cons _ _ _ _ => cases h
    unfold stepP
    by_cases h1 : 1 < t
    · rw [if_pos h1, if_pos h1]
      by_cases h2 : b.isNil = true
      · rw [if_pos h2, hb h2]; rfl
      · rw [if_neg h2]
        simp only [closeP]
        rw [rowP_cntP b]
        rfl
    · rw [if_neg h1, if_neg h1]
      by_cases h2 : b.isNil = true
      · rw [if_pos h2, hb h2]; rfl
      · rw [if_neg h2, rowP_cntP b]
theorem cntP_mono : ∀ (l : Nest) (op c : Nat), c ≤ cntP l op c
  | .nil, _, _ => Nat.le_refl _
  | .cons t nd b r, op, c => by
    rw [cntP]
    refine Nat.le_trans ?_ (cntP_mono r op _)
    split
    · exact Nat.le_trans (Nat.le_max_left _ _) (cntP_mono b _ _)
    · exact cntP_mono b _ _
def headsN : Nest → Nat
  | .nil => 0
  | .cons t _ b r => (if 1 < t then 1 else 0) + headsN b + headsN r
theorem cntP_heads : ∀ (l : Nest) (op c : Nat), cntP l op c ≤ max c (op + headsN l)
  | .nil, _, _ => by rw [cntP]; omega
  | .cons t nd b r, op, c => by
    rw [cntP, headsN]
    refine Nat.le_trans (cntP_heads r op _) ?_
    have h1 := cntP_heads b (op + 1) (max c (op + 1))
    have h2 := cntP_heads b op c
    split <;> omega
theorem measP_leaf : ∀ (l : Nest) (d : Nat) (s : Meas), (measP l d s).1 = s.1 + leafN l ∧ (measP l d s).2.1 = s.2.1 + headsN l
  | .nil, _, _ => ⟨rfl, rfl⟩
  | .cons t nd b r, d, s => by
    rw [measP_cons, leafN, headsN]
    obtain ⟨r1, r2⟩ := measP_leaf r d (oneM t b d s)
    have ho : (oneM t b d s).1 = s.1 + (if b.isNil then 1 else leafN b) ∧ (oneM t b d s).2.1 = s.2.1 + ((if 1 < t then 1 else 0) + headsN b) := by
      unfold oneM
      by_cases h2 : b.isNil = true
      · have hb : headsN b = 0 := by cases b with | nil => rfl | cons _ _ _ _ => cases h2
        rw [if_pos h2, if_pos h2, hb]
        refine ⟨rfl, ?_⟩
        show (headM t s).2.1 = _
        simp only [headM]
        split <;> rfl
      · rw [if_neg h2, if_neg h2]
        obtain ⟨b1, b2⟩ := measP_leaf b (d + 1) (deepM d (headM t s))
        rw [b1, b2]
        refine ⟨rfl, ?_⟩
        simp only [deepM, headM]
        split <;> omega
    rw [r1, r2, ho.1, ho.2]
    exact ⟨by omega, by omega⟩

/-- steps -/
def stN (F : List (List GOp)) : Nest → Nat
  | .nil => 0
  | .cons t nd b r => (if 1 < t then 1 + t.toNat * ((if b.isNil then (rowM F nd.toNat).length else stN F b) + 1) else if b.isNil then (rowM F nd.toNat).length else stN F b) + stN F r
def inN (F : List (List GOp)) (nd : Int) (b : Nest) : Nat := if b.isNil then (rowM F nd.toNat).length else stN F b
def oneN (F : List (List GOp)) (t nd : Int) (b : Nest) : Nat := if 1 < t then 1 + t.toNat * (inN F nd b + 1) else inN F nd b
theorem stN_cons {F : List (List GOp)} {t nd : Int} {b r : Nest} : stN F (.cons t nd b r) = oneN F t nd b + stN F r := by rw [stN, oneN, inN]
theorem rowL_len {F : List (List GOp)} : ∀ (l : Nest) (op i : Nat), (rowL F l op i).length ≤ stN F l
  | .nil, _, _ => Nat.le_refl _
  | .cons t nd b r, op, i => by
    rw [rowL_cons, stN_cons, List.length_append]
    have hr := rowL_len (F := F) r op (i + (oneL F t nd b op i).length)
    have hi : ∀ o j, (inL F nd b o j).length ≤ inN F nd b := fun o j => by
      unfold inL inN
      split
      · exact Nat.le_refl _
      · exact rowL_len b o j
    have ho : (oneL F t nd b op i).length ≤ oneN F t nd b := by
      unfold oneL oneN
      split
      · rename_i h1
        simp only [List.length_cons, List.length_append, List.length_nil]
        have := hi (op + 1) (i + 1)
        have h2 : 2 * (inN F nd b + 1) ≤ t.toNat * (inN F nd b + 1) := Nat.mul_le_mul_right _ (by omega)
        omega
      · exact hi op i
    omega

/-- firings, truly -/
def totN : Nest → Nat
  | .nil => 0
  | .cons t _ b r => t.toNat * (if b.isNil then 1 else totN b) + totN r
def GoodT : Nest → Prop
  | .nil => True
  | .cons t _ b r => 1 ≤ t ∧ t ≤ 2048 ∧ GoodT b ∧ GoodT r
theorem total_true : ∀ (l : Nest) (s : Int), TimesOk l → 0 ≤ s → totalP l s ≤ 2048 → GoodT l ∧ totalP l s = s + totN l
  | .nil, s, _, _, _ => by simp [GoodT, totalP, totN]
  | .cons t nd b r, s, ht, hs, h => by
    obtain ⟨t1, tb, tr⟩ := ht
    rw [totalP_cons t nd b r s _ rfl] at h ⊢
    by_cases h1 : 2048 < t ∨ 2048 < (if b.isNil then (1 : Int) else totalP b 0)
    · rw [if_pos h1] at h; omega
    · rw [if_neg h1] at h ⊢
      have hn : GoodT b ∧ (if b.isNil then (1 : Int) else totalP b 0) = ((if b.isNil then 1 else totN b : Nat) : Int) := by
        by_cases hb : b.isNil = true
        · rw [if_pos hb, if_pos hb]
          refine ⟨?_, rfl⟩
          cases b with | nil => trivial | cons _ _ _ _ => cases hb
        · rw [if_neg hb, if_neg hb]
          have h3 := total_true b 0 tb (by omega) (by rw [if_neg hb] at h1; omega)
          exact ⟨h3.1, by rw [h3.2]; omega⟩
      rw [hn.2] at h ⊢
      rw [totN]
      generalize (if b.isNil then 1 else totN b) = n at *
      have hm : ((n : Int) * t) = ((t.toNat * n : Nat) : Int) := by
        rw [Int.natCast_mul, Int.toNat_of_nonneg (by omega), Int.mul_comm]
      rw [hm] at h ⊢
      by_cases h2 : 2048 < s + ((t.toNat * n : Nat) : Int)
      · rw [if_pos h2] at h; omega
      · rw [if_neg h2] at h ⊢
        have h3 := total_true r _ tr (by omega) h
        exact ⟨⟨t1, by omega, hn.1, h3.1⟩, by rw [h3.2]; omega⟩
theorem stN_le {F : List (List GOp)} (hF : ∀ k, (rowM F k).length ≤ 33) : ∀ (l : Nest), GoodT l → stN F l ≤ 36 * totN l ∧ (l.isNil = false → stN F l + 3 ≤ 36 * totN l)
  | .nil, _ => by simp [stN, totN, Nest.isNil]
  | .cons t nd b r, h => by
    obtain ⟨t1, -, gb, gr⟩ := h
    have hr := (stN_le hF r gr).1
    rw [stN_cons, totN]
    have hi : inN F nd b + 3 ≤ 36 * (if b.isNil then 1 else totN b) := by
      unfold inN
      by_cases hb : b.isNil = true
      · rw [if_pos hb, if_pos hb]
        have := hF nd.toNat
        omega
      · rw [if_neg hb, if_neg hb]
        exact (stN_le hF b gb).2 (by simpa using hb)
    generalize (if b.isNil then 1 else totN b) = n at *
    have ho : oneN F t nd b + 3 ≤ 36 * (t.toNat * n) := by
      unfold oneN
      by_cases h1 : 1 < t
      · rw [if_pos h1]
        have e1 : t.toNat * (inN F nd b + 1) + t.toNat * 2 ≤ t.toNat * (36 * n) := by
          rw [← Nat.mul_add]
          exact Nat.mul_le_mul_left _ (by omega)
        have e2 : t.toNat * (36 * n) = 36 * (t.toNat * n) := by rw [Nat.mul_left_comm]
        omega
      · rw [if_neg h1]
        have : t.toNat = 1 := by omega
        rw [this]
        omega
    refine ⟨by omega, fun _ => by omega⟩

/-- an operation of a firing -/
def FireOp (P : GProg) (x : GOp) : Prop := 3 ≤ x.kind ∧ x.kind ≤ 7 ∧ ∀ i, soundOp P i x = true
theorem topS_add (k : Int) (st : CSt) : topS (addS k st) ≤ 131073 := by
  obtain ⟨b, fr⟩ := st
  cases fr with
  | nil => show capI _ ≤ _; unfold capI; split <;> omega
  | cons f r => show capI _ ≤ _; unfold capI; split <;> omega
theorem capI_lo {n : Int} (h : n ≤ 131073) : capI n = n := by unfold capI; rw [if_neg (by omega)]
theorem capI_hi {n : Int} (h : 131073 ≤ n) : capI n = 131073 := by unfold capI; split <;> omega
theorem setS_top (st : CSt) : setS (topS st) st = st := by
  obtain ⟨b, fr⟩ := st
  cases fr <;> rfl
theorem addS_zero {st : CSt} (h : topS st ≤ 131073) : addS 0 st = st := by
  unfold addS
  rw [Int.add_zero, capI_lo h, setS_top]
theorem capI_cap {x a : Int} (ha : 0 ≤ a) : capI (capI x + a) = capI (x + a) := by
  unfold capI
  split <;> split <;> (try split) <;> omega
theorem addS_add {a b : Int} (ha : 0 ≤ a) (st : CSt) : addS a (addS b st) = addS (b + a) st := by
  obtain ⟨b0, fr⟩ := st
  cases fr with
  | nil => simp only [addS, topS, setS]; rw [capI_cap ha, Int.add_assoc]
  | cons f r => simp only [addS, topS, setS]; rw [capI_cap ha, Int.add_assoc]
theorem addS_cong {a b : Int} {st : CSt} (h : capI (topS st + a) = capI (topS st + b)) : addS a st = addS b st := by unfold addS; rw [h]
/-- a round that is too long is as long as ever -/
theorem addS_all {t : Int} {n : Nat} {st : CSt} (ht : 1 ≤ t) (hs : 0 ≤ topS st) : addS (allP t (capI n + 1)) st = addS (1 + t * ((n : Int) + 1)) st := by
  refine addS_cong ?_
  unfold allP
  have hq : t * (131072 / t) ≤ 131072 := Int.mul_ediv_self_le (by omega)
  have hq2 : 131072 < t * (131072 / t + 1) := by
    have h1 := Int.mul_ediv_add_emod 131072 t
    have h2 := Int.emod_lt_of_pos 131072 (show 0 < t by omega)
    rw [Int.mul_add]; omega
  have hq3 : 131072 / t ≤ 131072 := Int.ediv_le_self _ (by omega)
  by_cases h : capI n + 1 ≤ 131072 / t
  · rw [if_pos h]
    have h3 : (n : Int) ≤ 131073 := by
      by_cases h4 : (n : Int) ≤ 131073
      · exact h4
      · rw [capI_hi (by omega)] at h; omega
    rw [capI_lo h3]
  · rw [if_neg h]
    have h1 : 131072 / t + 1 ≤ (n : Int) + 1 := by
      by_cases h4 : (n : Int) ≤ 131073
      · rw [capI_lo h4] at h; omega
      · omega
    have h2 : t * (131072 / t + 1) ≤ t * ((n : Int) + 1) := Int.mul_le_mul_of_nonneg_left h1 (by omega)
    rw [capI_hi (by omega), capI_hi (by omega)]

theorem drop_head {P : GProg} {i : Nat} {x : GOp} {Y : List GOp} (h : P.ops.drop i = x :: Y) : i < P.ops.length ∧ opP P i = x ∧ P.ops.drop (i + 1) = Y := by
  have hi : i < P.ops.length := by
    by_cases hi : i < P.ops.length
    · exact hi
    · rw [List.drop_eq_nil_of_le (by omega)] at h; cases h
  rw [List.drop_eq_getElem_cons hi] at h
  injection h with h1 h2
  exact ⟨hi, by unfold opP; rw [List.getElem?_eq_getElem hi, h1]; rfl, h2⟩
theorem drop_app {P : GProg} {i : Nat} {X Y : List GOp} (h : P.ops.drop i = X ++ Y) : P.ops.drop (i + X.length) = Y := by
  rw [← List.drop_drop, h, List.drop_left']
  rfl
theorem cwalk_fire {P : GProg} : ∀ (X R : List GOp) (i : Nat) (st : CSt), (∀ x ∈ X, FireOp P x) → topS st ≤ 131073 → cwalkE P (X ++ R) i st = cwalkE P R (i + X.length) (addS X.length st)
  | [], R, i, st, _, h => by
    show cwalkE P R i st = cwalkE P R i (addS 0 st)
    rw [addS_zero h]
  | x :: X, R, i, st, hX, h => by
    obtain ⟨h1, h2, h3⟩ := hX x List.mem_cons_self
    rw [List.cons_append, cwalkE, h3 i]
    have e1 : cstepE P x st = 0 := by unfold cstepE; rw [if_neg (by omega), if_neg (by omega), if_neg (by omega)]
    have e2 : cstepS P i x st = addS 1 st := by unfold cstepS; rw [if_neg (by omega), if_neg (by omega)]
    rw [e1, e2, cwalk_fire X R (i + 1) _ (fun y hy => hX y (List.mem_cons_of_mem _ hy)) (topS_add _ _), addS_add (by omega), List.length_cons]
    simp only [Bool.not_true, Bool.false_eq_true, if_false, ne_eq, not_true_eq_false]
    rw [show i + 1 + X.length = i + (X.length + 1) by omega, show (1 : Int) + (X.length : Int) = ((X.length + 1 : Nat) : Int) by omega]
/-- the firings' rows are made of what may be -/
def FireOk (P : GProg) (n : Nat) (F : List (List GOp)) : Prop := ∀ k, k < n → ∀ x ∈ rowM F k, FireOp P x
theorem cwalk_row {P : GProg} {F : List (List GOp)} {n : Nat} (hF : FireOk P n F) : ∀ (l : Nest) (op i c : Nat) (R : List GOp) (st : CSt), GoodT l → LeafOk n l → P.ops.drop i = rowL F l op i ++ R → (∀ f ∈ st.2, (opP P f.1).a < op) → 0 ≤ topS st → topS st ≤ 131073 → (cntP l op c : Int) ≤ P.counters →
    cwalkE P (rowL F l op i ++ R) i st = cwalkE P R (i + (rowL F l op i).length) (addS (stN F l) st)
  | .nil, op, i, c, R, st, _, _, _, _, _, h, _ => by
    show cwalkE P R i st = cwalkE P R i (addS 0 st)
    rw [addS_zero h]
  | .cons t nd b r, op, i, c, R, st, hg, hl, hd, hfr, h0, h, hc => by
    obtain ⟨t1, t2, gb, gr⟩ := hg
    obtain ⟨l1, lb, lr⟩ := hl
    rw [rowL_cons, List.append_assoc] at hd ⊢
    rw [cntP] at hc
    have hin : ∀ (o j c' : Nat) (R' : List GOp) (st' : CSt), P.ops.drop j = inL F nd b o j ++ R' → (∀ f ∈ st'.2, (opP P f.1).a < o) → 0 ≤ topS st' → topS st' ≤ 131073 → (cntP b o c' : Int) ≤ P.counters → cwalkE P (inL F nd b o j ++ R') j st' = cwalkE P R' (j + (inL F nd b o j).length) (addS (inN F nd b) st') := by
      intro o j c' R' st' k1 k2 k3 k4 k5
      unfold inL at k1 ⊢
      unfold inN
      by_cases hb : b.isNil = true
      · simp only [if_pos hb] at k1 ⊢
        have := l1 hb
        exact cwalk_fire _ _ _ _ (hF nd.toNat (by omega)) k4
      · simp only [if_neg hb] at k1 ⊢
        exact cwalk_row hF b o j c' R' st' gb lb k1 k2 k3 k4 k5
    have hone : cwalkE P (oneL F t nd b op i ++ (rowL F r op (i + (oneL F t nd b op i).length) ++ R)) i st = cwalkE P (rowL F r op (i + (oneL F t nd b op i).length) ++ R) (i + (oneL F t nd b op i).length) (addS (oneN F t nd b) st) := by
      generalize rowL F r op (i + (oneL F t nd b op i).length) ++ R = R' at hd ⊢
      unfold oneL at hd ⊢
      unfold oneN
      by_cases ht : 1 < t
      · simp only [if_pos ht] at hd hc ⊢
        have hcb : (cntP b (op + 1) (max c (op + 1)) : Int) ≤ P.counters := by
          have := cntP_mono r op (cntP b (op + 1) (max c (op + 1)))
          omega
        have hco : ((op + 1 : Nat) : Int) ≤ P.counters := by
          have := cntP_mono b (op + 1) (max c (op + 1))
          omega
        rw [List.cons_append, List.append_assoc] at hd ⊢
        obtain ⟨i1, o1, d1⟩ := drop_head hd
        have d2 := drop_app d1
        obtain ⟨i2, o2, d3⟩ := drop_head d2
        rw [cwalkE]
        have s1 : soundOp P i ⟨1, op, t⟩ = true := by simp [soundOp, limP]; omega
        have e1 : cstepE P ⟨1, op, t⟩ st = 0 := by
          have : st.2.any (fun f => decide ((opP P f.1).a = (op : Int))) = false := by
            rw [List.any_eq_false]
            intro f hf
            have := hfr f hf
            simp; omega
          simp [cstepE, this]
        have e2 : cstepS P i ⟨1, op, t⟩ st = (st.1, (i, 0) :: st.2) := by simp [cstepS]
        rw [s1, e1, e2, hin (op + 1) (i + 1) _ _ (st.1, (i, 0) :: st.2) d1 (fun f hf => ?_) (by show (0 : Int) ≤ 0; omega) (by show (0 : Int) ≤ 131073; omega) hcb]
        · rw [List.cons_append, cwalkE]
          have s2 : soundOp P (i + 1 + (inL F nd b (op + 1) (i + 1)).length) ⟨2, op, ((i + 1 : Nat) : Int)⟩ = true := by simp [soundOp, limP]; omega
          have e3 : addS (inN F nd b) (st.1, (i, 0) :: st.2) = (st.1, (i, capI (inN F nd b)) :: st.2) := by simp [addS, setS, topS]
          have e4 : cstepE P ⟨2, op, ((i + 1 : Nat) : Int)⟩ (st.1, (i, capI (inN F nd b)) :: st.2) = 0 := by simp [cstepE, o1]
          have e5 : cstepS P (i + 1 + (inL F nd b (op + 1) (i + 1)).length) ⟨2, op, ((i + 1 : Nat) : Int)⟩ (st.1, (i, capI (inN F nd b)) :: st.2) = addS (1 + t * ((inN F nd b : Int) + 1)) st := by
            simp only [cstepS, o1]
            exact addS_all t1 h0
          rw [e3, s2, e4, e5]
          simp only [Bool.not_true, Bool.false_eq_true, if_false, ne_eq, not_true_eq_false, List.length_cons, List.length_append, List.length_nil, List.nil_append]
          rw [show i + 1 + (inL F nd b (op + 1) (i + 1)).length + 1 = i + ((inL F nd b (op + 1) (i + 1)).length + (0 + 1) + 1) by omega]
          rw [show ((1 + t.toNat * (inN F nd b + 1) : Nat) : Int) = 1 + t * ((inN F nd b : Int) + 1) by rw [Int.natCast_add, Int.natCast_mul, Int.toNat_of_nonneg (by omega)]; rfl]
        · rcases List.mem_cons.1 hf with rfl | hf
          · rw [o1]; show (op : Int) < _; omega
          · have := hfr f hf; omega
      · simp only [if_neg ht] at hd hc ⊢
        have hcb : (cntP b op c : Int) ≤ P.counters := by
          have := cntP_mono r op (cntP b op c)
          omega
        exact hin op i c R' st hd hfr h0 h hcb
    have hd2 := drop_app hd
    have hk : ∀ k : Int, ∀ f ∈ (addS k st).2, ∃ g ∈ st.2, g.1 = f.1 := by
      intro k f hf
      obtain ⟨b0, fr⟩ := st
      cases fr with
      | nil => exact absurd hf (by simp [addS, setS])
      | cons g gr =>
        simp only [addS, setS, List.mem_cons] at hf ⊢
        rcases hf with rfl | hf
        · exact ⟨g, .inl rfl, rfl⟩
        · exact ⟨f, .inr hf, rfl⟩
    have hpos : 0 ≤ topS (addS (oneN F t nd b : Int) st) := by
      have h9 := (capI_ok (show 0 ≤ topS st + (oneN F t nd b : Int) by omega)).1
      obtain ⟨b0, fr⟩ := st
      cases fr <;> exact h9
    rw [hone, cwalk_row hF r op _ _ R _ gr lr hd2 (fun f hf => ?_) hpos (topS_add _ _) hc, addS_add (by omega), stN_cons, List.length_append]
    · rw [Nat.add_assoc, Int.natCast_add]
    · obtain ⟨g, hg, e⟩ := hk _ f hf
      rw [← e]
      exact hfr g hg

def cK (k : Int) (L : List GOp) : Nat := L.countP fun x => decide (x.kind = k)
theorem cK_app (k : Int) (X Y : List GOp) : cK k (X ++ Y) = cK k X + cK k Y := List.countP_append ..
theorem cK_cons (k : Int) (x : GOp) (Y : List GOp) : cK k (x :: Y) = cK k Y + if x.kind = k then 1 else 0 := by
  unfold cK
  rw [List.countP_cons]
  simp
theorem cK_none {P : GProg} {k : Int} (hk : k < 3) : ∀ (X : List GOp), (∀ x ∈ X, FireOp P x) → cK k X = 0
  | [], _ => rfl
  | x :: X, h => by
    rw [cK_cons, cK_none hk X (fun y hy => h y (List.mem_cons_of_mem _ hy)), if_neg]
    have := (h x List.mem_cons_self).1
    omega
def CallOk (n : Nat) (F : List (List GOp)) : Prop := ∀ k, k < n → cK 5 (rowM F k) = 1
theorem rowL_cnt {P : GProg} {F : List (List GOp)} {n : Nat} (hF : FireOk P n F) (hC : CallOk n F) : ∀ (l : Nest) (op i : Nat), LeafOk n l → cK 5 (rowL F l op i) = leafN l ∧ cK 1 (rowL F l op i) = headsN l ∧ cK 2 (rowL F l op i) = headsN l ∧ cK 0 (rowL F l op i) = 0
  | .nil, _, _, _ => ⟨rfl, rfl, rfl, rfl⟩
  | .cons t nd b r, op, i, hl => by
    obtain ⟨l1, lb, lr⟩ := hl
    have hin : ∀ o j, cK 5 (inL F nd b o j) = (if b.isNil then 1 else leafN b) ∧ cK 1 (inL F nd b o j) = headsN b ∧ cK 2 (inL F nd b o j) = headsN b ∧ cK 0 (inL F nd b o j) = 0 := by
      intro o j
      unfold inL
      by_cases hb : b.isNil = true
      · have hz : headsN b = 0 := by cases b with | nil => rfl | cons _ _ _ _ => cases hb
        have := l1 hb
        have hx := hF nd.toNat (by omega)
        rw [if_pos hb, if_pos hb, hz]
        exact ⟨hC nd.toNat (by omega), cK_none (by omega) _ hx, cK_none (by omega) _ hx, cK_none (by omega) _ hx⟩
      · rw [if_neg hb, if_neg hb]
        exact rowL_cnt hF hC b o j lb
    rw [rowL_cons, leafN, headsN]
    have hr := rowL_cnt hF hC r op (i + (oneL F t nd b op i).length) lr
    simp only [cK_app]
    rw [hr.1, hr.2.1, hr.2.2.1, hr.2.2.2]
    unfold oneL
    by_cases ht : 1 < t
    · have h := hin (op + 1) (i + 1)
      simp only [if_pos ht, cK_cons, cK_app]
      rw [h.1, h.2.1, h.2.2.1, h.2.2.2]
      have e : ∀ k : Int, cK k [] = 0 := fun _ => rfl
      simp [e]; omega
    · have h := hin op i
      simp only [if_neg ht]
      rw [h.1, h.2.1, h.2.2.1, h.2.2.2]
      omega

theorem rates_ok {t : Int} {ps : List Int} (h : goodP t ps) : (∀ r ∈ insP t ps, 1 ≤ r ∧ r ≤ 64) ∧ (∀ r ∈ outsP t ps, 1 ≤ r ∧ r ≤ 64) := by
  have hm : ∀ {a b : Int}, 1 ≤ a → 1 ≤ b → 1 ≤ a * b := fun {a b} ha hb => by
    have := Int.mul_le_mul ha hb (by omega) (by omega)
    omega
  unfold goodP at h
  unfold insP outsP
  rcases h with ⟨rfl, h⟩ | ⟨rfl, h⟩ | ⟨rfl, h⟩ | ⟨rfl, h⟩ | ⟨rfl, h⟩ | ⟨rfl, h⟩ | ⟨rfl, h⟩ | ⟨rfl, h⟩ | ⟨rfl, h⟩ | ⟨rfl, h⟩ | ⟨rfl, h⟩ <;> (try simp only [oneP, pairP] at h) <;> refine ⟨fun r hr => ?_, fun r hr => ?_⟩ <;> simp at hr <;> (try have := hm h.2.1.1 h.2.2.1.1) <;> omega

/-- a firing's row -/
theorem fire_row {g : GGraph} {k : Nat} (hk : k < g.actors.length) : rowM (firP g) k = rowM (matI2 g) k ++ [⟨5, k, 0⟩] ++ rowM (matO2 g) k := by
  rw [firP, finM_row _ _ _ (by rw [matI2_len]; omega), if_pos (by omega), finR]
theorem sound_port {P : GProg} {x : GOp} {n : Int} (hk : 3 ≤ x.kind ∧ x.kind ≤ 7) (hl : limP P x.kind = (n, 1, 64)) (ha : 0 ≤ x.a ∧ x.a ≤ n - 1) (hb : 1 ≤ x.b ∧ x.b ≤ 64) : FireOp P x := by
  refine ⟨hk.1, hk.2, fun i => ?_⟩
  unfold soundOp
  rw [if_neg (by omega), hl]
  simp; omega
theorem fire_ok {g : GGraph} (hc : checkE g = 0) (hf : FirOk g) {P : GProg} (h1 : P.lines.length = g.edges.length) (h2 : P.ins = g.ins.length) (h3 : P.outs = g.outs.length) (h4 : P.parts.length = g.actors.length) : FireOk P g.actors.length (firP g) ∧ CallOk g.actors.length (firP g) := by
  have hI : ∀ k, k < g.actors.length → ∀ x ∈ rowM (matI2 g) k, x.kind ≠ 5 ∧ FireOp P x := by
    intro k hk x hx
    obtain ⟨i, hi, rfl⟩ := List.mem_iff_getElem.1 hx
    have e0 : insF g k = rateL (insP g.actors[k].tag g.actors[k].params) := by unfold insF; rw [List.getElem?_eq_getElem hk]
    have hl : i < (insP g.actors[k].tag g.actors[k].params).length := by
      rw [matI2_row g hk, e0, rateL, List.length_map] at hi
      exact hi
    obtain ⟨y, y1, y2, y3⟩ := right_in hc hf hk (List.getElem?_eq_getElem hl)
    unfold opAt at y1
    rw [List.getElem?_eq_getElem hi] at y1
    obtain rfl := Option.some.inj y1
    have hr := (rates_ok (hf.good _ (List.getElem_mem hk)).1).1 _ (List.getElem_mem hl)
    rw [← y2] at hr
    rcases y3 with ⟨k3, t, ht, a3, -, -⟩ | ⟨k3, t, ht, a3, -, -⟩
    · exact ⟨by omega, sound_port (n := P.lines.length) (by omega) (by rw [k3]; rfl) (by omega) hr⟩
    · exact ⟨by omega, sound_port (n := P.ins) (by omega) (by rw [k3]; rfl) (by omega) hr⟩
  have hO : ∀ k, k < g.actors.length → ∀ x ∈ rowM (matO2 g) k, x.kind ≠ 5 ∧ FireOp P x := by
    intro k hk x hx
    obtain ⟨i, hi, rfl⟩ := List.mem_iff_getElem.1 hx
    have e0 : outsF g k = rateL (outsP g.actors[k].tag g.actors[k].params) := by unfold outsF; rw [List.getElem?_eq_getElem hk]
    have hl : i < (outsP g.actors[k].tag g.actors[k].params).length := by
      rw [matO2_row g hk, e0, rateL, List.length_map] at hi
      exact hi
    obtain ⟨y, y1, y2, y3⟩ := right_out hc hf hk (List.getElem?_eq_getElem hl)
    unfold opAt at y1
    rw [List.getElem?_eq_getElem hi] at y1
    obtain rfl := Option.some.inj y1
    have hr := (rates_ok (hf.good _ (List.getElem_mem hk)).1).2 _ (List.getElem_mem hl)
    rw [← y2] at hr
    rcases y3 with ⟨k3, t, ht, a3, -, -⟩ | ⟨k3, t, ht, a3, -, -⟩
    · exact ⟨by omega, sound_port (n := P.lines.length) (by omega) (by rw [k3]; rfl) (by omega) hr⟩
    · exact ⟨by omega, sound_port (n := P.outs) (by omega) (by rw [k3]; rfl) (by omega) hr⟩
  have hz : ∀ X : List GOp, (∀ x ∈ X, x.kind ≠ 5) → cK 5 X = 0 := by
    intro X h
    unfold cK
    rw [List.countP_eq_zero]
    intro x hx
    have := h x hx
    simpa using this
  refine ⟨fun k hk x hx => ?_, fun k hk => ?_⟩
  · rw [fire_row hk] at hx
    rcases List.mem_append.1 hx with hx | hx
    · rcases List.mem_append.1 hx with hx | hx
      · exact (hI k hk x hx).2
      · obtain rfl := List.mem_singleton.1 hx
        refine ⟨by show (3 : Int) ≤ 5; omega, by show (5 : Int) ≤ 7; omega, fun i => ?_⟩
        simp [soundOp, limP]; omega
    · exact (hO k hk x hx).2
  · rw [fire_row hk, cK_app, cK_app, hz _ (fun x hx => (hI k hk x hx).1), hz _ (fun x hx => (hO k hk x hx).1), cK_cons]
    rfl

theorem make_facts {g : GGraph} {p : GPlan} {l : Nest} (h : makeE g p l = 0) : checkE g = 0 ∧ nestCheckE l = 0 ∧ strangeP l g.actors.length = false ∧ fitsP g p = true := by
  unfold makeE at h
  split at h
  · rename_i h1; exact absurd h h1
  split at h
  · rename_i h1; exact absurd h h1
  split at h
  · cases h
  split at h
  · rename_i h1 h2 h3 h4
    exact ⟨Decidable.not_not.1 h1, Decidable.not_not.1 h2, by simpa using h3, h4⟩
  · cases h
theorem nest_total {l : Nest} (h : nestCheckE l = 0) : GoodT l ∧ totN l ≤ 2048 := by
  unfold nestCheckE at h
  split at h
  · rename_i h1; exact absurd h h1
  · rename_i h1
    split at h
    · cases h
    · rename_i h2
      have ht := times_of l 0 0 (Decidable.not_not.1 h1)
      obtain ⟨a, b⟩ := total_true l 0 ht (by omega) (by omega)
      exact ⟨a, by omega⟩
theorem partsE_ok : ∀ (l : List GActor), (∀ a ∈ l, goodP a.tag a.params) → partsE (partsP l) = 0
  | [], _ => rfl
  | a :: l, h => by
    show (if goodP a.tag a.params then partsE (partsP l) else errP a.tag) = 0
    rw [if_pos (h a List.mem_cons_self)]
    exact partsE_ok l (fun b hb => h b (List.mem_cons_of_mem _ hb))
theorem linesE_ok {total : Int} : ∀ (rs : List GRegion) (es : List GEdge), regionsP total rs es = true → linesE total (linesP rs es) = 0
  | [], _, _ => rfl
  | _ :: _, [], _ => rfl
  | r :: rs, e :: es, h => by
    rw [regionsP, Bool.and_eq_true] at h
    show (if lineE total ⟨r.base, r.size, e.start⟩ = 0 then linesE total (linesP rs es) else lineE total ⟨r.base, r.size, e.start⟩) = 0
    have h1 : lineE total ⟨r.base, r.size, e.start⟩ = 0 := by
      have := h.1
      simp [regionP] at this
      unfold lineE
      rw [if_pos (by simp [withinB]; omega), if_neg (by show ¬ _ < _; simp only; omega)]
    rw [if_pos h1]
    exact linesE_ok rs es h.2
theorem make_ops2 (g : GGraph) (p : GPlan) (l : Nest) : (makeG g p l).ops = rowL (firP g) l 0 0 ++ [⟨0, 0, 0⟩] := by
  show (rowP (firP g) l 0 ([], 0)).1 ++ _ = _
  rw [rowP_ops]; rfl
theorem make_cnt (g : GGraph) (p : GPlan) (l : Nest) : (makeG g p l).counters = cntP l 0 0 := by
  show (((rowP (firP g) l 0 ([], 0)).2 : Nat) : Int) = _
  rw [rowP_cntP]
theorem make_fits {g : GGraph} {p : GPlan} (h : fitsP g p = true) : p.regions.length = g.edges.length ∧ 0 ≤ p.total ∧ p.total ≤ 1024 ∧ regionsP p.total p.regions g.edges = true := by
  simp only [fitsP, Bool.and_eq_true, decide_eq_true_eq] at h
  exact ⟨h.1.1.1, h.1.1.2, h.1.2, h.2⟩
theorem make_fire {g : GGraph} {p : GPlan} {l : Nest} (h : makeE g p l = 0) (hs : GSized g) : FireOk (makeG g p l) g.actors.length (firP g) ∧ CallOk g.actors.length (firP g) := by
  obtain ⟨h1, h2, h3, h4⟩ := make_facts h
  refine fire_ok h1 (firOk_of h1 hs) ?_ rfl rfl ?_
  · have := (make_fits h4).1
    show (linesP p.regions g.edges).length = _
    simp [linesP]; omega
  · show (partsP g.actors).length = _
    simp [partsP]
theorem make_leaves {g : GGraph} {p : GPlan} {l : Nest} (h : makeE g p l = 0) : LeafOk g.actors.length l := by
  obtain ⟨h1, h2, h3, h4⟩ := make_facts h
  exact leafOk_strange l _ (nest_facts h2).2.2 h3
/-- THE PROGRAM IS SOUND, and does as many operations -/
theorem make_sound {g : GGraph} {p : GPlan} {l : Nest} (h : makeE g p l = 0) (hs : GSized g) : cstepsE (makeG g p l) = (((stN (firP g) l + 1 : Nat) : Int), 0) := by
  obtain ⟨h1, h2, h3, h4⟩ := make_facts h
  have hf := firOk_of h1 hs
  obtain ⟨f1, f2, f3, f4⟩ := make_fits h4
  obtain ⟨-, a1, a2, a3, a4⟩ := headE_parts (checkE_parts h1).1
  obtain ⟨gt, tt⟩ := nest_total h2
  have hst := (stN_le (firP_row hf) l gt).1
  have hlen := rowL_len (F := firP g) l 0 0
  have hops := make_ops2 g p l
  have hcnt := make_cnt g p l
  have hc17 : cntP l 0 0 ≤ 17 := by
    have e1 := rowP_cnt (F := firP g) l 0 ([], 0)
    rw [rowP_cntP] at e1
    have := (nest_facts h2).2.1
    simp only at e1
    omega
  have hl : (makeG g p l).ops.length = (rowL (firP g) l 0 0).length + 1 := by rw [hops]; simp
  have hll : (makeG g p l).lines.length = g.edges.length := by
    show (linesP p.regions g.edges).length = _
    simp [linesP]; omega
  have hpl : (makeG g p l).parts.length = g.actors.length := by
    show (partsP g.actors).length = _
    simp [partsP]
  have e1 : partsE (makeG g p l).parts = 0 := partsE_ok _ (fun a ha => (hf.good a ha).1)
  have e2 : linesE (makeG g p l).memory (makeG g p l).lines = 0 := linesE_ok _ _ f4
  have w1 : withinB (makeG g p l).memory 1024 = true := within_iff.2 ⟨f2, f3⟩
  have w2 : withinB (makeG g p l).counters 17 = true := within_iff.2 (by rw [hcnt]; omega)
  have w3 : withinB (makeG g p l).ins 16 = true := within_iff.2 (by show 0 ≤ ((g.ins.length : Nat) : Int) ∧ ((g.ins.length : Nat) : Int) ≤ 16; omega)
  have w4 : withinB (makeG g p l).outs 16 = true := within_iff.2 (by show 0 ≤ ((g.outs.length : Nat) : Int) ∧ ((g.outs.length : Nat) : Int) ≤ 16; omega)
  unfold cstepsE
  rw [w1, w2, w3, w4, e1, e2, if_pos (by rfl), if_neg (by omega), if_neg (by simp), if_neg (by simp)]
  have hw := cwalk_row (make_fire h hs).1 l 0 0 0 [⟨0, 0, 0⟩] (0, []) gt (make_leaves h) (by rw [hops]; rfl) (fun f hf => by cases hf) (by show (0 : Int) ≤ 0; omega) (by show (0 : Int) ≤ 131073; omega) (by rw [hcnt]; omega)
  rw [← hops] at hw
  rw [hw]
  have e3 : addS (stN (firP g) l : Int) (0, []) = ((stN (firP g) l : Int), []) := by
    show (capI (0 + (stN (firP g) l : Int)), ([] : List (Nat × Int))) = _
    rw [capI_lo (by omega)]; simp
  rw [e3, cwalkE]
  have s1 : soundOp (makeG g p l) (0 + (rowL (firP g) l 0 0).length) ⟨0, 0, 0⟩ = true := by simp [soundOp, hl]
  have s2 : cstepE (makeG g p l) ⟨0, 0, 0⟩ ((stN (firP g) l : Int), []) = 0 := by simp [cstepE]
  have s3 : cstepS (makeG g p l) (0 + (rowL (firP g) l 0 0).length) ⟨0, 0, 0⟩ ((stN (firP g) l : Int), []) = (((stN (firP g) l + 1 : Nat) : Int), []) := by
    show (capI ((stN (firP g) l : Int) + 1), ([] : List (Nat × Int))) = _
    rw [capI_lo (by omega)]; rfl
  rw [s1, s2, s3]
  simp only [Bool.not_true, Bool.false_eq_true, if_false, ne_eq, not_true_eq_false]
  rw [cwalkE, cendE, if_neg, if_neg (by show ¬ _ < ((stN (firP g) l + 1 : Nat) : Int); omega)]
  rw [not_or]
  refine ⟨by omega, ?_⟩
  rw [Decidable.not_not]
  unfold opP
  rw [hl, hops, Nat.add_sub_cancel, List.getElem?_append_right (Nat.le_refl _), Nat.sub_self]
  rfl
/-- what the program has of each kind -/
theorem make_kinds {g : GGraph} {p : GPlan} {l : Nest} (h : makeE g p l = 0) (hs : GSized g) : cK 5 (makeG g p l).ops = (measP l 0 (0, 0, 0)).1 ∧ cK 1 (makeG g p l).ops = (measP l 0 (0, 0, 0)).2.1 ∧ cK 2 (makeG g p l).ops = (measP l 0 (0, 0, 0)).2.1 ∧ cK 0 (makeG g p l).ops = 1 ∧ (makeG g p l).counters ≤ (measP l 0 (0, 0, 0)).2.1 := by
  obtain ⟨hF, hC⟩ := make_fire h hs
  obtain ⟨c1, c2, c3, c4⟩ := rowL_cnt hF hC l 0 0 (make_leaves h)
  obtain ⟨m1, m2⟩ := measP_leaf l 0 (0, 0, 0)
  have e : ∀ k : Int, cK k [⟨0, 0, 0⟩] = if 0 = k then 1 else 0 := fun k => by rw [cK_cons]; simp [cK]
  rw [make_ops2, cK_app, cK_app, cK_app, cK_app, c1, c2, c3, c4, e, e, e, e, m1, m2, make_cnt]
  have := cntP_heads l 0 0
  refine ⟨by simp, by simp, by simp, by simp, by simp only at this ⊢; omega⟩
theorem make_line {g : GGraph} {p : GPlan} {l : Nest} (h : makeE g p l = 0) {i : Nat} (hi : i < g.edges.length) : ∃ h1 : i < p.regions.length, ∃ h2 : i < (makeG g p l).lines.length, (makeG g p l).lines[i] = ⟨p.regions[i].base, p.regions[i].size, g.edges[i].start⟩ := by
  have f1 := (make_fits (make_facts h).2.2.2).1
  refine ⟨by omega, by show i < (linesP p.regions g.edges).length; simp [linesP]; omega, ?_⟩
  show (linesP p.regions g.edges)[i]'_ = _
  simp [linesP]
end Go.Proofs.Ytbmbfifempkhgaa

/- kinds. -/
namespace Go.Proofs.Ytbmbfifempkhgaa
open Go.RowKit

theorem cK_take {k : Int} {L : List GOp} {j : Nat} (h : j < L.length) : cK k (L.take (j + 1)) = cK k (L.take j) + if L[j].kind = k then 1 else 0 := by
  rw [List.take_succ_eq_append_getElem h, cK_app, cK_cons]
  simp [cK]
theorem cK_le (k : Int) (L : List GOp) : cK k L ≤ L.length := List.countP_le_length

set_option maxRecDepth 100000 in
set_option maxHeartbeats 1000000 in
theorem kinds_any (w : World) (v : Value) (P : GProg) (k : Int) (hv : HasProg w v P) (hl : P.ops.length ≤ 1000000) : Calls Try.prog 30 #[v, .int .u8 k] w (Tells (.int .i64 (cK k P.ops : Nat)) w) := by
  obtain ⟨vp, vl, vo, rfl, rp, rl, ro⟩ := hv
  obtain ⟨ao, co, rfl⟩ := ro.slice
  have hb := below_alloc w (.cells #[.int .i64 P.memory, .int .i64 P.counters, .int .i64 P.ins, .int .i64 P.outs, vp, vl, .slice ao P.ops.length co] 39)
  have hx := heap_alloc_new w (.cells #[.int .i64 P.memory, .int .i64 P.counters, .int .i64 P.ins, .int .i64 P.outs, vp, vl, .slice ao P.ops.length co] 39)
  obtain ⟨W, hW⟩ : ∃ x, w.alloc (.cells #[.int .i64 P.memory, .int .i64 P.counters, .int .i64 P.ins, .int .i64 P.outs, vp, vl, .slice ao P.ops.length co] 39) = x := ⟨_, rfl⟩
  have ro2 := ro.below hb
  rw [hW] at hb hx ro2
  have x6 := cells_row _ _ hx 6 _ rfl
  have RO := Lib.hid ro2
  have HB := Lib.hid hb
  have HL := Lib.hid hl
  clear rp rl ro ro2 hb hx hl
  go_enter Try.func30, Try.ntmps30
  go_wp2_with fail
  clear hW
  go_loopw [5, 6] (fun n i wr => ∃ j : Nat, j ≤ P.ops.length ∧ n = .int .i64 (cK k (P.ops.take j) : Nat) ∧ i = .int .i64 j ∧ wr = W) (fun _ i _ => P.ops.length - (intOf i).toNat)
  case atStart => exact ⟨0, Nat.zero_le _, rfl, rfl, rfl⟩
  case round =>
    obtain ⟨j, hj, rfl, rfl, rfl⟩ := hrel
    by_cases hlt : j < P.ops.length
    · have hlti : (j : Int) < P.ops.length := by omega
      obtain ⟨-, hcap, b, off, rfl, hc⟩ := RO.out.at hlt
      obtain ⟨c0, -, -⟩ := hc j hlt
      have hcapi : (P.ops.length : Int) ≤ co := by omega
      have ht := cK_take (k := k) hlt
      have hle := cK_le k (P.ops.take j)
      have hle2 : (P.ops.take j).length = j := by rw [List.length_take]; omega
      obtain ⟨n, hn⟩ : ∃ n, cK k (P.ops.take j) = n := ⟨_, rfl⟩
      rw [hn] at ht hle ⊢
      have hll := HL.out
      rw [hle2] at hle
      have HT := Lib.hid ht
      clear hc ht hn hle2
      generalize P.ops[j].kind = y at *
      by_cases hy : y = k
      · subst hy
        go_wp2
        go_roundw
        case rel => exact ⟨j + 1, hlt, by rw [HT.out, if_pos rfl]; go_num, by go_num, trivial⟩
        case measure => simp [intOf]; omega
      · go_wp2
        go_roundw
        case rel => exact ⟨j + 1, hlt, by rw [HT.out, if_neg hy]; rfl, by go_num, trivial⟩
        case measure => simp [intOf]; omega
    · obtain rfl : P.ops.length = j := by omega
      rw [List.take_length]
      go_wp2
      go_ret
      exact ⟨rfl, HB.out⟩
end Go.Proofs.Ytbmbfifempkhgaa

/- Two rows are made and laid in, in each order that may be drawn. No function in sight. -/
namespace Go.Proofs.Ytbmbfifempkhgaa
open Go.RowKit

theorem OpM.spot {w : World} {o : Col} {c d g n cap a : Nat} {m : List (List GOp)} {vs : List Value} (h : OpM w o c d (.slice (some ⟨g, 0, none⟩) n cap) m vs) (ha : a < m.length) : (∃ x y z, w.cell? ⟨g, a, none⟩ = some (.slice x y z)) ∧ w.frozen? ⟨g, a, none⟩ = false := by
  obtain ⟨_, _, g', e, h1, h2⟩ := h.row ha
  cases e
  obtain ⟨x, z, e⟩ := (h.rows a ha).slice
  rw [e] at h1
  exact ⟨⟨x, _, z, h1⟩, h2⟩

def ColM (x : Nat) : Prop := 1 ≤ x ∧ x ≤ 4
/-- two matrices: ins in colours 1 and 2, outs in colours 3 and 4 -/
def TwoM (w : World) (o : Col) (vI vO : Value) (mI mO : List (List GOp)) : Prop := ∃ vsI vsO, OpM w o 1 2 vI mI vsI ∧ OpM w o 3 4 vO mO vsO
theorem TwoM.turn {w w' : World} {o o' : Col} {C : Nat → Prop} {vI vO : Value} {mI mO : List (List GOp)} (h : TwoM w o vI vO mI mO) (T : Turn o o' C w w') (hC : ∀ x, ColM x → ¬ C x) : TwoM w' o' vI vO mI mO := by
  obtain ⟨a, b, h1, h2⟩ := h
  have c := fun x h1 h2 => hC x ⟨h1, h2⟩
  exact ⟨a, b, h1.turn T (c 1 (by omega) (by omega)) (c 2 (by omega) (by omega)), h2.turn T (c 3 (by omega) (by omega)) (c 4 (by omega) (by omega))⟩

abbrev opsC (n : Nat) : Obj := .cells (opsV (zeroL n)).toArray 61
section
variable {w : World} {o : Col} {gI gO nI capI nO capO j a b : Nat} {mI mO : List (List GOp)}

theorem makes_A (h : TwoM w o (.slice (some ⟨gI, 0, none⟩) nI capI) (.slice (some ⟨gO, 0, none⟩) nO capO) mI mO) (hI : j < mI.length) (hO : j < mO.length) (ha : a ≤ 1000) (hb : b ≤ 1000) (N : Nat) (hN : w.heap.size = N) :
    (∃ x y z, ((w.alloc (opsC a)).alloc (opsC b)).cell? ⟨gI, j, none⟩ = some (.slice x y z)) ∧ ((w.alloc (opsC a)).alloc (opsC b)).frozen? ⟨gI, j, none⟩ = false ∧ (∃ x y z, (((w.alloc (opsC a)).alloc (opsC b)).setCell ⟨gI, j, none⟩ (.slice (some ⟨N, 0, none⟩) a a)).cell? ⟨gO, j, none⟩ = some (.slice x y z)) ∧ (((w.alloc (opsC a)).alloc (opsC b)).setCell ⟨gI, j, none⟩ (.slice (some ⟨N, 0, none⟩) a a)).frozen? ⟨gO, j, none⟩ = false ∧
    ∃ o', Turn o o' ColM w ((((w.alloc (opsC a)).alloc (opsC b)).setCell ⟨gI, j, none⟩ (.slice (some ⟨N, 0, none⟩) a a)).setCell ⟨gO, j, none⟩ (.slice (some ⟨N + 1, 0, none⟩) b b)) ∧
      TwoM ((((w.alloc (opsC a)).alloc (opsC b)).setCell ⟨gI, j, none⟩ (.slice (some ⟨N, 0, none⟩) a a)).setCell ⟨gO, j, none⟩ (.slice (some ⟨N + 1, 0, none⟩) b b)) o' (.slice (some ⟨gI, 0, none⟩) nI capI) (.slice (some ⟨gO, 0, none⟩) nO capO) (mI.set j (zeroL a)) (mO.set j (zeroL b)) := by
  subst hN
  obtain ⟨vsI, vsO, h1, h2⟩ := h
  have T1 := Turn.of_below o 2 (below_alloc w (opsC a))
  have r1 := row_new w o 2 a ha
  have T2 := Turn.of_below (ext o w.heap.size 2) 4 (below_alloc (w.alloc (opsC a)) (opsC b))
  have r2 := row_new (w.alloc (opsC a)) (ext o w.heap.size 2) 4 b hb
  rw [World.size_alloc] at T2 r2
  have H1 := (h1.turn T1 (fun h => h) (fun h => h)).turn T2 (fun h => h) (fun h => h)
  obtain ⟨f1, f2⟩ := H1.spot hI
  obtain ⟨p1, T3⟩ := H1.lay2 (by decide) hI (r1.turn T2 (fun h => h)) (fun k hk B hB e => by
    have := h1.fresh hk hB
    have e2 := Option.some.inj e
    dsimp only at e2
    omega)
  have H2 := ((h2.turn T1 (fun h => h) (fun h => h)).turn T2 (fun h => h) (fun h => h)).turn T3 (by decide) (by decide)
  obtain ⟨f3, f4⟩ := H2.spot hO
  obtain ⟨p2, T4⟩ := H2.lay2 (by decide) hO (r2.turn T3 (by decide)) (fun k hk B hB e => by
    have := h2.fresh hk hB
    have e2 := Option.some.inj e
    dsimp only at e2
    omega)
  exact ⟨f1, f2, f3, f4, _, (((T1.mono (D := ColM) (fun _ h => h.elim)).trans T2 (fun _ h => h.elim)).trans T3 (fun x e => by subst e; unfold ColM; omega)).trans T4 (fun x e => by subst e; unfold ColM; omega), _, _, p1.turn T4 (by decide) (by decide), p2⟩

theorem makes_B (h : TwoM w o (.slice (some ⟨gI, 0, none⟩) nI capI) (.slice (some ⟨gO, 0, none⟩) nO capO) mI mO) (hI : j < mI.length) (hO : j < mO.length) (ha : a ≤ 1000) (hb : b ≤ 1000) (N : Nat) (hN : w.heap.size = N) :
    (∃ x y z, (w.alloc (opsC a)).cell? ⟨gI, j, none⟩ = some (.slice x y z)) ∧ (w.alloc (opsC a)).frozen? ⟨gI, j, none⟩ = false ∧ (∃ x y z, (((w.alloc (opsC a)).setCell ⟨gI, j, none⟩ (.slice (some ⟨N, 0, none⟩) a a)).alloc (opsC b)).cell? ⟨gO, j, none⟩ = some (.slice x y z)) ∧ (((w.alloc (opsC a)).setCell ⟨gI, j, none⟩ (.slice (some ⟨N, 0, none⟩) a a)).alloc (opsC b)).frozen? ⟨gO, j, none⟩ = false ∧
    ∃ o', Turn o o' ColM w ((((w.alloc (opsC a)).setCell ⟨gI, j, none⟩ (.slice (some ⟨N, 0, none⟩) a a)).alloc (opsC b)).setCell ⟨gO, j, none⟩ (.slice (some ⟨N + 1, 0, none⟩) b b)) ∧
      TwoM ((((w.alloc (opsC a)).setCell ⟨gI, j, none⟩ (.slice (some ⟨N, 0, none⟩) a a)).alloc (opsC b)).setCell ⟨gO, j, none⟩ (.slice (some ⟨N + 1, 0, none⟩) b b)) o' (.slice (some ⟨gI, 0, none⟩) nI capI) (.slice (some ⟨gO, 0, none⟩) nO capO) (mI.set j (zeroL a)) (mO.set j (zeroL b)) := by
  subst hN
  obtain ⟨vsI, vsO, h1, h2⟩ := h
  have T1 := Turn.of_below o 2 (below_alloc w (opsC a))
  have r1 := row_new w o 2 a ha
  have H1 := h1.turn T1 (fun h => h) (fun h => h)
  obtain ⟨f1, f2⟩ := H1.spot hI
  obtain ⟨p1, T3⟩ := H1.lay2 (by decide) hI r1 (fun k hk B hB e => by
    have := h1.fresh hk hB
    have e2 := Option.some.inj e
    dsimp only at e2
    omega)
  have hs : (((w.alloc (opsC a)).setCell ⟨gI, j, none⟩ (.slice (some ⟨w.heap.size, 0, none⟩) a a))).heap.size = w.heap.size + 1 := by simp [World.setCell]
  have T2 := Turn.of_below (ext o w.heap.size 2) 4 (below_alloc ((w.alloc (opsC a)).setCell ⟨gI, j, none⟩ (.slice (some ⟨w.heap.size, 0, none⟩) a a)) (opsC b))
  have r2 := row_new ((w.alloc (opsC a)).setCell ⟨gI, j, none⟩ (.slice (some ⟨w.heap.size, 0, none⟩) a a)) (ext o w.heap.size 2) 4 b hb
  rw [hs] at T2 r2
  have H2 := ((h2.turn T1 (fun h => h) (fun h => h)).turn T3 (by decide) (by decide)).turn T2 (fun h => h) (fun h => h)
  obtain ⟨f3, f4⟩ := H2.spot hO
  obtain ⟨p2, T4⟩ := H2.lay2 (by decide) hO r2 (fun k hk B hB e => by
    have := h2.fresh hk hB
    have e2 := Option.some.inj e
    dsimp only at e2
    omega)
  exact ⟨f1, f2, f3, f4, _, (((T1.mono (D := ColM) (fun _ h => h.elim)).trans T3 (fun x e => by subst e; unfold ColM; omega)).trans T2 (fun _ h => h.elim)).trans T4 (fun x e => by subst e; unfold ColM; omega), _, _, (p1.turn T2 (fun h => h) (fun h => h)).turn T4 (by decide) (by decide), p2⟩

theorem makes_C (h : TwoM w o (.slice (some ⟨gI, 0, none⟩) nI capI) (.slice (some ⟨gO, 0, none⟩) nO capO) mI mO) (hI : j < mI.length) (hO : j < mO.length) (ha : a ≤ 1000) (hb : b ≤ 1000) (N : Nat) (hN : w.heap.size = N) :
    (∃ x y z, ((w.alloc (opsC b)).alloc (opsC a)).cell? ⟨gI, j, none⟩ = some (.slice x y z)) ∧ ((w.alloc (opsC b)).alloc (opsC a)).frozen? ⟨gI, j, none⟩ = false ∧ (∃ x y z, (((w.alloc (opsC b)).alloc (opsC a)).setCell ⟨gI, j, none⟩ (.slice (some ⟨N + 1, 0, none⟩) a a)).cell? ⟨gO, j, none⟩ = some (.slice x y z)) ∧ (((w.alloc (opsC b)).alloc (opsC a)).setCell ⟨gI, j, none⟩ (.slice (some ⟨N + 1, 0, none⟩) a a)).frozen? ⟨gO, j, none⟩ = false ∧
    ∃ o', Turn o o' ColM w ((((w.alloc (opsC b)).alloc (opsC a)).setCell ⟨gI, j, none⟩ (.slice (some ⟨N + 1, 0, none⟩) a a)).setCell ⟨gO, j, none⟩ (.slice (some ⟨N, 0, none⟩) b b)) ∧
      TwoM ((((w.alloc (opsC b)).alloc (opsC a)).setCell ⟨gI, j, none⟩ (.slice (some ⟨N + 1, 0, none⟩) a a)).setCell ⟨gO, j, none⟩ (.slice (some ⟨N, 0, none⟩) b b)) o' (.slice (some ⟨gI, 0, none⟩) nI capI) (.slice (some ⟨gO, 0, none⟩) nO capO) (mI.set j (zeroL a)) (mO.set j (zeroL b)) := by
  subst hN
  obtain ⟨vsI, vsO, h1, h2⟩ := h
  have T1 := Turn.of_below o 4 (below_alloc w (opsC b))
  have r2 := row_new w o 4 b hb
  have T2 := Turn.of_below (ext o w.heap.size 4) 2 (below_alloc (w.alloc (opsC b)) (opsC a))
  have r1 := row_new (w.alloc (opsC b)) (ext o w.heap.size 4) 2 a ha
  rw [World.size_alloc] at T2 r1
  have H1 := (h1.turn T1 (fun h => h) (fun h => h)).turn T2 (fun h => h) (fun h => h)
  obtain ⟨f1, f2⟩ := H1.spot hI
  obtain ⟨p1, T3⟩ := H1.lay2 (by decide) hI r1 (fun k hk B hB e => by
    have := h1.fresh hk hB
    have e2 := Option.some.inj e
    dsimp only at e2
    omega)
  have H2 := ((h2.turn T1 (fun h => h) (fun h => h)).turn T2 (fun h => h) (fun h => h)).turn T3 (by decide) (by decide)
  obtain ⟨f3, f4⟩ := H2.spot hO
  obtain ⟨p2, T4⟩ := H2.lay2 (by decide) hO ((r2.turn T2 (fun h => h)).turn T3 (by decide)) (fun k hk B hB e => by
    have := h2.fresh hk hB
    have e2 := Option.some.inj e
    dsimp only at e2
    omega)
  exact ⟨f1, f2, f3, f4, _, (((T1.mono (D := ColM) (fun _ h => h.elim)).trans T2 (fun _ h => h.elim)).trans T3 (fun x e => by subst e; unfold ColM; omega)).trans T4 (fun x e => by subst e; unfold ColM; omega), _, _, p1.turn T4 (by decide) (by decide), p2⟩
end
end Go.Proofs.Ytbmbfifempkhgaa

/- The closure, over two matrices. -/
namespace Go.Proofs.Ytbmbfifempkhgaa
open Go.RowKit

/-- what a write into one of two matrices answers -/
def OnTwo (w : World) (o : Col) (vI vO : Value) (mI mO : List (List GOp)) (e : Ending) (w' : World) : Prop := e = .returned (.tuple #[]) ∧ Turn o o ColM w w' ∧ TwoM w' o vI vO mI mO

theorem on_O {w : World} {o : Col} {vI : Value} {gO n cap a k : Nat} {mI mO : List (List GOp)} (h : TwoM w o vI (.slice (some ⟨gO, 0, none⟩) n cap) mI mO) (ha : a < mO.length) (hk : k < (rowM mO a).length) :
    ∃ G LL cp, w.cell? ⟨gO, a, none⟩ = some (.slice (some ⟨G, 0, none⟩) LL cp) ∧ k < LL ∧ LL ≤ cp ∧ ∀ kd x, Calls Try.prog 78 #[.pointer (some ⟨G, k * 3, none⟩), .int .u8 kd, .int .i64 x] w.drew (OnTwo w.drew o vI (.slice (some ⟨gO, 0, none⟩) n cap) mI (putM mO a k kd x)) := by
  obtain ⟨vsI, vsO, h1, h2⟩ := h
  obtain ⟨G, cp, hG, hcp, _, _, _, _⟩ := h2.slot ha hk
  obtain ⟨-, -, gg, eg, r1, -⟩ := h2.row ha
  cases eg
  rw [hG] at r1
  refine ⟨G, _, cp, r1, hk, hcp, fun kd x => (on_any w.drew o 3 4 _ mO vsO (h2.turn (Turn.of_quiet o ⟨1, rfl⟩) (fun h => h) (fun h => h)) (by decide) a k ha hk G _ cp hG kd x).mono ?_⟩
  rintro e w' ⟨he, T, M⟩
  exact ⟨he, T.mono (fun x e => by subst e; unfold ColM; omega), vsI, vsO, (h1.turn (Turn.of_quiet o ⟨1, rfl⟩) (fun h => h) (fun h => h)).turn T (by decide) (by decide), M⟩
theorem on_I {w : World} {o : Col} {vO : Value} {gI n cap a k : Nat} {mI mO : List (List GOp)} (h : TwoM w o (.slice (some ⟨gI, 0, none⟩) n cap) vO mI mO) (ha : a < mI.length) (hk : k < (rowM mI a).length) :
    ∃ G LL cp, w.cell? ⟨gI, a, none⟩ = some (.slice (some ⟨G, 0, none⟩) LL cp) ∧ k < LL ∧ LL ≤ cp ∧ ∀ kd x, Calls Try.prog 78 #[.pointer (some ⟨G, k * 3, none⟩), .int .u8 kd, .int .i64 x] w.drew (OnTwo w.drew o (.slice (some ⟨gI, 0, none⟩) n cap) vO (putM mI a k kd x) mO) := by
  obtain ⟨vsI, vsO, h1, h2⟩ := h
  obtain ⟨G, cp, hG, hcp, _, _, _, _⟩ := h1.slot ha hk
  obtain ⟨-, -, gg, eg, r1, -⟩ := h1.row ha
  cases eg
  rw [hG] at r1
  refine ⟨G, _, cp, r1, hk, hcp, fun kd x => (on_any w.drew o 1 2 _ mI vsI (h1.turn (Turn.of_quiet o ⟨1, rfl⟩) (fun h => h) (fun h => h)) (by decide) a k ha hk G _ cp hG kd x).mono ?_⟩
  rintro e w' ⟨he, T, M⟩
  exact ⟨he, T.mono (fun x e => by subst e; unfold ColM; omega), vsI, vsO, M, (h2.turn (Turn.of_quiet o ⟨1, rfl⟩) (fun h => h) (fun h => h)).turn T (by decide) (by decide)⟩

/-- operations are put behind those of a row -/
theorem OpM.grow {w w2 : World} {o : Col} {c d g n cap a : Nat} {m : List (List GOp)} {vs : List Value} {v' : Value} {l news : List GOp} (h : OpM w o c d (.slice (some ⟨g, 0, none⟩) n cap) m vs) (hcd : c ≠ d) (ha : a < m.length) (hl : m[a]?.getD [] = l)
    (k1 : w2.ownsRow 0 61 3 v' (l.length + news.length) (opsV l ++ opsV news)) (k2 : Mods (fun b => (vs[a]?.getD undef).ownBlock = some b) w w2) (k4 : v'.ownBlock = (vs[a]?.getD undef).ownBlock ∨ ∀ b, v'.ownBlock = some b → w.heap.size ≤ b) :
    (∃ x y z, w2.cell? ⟨g, a, none⟩ = some (.slice x y z)) ∧ w2.frozen? ⟨g, a, none⟩ = false ∧ Turn o (ext o w.heap.size d) (fun x => x = c ∨ x = d) w (w2.setCell ⟨g, a, none⟩ v') ∧ OpM (w2.setCell ⟨g, a, none⟩ v') (ext o w.heap.size d) c d (.slice (some ⟨g, 0, none⟩) n cap) (m.set a (l ++ news)) (vs.set a v') := by
  have T : Turn o (ext o w.heap.size d) (fun x => x = d) w w2 := Turn.of_mods o d k2 (fun b _ hb => (h.rows a ha).2 b hb)
  have hown := h.own.turn T hcd
  obtain ⟨_, _, gg, eg, r1, _⟩ := h.row ha
  cases eg
  obtain ⟨sa, sc, hr⟩ := (h.rows a ha).slice
  have hl2 := h.len
  obtain ⟨-, -, gg, -, eg, -, h6, -⟩ := owns_cell hown.1 (by omega)
  cases eg
  obtain ⟨p, T2⟩ := h.lay (a := a) (l' := l ++ news) (v' := v') (w1 := w2) (o1 := ext o w.heap.size d) (F := fun b => (vs[a]?.getD undef).ownBlock = some b) hcd ha k2 (fun k _ hk => hk) (fun k hk => ext_old hk) ⟨by rw [List.length_append, opsV_app]; exact k1, fun b hb => by
    rcases k4 with k4 | k4
    · rw [k4] at hb
      exact (ext_old ((h.rows a ha).1.lt b hb).2).trans ((h.rows a ha).2 b hb)
    · exact ext_new (k4 b hb)⟩ k4
  refine ⟨?_, h6 a, T2, p⟩
  have hc : w2.cell? ⟨g, a, none⟩ = some (vs[a]?.getD undef) := T.cell r1 (by show ¬ o g = d; rw [h.own.2 g rfl]; exact hcd)
  rw [hr] at hc
  exact ⟨_, _, _, hc⟩
end Go.Proofs.Ytbmbfifempkhgaa

/- emit's firings. -/
namespace Go.Proofs.Ytbmbfifempkhgaa
open Go.RowKit

/-- what firings answers -/
def FirRet (w : World) (g : GGraph) (e : Ending) (w' : World) : Prop := ∃ v vs o', e = .returned v ∧ Kept w.heap.size o' w w' ∧ OpM w' o' 1 2 v (firP g) vs



set_option maxRecDepth 100000 in
set_option maxHeartbeats 4000000 in
theorem firings_any (w : World) (vg : Value) (g : GGraph) (hg : HasGraph w vg g) (hok : FirOk g) : Calls Try.prog 43 #[vg] w (FirRet w g) := by
  obtain ⟨va, ve, vi, vo, rfl, ra, re, ri, ro⟩ := hg.shape
  obtain ⟨aa, ac, rfl⟩ := ra.slice
  obtain ⟨ae, ec, rfl⟩ := re.slice
  obtain ⟨ai, ic, rfl⟩ := ri.slice
  obtain ⟨ao, oc, rfl⟩ := ro.slice
  have RA := Lib.hid ra
  have RE := Lib.hid re
  have RI := Lib.hid ri
  have RO := Lib.hid ro
  have OK := Lib.hid hok
  have hn32 := hok.actors
  clear ra re ri ro hok hg
  obtain ⟨n, hn⟩ : ∃ n, g.actors.length = n := ⟨_, rfl⟩
  have HN := Lib.hid hn
  rw [hn] at hn32 ⊢
  clear hn
  have hb1 := below_alloc w (.cells #[.string g.name, .slice aa n ac, .slice ae g.edges.length ec, .slice ai g.ins.length ic, .slice ao g.outs.length oc] 26)
  have hG := heap_alloc_new w (.cells #[.string g.name, .slice aa n ac, .slice ae g.edges.length ec, .slice ai g.ins.length ic, .slice ao g.outs.length oc] 26)
  have HK1 := Lib.hid ((Kept.start w).of_below 5 hb1)
  have HG1 : Hid (Blk _ (ext (fun _ => 0) w.heap.size 5) 5 w.heap.size 26 _) := Lib.hid ⟨hG, ext_new (Nat.le_refl _)⟩
  clear hb1 hG
  generalize hW : w.alloc (.cells #[.string g.name, .slice aa n ac, .slice ae g.edges.length ec, .slice ai g.ins.length ic, .slice ao g.outs.length oc] 26) = W at *
  generalize ext (fun _ => 0) w.heap.size 5 = q0 at *
  have m1 := make_opss W n (by omega)
  have hI0 := opM_new W q0 1 2 n (by omega)
  have T1 := (Turn.of_below q0 1 (below_alloc W (.cells (Array.replicate n (.slice none 0 0)) 37)))
  generalize hW1 : W.alloc (.cells (Array.replicate n (.slice none 0 0)) 37) = W1 at *
  obtain ⟨gI, hgI⟩ : ∃ x, W.heap.size = x := ⟨_, rfl⟩
  rw [hgI] at m1 hI0 T1
  have HK2 := HK1.out.turn T1 (fun h => h)
  have HG2 := HG1.out.turn T1 (fun h => h)
  generalize ext q0 gI 1 = q1 at *
  have m2 := make_opss W1 n (by omega)
  have hO0 := opM_new W1 q1 3 4 n (by omega)
  have T2 := (Turn.of_below q1 3 (below_alloc W1 (.cells (Array.replicate n (.slice none 0 0)) 37)))
  generalize hW2 : W1.alloc (.cells (Array.replicate n (.slice none 0 0)) 37) = W2 at *
  obtain ⟨gO, hgO⟩ : ∃ x, W1.heap.size = x := ⟨_, rfl⟩
  rw [hgO] at m2 hO0 T2
  have HK3 := Lib.hid (HK2.turn T2 (fun h => h))
  have HG3 := Lib.hid (HG2.turn T2 (fun h => h))
  have HT3 : Hid (TwoM W2 _ _ _ _ _) := Lib.hid ⟨_, _, hI0.turn T2 (fun h => h) (fun h => h), hO0⟩
  generalize ext q1 gO 3 = q2 at *
  have y1 := HG1.out.cell 1 _ rfl
  have y2 := HG2.cell 1 _ rfl
  have y3 := HG3.out.cell 1 _ rfl
  clear HK1 HG1 hI0 T1 HK2 HG2 hO0 T2 hW1 hW2 hgI hgO
  go_enter Try.func43, Try.ntmps43
  go_wp2_with fail
  clear hW m1 m2 y1 y2 y3
  go_loopw [33] (fun i wr => ∃ (j : Nat) (q : Col), j ≤ n ∧ i = .int .i64 j ∧ Kept w.heap.size q w wr ∧ Blk wr q 5 w.heap.size 26 #[.string g.name, .slice aa n ac, .slice ae g.edges.length ec, .slice ai g.ins.length ic, .slice ao g.outs.length oc] ∧ TwoM wr q (.slice (some ⟨gI, 0, none⟩) n n) (.slice (some ⟨gO, 0, none⟩) n n) (rowJ (insF g) n j) (rowJ (outsF g) n j)) (fun i _ => n - (intOf i).toNat)
  case atStart => exact ⟨0, q2, Nat.zero_le _, rfl, HK3.out, HG3.out, HT3.out⟩
  case round =>
    clear HK3 HG3 HT3
    obtain ⟨j, q, hj, rfl, hK, hGr, hT⟩ := hrel
    have HK := Lib.hid hK
    have HG := Lib.hid hGr
    have HT := Lib.hid hT
    clear hK hGr hT
    by_cases hlt : j < n
    · have hlti : (j : Int) < n := by omega
      have hlt2 : j < g.actors.length := by have := HN.out; omega
      obtain ⟨b0, off, rfl, hcap, hb0, hrec⟩ := RA.out.at (by omega)
      obtain ⟨cs, hcs, hPR, hcl⟩ := hrec j hlt2
      obtain ⟨xs, rfl, hst⟩ := hPR
      have c0 := cell_later HK.out.below (hcl 0 (by omega))
      have c1 := cell_later HK.out.below (hcl 1 (by omega))
      have c2 := cell_later HK.out.below (hcl 2 (by omega))
      simp at c0 c1 c2
      have hcapi : (n : Int) ≤ ac := by have := HN.out; omega
      have hst2 : Has w xs (ivs g.actors[j].params) := hst
      obtain ⟨sa, sc, hxs⟩ := Ints.slice hst2
      subst hxs
      have HST := Lib.hid hst2
      have HGD := Lib.hid (OK.out.good _ (List.getElem_mem hlt2))
      have HFI : Hid (insF g j = rateL (insP g.actors[j].tag g.actors[j].params)) := Lib.hid (by unfold insF; rw [List.getElem?_eq_getElem hlt2])
      have HFO : Hid (outsF g j = rateL (outsP g.actors[j].tag g.actors[j].params)) := Lib.hid (by unfold outsF; rw [List.getElem?_eq_getElem hlt2])
      clear hcl hcs hrec hst hst2
      generalize g.actors[j] = p at *
      have hbX := below_alloc wr (.cells #[.string p.name, .int .u8 p.tag, .slice sa p.params.length sc] 57)
      have hX := heap_alloc_new wr (.cells #[.string p.name, .int .u8 p.tag, .slice sa p.params.length sc] 57)
      have x1 := cells_row _ _ hX 1 _ rfl
      have x2 := cells_row _ _ hX 2 _ rfl
      have TX := Turn.of_below q 5 hbX
      have HK2 := Lib.hid (HK.out.turn TX (fun h => h))
      have HG2 := Lib.hid (HG.out.turn TX (fun h => h))
      have HT2 := Lib.hid (HT.out.turn TX (fun _ _ h => h))
      have HP2 : Hid (Has _ (.slice sa p.params.length sc) (ivs p.params)) := Lib.hid (HST.out.below HK2.out.below)
      clear hbX hX TX HK HG HT
      go_wp2_with fail
      refine (of_ok _ p.tag sa _ sc p.params HGD.out.1 HGD.out.2 HP2.out).mono ?_
      rintro e w5 ⟨vti, vto, rfl, p1, p2, hb5⟩
      obtain ⟨a1, c1', rfl⟩ := owns_slice p1
      obtain ⟨a2, c2', rfl⟩ := owns_slice p2
      have T5 := Turn.of_below (ext q wr.heap.size 5) 5 hb5
      have HK5 := Lib.hid (HK2.out.turn T5 (fun h => h))
      have HG5 := Lib.hid (HG2.out.turn T5 (fun h => h))
      have HT5 := Lib.hid (HT2.out.turn T5 (fun _ _ h => h))
      have HI5 : Hid (Ints w5 _ 5 _ (insP p.tag p.params)) := Lib.hid ((Own.made (ext q wr.heap.size 5) 5 p1).vals)
      have HO5 : Hid (Ints w5 _ 5 _ (outsP p.tag p.params)) := Lib.hid ((Own.made (ext q wr.heap.size 5) 5 p2).vals)
      have HSL := Lib.hid (shape_len HGD.out.1)
      clear p1 p2 hb5 T5 x1 x2 HK2 HG2 HT2 HP2
      generalize ext (ext q wr.heap.size 5) _ 5 = q5 at *
      obtain ⟨lI, hlI⟩ : ∃ x, insP p.tag p.params = x := ⟨_, rfl⟩
      obtain ⟨lO, hlO⟩ : ∃ x, outsP p.tag p.params = x := ⟨_, rfl⟩
      rw [hlI] at HI5 HFI HSL ⊢
      rw [hlO] at HO5 HFO HSL ⊢
      clear hlI hlO
      go_wp2_with fail
      go_cut [33] from 33 to 91 (fun i wx => i = .int .i64 j ∧ ∃ q7, Turn q5 q7 ColM w5 wx ∧ TwoM wx q7 (.slice (some ⟨gI, 0, none⟩) n n) (.slice (some ⟨gO, 0, none⟩) n n) ((rowJ (insF g) n j).set j (zeroL lI.length)) ((rowJ (outsF g) n j).set j (zeroL lO.length)))
      case first =>
        have h16 := HSL.out
        have mkI := fun w => make_ops w lI.length (by omega)
        have mkO := fun w => make_ops w lO.length (by omega)
        have HLI := Lib.hid (rowJ_len (insF g) n j)
        have HLO := Lib.hid (rowJ_len (outsF g) n j)
        refine wp_region_rest (fun _ => True) [0, 1, 2, 3, 4, 5, 7, 8] [6, 9, 10, 11, 12, 13] 6 (by kernel_rfl) (by kernel_rfl) rfl trivial ?_
        intro Q' hQ'
        simp only [pickOps, List.flatMap_cons, List.flatMap_nil, List.drop_succ_cons, List.drop_zero, List.take_succ_cons, List.take_zero, List.cons_append, List.nil_append, List.append_nil]
        repeat (first
          | (refine wpReads_skip (by rfl) ?_; (try simp only [Act.put, List.setIfInBounds_toArray, List.set_cons_zero, List.set_cons_succ]))
          | (refine wpReads_cons ?_ (by rfl) (by rfl) ?_ ?_; rotate_left; (intro wz hz; (try dsimp only at hz); go_simp; try with_reducible rfl); (try simp only [Act.put, List.setIfInBounds_toArray, List.set_cons_zero, List.set_cons_succ]))
          | (refine wpReads_any ?_ (by rfl) ?_ ?_; rotate_left; (intro wz; go_simp; try with_reducible rfl); (try simp only [Act.put, List.setIfInBounds_toArray, List.set_cons_zero, List.set_cons_succ])))
        refine wpReads_nil ?_
        refine wpAnyT_two (i := 6) (k := 9) (by kernel_rfl) ?_ ?_
        · simp only [pickOps, List.flatMap_cons, List.flatMap_nil, List.drop_succ_cons, List.drop_zero, List.take_succ_cons, List.take_zero, List.cons_append, List.nil_append, List.append_nil]
          go_wp2
          refine ⟨fun _ _ => trivial, ?_⟩
          refine wpAnyT_two (i := 9) (k := 10) (by kernel_rfl) ?_ ?_
          · simp only [pickOps, List.flatMap_cons, List.flatMap_nil, List.drop_succ_cons, List.drop_zero, List.take_succ_cons, List.take_zero, List.cons_append, List.nil_append, List.append_nil]
            go_wp2
            refine ⟨fun _ _ => trivial, ?_⟩
            obtain ⟨⟨x1, x2, x3, f1⟩, f2, ⟨y1, y2, y3, f3⟩, f4, q', T7, D7⟩ := makes_A (a := lI.length) (b := lO.length) HT5.out (by rw [HLI.out]; exact hlt) (by rw [HLO.out]; exact hlt) (by omega) (by omega) w5.heap.size rfl
            have HT7 := Lib.hid T7
            have HD7 := Lib.hid D7
            clear T7 D7
            refine wpAnyT_one (i := 10) (by kernel_rfl) ?_
            simp only [pickOps, List.flatMap_cons, List.flatMap_nil, List.drop_succ_cons, List.drop_zero, List.take_succ_cons, List.take_zero, List.cons_append, List.nil_append, List.append_nil]
            go_wp2
            refine ⟨fun _ _ => trivial, ?_⟩
            refine wpAnyT_one (i := 11) (by kernel_rfl) ?_
            simp only [pickOps, List.flatMap_cons, List.flatMap_nil, List.drop_succ_cons, List.drop_zero, List.take_succ_cons, List.take_zero, List.cons_append, List.nil_append, List.append_nil]
            go_wp2
            refine ⟨fun _ _ => trivial, ?_⟩
            refine wpAnyT_one (i := 12) (by kernel_rfl) ?_
            simp only [pickOps, List.flatMap_cons, List.flatMap_nil, List.drop_succ_cons, List.drop_zero, List.take_succ_cons, List.take_zero, List.cons_append, List.nil_append, List.append_nil]
            go_wp2
            refine ⟨fun _ _ => trivial, ?_⟩
            refine wpAnyT_one (i := 13) (by kernel_rfl) ?_
            simp only [pickOps, List.flatMap_cons, List.flatMap_nil, List.drop_succ_cons, List.drop_zero, List.take_succ_cons, List.take_zero, List.cons_append, List.nil_append, List.append_nil]
            go_wp2
            refine ⟨fun _ _ => trivial, ?_⟩
            refine ⟨by kernel_rfl, hQ' _ _ ?_⟩
            go_wp2
            go_meet
            case rel => exact ⟨rfl, q', HT7.out.drew, HD7.out.turn (Turn.of_quiet q' ⟨1, rfl⟩) (fun _ _ h => h)⟩
          · simp only [pickOps, List.flatMap_cons, List.flatMap_nil, List.drop_succ_cons, List.drop_zero, List.take_succ_cons, List.take_zero, List.cons_append, List.nil_append, List.append_nil]
            go_wp2
            refine ⟨fun _ _ => trivial, ?_⟩
            refine wpAnyT_two (i := 9) (k := 11) (by kernel_rfl) ?_ ?_
            · simp only [pickOps, List.flatMap_cons, List.flatMap_nil, List.drop_succ_cons, List.drop_zero, List.take_succ_cons, List.take_zero, List.cons_append, List.nil_append, List.append_nil]
              go_wp2
              refine ⟨fun _ _ => trivial, ?_⟩
              obtain ⟨⟨x1, x2, x3, f1⟩, f2, ⟨y1, y2, y3, f3⟩, f4, q', T7, D7⟩ := makes_A (a := lI.length) (b := lO.length) HT5.out (by rw [HLI.out]; exact hlt) (by rw [HLO.out]; exact hlt) (by omega) (by omega) w5.heap.size rfl
              have HT7 := Lib.hid T7
              have HD7 := Lib.hid D7
              clear T7 D7
              refine wpAnyT_one (i := 11) (by kernel_rfl) ?_
              simp only [pickOps, List.flatMap_cons, List.flatMap_nil, List.drop_succ_cons, List.drop_zero, List.take_succ_cons, List.take_zero, List.cons_append, List.nil_append, List.append_nil]
              go_wp2
              refine ⟨fun _ _ => trivial, ?_⟩
              refine wpAnyT_one (i := 12) (by kernel_rfl) ?_
              simp only [pickOps, List.flatMap_cons, List.flatMap_nil, List.drop_succ_cons, List.drop_zero, List.take_succ_cons, List.take_zero, List.cons_append, List.nil_append, List.append_nil]
              go_wp2
              refine ⟨fun _ _ => trivial, ?_⟩
              refine wpAnyT_one (i := 13) (by kernel_rfl) ?_
              simp only [pickOps, List.flatMap_cons, List.flatMap_nil, List.drop_succ_cons, List.drop_zero, List.take_succ_cons, List.take_zero, List.cons_append, List.nil_append, List.append_nil]
              go_wp2
              refine ⟨fun _ _ => trivial, ?_⟩
              refine ⟨by kernel_rfl, hQ' _ _ ?_⟩
              go_wp2
              go_meet
              case rel => exact ⟨rfl, q', HT7.out.drew, HD7.out.turn (Turn.of_quiet q' ⟨1, rfl⟩) (fun _ _ h => h)⟩
            · obtain ⟨⟨x1, x2, x3, f1⟩, f2, ⟨y1, y2, y3, f3⟩, f4, q', T7, D7⟩ := makes_B (a := lI.length) (b := lO.length) HT5.out (by rw [HLI.out]; exact hlt) (by rw [HLO.out]; exact hlt) (by omega) (by omega) w5.heap.size rfl
              have HT7 := Lib.hid T7
              have HD7 := Lib.hid D7
              clear T7 D7
              simp only [pickOps, List.flatMap_cons, List.flatMap_nil, List.drop_succ_cons, List.drop_zero, List.take_succ_cons, List.take_zero, List.cons_append, List.nil_append, List.append_nil]
              go_wp2
              refine ⟨fun _ _ => trivial, ?_⟩
              refine wpAnyT_one (i := 9) (by kernel_rfl) ?_
              simp only [pickOps, List.flatMap_cons, List.flatMap_nil, List.drop_succ_cons, List.drop_zero, List.take_succ_cons, List.take_zero, List.cons_append, List.nil_append, List.append_nil]
              go_wp2
              refine ⟨fun _ _ => trivial, ?_⟩
              refine wpAnyT_one (i := 12) (by kernel_rfl) ?_
              simp only [pickOps, List.flatMap_cons, List.flatMap_nil, List.drop_succ_cons, List.drop_zero, List.take_succ_cons, List.take_zero, List.cons_append, List.nil_append, List.append_nil]
              go_wp2
              refine ⟨fun _ _ => trivial, ?_⟩
              refine wpAnyT_one (i := 13) (by kernel_rfl) ?_
              simp only [pickOps, List.flatMap_cons, List.flatMap_nil, List.drop_succ_cons, List.drop_zero, List.take_succ_cons, List.take_zero, List.cons_append, List.nil_append, List.append_nil]
              go_wp2
              refine ⟨fun _ _ => trivial, ?_⟩
              refine ⟨by kernel_rfl, hQ' _ _ ?_⟩
              go_wp2
              go_meet
              case rel => exact ⟨rfl, q', HT7.out.drew, HD7.out.turn (Turn.of_quiet q' ⟨1, rfl⟩) (fun _ _ h => h)⟩
        · simp only [pickOps, List.flatMap_cons, List.flatMap_nil, List.drop_succ_cons, List.drop_zero, List.take_succ_cons, List.take_zero, List.cons_append, List.nil_append, List.append_nil]
          go_wp2
          refine ⟨fun _ _ => trivial, ?_⟩
          obtain ⟨⟨x1, x2, x3, f1⟩, f2, ⟨y1, y2, y3, f3⟩, f4, q', T7, D7⟩ := makes_C (a := lI.length) (b := lO.length) HT5.out (by rw [HLI.out]; exact hlt) (by rw [HLO.out]; exact hlt) (by omega) (by omega) w5.heap.size rfl
          have HT7 := Lib.hid T7
          have HD7 := Lib.hid D7
          clear T7 D7
          refine wpAnyT_one (i := 6) (by kernel_rfl) ?_
          simp only [pickOps, List.flatMap_cons, List.flatMap_nil, List.drop_succ_cons, List.drop_zero, List.take_succ_cons, List.take_zero, List.cons_append, List.nil_append, List.append_nil]
          go_wp2
          refine ⟨fun _ _ => trivial, ?_⟩
          refine wpAnyT_one (i := 10) (by kernel_rfl) ?_
          simp only [pickOps, List.flatMap_cons, List.flatMap_nil, List.drop_succ_cons, List.drop_zero, List.take_succ_cons, List.take_zero, List.cons_append, List.nil_append, List.append_nil]
          go_wp2
          refine ⟨fun _ _ => trivial, ?_⟩
          refine wpAnyT_one (i := 11) (by kernel_rfl) ?_
          simp only [pickOps, List.flatMap_cons, List.flatMap_nil, List.drop_succ_cons, List.drop_zero, List.take_succ_cons, List.take_zero, List.cons_append, List.nil_append, List.append_nil]
          go_wp2
          refine ⟨fun _ _ => trivial, ?_⟩
          refine wpAnyT_one (i := 12) (by kernel_rfl) ?_
          simp only [pickOps, List.flatMap_cons, List.flatMap_nil, List.drop_succ_cons, List.drop_zero, List.take_succ_cons, List.take_zero, List.cons_append, List.nil_append, List.append_nil]
          go_wp2
          refine ⟨fun _ _ => trivial, ?_⟩
          refine wpAnyT_one (i := 13) (by kernel_rfl) ?_
          simp only [pickOps, List.flatMap_cons, List.flatMap_nil, List.drop_succ_cons, List.drop_zero, List.take_succ_cons, List.take_zero, List.cons_append, List.nil_append, List.append_nil]
          go_wp2
          refine ⟨fun _ _ => trivial, ?_⟩
          refine ⟨by kernel_rfl, hQ' _ _ ?_⟩
          go_wp2
          go_meet
          case rel => exact ⟨rfl, q', HT7.out.drew, HD7.out.turn (Turn.of_quiet q' ⟨1, rfl⟩) (fun _ _ h => h)⟩
      case rest =>
        obtain ⟨rfl, q7, T7, D7⟩ := hcut
        have HK7 := Lib.hid (HK5.out.turn T7 (by unfold ColM; omega))
        have HG7 := Lib.hid (HG5.out.turn T7 (by unfold ColM; omega))
        have HI7 := Lib.hid (HI5.out.turn T7 (by unfold ColM; omega))
        have HO7 := Lib.hid (HO5.out.turn T7 (by unfold ColM; omega))
        obtain ⟨vsI, vsO, hI7, hO7⟩ := D7
        have HMI := Lib.hid hI7
        have HMO := Lib.hid hO7
        have h16 := HSL.out
        have HLI := Lib.hid (rowJ_len (insF g) n j)
        have HLO := Lib.hid (rowJ_len (outsF g) n j)
        clear T7 hI7 hO7 HK5 HG5 HT5 HI5 HO5 HSL
        go_wp2_with fail
        go_loopw [61] (fun i wl => ∃ (k : Nat), k ≤ lI.length ∧ i = .int .i64 k ∧ Turn q7 q7 (fun x => x = 2) wc wl ∧ OpM wl q7 1 2 (.slice (some ⟨gI, 0, none⟩) n n) ((rowJ (insF g) n j).set j (fillL lI k)) vsI) (fun i _ => lI.length - (intOf i).toNat)
        case atStart => exact ⟨0, Nat.zero_le _, rfl, Turn.refl _ _ _, by rw [fillL_zero]; exact HMI.out⟩
        case round =>
          obtain ⟨k, hk, rfl, hT, hM⟩ := hrel
          by_cases hkl : k < lI.length
          · have hkli : (k : Int) < lI.length := by omega
            have hI8 := HI7.out.turn hT (by decide)
            obtain ⟨bI, oI, rfl, -, hcI, -, -, hcl⟩ := Ints.at hI8 (by omega)
            have z1 := hcl k hkl
            have hcIi : (lI.length : Int) ≤ c1' := by omega
            have hjm : j < ((rowJ (insF g) n j).set j (fillL lI k)).length := by rw [List.length_set, HLI.out]; exact hlt
            have er : rowM ((rowJ (insF g) n j).set j (fillL lI k)) j = fillL lI k := by unfold rowM; rw [List.getElem?_set_self (by rw [HLI.out]; exact hlt)]; rfl
            have hkr : k < (rowM ((rowJ (insF g) n j).set j (fillL lI k)) j).length := by rw [er, fillL_len _ _ hk]; exact hkl
            obtain ⟨G, cp, hG, hcp, hfz, s0, s1, s9⟩ := hM.slot hjm hkr
            obtain ⟨bb, s2⟩ : ∃ bb, wr.cell? ⟨G, k * 3 + 2, none⟩ = some (.int .i64 bb) := ⟨_, s9⟩
            obtain ⟨-, -, gg, eg, r1, -⟩ := hM.row hjm
            cases eg
            rw [hG] at r1
            rw [er, fillL_len _ _ hk] at hG hcp r1
            obtain ⟨M8, T8⟩ := hM.cell (by decide) hjm hG (l' := fillL lI (k + 1)) (u := iv (lI[k]?.getD 0)) (i := k * 3 + 2) (by rw [show ((rowJ (insF g) n j).set j (fillL lI k))[j]?.getD [] = fillL lI k from er, fillL_len _ _ hk, fillL_len _ _ hkl]) (by rw [show ((rowJ (insF g) n j).set j (fillL lI k))[j]?.getD [] = fillL lI k from er]; exact fillL_succ lI k hkl)
            rw [List.set_set] at M8
            obtain ⟨xk, hxk⟩ : ∃ x, lI[k]?.getD 0 = x := ⟨_, rfl⟩
            rw [hxk] at z1 M8 T8
            clear hxk
            have HM8 := Lib.hid M8
            have HT8 := Lib.hid (hT.trans T8 (fun _ h => h))
            have hcpi : (lI.length : Int) ≤ cp := by omega
            have f2 := hfz (k * 3 + 2)
            clear hT hM hI8 hcl er hG s0 s1 s9 M8 T8 hfz hkr hjm
            go_wp2
            go_roundw
            case rel => exact ⟨k + 1, hkl, by go_num, HT8.out, HM8.out⟩
            case measure => simp [intOf]; omega
          · obtain rfl : k = lI.length := by omega
            have HM9 := Lib.hid hM
            have HK9 := Lib.hid (HK7.out.turn hT (by decide))
            have HG9 := Lib.hid (HG7.out.turn hT (by decide))
            have HO9 := Lib.hid (HO7.out.turn hT (by decide))
            have HMO9 := Lib.hid (HMO.out.turn hT (by decide) (by decide))
            clear hT hM HK7 HG7 HO7 HMO HI7 HMI hk hkl
            have hlOn := h16.2
            go_wp2_with fail
            clear HLI
            obtain ⟨w9, rfl⟩ : ∃ x, x = wr := ⟨_, rfl⟩
            go_loopw [77] (fun i wl => ∃ (k : Nat), k ≤ lO.length ∧ i = .int .i64 k ∧ Turn q7 q7 (fun x => x = 4) w9 wl ∧ OpM wl q7 3 4 (.slice (some ⟨gO, 0, none⟩) n n) ((rowJ (outsF g) n j).set j (fillL lO k)) vsO) (fun i _ => lO.length - (intOf i).toNat)
            case atStart => exact ⟨0, Nat.zero_le _, rfl, Turn.refl _ _ _, by rw [fillL_zero]; exact HMO9.out⟩
            case round =>
              obtain ⟨k, hk, rfl, hT, hM⟩ := hrel
              by_cases hkl : k < lO.length
              · have hkli : (k : Int) < lO.length := by omega
                have hI8 := HO9.out.turn hT (by decide)
                obtain ⟨bI, oI, rfl, -, hcI, -, -, hcl⟩ := Ints.at hI8 (by omega)
                have z1 := hcl k hkl
                have hcIi : (lO.length : Int) ≤ c2' := by omega
                have hjm : j < ((rowJ (outsF g) n j).set j (fillL lO k)).length := by rw [List.length_set, HLO.out]; exact hlt
                have er : rowM ((rowJ (outsF g) n j).set j (fillL lO k)) j = fillL lO k := by unfold rowM; rw [List.getElem?_set_self (by rw [HLO.out]; exact hlt)]; rfl
                have hkr : k < (rowM ((rowJ (outsF g) n j).set j (fillL lO k)) j).length := by rw [er, fillL_len _ _ hk]; exact hkl
                obtain ⟨G, cp, hG, hcp, hfz, s0, s1, s9⟩ := hM.slot hjm hkr
                obtain ⟨bb, s2⟩ : ∃ bb, wr.cell? ⟨G, k * 3 + 2, none⟩ = some (.int .i64 bb) := ⟨_, s9⟩
                obtain ⟨-, -, gg, eg, r1, -⟩ := hM.row hjm
                cases eg
                rw [hG] at r1
                rw [er, fillL_len _ _ hk] at hG hcp r1
                obtain ⟨M8, T8⟩ := hM.cell (by decide) hjm hG (l' := fillL lO (k + 1)) (u := iv (lO[k]?.getD 0)) (i := k * 3 + 2) (by rw [show ((rowJ (outsF g) n j).set j (fillL lO k))[j]?.getD [] = fillL lO k from er, fillL_len _ _ hk, fillL_len _ _ hkl]) (by rw [show ((rowJ (outsF g) n j).set j (fillL lO k))[j]?.getD [] = fillL lO k from er]; exact fillL_succ lO k hkl)
                rw [List.set_set] at M8
                obtain ⟨xk, hxk⟩ : ∃ x, lO[k]?.getD 0 = x := ⟨_, rfl⟩
                rw [hxk] at z1 M8 T8
                clear hxk
                have HM8 := Lib.hid M8
                have HT8 := Lib.hid (hT.trans T8 (fun _ h => h))
                have hcpi : (lO.length : Int) ≤ cp := by omega
                have f2 := hfz (k * 3 + 2)
                clear hT hM hI8 hcl er hG s0 s1 s9 M8 T8 hfz hkr hjm
                go_wp2
                go_roundw
                case rel => exact ⟨k + 1, hkl, by go_num, HT8.out, HM8.out⟩
                case measure => simp [intOf]; omega
              · obtain rfl : k = lO.length := by omega
                have HKa := Lib.hid (HK9.out.turn hT (by decide))
                have HGa := Lib.hid (HG9.out.turn hT (by decide))
                have hMI := HM9.out.turn hT (by decide) (by decide)
                rw [fillL_all, ← HFI.out] at hMI
                rw [fillL_all, ← HFO.out] at hM
                have HTa : Hid (TwoM wr q7 (.slice (some ⟨gI, 0, none⟩) n n) (.slice (some ⟨gO, 0, none⟩) n n) (rowJ (insF g) n (j + 1)) (rowJ (outsF g) n (j + 1))) := Lib.hid ⟨vsI, vsO, hMI, hM⟩
                clear hT hM hMI HK9 HG9 HM9 HO9 HMO9 hk hkl HFI HFO
                go_wp2
                go_roundw
                case rel => exact ⟨j + 1, q7, hlt, by go_num, HKa.out, HGa.out, HTa.out⟩
                case measure => simp [intOf]; omega
    · obtain rfl : n = j := by omega
      clear hj hlt
      have y4 := HG.out.cell 2 _ rfl
      have HTM : Hid (TwoM wr q (.slice (some ⟨gI, 0, none⟩) n n) (.slice (some ⟨gO, 0, none⟩) n n) (putAll (eDst g) 3 (matI0 g) 0) (putAll (eSrc g) 6 (matO0 g) 0)) := Lib.hid (by rw [putAll, putAll, matI0, matO0, HN.out]; exact HT.out)
      clear HT
      go_wp2_with fail
      clear y4
      obtain ⟨E, hE⟩ : ∃ x, g.edges.length = x := ⟨_, rfl⟩
      have HE := Lib.hid hE
      rw [hE] at HG ⊢
      clear hE
      have hE96 : E ≤ 96 := by rw [← HE.out]; exact OK.out.edges
      go_loopw [95] (fun i wl => ∃ (j : Nat) (q : Col), j ≤ E ∧ i = .int .i64 j ∧ Kept w.heap.size q w wl ∧ Blk wl q 5 w.heap.size 26 #[.string g.name, .slice aa n ac, .slice ae E ec, .slice ai g.ins.length ic, .slice ao g.outs.length oc] ∧ TwoM wl q (.slice (some ⟨gI, 0, none⟩) n n) (.slice (some ⟨gO, 0, none⟩) n n) (putAll (eDst g) 3 (matI0 g) j) (putAll (eSrc g) 6 (matO0 g) j)) (fun i _ => E - (intOf i).toNat)
      case atStart => exact ⟨0, q, Nat.zero_le _, rfl, HK.out, HG.out, HTM.out⟩
      case round =>
        clear HK HG HTM
        obtain ⟨j, q, hj, rfl, hK, hGr, hT⟩ := hrel
        have HK := Lib.hid hK
        have HG := Lib.hid hGr
        have HT := Lib.hid hT
        clear hK hGr hT
        by_cases hlt : j < E
        · have hlti : (j : Int) < E := by omega
          have hlt2 : j < g.edges.length := by rw [HE.out]; exact hlt
          obtain ⟨be, oe, rfl, hce, hbe, hrece⟩ := RE.out.at (by omega)
          obtain ⟨cse, hcse, hPE, hcle⟩ := hrece j hlt2
          obtain ⟨xs, rfl, hst⟩ := hPE
          have c0 := cell_later HK.out.below (hcle 0 (by omega))
          have c1 := cell_later HK.out.below (hcle 1 (by omega))
          have c2 := cell_later HK.out.below (hcle 2 (by omega))
          have c3 := cell_later HK.out.below (hcle 3 (by omega))
          have c4 := cell_later HK.out.below (hcle 4 (by omega))
          simp at c0 c1 c2 c3 c4
          have hcei : (E : Int) ≤ ec := by have := HE.out; omega
          obtain ⟨sa, sc, hxs⟩ := Ints.slice hst
          subst hxs
          have hS := OK.out.src _ (List.getElem_mem hlt2)
          have hD := OK.out.dst _ (List.getElem_mem hlt2)
          have e1 : eSrc g j = some (g.edges[j].src, g.edges[j].sport) := by unfold eSrc; rw [List.getElem?_eq_getElem hlt2]
          have e2 : eDst g j = some (g.edges[j].dst, g.edges[j].dport) := by unfold eDst; rw [List.getElem?_eq_getElem hlt2]
          clear hcle hcse hrece hst
          generalize g.edges[j] = p at *
          obtain ⟨s1, h1⟩ : ∃ k : Nat, p.src = k := ⟨p.src.toNat, by have := hS.1; omega⟩
          obtain ⟨s2, h2⟩ : ∃ k : Nat, p.sport = k := ⟨p.sport.toNat, by have := hS.2.2.1; omega⟩
          obtain ⟨d1, h3⟩ : ∃ k : Nat, p.dst = k := ⟨p.dst.toNat, by have := hD.1; omega⟩
          obtain ⟨d2, h4⟩ : ∃ k : Nat, p.dport = k := ⟨p.dport.toNat, by have := hD.2.2.1; omega⟩
          rw [h1] at c0 e1 hS
          rw [h2] at c1 e1 hS
          rw [h3] at c2 e2 hD
          rw [h4] at c3 e2 hD
          have hs1 : s1 < n := by have := hS.2.1; have := HN.out; omega
          have hd1 : d1 < n := by have := hD.2.1; have := HN.out; omega
          have hs2 : s2 < (rowM (putAll (eSrc g) 6 (matO0 g) j) s1).length := by
            rw [putAll_row, matO0_row g (by rw [HN.out]; exact hs1)]
            have := hS.2.2.2
            rw [Int.toNat_natCast] at this
            omega
          have hd2 : d2 < (rowM (putAll (eDst g) 3 (matI0 g) j) d1).length := by
            rw [putAll_row, matI0_row g (by rw [HN.out]; exact hd1)]
            have := hD.2.2.2
            rw [Int.toNat_natCast] at this
            omega
          have E1 := Lib.hid (putAll_succ (kd := 6) (m := matO0 g) e1)
          have E2 := Lib.hid (putAll_succ (kd := 3) (m := matI0 g) e2)
          clear hS hD e1 e2 h1 h2 h3 h4
          have hbX := below_alloc wr (.cells #[.int .i64 s1, .int .i64 s2, .int .i64 d1, .int .i64 d2, .slice sa p.start.length sc] 63)
          have hX := heap_alloc_new wr (.cells #[.int .i64 s1, .int .i64 s2, .int .i64 d1, .int .i64 d2, .slice sa p.start.length sc] 63)
          have hX : Blk _ (ext q wr.heap.size 5) 5 _ _ _ := ⟨hX, ext_new (Nat.le_refl _)⟩
          have TX := Turn.of_below q 5 hbX
          have HK2 := Lib.hid (HK.out.turn TX (fun h => h))
          have HG2 := Lib.hid (HG.out.turn TX (fun h => h))
          have HT2 := Lib.hid (HT.out.turn TX (fun _ _ h => h))
          have HX2 := Lib.hid hX
          have x0 := hX.cell 0 _ rfl
          have x1 := hX.cell 1 _ rfl
          clear hbX hX TX HK HG HT
          go_wp2_with fail
          obtain ⟨G, LL, cp, y1, hkk, hcp, hcall⟩ := on_O HT2.out (a := s1) (k := s2) (by rw [putAll_len, matO0_len, HN.out]; exact hs1) hs2
          have hkki : (s2 : Int) < LL := by omega
          have hcpi : (LL : Int) ≤ cp := by omega
          have hai : (s1 : Int) < n := by omega
          refine wp_region_lex (fun w' => w'.cell? ⟨wr.heap.size, 0, none⟩ = some (.int .i64 s1) ∧ w'.cell? ⟨wr.heap.size, 1, none⟩ = some (.int .i64 s2) ∧ w'.cell? ⟨gO, s1, none⟩ = some (.slice (some ⟨G, 0, none⟩) LL cp)) [0, 1, 2, 3, 4, 5, 6, 7, 8, 9] [10] (by kernel_rfl) (by kernel_rfl) rfl (fun _ _ hx h => ⟨hx.cell h.1, hx.cell h.2.1, hx.cell h.2.2⟩) ⟨x0, x1, y1⟩ ?_
          intro Q' hQ'
          simp only [pickOps, List.flatMap_cons, List.flatMap_nil, List.drop_succ_cons, List.drop_zero, List.take_succ_cons, List.take_zero, List.cons_append, List.nil_append, List.append_nil]
          repeat (first
            | (refine wpReads_skip (by rfl) ?_; (try simp only [Act.put, List.setIfInBounds_toArray, List.set_cons_zero, List.set_cons_succ]))
            | (refine wpReads_cons ?_ (by rfl) (by rfl) ?_ ?_; rotate_left; (intro wz hz; (try dsimp only at hz); go_simp; try with_reducible rfl); (try simp only [Act.put, List.setIfInBounds_toArray, List.set_cons_zero, List.set_cons_succ]))
            | (refine wpReads_any ?_ (by rfl) ?_ ?_; rotate_left; (intro wz; go_simp; try with_reducible rfl); (try simp only [Act.put, List.setIfInBounds_toArray, List.set_cons_zero, List.set_cons_succ])))
          refine wpReads_nil ?_
          go_wp2_with fail
          refine (hcall 6 j).mono ?_
          rintro e w5 ⟨rfl, T5, D5⟩
          have T6 := ((Turn.of_quiet (ext q wr.heap.size 5) ⟨1, rfl⟩).mono (D := ColM) (fun _ h => h.elim)).trans T5 (fun _ h => h)
          have HK5 := Lib.hid (HK2.out.turn T6 (by unfold ColM; omega))
          have HG5 := Lib.hid (HG2.out.turn T6 (by unfold ColM; omega))
          have HX5 := Lib.hid (HX2.out.turn T6 (by unfold ColM; omega))
          have HT5 := Lib.hid D5
          have x2 := HX5.out.cell 2 _ rfl
          have x3 := HX5.out.cell 3 _ rfl
          clear T5 D5 T6 HK2 HG2 HX2 HT2 x0 x1 y1 hcall hkk hkki hcp hcpi
          generalize ext q wr.heap.size 5 = q5 at *
          go_wp2_with fail
          obtain ⟨G, LL, cp, y1, hkk, hcp, hcall⟩ := on_I HT5.out (a := d1) (k := d2) (by rw [putAll_len, matI0_len, HN.out]; exact hd1) hd2
          have hkki : (d2 : Int) < LL := by omega
          have hcpi : (LL : Int) ≤ cp := by omega
          have hai : (d1 : Int) < n := by omega
          refine wp_region_lex (fun w' => w'.cell? ⟨wr.heap.size, 2, none⟩ = some (.int .i64 d1) ∧ w'.cell? ⟨wr.heap.size, 3, none⟩ = some (.int .i64 d2) ∧ w'.cell? ⟨gI, d1, none⟩ = some (.slice (some ⟨G, 0, none⟩) LL cp)) [0, 1, 2, 3, 4, 5, 6, 7, 8, 9] [10] (by kernel_rfl) (by kernel_rfl) rfl (fun _ _ hx h => ⟨hx.cell h.1, hx.cell h.2.1, hx.cell h.2.2⟩) ⟨x2, x3, y1⟩ ?_
          intro Q' hQ'
          simp only [pickOps, List.flatMap_cons, List.flatMap_nil, List.drop_succ_cons, List.drop_zero, List.take_succ_cons, List.take_zero, List.cons_append, List.nil_append, List.append_nil]
          repeat (first
            | (refine wpReads_skip (by rfl) ?_; (try simp only [Act.put, List.setIfInBounds_toArray, List.set_cons_zero, List.set_cons_succ]))
            | (refine wpReads_cons ?_ (by rfl) (by rfl) ?_ ?_; rotate_left; (intro wz hz; (try dsimp only at hz); go_simp; try with_reducible rfl); (try simp only [Act.put, List.setIfInBounds_toArray, List.set_cons_zero, List.set_cons_succ]))
            | (refine wpReads_any ?_ (by rfl) ?_ ?_; rotate_left; (intro wz; go_simp; try with_reducible rfl); (try simp only [Act.put, List.setIfInBounds_toArray, List.set_cons_zero, List.set_cons_succ])))
          refine wpReads_nil ?_
          go_wp2_with fail
          refine (hcall 3 j).mono ?_
          rintro e w5 ⟨rfl, T5, D5⟩
          have T6 := ((Turn.of_quiet q5 ⟨1, rfl⟩).mono (D := ColM) (fun _ h => h.elim)).trans T5 (fun _ h => h)
          have HK7 := Lib.hid (HK5.out.turn T6 (by unfold ColM; omega))
          have HG7 := Lib.hid (HG5.out.turn T6 (by unfold ColM; omega))
          have HT7 : Hid (TwoM w5 q5 (.slice (some ⟨gI, 0, none⟩) n n) (.slice (some ⟨gO, 0, none⟩) n n) (putAll (eDst g) 3 (matI0 g) (j + 1)) (putAll (eSrc g) 6 (matO0 g) (j + 1))) := Lib.hid (by rw [E1.out, E2.out, Int.toNat_natCast, Int.toNat_natCast, Int.toNat_natCast, Int.toNat_natCast]; exact D5)
          clear T5 D5 T6 HK5 HG5 HX5 HT5 x2 x3 y1 hcall hkk hkki hcp hcpi
          go_wp2
          go_roundw
          case rel => exact ⟨j + 1, q5, hlt, by go_num, HK7.out, HG7.out, HT7.out⟩
          case measure => simp [intOf]; omega
        · obtain rfl : E = j := by omega
          clear hj hlt
          have y5 := HG.out.cell 3 _ rfl
          have HT3 : Hid (TwoM wr q (.slice (some ⟨gI, 0, none⟩) n n) (.slice (some ⟨gO, 0, none⟩) n n) (putAll (pAt g.ins) 4 (matI1 g) 0) (matO1 g)) := Lib.hid (by rw [putAll, matI1, matO1, HE.out]; exact HT.out)
          clear HT
          go_wp2_with fail
          clear y5
          obtain ⟨I, hI⟩ : ∃ x, g.ins.length = x := ⟨_, rfl⟩
          have HI := Lib.hid hI
          rw [hI] at HG ⊢
          clear hI
          have hIb : I ≤ 16 := by rw [← HI.out]; exact OK.out.ins
          go_loopw [126] (fun i wl => ∃ (j : Nat) (q : Col), j ≤ I ∧ i = .int .i64 j ∧ Kept w.heap.size q w wl ∧ Blk wl q 5 w.heap.size 26 #[.string g.name, .slice aa n ac, .slice ae E ec, .slice ai I ic, .slice ao g.outs.length oc] ∧ TwoM wl q (.slice (some ⟨gI, 0, none⟩) n n) (.slice (some ⟨gO, 0, none⟩) n n) (putAll (pAt g.ins) 4 (matI1 g) j) (matO1 g)) (fun i _ => I - (intOf i).toNat)
          case atStart => exact ⟨0, q, Nat.zero_le _, rfl, HK.out, HG.out, HT3.out⟩
          case round =>
            clear HK HG HT3
            obtain ⟨j, q, hj, rfl, hK, hGr, hT⟩ := hrel
            have HK := Lib.hid hK
            have HG := Lib.hid hGr
            have HT := Lib.hid hT
            clear hK hGr hT
            by_cases hlt : j < I
            · have hlti : (j : Int) < I := by omega
              have hlt2 : j < g.ins.length := by rw [HI.out]; exact hlt
              obtain ⟨be, oe, rfl, hce, hbe, hrece⟩ := RI.out.at (by omega)
              obtain ⟨cse, hcse, hPE, hcle⟩ := hrece j hlt2
              obtain rfl := hPE
              have c0 := cell_later HK.out.below (hcle 0 (by omega))
              have c1 := cell_later HK.out.below (hcle 1 (by omega))
              have c2 := cell_later HK.out.below (hcle 2 (by omega))
              simp at c0 c1 c2
              have hcei : (I : Int) ≤ ic := by have := HI.out; omega
              have hS := OK.out.pin _ (List.getElem_mem hlt2)
              have e1 : pAt g.ins j = some (g.ins[j].actor, g.ins[j].port) := by unfold pAt; rw [List.getElem?_eq_getElem hlt2]
              clear hcle hcse hrece
              generalize g.ins[j] = p at *
              obtain ⟨s1, h1⟩ : ∃ k : Nat, p.actor = k := ⟨p.actor.toNat, by have := hS.1; omega⟩
              obtain ⟨s2, h2⟩ : ∃ k : Nat, p.port = k := ⟨p.port.toNat, by have := hS.2.2.1; omega⟩
              rw [h1] at c1 e1 hS
              rw [h2] at c2 e1 hS
              have hs1 : s1 < n := by have := hS.2.1; have := HN.out; omega
              have hs2 : s2 < (rowM (putAll (pAt g.ins) 4 (matI1 g) j) s1).length := by
                rw [putAll_row, matI1_row g (by rw [HN.out]; exact hs1)]
                have := hS.2.2.2
                rw [Int.toNat_natCast] at this
                omega
              have E1 := Lib.hid (putAll_succ (kd := 4) (m := matI1 g) e1)
              clear hS e1 h1 h2
              have hbX := below_alloc wr (.cells #[.string p.name, .int .i64 s1, .int .i64 s2] 65)
              have hX := heap_alloc_new wr (.cells #[.string p.name, .int .i64 s1, .int .i64 s2] 65)
              have hX : Blk _ (ext q wr.heap.size 5) 5 _ _ _ := ⟨hX, ext_new (Nat.le_refl _)⟩
              have TX := Turn.of_below q 5 hbX
              have HK2 := Lib.hid (HK.out.turn TX (fun h => h))
              have HG2 := Lib.hid (HG.out.turn TX (fun h => h))
              have HT2 := Lib.hid (HT.out.turn TX (fun _ _ h => h))
              have x1 := hX.cell 1 _ rfl
              have x2 := hX.cell 2 _ rfl
              clear hbX hX TX HK HG HT
              go_wp2_with fail
              obtain ⟨G, LL, cp, y1, hkk, hcp, hcall⟩ := on_I HT2.out (a := s1) (k := s2) (by rw [putAll_len, matI1_len, HN.out]; exact hs1) hs2
              have hkki : (s2 : Int) < LL := by omega
              have hcpi : (LL : Int) ≤ cp := by omega
              have hai : (s1 : Int) < n := by omega
              refine wp_region_lex (fun w' => w'.cell? ⟨wr.heap.size, 1, none⟩ = some (.int .i64 s1) ∧ w'.cell? ⟨wr.heap.size, 2, none⟩ = some (.int .i64 s2) ∧ w'.cell? ⟨gI, s1, none⟩ = some (.slice (some ⟨G, 0, none⟩) LL cp)) [0, 1, 2, 3, 4, 5, 6, 7, 8, 9] [10] (by kernel_rfl) (by kernel_rfl) rfl (fun _ _ hx h => ⟨hx.cell h.1, hx.cell h.2.1, hx.cell h.2.2⟩) ⟨x1, x2, y1⟩ ?_
              intro Q' hQ'
              simp only [pickOps, List.flatMap_cons, List.flatMap_nil, List.drop_succ_cons, List.drop_zero, List.take_succ_cons, List.take_zero, List.cons_append, List.nil_append, List.append_nil]
              repeat (first
                | (refine wpReads_skip (by rfl) ?_; (try simp only [Act.put, List.setIfInBounds_toArray, List.set_cons_zero, List.set_cons_succ]))
                | (refine wpReads_cons ?_ (by rfl) (by rfl) ?_ ?_; rotate_left; (intro wz hz; (try dsimp only at hz); go_simp; try with_reducible rfl); (try simp only [Act.put, List.setIfInBounds_toArray, List.set_cons_zero, List.set_cons_succ]))
                | (refine wpReads_any ?_ (by rfl) ?_ ?_; rotate_left; (intro wz; go_simp; try with_reducible rfl); (try simp only [Act.put, List.setIfInBounds_toArray, List.set_cons_zero, List.set_cons_succ])))
              refine wpReads_nil ?_
              go_wp2_with fail
              refine (hcall 4 j).mono ?_
              rintro e w5 ⟨rfl, T5, D5⟩
              have T6 := ((Turn.of_quiet (ext q wr.heap.size 5) ⟨1, rfl⟩).mono (D := ColM) (fun _ h => h.elim)).trans T5 (fun _ h => h)
              have HK5 := Lib.hid (HK2.out.turn T6 (by unfold ColM; omega))
              have HG5 := Lib.hid (HG2.out.turn T6 (by unfold ColM; omega))
              have HT5 : Hid (TwoM w5 (ext q wr.heap.size 5) (.slice (some ⟨gI, 0, none⟩) n n) (.slice (some ⟨gO, 0, none⟩) n n) (putAll (pAt g.ins) 4 (matI1 g) (j + 1)) (matO1 g)) := Lib.hid (by rw [E1.out, Int.toNat_natCast, Int.toNat_natCast]; exact D5)
              clear T5 D5 T6 HK2 HG2 HT2 x1 x2 y1 hcall hkk hkki hcp hcpi
              go_wp2
              go_roundw
              case rel => exact ⟨j + 1, _, hlt, by go_num, HK5.out, HG5.out, HT5.out⟩
              case measure => simp [intOf]; omega
            · obtain rfl : I = j := by omega
              clear hj hlt
              have y5 := HG.out.cell 4 _ rfl
              have HT3 : Hid (TwoM wr q (.slice (some ⟨gI, 0, none⟩) n n) (.slice (some ⟨gO, 0, none⟩) n n) (matI2 g) (putAll (pAt g.outs) 7 (matO1 g) 0)) := Lib.hid (by rw [putAll, matI2, HI.out]; exact HT.out)
              clear HT
              go_wp2_with fail
              clear y5
              obtain ⟨U, hU⟩ : ∃ x, g.outs.length = x := ⟨_, rfl⟩
              have HU := Lib.hid hU
              rw [hU] at HG ⊢
              clear hU
              have hUb : U ≤ 16 := by rw [← HU.out]; exact OK.out.outs
              go_loopw [146] (fun i wl => ∃ (j : Nat) (q : Col), j ≤ U ∧ i = .int .i64 j ∧ Kept w.heap.size q w wl ∧ Blk wl q 5 w.heap.size 26 #[.string g.name, .slice aa n ac, .slice ae E ec, .slice ai I ic, .slice ao U oc] ∧ TwoM wl q (.slice (some ⟨gI, 0, none⟩) n n) (.slice (some ⟨gO, 0, none⟩) n n) (matI2 g) (putAll (pAt g.outs) 7 (matO1 g) j)) (fun i _ => U - (intOf i).toNat)
              case atStart => exact ⟨0, q, Nat.zero_le _, rfl, HK.out, HG.out, HT3.out⟩
              case round =>
                clear HK HG HT3
                obtain ⟨j, q, hj, rfl, hK, hGr, hT⟩ := hrel
                have HK := Lib.hid hK
                have HG := Lib.hid hGr
                have HT := Lib.hid hT
                clear hK hGr hT
                by_cases hlt : j < U
                · have hlti : (j : Int) < U := by omega
                  have hlt2 : j < g.outs.length := by rw [HU.out]; exact hlt
                  obtain ⟨be, oe, rfl, hce, hbe, hrece⟩ := RO.out.at (by omega)
                  obtain ⟨cse, hcse, hPE, hcle⟩ := hrece j hlt2
                  obtain rfl := hPE
                  have c0 := cell_later HK.out.below (hcle 0 (by omega))
                  have c1 := cell_later HK.out.below (hcle 1 (by omega))
                  have c2 := cell_later HK.out.below (hcle 2 (by omega))
                  simp at c0 c1 c2
                  have hcei : (U : Int) ≤ oc := by have := HU.out; omega
                  have hS := OK.out.pout _ (List.getElem_mem hlt2)
                  have e1 : pAt g.outs j = some (g.outs[j].actor, g.outs[j].port) := by unfold pAt; rw [List.getElem?_eq_getElem hlt2]
                  clear hcle hcse hrece
                  generalize g.outs[j] = p at *
                  obtain ⟨s1, h1⟩ : ∃ k : Nat, p.actor = k := ⟨p.actor.toNat, by have := hS.1; omega⟩
                  obtain ⟨s2, h2⟩ : ∃ k : Nat, p.port = k := ⟨p.port.toNat, by have := hS.2.2.1; omega⟩
                  rw [h1] at c1 e1 hS
                  rw [h2] at c2 e1 hS
                  have hs1 : s1 < n := by have := hS.2.1; have := HN.out; omega
                  have hs2 : s2 < (rowM (putAll (pAt g.outs) 7 (matO1 g) j) s1).length := by
                    rw [putAll_row, matO1_row g (by rw [HN.out]; exact hs1)]
                    have := hS.2.2.2
                    rw [Int.toNat_natCast] at this
                    omega
                  have E1 := Lib.hid (putAll_succ (kd := 7) (m := matO1 g) e1)
                  clear hS e1 h1 h2
                  have hbX := below_alloc wr (.cells #[.string p.name, .int .i64 s1, .int .i64 s2] 65)
                  have hX := heap_alloc_new wr (.cells #[.string p.name, .int .i64 s1, .int .i64 s2] 65)
                  have hX : Blk _ (ext q wr.heap.size 5) 5 _ _ _ := ⟨hX, ext_new (Nat.le_refl _)⟩
                  have TX := Turn.of_below q 5 hbX
                  have HK2 := Lib.hid (HK.out.turn TX (fun h => h))
                  have HG2 := Lib.hid (HG.out.turn TX (fun h => h))
                  have HT2 := Lib.hid (HT.out.turn TX (fun _ _ h => h))
                  have x1 := hX.cell 1 _ rfl
                  have x2 := hX.cell 2 _ rfl
                  clear hbX hX TX HK HG HT
                  go_wp2_with fail
                  obtain ⟨G, LL, cp, y1, hkk, hcp, hcall⟩ := on_O HT2.out (a := s1) (k := s2) (by rw [putAll_len, matO1_len, HN.out]; exact hs1) hs2
                  have hkki : (s2 : Int) < LL := by omega
                  have hcpi : (LL : Int) ≤ cp := by omega
                  have hai : (s1 : Int) < n := by omega
                  refine wp_region_lex (fun w' => w'.cell? ⟨wr.heap.size, 1, none⟩ = some (.int .i64 s1) ∧ w'.cell? ⟨wr.heap.size, 2, none⟩ = some (.int .i64 s2) ∧ w'.cell? ⟨gO, s1, none⟩ = some (.slice (some ⟨G, 0, none⟩) LL cp)) [0, 1, 2, 3, 4, 5, 6, 7, 8, 9] [10] (by kernel_rfl) (by kernel_rfl) rfl (fun _ _ hx h => ⟨hx.cell h.1, hx.cell h.2.1, hx.cell h.2.2⟩) ⟨x1, x2, y1⟩ ?_
                  intro Q' hQ'
                  simp only [pickOps, List.flatMap_cons, List.flatMap_nil, List.drop_succ_cons, List.drop_zero, List.take_succ_cons, List.take_zero, List.cons_append, List.nil_append, List.append_nil]
                  repeat (first
                    | (refine wpReads_skip (by rfl) ?_; (try simp only [Act.put, List.setIfInBounds_toArray, List.set_cons_zero, List.set_cons_succ]))
                    | (refine wpReads_cons ?_ (by rfl) (by rfl) ?_ ?_; rotate_left; (intro wz hz; (try dsimp only at hz); go_simp; try with_reducible rfl); (try simp only [Act.put, List.setIfInBounds_toArray, List.set_cons_zero, List.set_cons_succ]))
                    | (refine wpReads_any ?_ (by rfl) ?_ ?_; rotate_left; (intro wz; go_simp; try with_reducible rfl); (try simp only [Act.put, List.setIfInBounds_toArray, List.set_cons_zero, List.set_cons_succ])))
                  refine wpReads_nil ?_
                  go_wp2_with fail
                  refine (hcall 7 j).mono ?_
                  rintro e w5 ⟨rfl, T5, D5⟩
                  have T6 := ((Turn.of_quiet (ext q wr.heap.size 5) ⟨1, rfl⟩).mono (D := ColM) (fun _ h => h.elim)).trans T5 (fun _ h => h)
                  have HK5 := Lib.hid (HK2.out.turn T6 (by unfold ColM; omega))
                  have HG5 := Lib.hid (HG2.out.turn T6 (by unfold ColM; omega))
                  have HT5 : Hid (TwoM w5 (ext q wr.heap.size 5) (.slice (some ⟨gI, 0, none⟩) n n) (.slice (some ⟨gO, 0, none⟩) n n) (matI2 g) (putAll (pAt g.outs) 7 (matO1 g) (j + 1))) := Lib.hid (by rw [E1.out, Int.toNat_natCast, Int.toNat_natCast]; exact D5)
                  clear T5 D5 T6 HK2 HG2 HT2 x1 x2 y1 hcall hkk hkki hcp hcpi
                  go_wp2
                  go_roundw
                  case rel => exact ⟨j + 1, _, hlt, by go_num, HK5.out, HG5.out, HT5.out⟩
                  case measure => simp [intOf]; omega
                · obtain rfl : U = j := by omega
                  clear hj hlt
                  have y5 := HG.out.cell 1 _ rfl
                  have HT3 : Hid (TwoM wr q (.slice (some ⟨gI, 0, none⟩) n n) (.slice (some ⟨gO, 0, none⟩) n n) (finM (matI2 g) (matO2 g) 0) (matO2 g)) := Lib.hid (by rw [finM, matO2, HU.out]; exact HT.out)
                  clear HT
                  go_wp2_with fail
                  clear y5
                  go_loopw [166] (fun i wl => ∃ (j : Nat) (q : Col), j ≤ n ∧ i = .int .i64 j ∧ Kept w.heap.size q w wl ∧ TwoM wl q (.slice (some ⟨gI, 0, none⟩) n n) (.slice (some ⟨gO, 0, none⟩) n n) (finM (matI2 g) (matO2 g) j) (matO2 g)) (fun i _ => n - (intOf i).toNat)
                  case atStart => exact ⟨0, q, Nat.zero_le _, rfl, HK.out, HT3.out⟩
                  case round =>
                    clear HK HG HT3
                    obtain ⟨j, q, hj, rfl, hK, hT⟩ := hrel
                    have HK := Lib.hid hK
                    have HT := Lib.hid hT
                    clear hK hT
                    by_cases hlt : j < n
                    · have hlti : (j : Int) < n := by omega
                      have hjn : j < g.actors.length := by rw [HN.out]; exact hlt
                      have hjI : j < (finM (matI2 g) (matO2 g) j).length := by rw [finM_len, matI2_len]; exact hjn
                      have hjO : j < (matO2 g).length := by rw [matO2_len]; exact hjn
                      have er : (finM (matI2 g) (matO2 g) j)[j]?.getD [] = rowM (matI2 g) j := by
                        have := finM_row (matI2 g) (matO2 g) j (by rw [matI2_len]; exact hjn) j
                        rw [if_neg (by omega)] at this
                        exact this
                      have hlI : (rowM (matI2 g) j).length ≤ 16 := by rw [matI2_row g hjn]; exact insF_len OK.out j
                      have hlO : (rowM (matO2 g) j).length ≤ 16 := by rw [matO2_row g hjn]; exact outsF_len OK.out j
                      have EF : Hid (finM (matI2 g) (matO2 g) (j + 1) = (finM (matI2 g) (matO2 g) j).set j (rowM (matI2 g) j ++ [⟨5, j, 0⟩] ++ rowM (matO2 g) j)) := Lib.hid rfl
                      have ER := Lib.hid er
                      obtain ⟨vsI, vsO, hI, hO⟩ := HT.out
                      obtain ⟨-, -, gg, eg, r1, f1⟩ := hI.row hjI
                      cases eg
                      have hown := (hI.rows j hjI).1
                      rw [er] at hown
                      obtain ⟨sa, sc, hr⟩ := owns_slice hown
                      rw [hr] at r1 hown
                      have HR := Lib.hid hr
                      have HM := Lib.hid hI
                      have HO := Lib.hid hO
                      have HW := Lib.hid hown
                      obtain ⟨LI, hLI⟩ : ∃ x, rowM (matI2 g) j = x := ⟨_, rfl⟩
                      obtain ⟨LO, hLO⟩ : ∃ x, rowM (matO2 g) j = x := ⟨_, rfl⟩
                      rw [hLI] at hlI ER EF HR HW r1
                      rw [hLO] at hlO EF
                      have HLO := Lib.hid hLO
                      obtain ⟨i0, hi, hz0, hz1, hz2⟩ := info_parts info_Op
                      clear hI hO hr hown er hLI hLO HT
                      go_wp2_with (at_builtin; refine stop_here ?_)
                      refine go_on ?_
                      refine wpList_app rfl _ _ 37 rfl 0 61 i0 _ 3 24 Try.underlying37 hi hz0 hz1 hz2 rfl (.slice sa LI.length sc) LI.length _ rfl (HW.out.alloc (.cells #[.int .u8 5, .int .i64 j, .int .i64 0] 61)) (some ⟨wr.heap.size, 0, none⟩) 1 1 [.int .u8 5, .int .i64 j, .int .i64 0] rfl rfl (fun h => by cases h) (news_alloc wr [.int .u8 5, .int .i64 j, .int .i64 0] 61) (by simp [Value.oneCell']) (by unfold maxLen; omega) (grow_ok (by omega)) (Nat.zero_le _) ?_
                      intro v5 w5 k1 k20 _ k4
                      have hm : Mods (fun b => (vsI[j]?.getD undef).ownBlock = some b) wr w5 := by rw [HR.out]; exact ((Mods.refl _ wr).alloc _).grown k20 (fun b hb _ => hb)
                      obtain ⟨⟨x1, x2, x3, z0⟩, zf, T5, N5⟩ := HM.out.grow (news := [⟨5, j, 0⟩]) (v' := v5) (w2 := w5) (by decide) hjI ER.out k1 hm (by rw [HR.out]; exact k4.imp id (fun k4 b hb => by rw [k4] at hb; have := Option.some.inj hb; simp at this; omega))
                      obtain ⟨s5, c5, rfl⟩ := owns_slice k1
                      have HT5 := Lib.hid T5
                      have HM5 := Lib.hid N5
                      have HO5 := Lib.hid (HO.out.turn T5 (by decide) (by decide))
                      have HK5 := Lib.hid (HK.out.turn T5 (by decide))
                      clear T5 N5 k1 k20 k4 hm r1 f1 HK HM HO HR HW
                      go_wp2_with fail
                      clear z0 zf
                      obtain ⟨o5, ho5⟩ : ∃ x, ext q wr.heap.size 2 = x := ⟨_, rfl⟩
                      rw [ho5] at HM5 HO5 HK5 HT5
                      obtain ⟨w6, hw6⟩ : ∃ x, w5.setCell ⟨gI, j, none⟩ (Value.slice s5 (LI.length + 1) c5) = x := ⟨_, rfl⟩
                      rw [hw6] at HM5 HO5 HK5 HT5 ⊢
                      clear ho5 hw6
                      have hjI5 : j < ((finM (matI2 g) (matO2 g) j).set j (LI ++ [⟨5, j, 0⟩])).length := by rw [List.length_set]; exact hjI
                      have er5 : ((finM (matI2 g) (matO2 g) j).set j (LI ++ [⟨5, j, 0⟩]))[j]?.getD [] = LI ++ [⟨5, j, 0⟩] := by rw [List.getElem?_set_self hjI]; rfl
                      have hvs : (vsI.set j (Value.slice s5 (LI.length + 1) c5))[j]?.getD undef = Value.slice s5 (LI.length + 1) c5 := by
                        have := HM5.out.len
                        rw [List.length_set, List.length_set] at this
                        rw [List.getElem?_set_self (by omega)]; rfl
                      have hM6 := HM5.out.turn (Turn.of_quiet o5 (w' := w6.drew) ⟨1, rfl⟩) (fun h => h) (fun h => h)
                      have hO6 := HO5.out.turn (Turn.of_quiet o5 (w' := w6.drew) ⟨1, rfl⟩) (fun h => h) (fun h => h)
                      obtain ⟨-, -, gg, eg, z1, -⟩ := HM5.out.row hjI5
                      cases eg
                      obtain ⟨-, -, gg, eg, z2, -⟩ := HO5.out.row hjO
                      cases eg
                      have hown := (hM6.rows j hjI5).1
                      rw [er5, hvs, List.length_append] at hown
                      rw [hvs] at z1
                      have hrow := Own.row (hO6.rows j hjO)
                      have erO : (matO2 g)[j]?.getD [] = LO := HLO.out
                      rw [erO] at hrow
                      obtain ⟨so, co, hso, hso0, -, hsc⟩ := hrow
                      rw [hso] at z2
                      have HW := Lib.hid hown
                      have HM6 := Lib.hid hM6
                      have HO6 := Lib.hid hO6
                      have ER5 := Lib.hid er5
                      have HVS := Lib.hid hvs
                      have HSC := Lib.hid hsc
                      have HS0 := Lib.hid hso0
                      clear hown hM6 hO6 er5 hvs hsc hso0 hso erO HM5 HO5
                      refine wp_region_lex (fun w' => w'.cell? ⟨gI, j, none⟩ = some (.slice s5 (LI.length + 1) c5) ∧ w'.cell? ⟨gO, j, none⟩ = some (.slice so LO.length co)) [0, 1, 2, 3, 4, 5, 6, 7, 8, 9] [10, 11, 12] (by kernel_rfl) (by kernel_rfl) rfl (fun _ _ hx h => ⟨hx.cell h.1, hx.cell h.2⟩) ⟨z1, z2⟩ ?_
                      intro Q' hQ'
                      simp only [pickOps, List.flatMap_cons, List.flatMap_nil, List.drop_succ_cons, List.drop_zero, List.take_succ_cons, List.take_zero, List.cons_append, List.nil_append, List.append_nil]
                      repeat (first
                        | (refine wpReads_skip (by rfl) ?_; (try simp only [Act.put, List.setIfInBounds_toArray, List.set_cons_zero, List.set_cons_succ]))
                        | (refine wpReads_cons ?_ (by rfl) (by rfl) ?_ ?_; rotate_left; (intro wz hz; (try dsimp only at hz); go_simp; try with_reducible rfl); (try simp only [Act.put, List.setIfInBounds_toArray, List.set_cons_zero, List.set_cons_succ]))
                        | (refine wpReads_any ?_ (by rfl) ?_ ?_; rotate_left; (intro wz; go_simp; try with_reducible rfl); (try simp only [Act.put, List.setIfInBounds_toArray, List.set_cons_zero, List.set_cons_succ])))
                      refine wpReads_nil ?_
                      go_wp2_with (at_builtin; refine stop_here ?_)
                      refine go_on ?_
                      refine wpList_app rfl _ _ 37 rfl 0 61 i0 _ 3 24 Try.underlying37 hi hz0 hz1 hz2 rfl (.slice s5 (LI.length + 1) c5) (LI.length + 1) _ rfl HW.out so LO.length co (opsV LO) rfl (opsV_len LO) HS0.out HSC.out (opsV_one LO) (by unfold maxLen; omega) (grow_ok (by omega)) (Nat.zero_le _) ?_
                      intro v7 w7 k1 k20 _ k4
                      have hm : Mods (fun b => ((vsI.set j (Value.slice s5 (LI.length + 1) c5))[j]?.getD undef).ownBlock = some b) w6.drew w7 := by rw [HVS.out]; exact (Mods.refl _ w6.drew).grown k20 (fun b hb _ => hb)
                      obtain ⟨⟨x1, x2, x3, z0⟩, zf, T5, N5⟩ := HM6.out.grow (news := LO) (v' := v7) (w2 := w7) (by decide) hjI5 ER5.out (by rw [List.length_append]; exact k1) hm (by rw [HVS.out]; exact k4.imp id (fun k4 b hb => by rw [k4] at hb; have := Option.some.inj hb; omega))
                      obtain ⟨s7, c7, rfl⟩ := owns_slice k1
                      have HO7 := Lib.hid (HO6.out.turn T5 (by decide) (by decide))
                      have HK7 := Lib.hid ((HK5.out.turn (Turn.of_quiet o5 (w' := w6.drew) ⟨1, rfl⟩) (fun h => h)).turn T5 (by decide))
                      rw [List.set_set, ← EF.out] at N5
                      have HT7 : Hid (TwoM _ _ (.slice (some ⟨gI, 0, none⟩) n n) (.slice (some ⟨gO, 0, none⟩) n n) (finM (matI2 g) (matO2 g) (j + 1)) (matO2 g)) := Lib.hid ⟨_, _, N5, HO7.out⟩
                      clear T5 N5 k1 k20 k4 hm z1 z2 HM6 HO6 HK5 HT5 HW HSC HS0 HVS ER5 EF HO7
                      go_wp2
                      go_roundw
                      case rel => exact ⟨j + 1, _, hlt, by go_num, HK7.out, HT7.out⟩
                      case measure => simp [intOf]; omega
                    · obtain rfl : n = j := by omega
                      obtain ⟨vsI, vsO, hI, hO⟩ := HT.out
                      have HM : Hid (OpM wr q 1 2 (.slice (some ⟨gI, 0, none⟩) n n) (firP g) vsI) := Lib.hid (by unfold firP; rw [HN.out]; exact hI)
                      clear hI hO
                      go_wp2
                      go_ret
                      exact ⟨_, _, _, rfl, HK.out, HM.out⟩
end Go.Proofs.Ytbmbfifempkhgaa

/- The maker's row. -/
namespace Go.Proofs.Ytbmbfifempkhgaa
open Go.RowKit

structure FOk (F : List (List GOp)) : Prop where
  rows : ∀ k, (rowM F k).length ≤ 33
  len : F.length ≤ 1000

/-- what row does -/
def ERowOk (F : List (List GOp)) (D : Nat) : Prop := ∀ (w0 w : World) (o : Col) (M : Nat) (vo v vf : Value) (l : Nest) (ops : List GOp) (op cnt : Nat), HasNestD D w0 v l → NSized l → LeafOk F.length l → HasM w0 vf F → Kept w0.heap.size o w0 w → MkAt w o M vo ops op cnt vf →
  ops.length + costN l ≤ 10000000 → op + depthN l ≤ 1000 → cnt ≤ 1000 → Calls Try.prog 44 #[.pointer (some ⟨M, 0, none⟩), v] w (MkRet (.tuple #[]) w o M (rowP F l op (ops, cnt)).1 op ((rowP F l op (ops, cnt)).2 : Nat) vf)

set_option maxRecDepth 100000 in
theorem erow_zero (F : List (List GOp)) : ERowOk F 0 := by
  intro w0 w o M vo v vf l ops op cnt hv hs hlo hf hk hm hl hd hc
  obtain ⟨rfl, ao, cap, rfl⟩ := hv
  have HM := Lib.hid hm
  clear hs hlo hf hk hm
  go_enter Try.func44, Try.ntmps44
  go_wp2_with fail
  go_loopw [9] (fun i wr => i = .int .i64 0 ∧ wr = w) (fun _ _ => 0)
  case atStart => exact ⟨rfl, rfl⟩
  case round =>
    obtain ⟨rfl, rfl⟩ := hrel
    go_wp2
    go_end0
    exact ⟨rfl, _, _, Turn.refl _ _ _, HM.out⟩


set_option maxRecDepth 100000 in
set_option maxHeartbeats 2000000 in
theorem erow_succ {F : List (List GOp)} (hF : FOk F) {D : Nat} (hrow : ERowOk F D) : ERowOk F (D + 1) := by
  intro w0 w o M vo v vf l ops op cnt hv hs hlo hf hk hm hl hd hc
  have hv' : Recs w0 3 (fun w x cs => ∃ y, cs = [.int .i64 x.1, .int .i64 x.2.1, y] ∧ HasNestD D w y x.2.2) v l.items := hv
  obtain ⟨ao, cap, rfl⟩ := hv'.slice
  obtain ⟨r, hr⟩ : ∃ r, rowP F l op (ops, cnt) = r := ⟨_, rfl⟩
  rw [hr]
  have HE := Lib.hid (show rowP F (l.drop 0) op (ops, cnt) = r by rw [drop_zero]; exact hr)
  have HV := Lib.hid hv'
  have HS := Lib.hid hs
  have HLO := Lib.hid hlo
  have HF := Lib.hid hF
  have HMF := Lib.hid hf
  have HL := Lib.hid (nsized_len hs)
  have HROW := Lib.hid hrow
  have HT0 := Lib.hid (Turn.refl o MkC w)
  have HK0 := Lib.hid hk
  have HM0 := Lib.hid hm
  have HC0 : Hid (ops.length + costN (l.drop 0) ≤ 10000000 ∧ op + depthN (l.drop 0) ≤ 1000) := Lib.hid (by rw [drop_zero]; exact ⟨hl, hd⟩)
  clear hv hv' hs hlo hf hk hm hrow hr hl hF
  obtain ⟨fa, fc, hvf⟩ := HMF.out.slice
  subst hvf
  go_enter Try.func44, Try.ntmps44
  go_wp2_with fail
  go_loopw [9] (fun i wr => ∃ (j : Nat) (q : Col) (vo' : Value) (s : List GOp × Nat), j ≤ l.items.length ∧ i = .int .i64 j ∧ Kept w0.heap.size q w0 wr ∧ Turn o q MkC w wr ∧ MkAt wr q M vo' s.1 op s.2 (.slice fa F.length fc) ∧ s.2 ≤ 1000 ∧ (s.1.length + costN (l.drop j) ≤ 10000000 ∧ op + depthN (l.drop j) ≤ 1000) ∧ rowP F (l.drop j) op s = r) (fun i _ => l.items.length - (intOf i).toNat)
  case atStart => exact ⟨0, o, _, (ops, cnt), Nat.zero_le _, rfl, HK0.out, HT0.out, HM0.out, hc, HC0.out, HE.out⟩
  case round =>
    clear HK0 HT0 HM0 HE HC0
    obtain ⟨j, q, vo', s, hj, rfl, hK, hT, hM, hsc, hC, hE⟩ := hrel
    have HK := Lib.hid hK
    have HT := Lib.hid hT
    have HM := Lib.hid hM
    have HE := Lib.hid hE
    have HC := Lib.hid hC
    clear hK hT hM hE hC
    by_cases hlt : j < l.items.length
    · have hlti : (j : Int) < l.items.length := by omega
      obtain ⟨b0, off, rfl, hcap, hb0, hrec⟩ := HV.out.at (by omega)
      obtain ⟨cs, hcs, hPR, hcl⟩ := hrec j hlt
      obtain ⟨y, rfl, hy⟩ := hPR
      have c0 := cell_later HK.out.below (hcl 0 (by omega))
      have c1 := cell_later HK.out.below (hcl 1 (by omega))
      have c2 := cell_later HK.out.below (hcl 2 (by omega))
      simp at c0 c1 c2
      have hcapi : (l.items.length : Int) ≤ cap := by omega
      have hEc := HE.out
      have hCc := HC.out
      have hLo := leafOk_drop l j HLO.out
      rw [drop_items l j hlt] at hLo hCc
      rw [drop_items l j hlt, rowP_cons] at hEc
      rw [costN, depthN] at hCc
      have HEC := Lib.hid hEc
      have HCC := Lib.hid hCc
      have HLJ := Lib.hid hLo
      have HY := Lib.hid hy
      have HSb := Lib.hid (nsized_at HS.out _ (List.getElem_mem hlt))
      obtain ⟨ya, yc, hys⟩ := nestD_slice D hy
      subst hys
      clear hcl hcs hrec hEc hCc hLo hy HE HC
      generalize (l.items[j]).1 = t at *
      generalize (l.items[j]).2.1 = nd at *
      generalize (l.items[j]).2.2 = b at *
      have hbX := below_alloc wr (.cells #[.int .i64 t, .int .i64 nd, .slice ya b.items.length yc] 51)
      have hX : Blk _ (ext q wr.heap.size 8) 8 _ _ _ := ⟨heap_alloc_new wr (.cells #[.int .i64 t, .int .i64 nd, .slice ya b.items.length yc] 51), ext_new (Nat.le_refl _)⟩
      have TX := Turn.of_below q 8 hbX
      have HK2 := Lib.hid (HK.out.turn TX (fun h => h))
      have HT2 := Lib.hid (HT.out.trans (TX.mono (D := MkC) (fun _ h => h.elim)) (fun _ h => h))
      have HM2 := Lib.hid (HM.out.turn TX (fun h => h) (fun h => h))
      have HX2 := Lib.hid hX
      have x0 := hX.cell 0 _ rfl
      have x2 := hX.cell 2 _ rfl
      have hnil := isNil_len b
      clear hbX hX TX HK HT HM
      generalize hm : b.items.length = m at *
      have HNL0 := Lib.hid hnil
      obtain ⟨X, hX⟩ : ∃ x, wr.heap.size = x := ⟨_, rfl⟩
      rw [hX] at HK2 HT2 HM2 HX2 x0 x2
      have HLn := Lib.hid (stepP_len HF.out.rows t nd b op s)
      have HCn := Lib.hid (stepP_cnt (F := F) t nd b op s)
      have hll := HL.out
      by_cases h1 : 1 < t
      · go_wp2_with fail
        refine wp_region_lex (fun w' => w'.cell? ⟨X, 0, none⟩ = some (.int .i64 t)) [0, 1, 2, 3, 4] [5, 6] (by kernel_rfl) (by kernel_rfl) rfl (fun _ _ hx h => hx.cell h) x0 ?_
        intro Q' hQ'
        simp only [pickOps, List.flatMap_cons, List.flatMap_nil, List.drop_succ_cons, List.drop_zero, List.take_succ_cons, List.take_zero, List.cons_append, List.nil_append, List.append_nil]
        repeat (first
          | (refine wpReads_skip (by rfl) ?_; (try simp only [Act.put, List.setIfInBounds_toArray, List.set_cons_zero, List.set_cons_succ]))
          | (refine wpReads_cons ?_ (by rfl) (by rfl) ?_ ?_; rotate_left; (intro wz hz; (try dsimp only at hz); go_simp; try with_reducible rfl); (try simp only [Act.put, List.setIfInBounds_toArray, List.set_cons_zero, List.set_cons_succ]))
          | (refine wpReads_any ?_ (by rfl) ?_ ?_; rotate_left; (intro wz; go_simp; try with_reducible rfl); (try simp only [Act.put, List.setIfInBounds_toArray, List.set_cons_zero, List.set_cons_succ])))
        refine wpReads_nil ?_
        go_wp2_with fail
        refine (head_any _ _ M vo' _ s.1 op s.2 t (HM2.out.drewN 1) (by have := HCC.out; omega) (by have := HCC.out; omega) (by omega)).mono ?_
        rintro e w5 ⟨rfl, q5, vo5, T5, M5⟩
        have T5' := ((Turn.of_quiet (ext q X 8) ⟨1, rfl⟩).mono (D := MkC) (fun _ h => h.elim)).trans T5 (fun _ h => h)
        have HK5 := Lib.hid (HK2.out.turn T5' (by unfold MkC; omega))
        have HT5 := Lib.hid (HT2.out.trans T5' (fun _ h => h))
        have HX5 := Lib.hid (HX2.out.turn T5' (by unfold MkC; omega))
        have HL5 : Hid ((openP op t s).1.length + 33 + costN b ≤ 10000000 ∧ op + 1 + depthN b ≤ 1000 ∧ (openP op t s).2 ≤ 1000) := Lib.hid (by have := HCC.out; simp only [openP, List.length_append, List.length_cons, List.length_nil]; omega)
        have HM5 : Hid (MkAt w5 q5 M vo5 (openP op t s).1 ((op + 1 : Nat) : Int) ((openP op t s).2 : Nat) (.slice fa F.length fc)) := Lib.hid M5
        have HSE : Hid (stepP F t nd b op s = closeP op (s.1.length + 1) (if b.isNil then leafP F nd (openP op t s) else rowP F b (op + 1) (openP op t s))) := Lib.hid (by rw [stepP, if_pos h1])
        clear T5 T5' M5 HK2 HT2 HM2 HX2 x0 x2
        generalize openP op t s = s5 at *
        have x2 := HX5.out.cell 2 _ rfl
        by_cases hz : m = 0
        · subst hz
          have HNL := Lib.hid (show b.isNil = true by rw [HNL0.out]; rfl)
          go_wp2_with fail
          obtain ⟨k, hk, hkl⟩ : ∃ k : Nat, nd = k ∧ k < F.length := ⟨nd.toNat, by have := HLJ.out.1 HNL.out; omega, by have := HLJ.out.1 HNL.out; omega⟩
          subst hk
          obtain ⟨fb, foff, rfl, hfc, hfb, hfrec⟩ := HMF.out.at (by omega)
          obtain ⟨cs, hcs, ⟨ry, rfl, hry⟩, hfcl⟩ := hfrec k hkl
          have z3 := cell_later HK5.out.below (hfcl 0 (by omega))
          simp at z3
          have hr5 := hry.below (w' := w5.drew) (HK5.out.turn (Turn.of_quiet q5 ⟨1, rfl⟩) (fun h => h)).below
          obtain ⟨ra, rc, hre, hr0, -, hrc⟩ := hr5
          subst hre
          have HRW : Hid (rowM F k = F[k]) := Lib.hid (by unfold rowM; rw [List.getElem?_eq_getElem hkl]; rfl)
          have hr33 := HF.out.rows k
          rw [HRW.out] at hr33
          obtain ⟨R, hR⟩ : ∃ x, F[k] = x := ⟨_, rfl⟩
          rw [hR] at HRW z3 hr0 hrc hr33
          have HR0 := Lib.hid hr0
          have HRC := Lib.hid hrc
          have hki : (k : Int) < F.length := by omega
          have hfci : (F.length : Int) ≤ fc := by have := hfc; omega
          obtain ⟨sa, sc, rfl⟩ := HM5.out.own.slice
          have z0 := HM5.out.blk.cell 0 _ rfl
          have z4 := HM5.out.blk.cell 3 _ rfl
          have z1 := HX5.out.cell 1 _ rfl
          obtain ⟨i0, hi, hz0, hz1, hz2⟩ := info_parts info_Op
          have h5l := HL5.out
          clear hfrec hcs hfcl hry hr0 hrc hR hfb
          refine wp_region_lex (fun w' => w'.cell? ⟨M, 0, none⟩ = some (.slice sa s5.1.length sc) ∧ w'.cell? ⟨M, 3, none⟩ = some (.slice (some ⟨fb, foff, none⟩) F.length fc) ∧ w'.cell? ⟨X, 1, none⟩ = some (.int .i64 k) ∧ w'.cell? ⟨fb, foff + k, none⟩ = some (.slice ra R.length rc)) [0, 1, 2, 3, 4, 5, 6, 7, 8, 9, 10, 11, 12, 13] [14, 15, 16, 17, 18] (by kernel_rfl) (by kernel_rfl) rfl (fun _ _ hx h => ⟨hx.cell h.1, hx.cell h.2.1, hx.cell h.2.2.1, hx.cell h.2.2.2⟩) ⟨z0, z4, z1, z3⟩ ?_
          intro Q' hQ'
          simp only [pickOps, List.flatMap_cons, List.flatMap_nil, List.drop_succ_cons, List.drop_zero, List.take_succ_cons, List.take_zero, List.cons_append, List.nil_append, List.append_nil]
          repeat (first
            | (refine wpReads_skip (by rfl) ?_; (try simp only [Act.put, List.setIfInBounds_toArray, List.set_cons_zero, List.set_cons_succ]))
            | (refine wpReads_cons ?_ (by rfl) (by rfl) ?_ ?_; rotate_left; (intro wz hz; (try dsimp only at hz); go_simp; try with_reducible rfl); (try simp only [Act.put, List.setIfInBounds_toArray, List.set_cons_zero, List.set_cons_succ]))
            | (refine wpReads_any ?_ (by rfl) ?_ ?_; rotate_left; (intro wz; go_simp; try with_reducible rfl); (try simp only [Act.put, List.setIfInBounds_toArray, List.set_cons_zero, List.set_cons_succ])))
          refine wpReads_nil ?_
          go_wp2_with (at_builtin; refine stop_here ?_)
          refine go_on ?_
          refine wpList_app rfl _ _ 37 rfl 0 61 i0 _ 3 24 Try.underlying37 hi hz0 hz1 hz2 rfl (.slice sa s5.1.length sc) s5.1.length _ rfl (show w5.drew.ownsRow 0 61 3 (.slice sa s5.1.length sc) s5.1.length (opsV s5.1) from HM5.out.own.1) ra R.length rc (opsV R) rfl (opsV_len R) HR0.out HRC.out (opsV_one R) (by unfold maxLen; omega) (grow_ok (by omega)) (Nat.zero_le _) ?_
          intro v6 w6 k1 k20 _ k4
          have hm6 : Mods (fun b => (Value.slice sa s5.1.length sc).ownBlock = some b) w5 w6 := ((Mods.refl _ w5).drewN 1).grown k20 (fun b hb _ => hb)
          obtain ⟨y0, yf, T6, M6⟩ := HM5.out.grow (news := R) (v' := v6) (w2 := w6) k1 hm6 (k4.imp id (fun k4 b hb => by rw [k4] at hb; have := Option.some.inj hb; simp at this; omega))
          obtain ⟨s6a, c6a, rfl⟩ := owns_slice k1
          have HK6 := Lib.hid (HK5.out.turn T6 (by unfold MkC; omega))
          have HT6 := Lib.hid (HT5.out.trans T6 (fun _ h => h))
          have HM6 : Hid (MkAt _ _ M _ (leafP F k s5).1 ((op + 1 : Nat) : Int) ((leafP F k s5).2 : Nat) (.slice (some ⟨fb, foff, none⟩) F.length fc)) := Lib.hid (by unfold leafP; rw [Int.toNat_natCast, HRW.out]; exact M6)
          have HX6 := Lib.hid (HX5.out.turn T6 (by unfold MkC; omega))
          have HE6 : Hid (stepP F t k b op s = closeP op (s.1.length + 1) (leafP F k s5)) := Lib.hid (by rw [HSE.out, HNL.out]; rfl)
          clear T6 M6 HK5 HT5 HM5 HX5 hm6 k1 k20 k4 z0 z1 z3 z4
          generalize leafP F k s5 = s6 at *
          have w0' := HX6.out.cell 0 _ rfl
          go_wp2_with fail
          refine (back_any _ _ M _ _ s6.1 op s6.2 _ HM6.out (by have e1 := HLn.out; rw [HE6.out] at e1; have e2 := HCC.out; simp only [closeP, List.length_append, List.length_cons, List.length_nil] at e1; omega) (by have := HCC.out; omega)).mono ?_
          rintro e w7 ⟨rfl, q7, vo7, T7, M7⟩
          have HK7 := Lib.hid (HK6.out.turn T7 (by unfold MkC; omega))
          have HT7 := Lib.hid (HT6.out.trans T7 (fun _ h => h))
          have HM7 := Lib.hid M7
          clear T7 M7 HK6 HT6 HM6 HX6 w0'
          go_wp2
          go_roundw
          case rel => exact ⟨j + 1, _, _, stepP F t k b op s, hlt, by go_num, HK7.out, HT7.out, by rw [HE6.out]; exact HM7.out, by have := HCn.out; have := HCC.out; omega, by have := HLn.out; have := HCC.out; omega, HEC.out⟩
          case measure => simp [intOf]; omega
        · have hzi : (0 : Int) < m := by omega
          have HNL := Lib.hid (show b.isNil = false by rw [HNL0.out, decide_eq_false hz])
          go_wp2_with fail
          refine (HROW.out w0 _ q5 M _ _ _ b s5.1 (op + 1) s5.2 HY.out HSb.out HLJ.out.2.1 HMF.out HK5.out HM5.out (by have := HL5.out; omega) (by have := HL5.out; omega) (by have := HL5.out; omega)).mono ?_
          rintro e w6 ⟨rfl, q6, vo6, T6, M6⟩
          have HK6 := Lib.hid (HK5.out.turn T6 (by unfold MkC; omega))
          have HT6 := Lib.hid (HT5.out.trans T6 (fun _ h => h))
          have HM6 : Hid (MkAt w6 q6 M vo6 (rowP F b (op + 1) s5).1 ((op + 1 : Nat) : Int) ((rowP F b (op + 1) s5).2 : Nat) (.slice fa F.length fc)) := Lib.hid M6
          have HX6 := Lib.hid (HX5.out.turn T6 (by unfold MkC; omega))
          have HE6 : Hid (stepP F t nd b op s = closeP op (s.1.length + 1) (rowP F b (op + 1) s5)) := Lib.hid (by rw [HSE.out, HNL.out]; rfl)
          clear T6 M6 HK5 HT5 HM5 HX5
          generalize rowP F b (op + 1) s5 = s6 at *
          have w0' := HX6.out.cell 0 _ rfl
          go_wp2_with fail
          refine (back_any _ _ M _ _ s6.1 op s6.2 _ HM6.out (by have e1 := HLn.out; rw [HE6.out] at e1; have e2 := HCC.out; simp only [closeP, List.length_append, List.length_cons, List.length_nil] at e1; omega) (by have := HCC.out; omega)).mono ?_
          rintro e w7 ⟨rfl, q7, vo7, T7, M7⟩
          have HK7 := Lib.hid (HK6.out.turn T7 (by unfold MkC; omega))
          have HT7 := Lib.hid (HT6.out.trans T7 (fun _ h => h))
          have HM7 := Lib.hid M7
          clear T7 M7 HK6 HT6 HM6 HX6 w0'
          go_wp2
          go_roundw
          case rel => exact ⟨j + 1, _, _, stepP F t nd b op s, hlt, by go_num, HK7.out, HT7.out, by rw [HE6.out]; exact HM7.out, by have := HCn.out; have := HCC.out; omega, by have := HLn.out; have := HCC.out; omega, HEC.out⟩
          case measure => simp [intOf]; omega
      · have HSE0 : Hid (stepP F t nd b op s = id (if b.isNil then leafP F nd s else rowP F b op s)) := Lib.hid (by rw [stepP, if_neg h1]; rfl)
        have HL5 : Hid (s.1.length + 33 + costN b ≤ 10000000 ∧ op + depthN b ≤ 1000 ∧ s.2 ≤ 1000) := Lib.hid (by have := HCC.out; omega)
        by_cases hz : m = 0
        · subst hz
          have HNL := Lib.hid (show b.isNil = true by rw [HNL0.out]; rfl)
          go_wp2_with fail
          generalize wr.alloc (.cells #[.int .i64 t, .int .i64 nd, .slice ya 0 yc] 51) = w5 at *
          have HK5 := HK2
          have HT5 := HT2
          have HM5 := HM2
          have HX5 := HX2
          clear HK2 HT2 HM2 HX2
          generalize ext q X 8 = q5 at *
          obtain ⟨vo5, hvo5⟩ : ∃ x, vo' = x := ⟨_, rfl⟩
          subst hvo5
          obtain ⟨s5, hs5⟩ : ∃ x, x = s := ⟨_, rfl⟩
          have HSE : Hid (stepP F t nd b op s = id (if b.isNil then leafP F nd s5 else rowP F b op s5)) := by rw [hs5]; exact HSE0
          rw [← hs5] at HM5 HL5
          clear hs5
          obtain ⟨k, hk, hkl⟩ : ∃ k : Nat, nd = k ∧ k < F.length := ⟨nd.toNat, by have := HLJ.out.1 HNL.out; omega, by have := HLJ.out.1 HNL.out; omega⟩
          subst hk
          obtain ⟨fb, foff, rfl, hfc, hfb, hfrec⟩ := HMF.out.at (by omega)
          obtain ⟨cs, hcs, ⟨ry, rfl, hry⟩, hfcl⟩ := hfrec k hkl
          have z3 := cell_later HK5.out.below (hfcl 0 (by omega))
          simp at z3
          have hr5 := hry.below (w' := w5.drew) (HK5.out.turn (Turn.of_quiet q5 ⟨1, rfl⟩) (fun h => h)).below
          obtain ⟨ra, rc, hre, hr0, -, hrc⟩ := hr5
          subst hre
          have HRW : Hid (rowM F k = F[k]) := Lib.hid (by unfold rowM; rw [List.getElem?_eq_getElem hkl]; rfl)
          have hr33 := HF.out.rows k
          rw [HRW.out] at hr33
          obtain ⟨R, hR⟩ : ∃ x, F[k] = x := ⟨_, rfl⟩
          rw [hR] at HRW z3 hr0 hrc hr33
          have HR0 := Lib.hid hr0
          have HRC := Lib.hid hrc
          have hki : (k : Int) < F.length := by omega
          have hfci : (F.length : Int) ≤ fc := by have := hfc; omega
          obtain ⟨sa, sc, rfl⟩ := HM5.out.own.slice
          have z0 := HM5.out.blk.cell 0 _ rfl
          have z4 := HM5.out.blk.cell 3 _ rfl
          have z1 := HX5.out.cell 1 _ rfl
          obtain ⟨i0, hi, hz0, hz1, hz2⟩ := info_parts info_Op
          have h5l := HL5.out
          clear hfrec hcs hfcl hry hr0 hrc hR hfb
          refine wp_region_lex (fun w' => w'.cell? ⟨M, 0, none⟩ = some (.slice sa s5.1.length sc) ∧ w'.cell? ⟨M, 3, none⟩ = some (.slice (some ⟨fb, foff, none⟩) F.length fc) ∧ w'.cell? ⟨X, 1, none⟩ = some (.int .i64 k) ∧ w'.cell? ⟨fb, foff + k, none⟩ = some (.slice ra R.length rc)) [0, 1, 2, 3, 4, 5, 6, 7, 8, 9, 10, 11, 12, 13] [14, 15, 16, 17, 18] (by kernel_rfl) (by kernel_rfl) rfl (fun _ _ hx h => ⟨hx.cell h.1, hx.cell h.2.1, hx.cell h.2.2.1, hx.cell h.2.2.2⟩) ⟨z0, z4, z1, z3⟩ ?_
          intro Q' hQ'
          simp only [pickOps, List.flatMap_cons, List.flatMap_nil, List.drop_succ_cons, List.drop_zero, List.take_succ_cons, List.take_zero, List.cons_append, List.nil_append, List.append_nil]
          repeat (first
            | (refine wpReads_skip (by rfl) ?_; (try simp only [Act.put, List.setIfInBounds_toArray, List.set_cons_zero, List.set_cons_succ]))
            | (refine wpReads_cons ?_ (by rfl) (by rfl) ?_ ?_; rotate_left; (intro wz hz; (try dsimp only at hz); go_simp; try with_reducible rfl); (try simp only [Act.put, List.setIfInBounds_toArray, List.set_cons_zero, List.set_cons_succ]))
            | (refine wpReads_any ?_ (by rfl) ?_ ?_; rotate_left; (intro wz; go_simp; try with_reducible rfl); (try simp only [Act.put, List.setIfInBounds_toArray, List.set_cons_zero, List.set_cons_succ])))
          refine wpReads_nil ?_
          go_wp2_with (at_builtin; refine stop_here ?_)
          refine go_on ?_
          refine wpList_app rfl _ _ 37 rfl 0 61 i0 _ 3 24 Try.underlying37 hi hz0 hz1 hz2 rfl (.slice sa s5.1.length sc) s5.1.length _ rfl (show w5.drew.ownsRow 0 61 3 (.slice sa s5.1.length sc) s5.1.length (opsV s5.1) from HM5.out.own.1) ra R.length rc (opsV R) rfl (opsV_len R) HR0.out HRC.out (opsV_one R) (by unfold maxLen; omega) (grow_ok (by omega)) (Nat.zero_le _) ?_
          intro v6 w6 k1 k20 _ k4
          have hm6 : Mods (fun b => (Value.slice sa s5.1.length sc).ownBlock = some b) w5 w6 := ((Mods.refl _ w5).drewN 1).grown k20 (fun b hb _ => hb)
          obtain ⟨y0, yf, T6, M6⟩ := HM5.out.grow (news := R) (v' := v6) (w2 := w6) k1 hm6 (k4.imp id (fun k4 b hb => by rw [k4] at hb; have := Option.some.inj hb; simp at this; omega))
          obtain ⟨s6a, c6a, rfl⟩ := owns_slice k1
          have HK6 := Lib.hid (HK5.out.turn T6 (by unfold MkC; omega))
          have HT6 := Lib.hid (HT5.out.trans T6 (fun _ h => h))
          have HM6 : Hid (MkAt _ _ M _ (leafP F k s5).1 ((op : Nat) : Int) ((leafP F k s5).2 : Nat) (.slice (some ⟨fb, foff, none⟩) F.length fc)) := Lib.hid (by unfold leafP; rw [Int.toNat_natCast, HRW.out]; exact M6)
          have HX6 := Lib.hid (HX5.out.turn T6 (by unfold MkC; omega))
          have HE6 : Hid (stepP F t k b op s = id (leafP F k s5)) := Lib.hid (by rw [HSE.out, HNL.out]; rfl)
          clear T6 M6 HK5 HT5 HM5 HX5 hm6 k1 k20 k4 z0 z1 z3 z4
          generalize leafP F k s5 = s6 at *
          have w0' := HX6.out.cell 0 _ rfl
          go_wp2
          go_roundw
          case rel => exact ⟨j + 1, _, _, stepP F t k b op s, hlt, by go_num, HK6.out, HT6.out, by rw [HE6.out]; exact HM6.out, by have := HCn.out; have := HCC.out; omega, by have := HLn.out; have := HCC.out; omega, HEC.out⟩
          case measure => simp [intOf]; omega
        · have hzi : (0 : Int) < m := by omega
          have HNL := Lib.hid (show b.isNil = false by rw [HNL0.out, decide_eq_false hz])
          go_wp2_with fail
          generalize wr.alloc (.cells #[.int .i64 t, .int .i64 nd, .slice ya m yc] 51) = w5 at *
          have HK5 := HK2
          have HT5 := HT2
          have HM5 := HM2
          have HX5 := HX2
          clear HK2 HT2 HM2 HX2
          generalize ext q X 8 = q5 at *
          obtain ⟨vo5, hvo5⟩ : ∃ x, vo' = x := ⟨_, rfl⟩
          subst hvo5
          obtain ⟨s5, hs5⟩ : ∃ x, x = s := ⟨_, rfl⟩
          have HSE : Hid (stepP F t nd b op s = id (if b.isNil then leafP F nd s5 else rowP F b op s5)) := by rw [hs5]; exact HSE0
          rw [← hs5] at HM5 HL5
          clear hs5
          refine (HROW.out w0 _ q5 M _ _ _ b s5.1 (op) s5.2 HY.out HSb.out HLJ.out.2.1 HMF.out HK5.out HM5.out (by have := HL5.out; omega) (by have := HL5.out; omega) (by have := HL5.out; omega)).mono ?_
          rintro e w6 ⟨rfl, q6, vo6, T6, M6⟩
          have HK6 := Lib.hid (HK5.out.turn T6 (by unfold MkC; omega))
          have HT6 := Lib.hid (HT5.out.trans T6 (fun _ h => h))
          have HM6 : Hid (MkAt w6 q6 M vo6 (rowP F b (op) s5).1 ((op : Nat) : Int) ((rowP F b (op) s5).2 : Nat) (.slice fa F.length fc)) := Lib.hid M6
          have HX6 := Lib.hid (HX5.out.turn T6 (by unfold MkC; omega))
          have HE6 : Hid (stepP F t nd b op s = id (rowP F b (op) s5)) := Lib.hid (by rw [HSE.out, HNL.out]; rfl)
          clear T6 M6 HK5 HT5 HM5 HX5
          generalize rowP F b (op) s5 = s6 at *
          have w0' := HX6.out.cell 0 _ rfl
          go_wp2
          go_roundw
          case rel => exact ⟨j + 1, _, _, stepP F t nd b op s, hlt, by go_num, HK6.out, HT6.out, by rw [HE6.out]; exact HM6.out, by have := HCn.out; have := HCC.out; omega, by have := HLn.out; have := HCC.out; omega, HEC.out⟩
          case measure => simp [intOf]; omega
    · obtain rfl : j = l.items.length := by omega
      have e := HE.out
      rw [drop_end, rowP] at e
      subst e
      go_wp2
      go_end0
      exact ⟨rfl, _, _, HT.out, HM.out⟩
theorem erow_any {F : List (List GOp)} (hF : FOk F) : ∀ D, ERowOk F D
  | 0 => erow_zero F
  | D + 1 => erow_succ hF (erow_any hF D)
end Go.Proofs.Ytbmbfifempkhgaa
