/- The firings' rows, plainly; two matrices of operations in memory. No function in sight. -/
import Derived.Test.YtbmbfifempkhgaaEOa
import Derived.Test.YtbmbfifempkhgaaGRows
namespace Go.Proofs.Ytbmbfifempkhgaa
open Go.RowKit

def rateL (l : List Int) : List GOp := l.map fun r => ⟨0, 0, r⟩
def zeroL (n : Nat) : List GOp := List.replicate n ⟨0, 0, 0⟩
/-- the first k rates are laid -/
def fillL (l : List Int) (k : Nat) : List GOp := rateL (l.take k) ++ zeroL (l.length - k)
theorem fillL_zero (l : List Int) : fillL l 0 = zeroL l.length := by simp [fillL, rateL]
theorem fillL_all (l : List Int) : fillL l l.length = rateL l := by simp [fillL, zeroL]
theorem fillL_len (l : List Int) (k : Nat) (h : k ≤ l.length) : (fillL l k).length = l.length := by simp [fillL, rateL, zeroL]; omega
theorem fillL_succ (l : List Int) (k : Nat) (h : k < l.length) : (opsV (fillL l k)).set (k * 3 + 2) (.int .i64 (l[k]?.getD 0)) = opsV (fillL l (k + 1)) := by
  have hl : k < (fillL l k).length := by rw [fillL_len l k (by omega)]; exact h
  have hk : (rateL (l.take k)).length = k := by simp [rateL]; omega
  obtain ⟨m, hm⟩ : ∃ m, l.length - k = m + 1 := ⟨l.length - k - 1, by omega⟩
  have hz : (fillL l k)[k] = ⟨0, 0, 0⟩ := by
    refine List.getElem_eq_iff hl |>.2 ?_
    unfold fillL
    rw [List.getElem?_append_right (by omega), hk, Nat.sub_self, hm, zeroL, List.replicate_succ]
    rfl
  rw [opsV_setB _ _ hl, hz]
  congr 1
  unfold fillL
  rw [List.set_append_right _ _ (by omega), hk, Nat.sub_self, hm, zeroL, List.replicate_succ, List.set_cons_zero, List.take_succ_eq_append_getElem h, show l.length - (k + 1) = m by omega, List.getElem?_eq_getElem h, Option.getD_some]
  simp only [rateL, List.map_append, List.map_cons, List.map_nil, List.append_assoc, List.cons_append, List.nil_append, zeroL]

def rowJ (f : Nat → List GOp) (n : Nat) : Nat → List (List GOp)
  | 0 => List.replicate n []
  | j + 1 => (rowJ f n j).set j (f j)
theorem rowJ_len (f : Nat → List GOp) (n : Nat) : ∀ j, (rowJ f n j).length = n
  | 0 => by simp [rowJ]
  | j + 1 => by rw [rowJ, List.length_set, rowJ_len f n j]
theorem rowJ_row (f : Nat → List GOp) (n i : Nat) (hi : i < n) : ∀ j, rowM (rowJ f n j) i = if i < j then f i else []
  | 0 => by simp [rowJ, rowM, hi]
  | j + 1 => by
    have ih := rowJ_row f n i hi j
    unfold rowM at ih ⊢
    rw [rowJ]
    by_cases e : j = i
    · subst e
      rw [List.getElem?_set_self (by rw [rowJ_len]; exact hi)]
      simp
    · rw [List.getElem?_set_ne e, ih]
      by_cases h1 : i < j
      · rw [if_pos h1, if_pos (by omega)]
      · rw [if_neg h1, if_neg (by omega)]

def insF (g : GGraph) (j : Nat) : List GOp := match g.actors[j]? with | some a => rateL (insP a.tag a.params) | none => []
def outsF (g : GGraph) (j : Nat) : List GOp := match g.actors[j]? with | some a => rateL (outsP a.tag a.params) | none => []
def putAll (f : Nat → Option (Int × Int)) (kd : Int) (m : List (List GOp)) : Nat → List (List GOp)
  | 0 => m
  | j + 1 => match f j with | some (a, p) => putM (putAll f kd m j) a.toNat p.toNat kd j | none => putAll f kd m j
theorem putAll_len (f : Nat → Option (Int × Int)) (kd : Int) (m : List (List GOp)) : ∀ j, (putAll f kd m j).length = m.length
  | 0 => rfl
  | j + 1 => by
    rw [putAll]
    split
    · rw [putM_len, putAll_len f kd m j]
    · exact putAll_len f kd m j
theorem putAll_row (f : Nat → Option (Int × Int)) (kd : Int) (m : List (List GOp)) (i : Nat) : ∀ j, (rowM (putAll f kd m j) i).length = (rowM m i).length
  | 0 => rfl
  | j + 1 => by
    rw [putAll]
    split
    · rw [putM_row, putAll_row f kd m i j]
    · exact putAll_row f kd m i j
theorem putAll_succ {f : Nat → Option (Int × Int)} {kd : Int} {m : List (List GOp)} {j : Nat} {a p : Int} (h : f j = some (a, p)) : putAll f kd m (j + 1) = putM (putAll f kd m j) a.toNat p.toNat kd j := by rw [putAll, h]

def eDst (g : GGraph) (j : Nat) : Option (Int × Int) := match g.edges[j]? with | some e => some (e.dst, e.dport) | none => none
def eSrc (g : GGraph) (j : Nat) : Option (Int × Int) := match g.edges[j]? with | some e => some (e.src, e.sport) | none => none
def pAt (l : List GPort) (j : Nat) : Option (Int × Int) := match l[j]? with | some p => some (p.actor, p.port) | none => none
def matI0 (g : GGraph) : List (List GOp) := rowJ (insF g) g.actors.length g.actors.length
def matO0 (g : GGraph) : List (List GOp) := rowJ (outsF g) g.actors.length g.actors.length
def matI1 (g : GGraph) : List (List GOp) := putAll (eDst g) 3 (matI0 g) g.edges.length
def matO1 (g : GGraph) : List (List GOp) := putAll (eSrc g) 6 (matO0 g) g.edges.length
def matI2 (g : GGraph) : List (List GOp) := putAll (pAt g.ins) 4 (matI1 g) g.ins.length
def matO2 (g : GGraph) : List (List GOp) := putAll (pAt g.outs) 7 (matO1 g) g.outs.length
def finR (I O : List (List GOp)) (j : Nat) : List GOp := rowM I j ++ [⟨5, j, 0⟩] ++ rowM O j
def finM (I O : List (List GOp)) : Nat → List (List GOp)
  | 0 => I
  | j + 1 => (finM I O j).set j (finR I O j)
theorem finM_len (I O : List (List GOp)) : ∀ j, (finM I O j).length = I.length
  | 0 => rfl
  | j + 1 => by rw [finM, List.length_set, finM_len I O j]
theorem finM_row (I O : List (List GOp)) (i : Nat) (hi : i < I.length) : ∀ j, rowM (finM I O j) i = if i < j then finR I O i else rowM I i
  | 0 => by simp [finM]
  | j + 1 => by
    have ih := finM_row I O i hi j
    unfold rowM at ih ⊢
    rw [finM]
    by_cases e : j = i
    · subst e
      rw [List.getElem?_set_self (by rw [finM_len]; exact hi)]
      simp
    · rw [List.getElem?_set_ne e, ih]
      by_cases h1 : i < j
      · rw [if_pos h1, if_pos (by omega)]
      · rw [if_neg h1, if_neg (by omega)]
/-- the operations of a firing, actor by actor -/
def firP (g : GGraph) : List (List GOp) := finM (matI2 g) (matO2 g) g.actors.length
theorem matI0_len (g : GGraph) : (matI0 g).length = g.actors.length := rowJ_len _ _ _
theorem matO0_len (g : GGraph) : (matO0 g).length = g.actors.length := rowJ_len _ _ _
theorem matI1_len (g : GGraph) : (matI1 g).length = g.actors.length := by rw [matI1, putAll_len, matI0_len]
theorem matO1_len (g : GGraph) : (matO1 g).length = g.actors.length := by rw [matO1, putAll_len, matO0_len]
theorem matI2_len (g : GGraph) : (matI2 g).length = g.actors.length := by rw [matI2, putAll_len, matI1_len]
theorem matO2_len (g : GGraph) : (matO2 g).length = g.actors.length := by rw [matO2, putAll_len, matO1_len]
theorem firP_len (g : GGraph) : (firP g).length = g.actors.length := by rw [firP, finM_len, matI2_len]
theorem matI0_row (g : GGraph) {i : Nat} (h : i < g.actors.length) : (rowM (matI0 g) i).length = (insF g i).length := by rw [matI0, rowJ_row _ _ _ h, if_pos h]
theorem matO0_row (g : GGraph) {i : Nat} (h : i < g.actors.length) : (rowM (matO0 g) i).length = (outsF g i).length := by rw [matO0, rowJ_row _ _ _ h, if_pos h]
theorem matI1_row (g : GGraph) {i : Nat} (h : i < g.actors.length) : (rowM (matI1 g) i).length = (insF g i).length := by rw [matI1, putAll_row, matI0_row g h]
theorem matO1_row (g : GGraph) {i : Nat} (h : i < g.actors.length) : (rowM (matO1 g) i).length = (outsF g i).length := by rw [matO1, putAll_row, matO0_row g h]
theorem matI2_row (g : GGraph) {i : Nat} (h : i < g.actors.length) : (rowM (matI2 g) i).length = (insF g i).length := by rw [matI2, putAll_row, matI1_row g h]
theorem matO2_row (g : GGraph) {i : Nat} (h : i < g.actors.length) : (rowM (matO2 g) i).length = (outsF g i).length := by rw [matO2, putAll_row, matO1_row g h]

/-- an end of an edge, or what a port is on: an actor's port -/
def InAt (g : GGraph) (a p : Int) : Prop := 0 ≤ a ∧ a < g.actors.length ∧ 0 ≤ p ∧ p < (insF g a.toNat).length
def OutAt (g : GGraph) (a p : Int) : Prop := 0 ≤ a ∧ a < g.actors.length ∧ 0 ≤ p ∧ p < (outsF g a.toNat).length
/-- what firings asks of a graph -/
structure FirOk (g : GGraph) : Prop where
  actors : g.actors.length ≤ 32
  edges : g.edges.length ≤ 96
  ins : g.ins.length ≤ 16
  outs : g.outs.length ≤ 16
  good : ∀ a ∈ g.actors, goodP a.tag a.params ∧ a.params.length ≤ 17600000000000
  src : ∀ e ∈ g.edges, OutAt g e.src e.sport
  dst : ∀ e ∈ g.edges, InAt g e.dst e.dport
  pin : ∀ p ∈ g.ins, InAt g p.actor p.port
  pout : ∀ p ∈ g.outs, OutAt g p.actor p.port
theorem insF_len {g : GGraph} (h : FirOk g) (j : Nat) : (insF g j).length ≤ 16 := by
  unfold insF
  split
  · rename_i a ha
    simp only [rateL, List.length_map]
    exact (shape_len (h.good a (List.mem_of_getElem? ha)).1).1
  · simp
theorem outsF_len {g : GGraph} (h : FirOk g) (j : Nat) : (outsF g j).length ≤ 16 := by
  unfold outsF
  split
  · rename_i a ha
    simp only [rateL, List.length_map]
    exact (shape_len (h.good a (List.mem_of_getElem? ha)).1).2
  · simp

section
variable {w w1 w' : World} {o o1 o' : Col} {C : Nat → Prop} {c d : Nat} {v : Value} {m : List (List GOp)} {vs : List Value}

theorem make_ops (w : World) (n : Nat) (h : n ≤ 1000) : (Instr.makeSlice 37 (.int .i64 (n : Int)) (.int .i64 (n : Int))).run Try.prog w = .ok (.slice (some ⟨w.heap.size, 0, none⟩) n n) (w.alloc (.cells (opsV (zeroL n)).toArray 61)) := by
  obtain ⟨i0, hi, hz0, hz1, hz2⟩ := info_parts info_Op
  have hr := run_make (P := Try.prog) (w := w) 37 61 i0 _ Try.underlying37 hi hz0 .i64 .i64 (n : Int) (n : Int) (by omega) (Int.le_refl _) (by rw [hz2]; omega) (by omega)
  rw [hz1] at hr
  simp only [Int.toNat_natCast] at hr
  rw [hr, zeroL, ← opsV_zero]
theorem make_opss (w : World) (n : Nat) (h : n ≤ 1000) : (Instr.makeSlice 99 (.int .i64 (n : Int)) (.int .i64 (n : Int))).run Try.prog w = .ok (.slice (some ⟨w.heap.size, 0, none⟩) n n) (w.alloc (.cells (Array.replicate n (.slice none 0 0)) 37)) := by
  obtain ⟨i0, hi, hz0, hz1, hz2⟩ := info_parts info_Ops
  have hr := run_make (P := Try.prog) (w := w) 99 37 i0 _ Try.underlying99 hi hz0 .i64 .i64 (n : Int) (n : Int) (by omega) (Int.le_refl _) (by rw [hz2]; omega) (by omega)
  rw [hz1] at hr
  simp only [Int.toNat_natCast, Nat.mul_one] at hr
  rw [hr, ← List.toArray_replicate, ← toList_madeCells_one (.slice none 0 0) n]
  rfl

/-- a matrix, just made -/
theorem opM_new (w : World) (o : Col) (c d n : Nat) (hn : n ≤ 1000) : OpM (w.alloc (.cells (Array.replicate n (.slice none 0 0)) 37)) (ext o w.heap.size c) c d (.slice (some ⟨w.heap.size, 0, none⟩) n n) (List.replicate n []) (List.replicate n (.slice none 0 0)) := by
  refine ⟨by simp, ⟨⟨by simp, .inr ⟨w.heap.size, n, _, by simp, Nat.zero_le _, heap_alloc_new w _, by simp, by unfold maxLen; omega, by simp, by simp⟩⟩, fun k hk => ?_⟩, fun k hk => ?_, fun i j B _ hj hB => ?_⟩
  · obtain rfl := Option.some.inj hk
    exact ext_new (Nat.le_refl _)
  · have hk' : k < n := by simpa using hk
    simp only [List.getElem?_replicate, hk', if_true, Option.getD_some]
    exact Own.nil _ _ _ _ _
  · have hj' : j < n := by simpa using hj
    simp only [List.getElem?_replicate, show i < n by omega, if_true, Option.getD_some, Value.ownBlock] at hB
    cases hB
/-- a row, just made -/
theorem row_new (w : World) (o : Col) (d n : Nat) (hn : n ≤ 1000) : Own (w.alloc (.cells (opsV (zeroL n)).toArray 61)) (ext o w.heap.size d) d 61 3 (.slice (some ⟨w.heap.size, 0, none⟩) n n) (zeroL n).length (opsV (zeroL n)) := by
  have hl : (opsV (zeroL n)).length = n * 3 := by rw [opsV_len]; simp [zeroL]
  refine ⟨⟨by rw [hl]; simp [zeroL], .inr ⟨w.heap.size, n, _, by simp [zeroL], Nat.zero_le _, heap_alloc_new w _, by simp [zeroL], by unfold maxLen; omega, by simp [hl], ?_⟩⟩, fun k hk => ?_⟩
  · rw [show (zeroL n).length = n by simp [zeroL], ← hl]; simp
  · obtain rfl := Option.some.inj hk
    exact ext_new (Nat.le_refl _)
theorem OpM.fresh (h : OpM w o c d v m vs) {k : Nat} (hk : k < m.length) {B : Nat} (hB : (vs[k]?.getD undef).ownBlock = some B) : B < w.heap.size := ((h.rows k hk).1.lt B hB).2
/-- a row of the owner's own is laid in -/
theorem OpM.lay2 {g n cap a : Nat} {l' : List GOp} {v' : Value} (h : OpM w o c d (.slice (some ⟨g, 0, none⟩) n cap) m vs) (hcd : c ≠ d) (ha : a < m.length) (hv : Own w o d 61 3 v' l'.length (opsV l')) (hb : ∀ k, k < m.length → ∀ B, (vs[k]?.getD undef).ownBlock = some B → v'.ownBlock ≠ some B) :
    OpM (w.setCell ⟨g, a, none⟩ v') o c d (.slice (some ⟨g, 0, none⟩) n cap) (m.set a l') (vs.set a v') ∧ Turn o o (fun x => x = c) w (w.setCell ⟨g, a, none⟩ v') := by
  have hgc : o g = c := h.own.2 g rfl
  have T : Turn o o (fun x => x = c) w (w.setCell ⟨g, a, none⟩ v') := ⟨(Mods.refl (fun k => o k = c) w).setCell (p := ⟨g, a, none⟩) (fun _ => hgc) v', fun _ _ => rfl⟩
  have hvg : v'.ownBlock ≠ some g := fun e => by have := hv.2 g e; omega
  have hl := h.len
  have hn : n = m.length := by
    rcases h.own.1.2 with ⟨e, _⟩ | ⟨_, _, _, e, _⟩
    · cases e
    · cases e; rfl
  subst hn
  refine ⟨⟨by simp [hl], ?_, fun k hk => ?_, fun i j B hij hj hB => ?_⟩, T⟩
  · rw [List.length_set]
    exact ⟨(h.own.1.stored a v').1, h.own.2⟩
  · rw [List.length_set] at hk
    by_cases e : a = k
    · subst e
      rw [List.getElem?_set_self ha, List.getElem?_set_self (by omega), Option.getD_some, Option.getD_some]
      exact ⟨ownsRow_setCell_other hv.1 hvg v', hv.2⟩
    · rw [List.getElem?_set_ne e, List.getElem?_set_ne e]
      exact (h.rows k hk).turn T (fun e => hcd e.symm)
  · rw [List.length_set] at hj
    by_cases hai : a = i
    · subst hai
      rw [List.getElem?_set_self (by omega), Option.getD_some] at hB
      rw [List.getElem?_set_ne (by omega)]
      exact fun e => hb j hj B e hB
    · rw [List.getElem?_set_ne hai] at hB
      by_cases haj : a = j
      · subst haj
        rw [List.getElem?_set_self (by omega), Option.getD_some]
        exact hb i (by omega) B hB
      · rw [List.getElem?_set_ne haj]
        exact h.apart i j B hij hj hB
end
end Go.Proofs.Ytbmbfifempkhgaa

/- Two rows are made and laid in, in each order that may be drawn. No function in sight. -/
namespace Go.Proofs.Ytbmbfifempkhgaa
open Go.RowKit

theorem OpM.spot {w : World} {o : Col} {c d g n cap a : Nat} {m : List (List GOp)} {vs : List Value} (h : OpM w o c d (.slice (some ⟨g, 0, none⟩) n cap) m vs) (ha : a < m.length) : (∃ x y z, w.cell? ⟨g, a, none⟩ = some (.slice x y z)) ∧ w.frozen? ⟨g, a, none⟩ = false := by
  obtain ⟨_, _, g', e, h1, h2⟩ := h.row ha
  cases e
  obtain ⟨x, z, e⟩ := (h.rows a ha).slice
  rw [e] at h1
  exact ⟨⟨x, _, z, h1⟩, h2⟩

def ColM (x : Nat) : Prop := 1 ≤ x ∧ x ≤ 4
/-- two matrices: ins in colours 1 and 2, outs in colours 3 and 4 -/
def TwoM (w : World) (o : Col) (vI vO : Value) (mI mO : List (List GOp)) : Prop := ∃ vsI vsO, OpM w o 1 2 vI mI vsI ∧ OpM w o 3 4 vO mO vsO
theorem TwoM.turn {w w' : World} {o o' : Col} {C : Nat → Prop} {vI vO : Value} {mI mO : List (List GOp)} (h : TwoM w o vI vO mI mO) (T : Turn o o' C w w') (hC : ∀ x, ColM x → ¬ C x) : TwoM w' o' vI vO mI mO := by
  obtain ⟨a, b, h1, h2⟩ := h
  have c := fun x h1 h2 => hC x ⟨h1, h2⟩
  exact ⟨a, b, h1.turn T (c 1 (by omega) (by omega)) (c 2 (by omega) (by omega)), h2.turn T (c 3 (by omega) (by omega)) (c 4 (by omega) (by omega))⟩

abbrev opsC (n : Nat) : Obj := .cells (opsV (zeroL n)).toArray 61
section
variable {w : World} {o : Col} {gI gO nI capI nO capO j a b : Nat} {mI mO : List (List GOp)}

theorem makes_A (h : TwoM w o (.slice (some ⟨gI, 0, none⟩) nI capI) (.slice (some ⟨gO, 0, none⟩) nO capO) mI mO) (hI : j < mI.length) (hO : j < mO.length) (ha : a ≤ 1000) (hb : b ≤ 1000) (N : Nat) (hN : w.heap.size = N) :
    (∃ x y z, ((w.alloc (opsC a)).alloc (opsC b)).cell? ⟨gI, j, none⟩ = some (.slice x y z)) ∧ ((w.alloc (opsC a)).alloc (opsC b)).frozen? ⟨gI, j, none⟩ = false ∧ (∃ x y z, (((w.alloc (opsC a)).alloc (opsC b)).setCell ⟨gI, j, none⟩ (.slice (some ⟨N, 0, none⟩) a a)).cell? ⟨gO, j, none⟩ = some (.slice x y z)) ∧ (((w.alloc (opsC a)).alloc (opsC b)).setCell ⟨gI, j, none⟩ (.slice (some ⟨N, 0, none⟩) a a)).frozen? ⟨gO, j, none⟩ = false ∧
    ∃ o', Turn o o' ColM w ((((w.alloc (opsC a)).alloc (opsC b)).setCell ⟨gI, j, none⟩ (.slice (some ⟨N, 0, none⟩) a a)).setCell ⟨gO, j, none⟩ (.slice (some ⟨N + 1, 0, none⟩) b b)) ∧
      TwoM ((((w.alloc (opsC a)).alloc (opsC b)).setCell ⟨gI, j, none⟩ (.slice (some ⟨N, 0, none⟩) a a)).setCell ⟨gO, j, none⟩ (.slice (some ⟨N + 1, 0, none⟩) b b)) o' (.slice (some ⟨gI, 0, none⟩) nI capI) (.slice (some ⟨gO, 0, none⟩) nO capO) (mI.set j (zeroL a)) (mO.set j (zeroL b)) := by
  subst hN
  obtain ⟨vsI, vsO, h1, h2⟩ := h
  have T1 := Turn.of_below o 2 (below_alloc w (opsC a))
  have r1 := row_new w o 2 a ha
  have T2 := Turn.of_below (ext o w.heap.size 2) 4 (below_alloc (w.alloc (opsC a)) (opsC b))
  have r2 := row_new (w.alloc (opsC a)) (ext o w.heap.size 2) 4 b hb
  rw [World.size_alloc] at T2 r2
  have H1 := (h1.turn T1 (fun h => h) (fun h => h)).turn T2 (fun h => h) (fun h => h)
  obtain ⟨f1, f2⟩ := H1.spot hI
  obtain ⟨p1, T3⟩ := H1.lay2 (by decide) hI (r1.turn T2 (fun h => h)) (fun k hk B hB e => by
    have := h1.fresh hk hB
    have e2 := Option.some.inj e
    dsimp only at e2
    omega)
  have H2 := ((h2.turn T1 (fun h => h) (fun h => h)).turn T2 (fun h => h) (fun h => h)).turn T3 (by decide) (by decide)
  obtain ⟨f3, f4⟩ := H2.spot hO
  obtain ⟨p2, T4⟩ := H2.lay2 (by decide) hO (r2.turn T3 (by decide)) (fun k hk B hB e => by
    have := h2.fresh hk hB
    have e2 := Option.some.inj e
    dsimp only at e2
    omega)
  exact ⟨f1, f2, f3, f4, _, (((T1.mono (D := ColM) (fun _ h => h.elim)).trans T2 (fun _ h => h.elim)).trans T3 (fun x e => by subst e; unfold ColM; omega)).trans T4 (fun x e => by subst e; unfold ColM; omega), _, _, p1.turn T4 (by decide) (by decide), p2⟩

theorem makes_B (h : TwoM w o (.slice (some ⟨gI, 0, none⟩) nI capI) (.slice (some ⟨gO, 0, none⟩) nO capO) mI mO) (hI : j < mI.length) (hO : j < mO.length) (ha : a ≤ 1000) (hb : b ≤ 1000) (N : Nat) (hN : w.heap.size = N) :
    (∃ x y z, (w.alloc (opsC a)).cell? ⟨gI, j, none⟩ = some (.slice x y z)) ∧ (w.alloc (opsC a)).frozen? ⟨gI, j, none⟩ = false ∧ (∃ x y z, (((w.alloc (opsC a)).setCell ⟨gI, j, none⟩ (.slice (some ⟨N, 0, none⟩) a a)).alloc (opsC b)).cell? ⟨gO, j, none⟩ = some (.slice x y z)) ∧ (((w.alloc (opsC a)).setCell ⟨gI, j, none⟩ (.slice (some ⟨N, 0, none⟩) a a)).alloc (opsC b)).frozen? ⟨gO, j, none⟩ = false ∧
    ∃ o', Turn o o' ColM w ((((w.alloc (opsC a)).setCell ⟨gI, j, none⟩ (.slice (some ⟨N, 0, none⟩) a a)).alloc (opsC b)).setCell ⟨gO, j, none⟩ (.slice (some ⟨N + 1, 0, none⟩) b b)) ∧
      TwoM ((((w.alloc (opsC a)).setCell ⟨gI, j, none⟩ (.slice (some ⟨N, 0, none⟩) a a)).alloc (opsC b)).setCell ⟨gO, j, none⟩ (.slice (some ⟨N + 1, 0, none⟩) b b)) o' (.slice (some ⟨gI, 0, none⟩) nI capI) (.slice (some ⟨gO, 0, none⟩) nO capO) (mI.set j (zeroL a)) (mO.set j (zeroL b)) := by
  subst hN
  obtain ⟨vsI, vsO, h1, h2⟩ := h
  have T1 := Turn.of_below o 2 (below_alloc w (opsC a))
  have r1 := row_new w o 2 a ha
  have H1 := h1.turn T1 (fun h => h) (fun h => h)
  obtain ⟨f1, f2⟩ := H1.spot hI
  obtain ⟨p1, T3⟩ := H1.lay2 (by decide) hI r1 (fun k hk B hB e => by
    have := h1.fresh hk hB
    have e2 := Option.some.inj e
    dsimp only at e2
    omega)
  have hs : (((w.alloc (opsC a)).setCell ⟨gI, j, none⟩ (.slice (some ⟨w.heap.size, 0, none⟩) a a))).heap.size = w.heap.size + 1 := by simp [World.setCell]
  have T2 := Turn.of_below (ext o w.heap.size 2) 4 (below_alloc ((w.alloc (opsC a)).setCell ⟨gI, j, none⟩ (.slice (some ⟨w.heap.size, 0, none⟩) a a)) (opsC b))
  have r2 := row_new ((w.alloc (opsC a)).setCell ⟨gI, j, none⟩ (.slice (some ⟨w.heap.size, 0, none⟩) a a)) (ext o w.heap.size 2) 4 b hb
  rw [hs] at T2 r2
  have H2 := ((h2.turn T1 (fun h => h) (fun h => h)).turn T3 (by decide) (by decide)).turn T2 (fun h => h) (fun h => h)
  obtain ⟨f3, f4⟩ := H2.spot hO
  obtain ⟨p2, T4⟩ := H2.lay2 (by decide) hO r2 (fun k hk B hB e => by
    have := h2.fresh hk hB
    have e2 := Option.some.inj e
    dsimp only at e2
    omega)
  exact ⟨f1, f2, f3, f4, _, (((T1.mono (D := ColM) (fun _ h => h.elim)).trans T3 (fun x e => by subst e; unfold ColM; omega)).trans T2 (fun _ h => h.elim)).trans T4 (fun x e => by subst e; unfold ColM; omega), _, _, (p1.turn T2 (fun h => h) (fun h => h)).turn T4 (by decide) (by decide), p2⟩

theorem makes_C (h : TwoM w o (.slice (some ⟨gI, 0, none⟩) nI capI) (.slice (some ⟨gO, 0, none⟩) nO capO) mI mO) (hI : j < mI.length) (hO : j < mO.length) (ha : a ≤ 1000) (hb : b ≤ 1000) (N : Nat) (hN : w.heap.size = N) :
    (∃ x y z, ((w.alloc (opsC b)).alloc (opsC a)).cell? ⟨gI, j, none⟩ = some (.slice x y z)) ∧ ((w.alloc (opsC b)).alloc (opsC a)).frozen? ⟨gI, j, none⟩ = false ∧ (∃ x y z, (((w.alloc (opsC b)).alloc (opsC a)).setCell ⟨gI, j, none⟩ (.slice (some ⟨N + 1, 0, none⟩) a a)).cell? ⟨gO, j, none⟩ = some (.slice x y z)) ∧ (((w.alloc (opsC b)).alloc (opsC a)).setCell ⟨gI, j, none⟩ (.slice (some ⟨N + 1, 0, none⟩) a a)).frozen? ⟨gO, j, none⟩ = false ∧
    ∃ o', Turn o o' ColM w ((((w.alloc (opsC b)).alloc (opsC a)).setCell ⟨gI, j, none⟩ (.slice (some ⟨N + 1, 0, none⟩) a a)).setCell ⟨gO, j, none⟩ (.slice (some ⟨N, 0, none⟩) b b)) ∧
      TwoM ((((w.alloc (opsC b)).alloc (opsC a)).setCell ⟨gI, j, none⟩ (.slice (some ⟨N + 1, 0, none⟩) a a)).setCell ⟨gO, j, none⟩ (.slice (some ⟨N, 0, none⟩) b b)) o' (.slice (some ⟨gI, 0, none⟩) nI capI) (.slice (some ⟨gO, 0, none⟩) nO capO) (mI.set j (zeroL a)) (mO.set j (zeroL b)) := by
  subst hN
  obtain ⟨vsI, vsO, h1, h2⟩ := h
  have T1 := Turn.of_below o 4 (below_alloc w (opsC b))
  have r2 := row_new w o 4 b hb
  have T2 := Turn.of_below (ext o w.heap.size 4) 2 (below_alloc (w.alloc (opsC b)) (opsC a))
  have r1 := row_new (w.alloc (opsC b)) (ext o w.heap.size 4) 2 a ha
  rw [World.size_alloc] at T2 r1
  have H1 := (h1.turn T1 (fun h => h) (fun h => h)).turn T2 (fun h => h) (fun h => h)
  obtain ⟨f1, f2⟩ := H1.spot hI
  obtain ⟨p1, T3⟩ := H1.lay2 (by decide) hI r1 (fun k hk B hB e => by
    have := h1.fresh hk hB
    have e2 := Option.some.inj e
    dsimp only at e2
    omega)
  have H2 := ((h2.turn T1 (fun h => h) (fun h => h)).turn T2 (fun h => h) (fun h => h)).turn T3 (by decide) (by decide)
  obtain ⟨f3, f4⟩ := H2.spot hO
  obtain ⟨p2, T4⟩ := H2.lay2 (by decide) hO ((r2.turn T2 (fun h => h)).turn T3 (by decide)) (fun k hk B hB e => by
    have := h2.fresh hk hB
    have e2 := Option.some.inj e
    dsimp only at e2
    omega)
  exact ⟨f1, f2, f3, f4, _, (((T1.mono (D := ColM) (fun _ h => h.elim)).trans T2 (fun _ h => h.elim)).trans T3 (fun x e => by subst e; unfold ColM; omega)).trans T4 (fun x e => by subst e; unfold ColM; omega), _, _, p1.turn T4 (by decide) (by decide), p2⟩
end
end Go.Proofs.Ytbmbfifempkhgaa

/- The closure, over two matrices. -/
namespace Go.Proofs.Ytbmbfifempkhgaa
open Go.RowKit

/-- what a write into one of two matrices answers -/
def OnTwo (w : World) (o : Col) (vI vO : Value) (mI mO : List (List GOp)) (e : Ending) (w' : World) : Prop := e = .returned (.tuple #[]) ∧ Turn o o ColM w w' ∧ TwoM w' o vI vO mI mO

theorem on_O {w : World} {o : Col} {vI : Value} {gO n cap a k : Nat} {mI mO : List (List GOp)} (h : TwoM w o vI (.slice (some ⟨gO, 0, none⟩) n cap) mI mO) (ha : a < mO.length) (hk : k < (rowM mO a).length) :
    ∃ G LL cp, w.cell? ⟨gO, a, none⟩ = some (.slice (some ⟨G, 0, none⟩) LL cp) ∧ k < LL ∧ LL ≤ cp ∧ ∀ kd x, Calls Try.prog 78 #[.pointer (some ⟨G, k * 3, none⟩), .int .u8 kd, .int .i64 x] w.drew (OnTwo w.drew o vI (.slice (some ⟨gO, 0, none⟩) n cap) mI (putM mO a k kd x)) := by
  obtain ⟨vsI, vsO, h1, h2⟩ := h
  obtain ⟨G, cp, hG, hcp, _, _, _, _⟩ := h2.slot ha hk
  obtain ⟨-, -, gg, eg, r1, -⟩ := h2.row ha
  cases eg
  rw [hG] at r1
  refine ⟨G, _, cp, r1, hk, hcp, fun kd x => (on_any w.drew o 3 4 _ mO vsO (h2.turn (Turn.of_quiet o ⟨1, rfl⟩) (fun h => h) (fun h => h)) (by decide) a k ha hk G _ cp hG kd x).mono ?_⟩
  rintro e w' ⟨he, T, M⟩
  exact ⟨he, T.mono (fun x e => by subst e; unfold ColM; omega), vsI, vsO, (h1.turn (Turn.of_quiet o ⟨1, rfl⟩) (fun h => h) (fun h => h)).turn T (by decide) (by decide), M⟩
theorem on_I {w : World} {o : Col} {vO : Value} {gI n cap a k : Nat} {mI mO : List (List GOp)} (h : TwoM w o (.slice (some ⟨gI, 0, none⟩) n cap) vO mI mO) (ha : a < mI.length) (hk : k < (rowM mI a).length) :
    ∃ G LL cp, w.cell? ⟨gI, a, none⟩ = some (.slice (some ⟨G, 0, none⟩) LL cp) ∧ k < LL ∧ LL ≤ cp ∧ ∀ kd x, Calls Try.prog 78 #[.pointer (some ⟨G, k * 3, none⟩), .int .u8 kd, .int .i64 x] w.drew (OnTwo w.drew o (.slice (some ⟨gI, 0, none⟩) n cap) vO (putM mI a k kd x) mO) := by
  obtain ⟨vsI, vsO, h1, h2⟩ := h
  obtain ⟨G, cp, hG, hcp, _, _, _, _⟩ := h1.slot ha hk
  obtain ⟨-, -, gg, eg, r1, -⟩ := h1.row ha
  cases eg
  rw [hG] at r1
  refine ⟨G, _, cp, r1, hk, hcp, fun kd x => (on_any w.drew o 1 2 _ mI vsI (h1.turn (Turn.of_quiet o ⟨1, rfl⟩) (fun h => h) (fun h => h)) (by decide) a k ha hk G _ cp hG kd x).mono ?_⟩
  rintro e w' ⟨he, T, M⟩
  exact ⟨he, T.mono (fun x e => by subst e; unfold ColM; omega), vsI, vsO, M, (h2.turn (Turn.of_quiet o ⟨1, rfl⟩) (fun h => h) (fun h => h)).turn T (by decide) (by decide)⟩

/-- operations are put behind those of a row -/
theorem OpM.grow {w w2 : World} {o : Col} {c d g n cap a : Nat} {m : List (List GOp)} {vs : List Value} {v' : Value} {l news : List GOp} (h : OpM w o c d (.slice (some ⟨g, 0, none⟩) n cap) m vs) (hcd : c ≠ d) (ha : a < m.length) (hl : m[a]?.getD [] = l)
    (k1 : w2.ownsRow 0 61 3 v' (l.length + news.length) (opsV l ++ opsV news)) (k2 : Mods (fun b => (vs[a]?.getD undef).ownBlock = some b) w w2) (k4 : v'.ownBlock = (vs[a]?.getD undef).ownBlock ∨ ∀ b, v'.ownBlock = some b → w.heap.size ≤ b) :
    (∃ x y z, w2.cell? ⟨g, a, none⟩ = some (.slice x y z)) ∧ w2.frozen? ⟨g, a, none⟩ = false ∧ Turn o (ext o w.heap.size d) (fun x => x = c ∨ x = d) w (w2.setCell ⟨g, a, none⟩ v') ∧ OpM (w2.setCell ⟨g, a, none⟩ v') (ext o w.heap.size d) c d (.slice (some ⟨g, 0, none⟩) n cap) (m.set a (l ++ news)) (vs.set a v') := by
  have T : Turn o (ext o w.heap.size d) (fun x => x = d) w w2 := Turn.of_mods o d k2 (fun b _ hb => (h.rows a ha).2 b hb)
  have hown := h.own.turn T hcd
  obtain ⟨_, _, gg, eg, r1, _⟩ := h.row ha
  cases eg
  obtain ⟨sa, sc, hr⟩ := (h.rows a ha).slice
  have hl2 := h.len
  obtain ⟨-, -, gg, -, eg, -, h6, -⟩ := owns_cell hown.1 (by omega)
  cases eg
  obtain ⟨p, T2⟩ := h.lay (a := a) (l' := l ++ news) (v' := v') (w1 := w2) (o1 := ext o w.heap.size d) (F := fun b => (vs[a]?.getD undef).ownBlock = some b) hcd ha k2 (fun k _ hk => hk) (fun k hk => ext_old hk) ⟨by rw [List.length_append, opsV_app]; exact k1, fun b hb => by
    rcases k4 with k4 | k4
    · rw [k4] at hb
      exact (ext_old ((h.rows a ha).1.lt b hb).2).trans ((h.rows a ha).2 b hb)
    · exact ext_new (k4 b hb)⟩ k4
  refine ⟨?_, h6 a, T2, p⟩
  have hc : w2.cell? ⟨g, a, none⟩ = some (vs[a]?.getD undef) := T.cell r1 (by show ¬ o g = d; rw [h.own.2 g rfl]; exact hcd)
  rw [hr] at hc
  exact ⟨_, _, _, hc⟩
end Go.Proofs.Ytbmbfifempkhgaa
