/- Operations, rows of rows of operations in memory. No function in sight. -/
import Derived.Test.YtbmbfifempkhgaaGChk
import Derived.Test.YtbmbfifempkhgaaGTake
import Derived.Test.YtbmbfifempkhgaaReg
import Derived.Test.YtbmbfifempkhgaaL1
namespace Go.Proofs.Ytbmbfifempkhgaa
open Go.RowKit

structure GOp where
  kind : Int
  a : Int
  b : Int
def opV (x : GOp) : List Value := [.int .u8 x.kind, .int .i64 x.a, .int .i64 x.b]
def opsV (l : List GOp) : List Value := l.flatMap opV

theorem opsV_cons (x : GOp) (l : List GOp) : opsV (x :: l) = .int .u8 x.kind :: .int .i64 x.a :: .int .i64 x.b :: opsV l := rfl
theorem opsV_len : ∀ l : List GOp, (opsV l).length = l.length * 3
  | [] => rfl
  | x :: l => by rw [opsV_cons]; simp only [List.length_cons, opsV_len l]; omega
theorem opsV_app (l m : List GOp) : opsV (l ++ m) = opsV l ++ opsV m := by simp [opsV]
theorem opsV_get : ∀ (l : List GOp) (k : Nat) (h : k < l.length), (opsV l)[k * 3]? = some (.int .u8 l[k].kind) ∧ (opsV l)[k * 3 + 1]? = some (.int .i64 l[k].a) ∧ (opsV l)[k * 3 + 2]? = some (.int .i64 l[k].b)
  | [], k, h => by simp at h
  | x :: l, 0, _ => ⟨rfl, rfl, rfl⟩
  | x :: l, k + 1, h => by
    have ih := opsV_get l k (by simpa using h)
    rw [opsV_cons, show (k + 1) * 3 = k * 3 + 1 + 1 + 1 by omega]
    exact ⟨ih.1, ih.2.1, ih.2.2⟩
theorem opsV_setB : ∀ (l : List GOp) (k : Nat) (h : k < l.length) (b : Int), (opsV l).set (k * 3 + 2) (.int .i64 b) = opsV (l.set k ⟨l[k].kind, l[k].a, b⟩)
  | [], k, h, _ => by simp at h
  | x :: l, 0, _, b => rfl
  | x :: l, k + 1, h, b => by
    have ih := opsV_setB l k (by simpa using h) b
    rw [opsV_cons, show (k + 1) * 3 + 2 = k * 3 + 2 + 1 + 1 + 1 by omega]
    simp only [List.set_cons_succ, ih, List.getElem_cons_succ, opsV_cons]
theorem opsV_setKA : ∀ (l : List GOp) (k : Nat) (h : k < l.length) (kd a : Int), ((opsV l).set (k * 3) (.int .u8 kd)).set (k * 3 + 1) (.int .i64 a) = opsV (l.set k ⟨kd, a, l[k].b⟩)
  | [], k, h, _, _ => by simp at h
  | x :: l, 0, _, _, _ => rfl
  | x :: l, k + 1, h, kd, a => by
    have ih := opsV_setKA l k (by simpa using h) kd a
    rw [opsV_cons, show (k + 1) * 3 = k * 3 + 1 + 1 + 1 by omega]
    simp only [List.set_cons_succ, List.getElem_cons_succ, opsV_cons, ih]
theorem opsV_one : ∀ (l : List GOp), ∀ u ∈ opsV l, u.oneCell' = true
  | [], u, h => by simp [opsV] at h
  | x :: l, u, h => by
    rw [opsV_cons] at h
    simp only [List.mem_cons] at h
    rcases h with rfl | rfl | rfl | h
    · rfl
    · rfl
    · rfl
    · exact opsV_one l u h
theorem madeCells_three (a b c : Value) : ∀ n : Nat, (madeCells #[a, b, c] (n * 3)).toList = (List.replicate n [a, b, c]).flatten
  | 0 => by simp [madeCells]
  | n + 1 => by
    have ih := madeCells_three a b c n
    simp only [madeCells, Array.toList_map, Array.toList_range] at ih ⊢
    rw [show (n + 1) * 3 = n * 3 + 1 + 1 + 1 by omega, List.range_succ, List.range_succ, List.range_succ]
    simp only [List.map_append, ih, List.map_cons, List.map_nil, List.append_assoc, List.cons_append, List.nil_append]
    have e0 : n * 3 % 3 = 0 := by omega
    have e1 : (n * 3 + 1) % 3 = 1 := by omega
    have e2 : (n * 3 + 1 + 1) % 3 = 2 := by omega
    rw [List.replicate_succ', List.flatten_append]
    simp [e0, e1, e2]
def opZ : Value := .agg #[.int .u8 0, .int .i64 0, .int .i64 0]
theorem opsV_zero (n : Nat) : (madeCells opZ.cells (n * 3)).toList = opsV (List.replicate n ⟨0, 0, 0⟩) := by
  rw [show opZ.cells = #[.int .u8 0, .int .i64 0, .int .i64 0] from rfl, madeCells_three]
  induction n with
  | zero => rfl
  | succ n ih => rw [List.replicate_succ, List.replicate_succ, List.flatten_cons, ih, opsV_cons]; rfl

theorem info_Op : (Try.prog.info? 61).map (fun i => (i.zero, i.size, i.bytes)) = some (some opZ, 3, 24) := by kernel_rfl
theorem info_Ops : (Try.prog.info? 37).map (fun i => (i.zero, i.size, i.bytes)) = some (some (.slice none 0 0), 1, 24) := by kernel_rfl

/-- a slice of slices of operations, each its owner's own: the slice in colour c, the rows in colour d -/
structure OpM (w : World) (o : Col) (c d : Nat) (v : Value) (m : List (List GOp)) (vs : List Value) : Prop where
  len : vs.length = m.length
  own : Own w o c 37 1 v m.length vs
  rows : ∀ k, k < m.length → Own w o d 61 3 (vs[k]?.getD undef) (m[k]?.getD []).length (opsV (m[k]?.getD []))
  apart : ∀ i j B, i < j → j < m.length → (vs[i]?.getD undef).ownBlock = some B → (vs[j]?.getD undef).ownBlock ≠ some B

section
variable {w w1 w' : World} {o o1 o' : Col} {C : Nat → Prop} {c d : Nat} {v : Value} {m : List (List GOp)} {vs : List Value}

theorem OpM.turn (h : OpM w o c d v m vs) (T : Turn o o' C w w') (hc : ¬ C c) (hd : ¬ C d) : OpM w' o' c d v m vs :=
  ⟨h.len, h.own.turn T hc, fun k hk => (h.rows k hk).turn T hd, h.apart⟩
theorem OpM.row {ao : Option Addr} {n cap : Nat} (h : OpM w o c d (.slice ao n cap) m vs) {a : Nat} (ha : a < m.length) :
    n = m.length ∧ n ≤ cap ∧ ∃ g, ao = some ⟨g, 0, none⟩ ∧ w.cell? ⟨g, a, none⟩ = some (vs[a]?.getD undef) ∧ w.frozen? ⟨g, a, none⟩ = false := by
  obtain ⟨h1, h2, g, _, h4, h5, h6, _⟩ := owns_cell h.own.1 (by have := h.len; omega)
  refine ⟨h1, by omega, g, h4, ?_, h6 a⟩
  have hl := h.len
  rw [h5 a vs[a] (by simp [show a < vs.length by omega])]
  simp [show a < vs.length by omega]

theorem OpM.apart' (h : OpM w o c d v m vs) {i j B : Nat} (hij : i ≠ j) (hi : i < m.length) (hj : j < m.length) (hB : (vs[i]?.getD undef).ownBlock = some B) : (vs[j]?.getD undef).ownBlock ≠ some B := by
  rcases Nat.lt_or_gt_of_ne hij with hlt | hlt
  · exact h.apart i j B hlt hj hB
  · exact fun e => h.apart j i B hlt hi e hB

/-- a cell of a row is written -/
theorem OpM.cell (h : OpM w o c d v m vs) (hcd : c ≠ d) {a G n' cap' i : Nat} (ha : a < m.length) (hG : vs[a]?.getD undef = .slice (some ⟨G, 0, none⟩) n' cap') {l' : List GOp} {u : Value} (hl : l'.length = (m[a]?.getD []).length) (hu : (opsV (m[a]?.getD [])).set i u = opsV l') :
    OpM (w.setCell ⟨G, i, none⟩ u) o c d v (m.set a l') vs ∧ Turn o o (fun x => x = d) w (w.setCell ⟨G, i, none⟩ u) := by
  have hr := h.rows a ha
  rw [hG] at hr
  have hoG : o G = d := hr.2 G rfl
  have T : Turn o o (fun x => x = d) w (w.setCell ⟨G, i, none⟩ u) := ⟨(Mods.refl (fun k => o k = d) w).setCell (p := ⟨G, i, none⟩) (fun _ => hoG) u, fun _ _ => rfl⟩
  have hn : n' = (m[a]?.getD []).length := by
    rcases hr.1.2 with ⟨e, _⟩ | ⟨_, _, _, e, _⟩
    · cases e
    · cases e; rfl
  refine ⟨⟨by rw [List.length_set]; exact h.len, ?_, fun k hk => ?_, fun i j B hij hj => h.apart i j B hij (by simpa using hj)⟩, T⟩
  · rw [List.length_set]; exact h.own.turn T (fun e => hcd e)
  · rw [List.length_set] at hk
    by_cases e : a = k
    · subst e
      rw [List.getElem?_set_self ha, Option.getD_some, hG]
      have hr1 := hr.1
      subst hn
      have hs := (hr1.stored i u).1
      rw [hu, ← hl] at hs
      rw [← hl]
      exact ⟨hs, hr.2⟩
    · rw [List.getElem?_set_ne e]
      have hk2 := h.rows k hk
      exact ⟨ownsRow_setCell_other hk2.1 (fun e2 => h.apart' e ha hk (by rw [hG]; rfl) e2) u, hk2.2⟩

/-- a row is laid anew -/
theorem OpM.lay {g n cap a : Nat} {l' : List GOp} {v' : Value} {F : Nat → Prop} (h : OpM w o c d (.slice (some ⟨g, 0, none⟩) n cap) m vs) (hcd : c ≠ d) (ha : a < m.length) (hm : Mods F w w1) (hF : ∀ k, k < w.heap.size → F k → (vs[a]?.getD undef).ownBlock = some k)
    (ho : ∀ k, k < w.heap.size → o1 k = o k) (hv : Own w1 o1 d 61 3 v' l'.length (opsV l')) (hb : v'.ownBlock = (vs[a]?.getD undef).ownBlock ∨ ∀ k, v'.ownBlock = some k → w.heap.size ≤ k) :
    OpM (w1.setCell ⟨g, a, none⟩ v') o1 c d (.slice (some ⟨g, 0, none⟩) n cap) (m.set a l') (vs.set a v') ∧ Turn o o1 (fun x => x = c ∨ x = d) w (w1.setCell ⟨g, a, none⟩ v') := by
  have hgw : g < w.heap.size := (h.own.1.lt g rfl).2
  have hgc : o g = c := h.own.2 g rfl
  have T : Turn o o1 (fun x => x = c ∨ x = d) w (w1.setCell ⟨g, a, none⟩ v') :=
    ⟨(hm.mono (G := fun k => o k = c ∨ o k = d) (fun k hk f => .inr ((h.rows a ha).2 k (hF k hk f)))).setCell (p := ⟨g, a, none⟩) (fun _ => .inl hgc) v', ho⟩
  have hrow : ∀ k, k < m.length → ∀ B, (vs[k]?.getD undef).ownBlock = some B → B < w.heap.size ∧ o B = d := fun k hk B hB => ⟨((h.rows k hk).1.lt B hB).2, (h.rows k hk).2 B hB⟩
  have hgF : ¬ F g := fun f => by
    have := (hrow a ha g (hF g hgw f)).2
    omega
  have hnew : ∀ k, k < m.length → k ≠ a → ∀ B, (vs[k]?.getD undef).ownBlock = some B → v'.ownBlock ≠ some B := fun k hk hka B hB e => by
    rcases hb with hb | hb
    · rw [hb] at e
      exact h.apart' hka hk ha hB e
    · have := hb B e
      have := (hrow k hk B hB).1
      omega
  have hvg : v'.ownBlock ≠ some g := fun e => by
    rcases hb with hb | hb
    · rw [hb] at e
      have := (hrow a ha g e).2
      omega
    · have := hb g e; omega
  have hl := h.len
  have hown1 : w1.ownsRow 0 37 1 (.slice (some ⟨g, 0, none⟩) n cap) m.length vs := owns_kept h.own.1 hm (fun k hk f => by have e : g = k := Option.some.inj hk; subst e; exact hgF f)
  have hn : n = m.length := by
    rcases h.own.1.2 with ⟨e, _⟩ | ⟨_, _, _, e, _⟩
    · cases e
    · cases e; rfl
  subst hn
  refine ⟨⟨by simp [hl], ?_, fun k hk => ?_, fun i j B hij hj hB => ?_⟩, T⟩
  · rw [List.length_set]
    exact ⟨(hown1.stored a v').1, fun k hk => by have e : g = k := Option.some.inj hk; subst e; exact (ho g hgw).trans hgc⟩
  · rw [List.length_set] at hk
    by_cases e : a = k
    · subst e
      rw [List.getElem?_set_self ha, List.getElem?_set_self (by omega), Option.getD_some, Option.getD_some]
      exact ⟨ownsRow_setCell_other hv.1 hvg v', hv.2⟩
    · rw [List.getElem?_set_ne e, List.getElem?_set_ne e]
      have hk2 := h.rows k hk
      refine ⟨ownsRow_setCell_other (owns_kept hk2.1 hm fun B hB f => ?_) (fun e2 => ?_) v', fun B hB => (ho B (hrow k hk B hB).1).trans (hk2.2 B hB)⟩
      · exact h.apart' (fun e' => e e'.symm) hk ha hB (hF B (hrow k hk B hB).1 f)
      · have := (hrow k hk g e2).2
        omega
  · rw [List.length_set] at hj
    by_cases hai : a = i
    · subst hai
      rw [List.getElem?_set_self (by omega), Option.getD_some] at hB
      rw [List.getElem?_set_ne (by omega)]
      intro e
      exact hnew j hj (by omega) B e hB
    · rw [List.getElem?_set_ne hai] at hB
      by_cases haj : a = j
      · subst haj
        rw [List.getElem?_set_self (by omega), Option.getD_some]
        exact hnew i (by omega) (by omega) B hB
      · rw [List.getElem?_set_ne haj]
        exact h.apart i j B hij hj hB
end
end Go.Proofs.Ytbmbfifempkhgaa

/- The writer's put, head, back. -/
namespace Go.Proofs.Ytbmbfifempkhgaa
open Go.RowKit

/-- the colours of what a maker owns: its block, its operations -/
def MkC (x : Nat) : Prop := x = 1 ∨ x = 2
/-- a maker in memory -/
structure MkAt (w : World) (o : Col) (M : Nat) (vo : Value) (ops : List GOp) (op cnt : Int) (vf : Value) : Prop where
  blk : Blk w o 1 M 104 #[vo, .int .i64 op, .int .i64 cnt, vf]
  own : Own w o 2 61 3 vo ops.length (opsV ops)

theorem MkAt.turn {w w' : World} {o o' : Col} {C : Nat → Prop} {M : Nat} {vo vf : Value} {ops : List GOp} {op cnt : Int} (h : MkAt w o M vo ops op cnt vf) (T : Turn o o' C w w') (h1 : ¬ C 1) (h2 : ¬ C 2) : MkAt w' o' M vo ops op cnt vf := ⟨h.blk.turn T h1, h.own.turn T h2⟩
theorem MkAt.drewN {w : World} {o : Col} {M : Nat} {vo vf : Value} {ops : List GOp} {op cnt : Int} (h : MkAt w o M vo ops op cnt vf) (m : Nat) : MkAt (w.drewN m) o M vo ops op cnt vf := ⟨h.blk, h.own⟩
theorem MkAt.setN {w : World} {o : Col} {M : Nat} {vo vf : Value} {ops : List GOp} {op cnt : Int} (h : MkAt w o M vo ops op cnt vf) (x : Int) : MkAt (w.setCell ⟨M, 1, none⟩ (.int .i64 x)) o M vo ops x cnt vf ∧ Turn o o MkC w (w.setCell ⟨M, 1, none⟩ (.int .i64 x)) := by
  obtain ⟨b, T⟩ := h.blk.set 1 (.int .i64 x)
  exact ⟨⟨b, h.own.turn T (by decide)⟩, T.mono (fun x e => .inl e)⟩
theorem MkAt.setC {w : World} {o : Col} {M : Nat} {vo vf : Value} {ops : List GOp} {op cnt : Int} (h : MkAt w o M vo ops op cnt vf) (x : Int) : MkAt (w.setCell ⟨M, 2, none⟩ (.int .i64 x)) o M vo ops op x vf ∧ Turn o o MkC w (w.setCell ⟨M, 2, none⟩ (.int .i64 x)) := by
  obtain ⟨b, T⟩ := h.blk.set 2 (.int .i64 x)
  exact ⟨⟨b, h.own.turn T (by decide)⟩, T.mono (fun x e => .inl e)⟩
/-- operations are put behind the others -/
theorem MkAt.grow {w w2 : World} {o : Col} {M : Nat} {vo vf v' : Value} {ops news : List GOp} {op cnt : Int} (h : MkAt w o M vo ops op cnt vf) (k1 : w2.ownsRow 0 61 3 v' (ops.length + news.length) (opsV ops ++ opsV news)) (k2 : Mods (fun b => vo.ownBlock = some b) w w2)
    (k4 : v'.ownBlock = vo.ownBlock ∨ ∀ b, v'.ownBlock = some b → w.heap.size ≤ b) :
    w2.cell? ⟨M, 0, none⟩ = some vo ∧ w2.frozen? ⟨M, 0, none⟩ = false ∧ Turn o (ext o w.heap.size 2) MkC w (w2.setCell ⟨M, 0, none⟩ v') ∧ MkAt (w2.setCell ⟨M, 0, none⟩ v') (ext o w.heap.size 2) M v' (ops ++ news) op cnt vf := by
  have T : Turn o (ext o w.heap.size 2) (fun x => x = 2) w w2 := Turn.of_mods o 2 k2 (fun b _ hb => h.own.2 b hb)
  have b2 := h.blk.turn T (by decide)
  obtain ⟨b3, T3⟩ := b2.set 0 v'
  have hM := h.blk.lt
  have hMc : o M = 1 := h.blk.2
  have hvM : v'.ownBlock ≠ some M := fun e => by
    rcases k4 with k4 | k4
    · rw [k4] at e
      have := h.own.2 M e
      omega
    · have := k4 M e; omega
  refine ⟨b2.cell 0 _ rfl, b2.frozen 0, (T.mono (D := MkC) (fun x e => .inr e)).trans T3 (fun x e => .inl e), b3, ?_, fun b hb => ?_⟩
  · rw [List.length_append, opsV_app]
    exact ownsRow_setCell_other k1 hvM v'
  · rcases k4 with k4 | k4
    · rw [k4] at hb
      exact (ext_old (h.own.1.lt b hb).2).trans (h.own.2 b hb)
    · exact ext_new (k4 b hb)

/-- what the writer's calls answer -/
def MkRet (v : Value) (w : World) (o : Col) (M : Nat) (ops : List GOp) (op cnt : Int) (vf : Value) (e : Ending) (w' : World) : Prop := e = .returned v ∧ ∃ o' vo', Turn o o' MkC w w' ∧ MkAt w' o' M vo' ops op cnt vf

set_option maxRecDepth 100000 in
set_option maxHeartbeats 1000000 in
theorem put_any (w : World) (o : Col) (M : Nat) (vo vf : Value) (ops : List GOp) (op cnt kd a b : Int) (h : MkAt w o M vo ops op cnt vf) (hl : ops.length ≤ 100000000000) :
    Calls Try.prog 45 #[.pointer (some ⟨M, 0, none⟩), .int .u8 kd, .int .i64 a, .int .i64 b] w (MkRet (.tuple #[]) w o M (ops ++ [⟨kd, a, b⟩]) op cnt vf) := by
  obtain ⟨i0, hi, hz0, hz1, hz2⟩ := info_parts info_Op
  obtain ⟨sa, sc, rfl⟩ := h.own.slice
  have q0 := h.blk.cell 0 _ rfl
  have HH := Lib.hid h
  clear h
  go_enter Try.func45, Try.ntmps45
  go_wp2_with (at_builtin; refine stop_here ?_)
  refine go_on ?_
  refine wpList_app rfl _ _ 37 rfl 0 61 i0 _ 3 24 Try.underlying37 hi hz0 hz1 hz2 rfl (.slice sa ops.length sc) ops.length _ rfl (HH.out.own.1.alloc (.cells #[.int .u8 kd, .int .i64 a, .int .i64 b] 61)) (some ⟨w.heap.size, 0, none⟩) 1 1 [.int .u8 kd, .int .i64 a, .int .i64 b] rfl rfl (fun h => by cases h) (news_alloc w [.int .u8 kd, .int .i64 a, .int .i64 b] 61) (by simp [Value.oneCell']) (by unfold maxLen; omega) (grow_ok (by omega)) (Nat.zero_le _) ?_
  intro v5 w5 k1 k20 _ k4
  have hm : Mods (fun b => (Value.slice sa ops.length sc).ownBlock = some b) w w5 := ((Mods.refl _ w).alloc _).grown k20 (fun b hb _ => hb)
  obtain ⟨z0, zf, T, N⟩ := HH.out.grow (news := [⟨kd, a, b⟩]) (v' := v5) (w2 := w5) k1 hm (k4.imp id (fun k4 b hb => by rw [k4] at hb; have := Option.some.inj hb; simp at this; omega))
  obtain ⟨s5, c5, rfl⟩ := owns_slice k1
  have HT := Lib.hid T
  have HN := Lib.hid N
  clear T N k1 k20 k4 hm q0
  go_wp2
  go_end0
  exact ⟨rfl, _, _, HT.out, HN.out⟩


set_option maxRecDepth 100000 in
set_option maxHeartbeats 1000000 in
theorem head_any (w : World) (o : Col) (M : Nat) (vo vf : Value) (ops : List GOp) (op cnt : Nat) (t : Int) (h : MkAt w o M vo ops op cnt vf) (hl : ops.length ≤ 10000000000) (ho : op ≤ 1000000) (hc : cnt ≤ 1000000) :
    Calls Try.prog 79 #[.pointer (some ⟨M, 0, none⟩), .int .i64 t] w (MkRet (.int .i64 ((ops.length + 1 : Nat) : Int)) w o M (ops ++ [⟨1, op, t⟩]) ((op + 1 : Nat) : Int) ((max cnt (op + 1) : Nat) : Int) vf) := by
  have q1 := h.blk.cell 1 _ rfl
  have HH := Lib.hid h
  have hl1 : ops.length ≤ 100000000000 := by omega
  clear h
  go_enter Try.func79, Try.ntmps79
  go_wp2_with fail
  refine (put_any w o M vo vf ops op cnt 1 op t HH.out hl1).mono ?_
  rintro e w2 ⟨rfl, o2, vo2, T2, h2⟩
  obtain ⟨s2, c2, rfl⟩ := h2.own.slice
  have p1 := h2.blk.cell 1 _ rfl
  have f1 := h2.blk.frozen 1
  have p2 := h2.blk.cell 2 _ rfl
  have f2 := h2.blk.frozen 2
  have hw : IntKind.i64.wrap ((op : Int) + 1) = (op : Int) + 1 := IntWalk.i64_in _ (by omega)
  obtain ⟨n3, T3⟩ := h2.setN ((op : Int) + 1)
  have HT2 := Lib.hid T2
  have HT3 := Lib.hid T3
  have HN3 := Lib.hid n3
  have m1 := n3.blk.cell 1 _ rfl
  have m2 := n3.blk.cell 2 _ rfl
  clear T2 T3 n3 q1 h2
  by_cases hx : op + 1 ≤ cnt
  · have hxi : (op : Int) + 1 ≤ cnt := by omega
    obtain ⟨n4, T4⟩ := HN3.out.setC ((cnt : Int))
    have HT4 := Lib.hid T4
    have HN4 := Lib.hid n4
    have y0 := n4.blk.cell 0 _ rfl
    clear T4 n4
    go_wp2_with fail
    refine wp_region_lex (fun w' => w'.cell? ⟨M, 1, none⟩ = some (.int .i64 ((op : Int) + 1)) ∧ w'.cell? ⟨M, 2, none⟩ = some (.int .i64 cnt)) [0, 1, 2, 3, 4, 5, 6, 7, 8, 9, 10, 11] [12] (by kernel_rfl) (by kernel_rfl) rfl (fun _ _ hx h => ⟨hx.cell h.1, hx.cell h.2⟩) ⟨m1, m2⟩ ?_
    intro Q' hQ'
    simp only [pickOps, List.flatMap_cons, List.flatMap_nil, List.drop_succ_cons, List.drop_zero, List.take_succ_cons, List.take_zero, List.cons_append, List.nil_append, List.append_nil]
    repeat (first
      | (refine wpReads_skip (by rfl) ?_; (try simp only [Act.put, List.setIfInBounds_toArray, List.set_cons_zero, List.set_cons_succ]))
      | (refine wpReads_cons ?_ (by rfl) (by rfl) ?_ ?_; rotate_left; (intro wz hz; (try dsimp only at hz); go_simp; try with_reducible rfl); (try simp only [Act.put, List.setIfInBounds_toArray, List.set_cons_zero, List.set_cons_succ]))
      | (refine wpReads_any ?_ (by rfl) ?_ ?_; rotate_left; (intro wz; go_simp; try with_reducible rfl); (try simp only [Act.put, List.setIfInBounds_toArray, List.set_cons_zero, List.set_cons_succ])))
    refine wpReads_nil ?_
    go_wp2
    go_ret
    exact ⟨congrArg Ending.returned (congrArg (Value.int .i64) (by simp)), o2, _, (HT2.out.trans HT3.out (fun _ h => h)).trans HT4.out.drew (fun _ h => h), by first | exact HN4.out.drewN 1 | (rw [show ((op + 1 : Nat) : Int) = (op : Int) + 1 by omega, show ((max cnt (op + 1) : Nat) : Int) = (cnt : Int) by omega]; exact HN4.out.drewN 1)⟩
  · have hxi : (cnt : Int) < op + 1 := by omega
    obtain ⟨n4, T4⟩ := HN3.out.setC ((op : Int) + 1)
    have HT4 := Lib.hid T4
    have HN4 := Lib.hid n4
    have y0 := n4.blk.cell 0 _ rfl
    clear T4 n4
    go_wp2_with fail
    refine wp_region_lex (fun w' => w'.cell? ⟨M, 1, none⟩ = some (.int .i64 ((op : Int) + 1)) ∧ w'.cell? ⟨M, 2, none⟩ = some (.int .i64 cnt)) [0, 1, 2, 3, 4, 5, 6, 7, 8, 9, 10, 11] [12] (by kernel_rfl) (by kernel_rfl) rfl (fun _ _ hx h => ⟨hx.cell h.1, hx.cell h.2⟩) ⟨m1, m2⟩ ?_
    intro Q' hQ'
    simp only [pickOps, List.flatMap_cons, List.flatMap_nil, List.drop_succ_cons, List.drop_zero, List.take_succ_cons, List.take_zero, List.cons_append, List.nil_append, List.append_nil]
    repeat (first
      | (refine wpReads_skip (by rfl) ?_; (try simp only [Act.put, List.setIfInBounds_toArray, List.set_cons_zero, List.set_cons_succ]))
      | (refine wpReads_cons ?_ (by rfl) (by rfl) ?_ ?_; rotate_left; (intro wz hz; (try dsimp only at hz); go_simp; try with_reducible rfl); (try simp only [Act.put, List.setIfInBounds_toArray, List.set_cons_zero, List.set_cons_succ]))
      | (refine wpReads_any ?_ (by rfl) ?_ ?_; rotate_left; (intro wz; go_simp; try with_reducible rfl); (try simp only [Act.put, List.setIfInBounds_toArray, List.set_cons_zero, List.set_cons_succ])))
    refine wpReads_nil ?_
    go_wp2
    go_ret
    exact ⟨congrArg Ending.returned (congrArg (Value.int .i64) (by simp)), o2, _, (HT2.out.trans HT3.out (fun _ h => h)).trans HT4.out.drew (fun _ h => h), by first | exact HN4.out.drewN 1 | (rw [show ((op + 1 : Nat) : Int) = (op : Int) + 1 by omega, show ((max cnt (op + 1) : Nat) : Int) = (op : Int) + 1 by omega]; exact HN4.out.drewN 1)⟩

set_option maxRecDepth 100000 in
theorem back_any (w : World) (o : Col) (M : Nat) (vo vf : Value) (ops : List GOp) (op : Nat) (cnt t : Int) (h : MkAt w o M vo ops ((op + 1 : Nat) : Int) cnt vf) (hl : ops.length ≤ 10000000000) (ho : op ≤ 1000000) :
    Calls Try.prog 80 #[.pointer (some ⟨M, 0, none⟩), .int .i64 t] w (MkRet (.tuple #[]) w o M (ops ++ [⟨2, op, t⟩]) op cnt vf) := by
  have hi : ((op + 1 : Nat) : Int) = (op : Int) + 1 := by omega
  rw [hi] at h
  clear hi
  have q1 := h.blk.cell 1 _ rfl
  have f1 := h.blk.frozen 1
  have hw : IntKind.i64.wrap ((op : Int) + 1 - 1) = (op : Int) := by rw [IntWalk.i64_in _ (by omega)]; omega
  obtain ⟨n3, T3⟩ := h.setN (op : Int)
  have p1 := n3.blk.cell 1 _ rfl
  have HT3 := Lib.hid T3
  have HN3 := Lib.hid n3
  have hl1 : ops.length ≤ 100000000000 := by omega
  clear h T3 n3
  go_enter Try.func80, Try.ntmps80
  go_wp2_with fail
  refine (put_any _ o M vo vf ops op cnt 2 op t HN3.out hl1).mono ?_
  rintro e w2 ⟨rfl, o2, vo2, T2, h2⟩
  have HT := Lib.hid (HT3.out.trans T2 (fun _ h => h))
  have HN := Lib.hid h2
  clear T2 h2
  go_wp2
  go_end0
  exact ⟨rfl, _, _, HT.out, HN.out⟩
end Go.Proofs.Ytbmbfifempkhgaa

/- emit's own. -/
namespace Go.Proofs.Ytbmbfifempkhgaa
open Go.RowKit

/-- a list of the answer's own -/
def OwnRet (w : World) (l : List Int) (e : Ending) (w' : World) : Prop := ∃ v, e = .returned v ∧ w'.ownsRow w.heap.size 3 1 v l.length (ivs l) ∧ Below w.heap.size w w'

set_option maxRecDepth 100000 in
theorem eown_any {o : Col} {c : Nat} (w : World) (ao : Option Addr) (n cap : Nat) (l : List Int) (h : Ints w o c (.slice ao n cap) l) (hn : l.length ≤ 17600000000000) : Calls Try.prog 46 #[.slice ao n cap] w (OwnRet w l) := by
  obtain ⟨i0, hi, hz0, hz1, hz2⟩ := info_parts info_int
  obtain rfl := h.len
  have hnews := h.news
  go_enter Try.func46, Try.ntmps46
  go_wp2_with (at_builtin; refine stop_here ?_)
  refine go_on ?_
  refine wpList_app rfl _ _ 52 rfl w.heap.size 3 i0 _ 1 8 Try.underlying52 hi hz0 hz1 hz2 rfl (.slice none 0 0) 0 [] rfl (World.ownsRow_nil w w.heap.size 3 1) ao l.length cap (ivs l) rfl (by simp) hnews.1 (by simpa using hnews.2) (ivs_one l) (by unfold maxLen; omega) (grow_ok (by omega)) (Nat.le_refl _) ?_
  intro v5 w5 k1 k20 _ _
  have hb : Below w.heap.size w w5 := below_mods ((Mods.refl _ w).grown k20 (fun b hb _ => by simp [Value.ownBlock] at hb))
  have k3 : w5.ownsRow w.heap.size 3 1 v5 l.length (ivs l) := by simpa using k1
  obtain ⟨s5, c5, rfl⟩ := owns_slice k3
  clear k1 k20 hnews h
  go_wp2
  go_ret
  exact ⟨_, rfl, k3, hb⟩
end Go.Proofs.Ytbmbfifempkhgaa

/- The closure of firings: an operation gets its kind and what it is on. -/
namespace Go.Proofs.Ytbmbfifempkhgaa
open Go.RowKit

def rowM (m : List (List GOp)) (a : Nat) : List GOp := m[a]?.getD []
def bAt (l : List GOp) (k : Nat) : Int := match l[k]? with | some x => x.b | none => 0
/-- the operation at a port gets its kind and what it is on -/
def putL (l : List GOp) (k : Nat) (kd x : Int) : List GOp := l.set k ⟨kd, x, bAt l k⟩
def putM (m : List (List GOp)) (a k : Nat) (kd x : Int) : List (List GOp) := m.set a (putL (rowM m a) k kd x)

theorem putL_len (l : List GOp) (k : Nat) (kd x : Int) : (putL l k kd x).length = l.length := by simp [putL]
theorem putM_len (m : List (List GOp)) (a k : Nat) (kd x : Int) : (putM m a k kd x).length = m.length := by simp [putM]
theorem putM_row (m : List (List GOp)) (a k : Nat) (kd x : Int) (i : Nat) : (rowM (putM m a k kd x) i).length = (rowM m i).length := by
  unfold putM rowM
  by_cases e : a = i
  · subst e
    by_cases h : a < m.length
    · rw [List.getElem?_set_self h, Option.getD_some, putL_len]
    · rw [List.getElem?_eq_none (by simpa using Nat.le_of_not_lt h), List.getElem?_eq_none (by omega)]
  · rw [List.getElem?_set_ne e]

theorem opsV_setK : ∀ (l : List GOp) (k : Nat) (h : k < l.length) (kd : Int), (opsV l).set (k * 3) (.int .u8 kd) = opsV (l.set k ⟨kd, l[k].a, l[k].b⟩)
  | [], k, h, _ => by simp at h
  | x :: l, 0, _, b => rfl
  | x :: l, k + 1, h, b => by
    have ih := opsV_setK l k (by simpa using h) b
    rw [opsV_cons, show (k + 1) * 3 = k * 3 + 1 + 1 + 1 by omega]
    simp only [List.set_cons_succ, ih, List.getElem_cons_succ, opsV_cons]

/-- what a write into a matrix answers -/
def OnRet (w : World) (o : Col) (c d : Nat) (v : Value) (m : List (List GOp)) (vs : List Value) (e : Ending) (w' : World) : Prop := e = .returned (.tuple #[]) ∧ Turn o o (fun x => x = d) w w' ∧ OpM w' o c d v m vs

theorem OpM.slot {w : World} {o : Col} {c d : Nat} {v : Value} {m : List (List GOp)} {vs : List Value} (h : OpM w o c d v m vs) {a : Nat} (ha : a < m.length) {k : Nat} (hk : k < (rowM m a).length) :
    ∃ G cap, vs[a]?.getD undef = .slice (some ⟨G, 0, none⟩) (rowM m a).length cap ∧ (rowM m a).length ≤ cap ∧ (∀ i, w.frozen? ⟨G, i, none⟩ = false) ∧ w.cell? ⟨G, k * 3, none⟩ = some (.int .u8 (rowM m a)[k].kind) ∧ w.cell? ⟨G, k * 3 + 1, none⟩ = some (.int .i64 (rowM m a)[k].a) ∧ w.cell? ⟨G, k * 3 + 2, none⟩ = some (.int .i64 (rowM m a)[k].b) := by
  have hr := (h.rows a ha).1
  rcases hr.2 with ⟨_, h0⟩ | ⟨G, cap, cur, e, _, hg, hc, _⟩
  · rw [rowM] at hk; omega
  · rw [e] at hr
    obtain ⟨g1, g2, g3⟩ := opsV_get (rowM m a) k hk
    refine ⟨G, cap, e, hc, fun i => frozen_of_block hg i, ?_, ?_, ?_⟩
    · have := hr.cells (g := G) rfl _ _ g1
      rwa [Addr.add_lit, Nat.zero_add] at this
    · have := hr.cells (g := G) rfl _ _ g2
      rwa [Addr.add_lit, Nat.zero_add] at this
    · have := hr.cells (g := G) rfl _ _ g3
      rwa [Addr.add_lit, Nat.zero_add] at this

theorem OpM.on {w : World} {o : Col} {c d : Nat} {v : Value} {m : List (List GOp)} {vs : List Value} (h : OpM w o c d v m vs) (hcd : c ≠ d) {a : Nat} (ha : a < m.length) {k : Nat} (hk : k < (rowM m a).length) {G n' cap : Nat} (hG : vs[a]?.getD undef = .slice (some ⟨G, 0, none⟩) n' cap) (kd x : Int) :
    Turn o o (fun x => x = d) w ((w.setCell ⟨G, k * 3, none⟩ (.int .u8 kd)).setCell ⟨G, k * 3 + 1, none⟩ (.int .i64 x)) ∧ OpM ((w.setCell ⟨G, k * 3, none⟩ (.int .u8 kd)).setCell ⟨G, k * 3 + 1, none⟩ (.int .i64 x)) o c d v (putM m a k kd x) vs := by
  have hb : (rowM m a)[k].b = bAt (rowM m a) k := by simp [bAt, hk]
  have e1 : (opsV (rowM m a)).set (k * 3) (.int .u8 kd) = opsV ((rowM m a).set k ⟨kd, (rowM m a)[k].a, (rowM m a)[k].b⟩) := opsV_setK _ _ hk kd
  obtain ⟨p1, T1⟩ := h.cell hcd (l' := (rowM m a).set k ⟨kd, (rowM m a)[k].a, (rowM m a)[k].b⟩) (u := .int .u8 kd) (i := k * 3) ha hG (by simp [rowM]) e1
  have ha2 : a < (m.set a ((rowM m a).set k ⟨kd, (rowM m a)[k].a, (rowM m a)[k].b⟩)).length := by simpa using ha
  have er : (m.set a ((rowM m a).set k ⟨kd, (rowM m a)[k].a, (rowM m a)[k].b⟩))[a]?.getD [] = (rowM m a).set k ⟨kd, (rowM m a)[k].a, (rowM m a)[k].b⟩ := by rw [List.getElem?_set_self ha]; rfl
  obtain ⟨p2, T2⟩ := p1.cell hcd (l' := putL (rowM m a) k kd x) (u := .int .i64 x) (i := k * 3 + 1) ha2 hG (by rw [er]; simp [putL]) (by
    rw [er, ← e1, opsV_setKA _ _ hk, putL, hb])
  refine ⟨T1.trans T2 (fun _ h => h), ?_⟩
  rw [List.set_set] at p2
  exact p2

set_option maxRecDepth 100000 in
theorem on_any (w : World) (o : Col) (c d : Nat) (v : Value) (m : List (List GOp)) (vs : List Value) (h : OpM w o c d v m vs) (hcd : c ≠ d) (a k : Nat) (ha : a < m.length) (hk : k < (rowM m a).length) (G n' cap : Nat) (hG : vs[a]?.getD undef = .slice (some ⟨G, 0, none⟩) n' cap) (kd x : Int) :
    Calls Try.prog 78 #[.pointer (some ⟨G, k * 3, none⟩), .int .u8 kd, .int .i64 x] w (OnRet w o c d v (putM m a k kd x) vs) := by
  obtain ⟨G', cap', e, _, hf, c0, c1, _⟩ := h.slot ha hk
  rw [hG] at e
  cases e
  have f0 := hf (k * 3)
  have f1 := hf (k * 3 + 1)
  obtain ⟨T, N⟩ := h.on hcd ha hk hG kd x
  have HT := Lib.hid T
  have HN := Lib.hid N
  clear T N h hG hf
  go_enter Try.func78, Try.ntmps78
  go_wp2
  go_end0
  exact ⟨rfl, HT.out, HN.out⟩
end Go.Proofs.Ytbmbfifempkhgaa
