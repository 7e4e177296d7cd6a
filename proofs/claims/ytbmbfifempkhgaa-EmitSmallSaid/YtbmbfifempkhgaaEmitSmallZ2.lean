/- The checker's take. -/
import Derived.Test.YtbmbfifempkhgaaEmitSmallZ1
import Derived.Deep.QuietTactic
import Derived.BigQuiet
import Derived.Test.YtbmbfifempkhgaaProg
import Derived.Deep.DeepMust
namespace Go.Proofs.Ytbmbfifempkhgaa
open Go.RowKit

theorem bvs_get {l : List Bool} {k : Nat} (h : k < l.length) : (bvs l)[k]? = some (.bool (l[k]?.getD false)) := by simp [bvs, h]
theorem bvs_set (l : List Bool) (k : Nat) (b : Bool) : (bvs l).toArray.setIfInBounds k (.bool b) = (bvs (l.set k b)).toArray := by simp [bvs, List.map_set]

/-- where a row lies -/
theorem Side.row {w : World} {o : Col} {c d : Nat} {ao : Option Addr} {n cap : Nat} {side : List (List Bool)} {gs : List Nat} (h : Side w o c d (.slice ao n cap) side gs) {a : Nat} (ha : a < side.length) :
    n = side.length ∧ n ≤ cap ∧ ∃ g, ao = some ⟨g, 0, none⟩ ∧ w.cell? ⟨g, a, none⟩ = some (.slice (some ⟨gs[a]?.getD 0, 0, none⟩) (side[a]?.getD []).length (side[a]?.getD []).length) := by
  obtain ⟨h1, h2, g, _, h4, h5, _, _⟩ := owns_cell h.own.1 (by simp; omega)
  exact ⟨h1, by omega, g, h4, h5 a _ (by simp [ha])⟩

/-- a place is taken -/
theorem Side.take {w : World} {o : Col} {c d : Nat} {v : Value} {side : List (List Bool)} {gs : List Nat} (h : Side w o c d v side gs) (hcd : c ≠ d) {a p : Nat} (ha : a < side.length) :
    Turn o o (fun x => x = d) w (w.setCell ⟨gs[a]?.getD 0, p, none⟩ (.bool true)) ∧ Side (w.setCell ⟨gs[a]?.getD 0, p, none⟩ (.bool true)) o c d v (side.set a ((side[a]?.getD []).set p true)) gs := by
  have hb := h.rows a ha
  obtain ⟨s1, T⟩ := hb.set p (.bool true)
  rw [bvs_set] at s1
  refine ⟨T, ⟨by rw [List.length_set]; exact h.len, ?_, fun k hk => ?_, fun i j hij hj => h.apart i j hij (by simpa using hj)⟩⟩
  · have h1 := h.own.turn T (fun e => hcd e)
    rw [List.length_set]
    have e : ((List.range side.length).map fun k => Value.slice (some ⟨gs[k]?.getD 0, 0, none⟩) ((side.set a ((side[a]?.getD []).set p true))[k]?.getD []).length ((side.set a ((side[a]?.getD []).set p true))[k]?.getD []).length) = (List.range side.length).map fun k => .slice (some ⟨gs[k]?.getD 0, 0, none⟩) (side[k]?.getD []).length (side[k]?.getD []).length := by
      refine List.map_congr_left fun k _ => ?_
      have e2 : ((side.set a ((side[a]?.getD []).set p true))[k]?.getD []).length = (side[k]?.getD []).length := by
        by_cases e : a = k
        · subst e
          simp [ha]
        · rw [List.getElem?_set_ne e]
      rw [e2]
    rw [e]
    exact h1
  · rw [List.length_set] at hk
    by_cases e : a = k
    · subst e
      rw [List.getElem?_set_self ha]
      exact s1
    · rw [List.getElem?_set_ne e]
      have hr := h.rows k hk
      have hne : gs[k]?.getD 0 ≠ gs[a]?.getD 0 := by
        rcases Nat.lt_or_gt_of_ne e with h1 | h1
        · exact (h.apart a k h1 hk).symm
        · exact h.apart k a h1 ha
      exact ⟨block_setCell_ne hr.1 hne _, hr.2⟩

theorem side1_nat (side : List (List Bool)) (a : Nat) : side1 side (a : Int) = side[a]?.getD [] := by simp [side1]

set_option maxRecDepth 100000 in
set_option maxHeartbeats 1000000 in
theorem gtake_any (w : World) (o : Col) (c d : Nat) (v : Value) (side : List (List Bool)) (gs : List Nat) (a p : Int) (hcd : c ≠ d) (h : Side w o c d v side gs) :
    Calls Try.prog 112 #[v, .int .i64 a, .int .i64 p] w fun e w' => e = .returned (.int .i64 (takeE side a p)) ∧ Turn o o (fun x => x = d) w w' ∧ (takeE side a p = 0 → Side w' o c d v (takeS side a p) gs) := by
  obtain ⟨ao, cap, rfl⟩ := h.own.slice
  obtain ⟨N, hN⟩ : ∃ N, takeE side a p = N := ⟨_, rfl⟩
  rw [hN]
  have HN := Lib.hid hN
  have HS := Lib.hid h
  clear hN h
  have hT0 := Lib.hid (Turn.refl o (fun x => x = d) w)
  by_cases h1 : a < 0
  · have e : N = 84 := by rw [← HN.out, takeE, if_pos (.inl h1)]
    subst e
    go_enter Try.func112, Try.ntmps112
    go_wp2
    go_ret
    exact ⟨rfl, by first | exact ⟨hT0.out, fun h => by cases h⟩ | exact hT0.out⟩
  obtain ⟨n, rfl⟩ : ∃ n : Nat, a = n := ⟨a.toNat, by omega⟩
  by_cases h2 : side.length ≤ n
  · have h2i : (side.length : Int) ≤ n := by omega
    have e : N = 84 := by rw [← HN.out, takeE, if_pos (.inr h2i)]
    subst e
    go_enter Try.func112, Try.ntmps112
    go_wp2
    go_ret
    exact ⟨rfl, by first | exact ⟨hT0.out, fun h => by cases h⟩ | exact hT0.out⟩
  have hlt : n < side.length := by omega
  have hlti : (n : Int) < side.length := by omega
  obtain ⟨_, hcap, g, rfl, hc⟩ := HS.out.row hlt
  have hcapi : (side.length : Int) ≤ cap := by omega
  have hE : N = if p < 0 ∨ ((side[n]?.getD []).length : Int) ≤ p then 85 else if (side[n]?.getD [])[p.toNat]?.getD false then 86 else 0 := by
    rw [← HN.out, takeE, if_neg (by omega), side1_nat]
  have HE := Lib.hid hE
  obtain ⟨row, hrow⟩ : ∃ row, side[n]?.getD [] = row := ⟨_, rfl⟩
  rw [hrow] at HE hc
  have hblk := HS.out.rows n hlt
  rw [hrow] at hblk
  have HR := Lib.hid hrow
  clear hE hrow
  by_cases h3 : p < 0
  · have e : N = 85 := by rw [HE.out, if_pos (.inl h3)]
    subst e
    go_enter Try.func112, Try.ntmps112
    go_wp2
    go_ret
    exact ⟨rfl, by first | exact ⟨hT0.out, fun h => by cases h⟩ | exact hT0.out⟩
  obtain ⟨q, rfl⟩ : ∃ q : Nat, p = q := ⟨p.toNat, by omega⟩
  by_cases h4 : row.length ≤ q
  · have h4i : (row.length : Int) ≤ q := by omega
    have e : N = 85 := by rw [HE.out, if_pos (.inr h4i)]
    subst e
    go_enter Try.func112, Try.ntmps112
    go_wp2
    go_ret
    exact ⟨rfl, by first | exact ⟨hT0.out, fun h => by cases h⟩ | exact hT0.out⟩
  have h4i : (q : Int) < row.length := by omega
  have hq := hblk.cell q (.bool (row[q]?.getD false)) (by rw [List.getElem?_toArray]; exact bvs_get (by omega))
  have hfz := hblk.frozen q
  have hE2 : N = if row[q]?.getD false then 86 else 0 := by rw [HE.out, if_neg (by omega)]; rfl
  have HE2 := Lib.hid hE2
  clear hE2 hblk HE
  obtain ⟨b, hb⟩ : ∃ b, row[q]?.getD false = b := ⟨_, rfl⟩
  rw [hb] at hq HE2
  clear hb
  cases b with
  | true =>
    have e : N = 86 := HE2.out
    subst e
    go_enter Try.func112, Try.ntmps112
    go_wp2
    go_ret
    exact ⟨rfl, by first | exact ⟨hT0.out, fun h => by cases h⟩ | exact hT0.out⟩
  | false =>
    have e : N = 0 := HE2.out
    subst e
    obtain ⟨t1, t2⟩ := HS.out.take hcd (a := n) (p := q) hlt
    have T1 := Lib.hid t1
    have T2 : Hid (Side (w.setCell ⟨gs[n]?.getD 0, q, none⟩ (.bool true)) o c d (.slice (some ⟨g, 0, none⟩) side.length cap) (takeS side (n : Int) (q : Int)) gs) := Lib.hid (by simpa [takeS, side1_nat] using t2)
    clear t1 t2
    go_enter Try.func112, Try.ntmps112
    go_wp2
    go_ret
    exact ⟨rfl, T1.out, by first | exact T2.out | exact fun _ => T2.out⟩
end Go.Proofs.Ytbmbfifempkhgaa

/- Operations, rows of rows of operations in memory. No function in sight. -/
namespace Go.Proofs.Ytbmbfifempkhgaa
open Go.RowKit

structure GOp where
  kind : Int
  a : Int
  b : Int
def opV (x : GOp) : List Value := [.int .u8 x.kind, .int .i64 x.a, .int .i64 x.b]
def opsV (l : List GOp) : List Value := l.flatMap opV

theorem opsV_cons (x : GOp) (l : List GOp) : opsV (x :: l) = .int .u8 x.kind :: .int .i64 x.a :: .int .i64 x.b :: opsV l := rfl
theorem opsV_len : ∀ l : List GOp, (opsV l).length = l.length * 3
  | [] => rfl
  | x :: l => by rw [opsV_cons]; simp only [List.length_cons, opsV_len l]; omega
theorem opsV_app (l m : List GOp) : opsV (l ++ m) = opsV l ++ opsV m := by simp [opsV]
theorem opsV_get : ∀ (l : List GOp) (k : Nat) (h : k < l.length), (opsV l)[k * 3]? = some (.int .u8 l[k].kind) ∧ (opsV l)[k * 3 + 1]? = some (.int .i64 l[k].a) ∧ (opsV l)[k * 3 + 2]? = some (.int .i64 l[k].b)
  | [], k, h => by simp at h
  | x :: l, 0, _ => ⟨rfl, rfl, rfl⟩
  | x :: l, k + 1, h => by
    have ih := opsV_get l k (by simpa using h)
    rw [opsV_cons, show (k + 1) * 3 = k * 3 + 1 + 1 + 1 by omega]
    exact ⟨ih.1, ih.2.1, ih.2.2⟩
theorem opsV_setB : ∀ (l : List GOp) (k : Nat) (h : k < l.length) (b : Int), (opsV l).set (k * 3 + 2) (.int .i64 b) = opsV (l.set k ⟨l[k].kind, l[k].a, b⟩)
  | [], k, h, _ => by simp at h
  | x :: l, 0, _, b => rfl
  | x :: l, k + 1, h, b => by
    have ih := opsV_setB l k (by simpa using h) b
    rw [opsV_cons, show (k + 1) * 3 + 2 = k * 3 + 2 + 1 + 1 + 1 by omega]
    simp only [List.set_cons_succ, ih, List.getElem_cons_succ, opsV_cons]
theorem opsV_setKA : ∀ (l : List GOp) (k : Nat) (h : k < l.length) (kd a : Int), ((opsV l).set (k * 3) (.int .u8 kd)).set (k * 3 + 1) (.int .i64 a) = opsV (l.set k ⟨kd, a, l[k].b⟩)
  | [], k, h, _, _ => by simp at h
  | x :: l, 0, _, _, _ => rfl
  | x :: l, k + 1, h, kd, a => by
    have ih := opsV_setKA l k (by simpa using h) kd a
    rw [opsV_cons, show (k + 1) * 3 = k * 3 + 1 + 1 + 1 by omega]
    simp only [List.set_cons_succ, List.getElem_cons_succ, opsV_cons, ih]
theorem opsV_one : ∀ (l : List GOp), ∀ u ∈ opsV l, u.oneCell' = true
  | [], u, h => by simp [opsV] at h
  | x :: l, u, h => by
    rw [opsV_cons] at h
    simp only [List.mem_cons] at h
    rcases h with rfl | rfl | rfl | h
    · rfl
    · rfl
    · rfl
    · exact opsV_one l u h
theorem madeCells_three (a b c : Value) : ∀ n : Nat, (madeCells #[a, b, c] (n * 3)).toList = (List.replicate n [a, b, c]).flatten
  | 0 => by simp [madeCells]
  | n + 1 => by
    have ih := madeCells_three a b c n
    simp only [madeCells, Array.toList_map, Array.toList_range] at ih ⊢
    rw [show (n + 1) * 3 = n * 3 + 1 + 1 + 1 by omega, List.range_succ, List.range_succ, List.range_succ]
    simp only [List.map_append, ih, List.map_cons, List.map_nil, List.append_assoc, List.cons_append, List.nil_append]
    have e0 : n * 3 % 3 = 0 := by omega
    have e1 : (n * 3 + 1) % 3 = 1 := by omega
    have e2 : (n * 3 + 1 + 1) % 3 = 2 := by omega
    rw [List.replicate_succ', List.flatten_append]
    simp [e0, e1, e2]
def opZ : Value := .agg #[.int .u8 0, .int .i64 0, .int .i64 0]
theorem opsV_zero (n : Nat) : (madeCells opZ.cells (n * 3)).toList = opsV (List.replicate n ⟨0, 0, 0⟩) := by
  rw [show opZ.cells = #[.int .u8 0, .int .i64 0, .int .i64 0] from rfl, madeCells_three]
  induction n with
  | zero => rfl
  | succ n ih => rw [List.replicate_succ, List.replicate_succ, List.flatten_cons, ih, opsV_cons]; rfl

theorem info_Op : (Try.prog.info? 61).map (fun i => (i.zero, i.size, i.bytes)) = some (some opZ, 3, 24) := by kernel_rfl
theorem info_Ops : (Try.prog.info? 37).map (fun i => (i.zero, i.size, i.bytes)) = some (some (.slice none 0 0), 1, 24) := by kernel_rfl

/-- a slice of slices of operations, each its owner's own: the slice in colour c, the rows in colour d -/
structure OpM (w : World) (o : Col) (c d : Nat) (v : Value) (m : List (List GOp)) (vs : List Value) : Prop where
  len : vs.length = m.length
  own : Own w o c 37 1 v m.length vs
  rows : ∀ k, k < m.length → Own w o d 61 3 (vs[k]?.getD undef) (m[k]?.getD []).length (opsV (m[k]?.getD []))
  apart : ∀ i j B, i < j → j < m.length → (vs[i]?.getD undef).ownBlock = some B → (vs[j]?.getD undef).ownBlock ≠ some B

section
variable {w w1 w' : World} {o o1 o' : Col} {C : Nat → Prop} {c d : Nat} {v : Value} {m : List (List GOp)} {vs : List Value}

theorem OpM.turn (h : OpM w o c d v m vs) (T : Turn o o' C w w') (hc : ¬ C c) (hd : ¬ C d) : OpM w' o' c d v m vs :=
  ⟨h.len, h.own.turn T hc, fun k hk => (h.rows k hk).turn T hd, h.apart⟩
theorem OpM.row {ao : Option Addr} {n cap : Nat} (h : OpM w o c d (.slice ao n cap) m vs) {a : Nat} (ha : a < m.length) :
    n = m.length ∧ n ≤ cap ∧ ∃ g, ao = some ⟨g, 0, none⟩ ∧ w.cell? ⟨g, a, none⟩ = some (vs[a]?.getD undef) ∧ w.frozen? ⟨g, a, none⟩ = false := by
  obtain ⟨h1, h2, g, _, h4, h5, h6, _⟩ := owns_cell h.own.1 (by have := h.len; omega)
  refine ⟨h1, by omega, g, h4, ?_, h6 a⟩
  have hl := h.len
  rw [h5 a vs[a] (by simp [show a < vs.length by omega])]
  simp [show a < vs.length by omega]

theorem OpM.apart' (h : OpM w o c d v m vs) {i j B : Nat} (hij : i ≠ j) (hi : i < m.length) (hj : j < m.length) (hB : (vs[i]?.getD undef).ownBlock = some B) : (vs[j]?.getD undef).ownBlock ≠ some B := by
  rcases Nat.lt_or_gt_of_ne hij with hlt | hlt
  · exact h.apart i j B hlt hj hB
  · exact fun e => h.apart j i B hlt hi e hB

/-- a cell of a row is written -/
theorem OpM.cell (h : OpM w o c d v m vs) (hcd : c ≠ d) {a G n' cap' i : Nat} (ha : a < m.length) (hG : vs[a]?.getD undef = .slice (some ⟨G, 0, none⟩) n' cap') {l' : List GOp} {u : Value} (hl : l'.length = (m[a]?.getD []).length) (hu : (opsV (m[a]?.getD [])).set i u = opsV l') :
    OpM (w.setCell ⟨G, i, none⟩ u) o c d v (m.set a l') vs ∧ Turn o o (fun x => x = d) w (w.setCell ⟨G, i, none⟩ u) := by
  have hr := h.rows a ha
  rw [hG] at hr
  have hoG : o G = d := hr.2 G rfl
  have T : Turn o o (fun x => x = d) w (w.setCell ⟨G, i, none⟩ u) := ⟨(Mods.refl (fun k => o k = d) w).setCell (p := ⟨G, i, none⟩) (fun _ => hoG) u, fun _ _ => rfl⟩
  have hn : n' = (m[a]?.getD []).length := by
    rcases hr.1.2 with ⟨e, _⟩ | ⟨_, _, _, e, _⟩
    · cases e
    · cases e; rfl
  refine ⟨⟨by rw [List.length_set]; exact h.len, ?_, fun k hk => ?_, fun i j B hij hj => h.apart i j B hij (by simpa using hj)⟩, T⟩
  · rw [List.length_set]; exact h.own.turn T (fun e => hcd e)
  · rw [List.length_set] at hk
    by_cases e : a = k
    · subst e
      rw [List.getElem?_set_self ha, Option.getD_some, hG]
      have hr1 := hr.1
      subst hn
      have hs := (hr1.stored i u).1
      rw [hu, ← hl] at hs
      rw [← hl]
      exact ⟨hs, hr.2⟩
    · rw [List.getElem?_set_ne e]
      have hk2 := h.rows k hk
      exact ⟨ownsRow_setCell_other hk2.1 (fun e2 => h.apart' e ha hk (by rw [hG]; rfl) e2) u, hk2.2⟩

/-- a row is laid anew -/
theorem OpM.lay {g n cap a : Nat} {l' : List GOp} {v' : Value} {F : Nat → Prop} (h : OpM w o c d (.slice (some ⟨g, 0, none⟩) n cap) m vs) (hcd : c ≠ d) (ha : a < m.length) (hm : Mods F w w1) (hF : ∀ k, k < w.heap.size → F k → (vs[a]?.getD undef).ownBlock = some k)
    (ho : ∀ k, k < w.heap.size → o1 k = o k) (hv : Own w1 o1 d 61 3 v' l'.length (opsV l')) (hb : v'.ownBlock = (vs[a]?.getD undef).ownBlock ∨ ∀ k, v'.ownBlock = some k → w.heap.size ≤ k) :
    OpM (w1.setCell ⟨g, a, none⟩ v') o1 c d (.slice (some ⟨g, 0, none⟩) n cap) (m.set a l') (vs.set a v') ∧ Turn o o1 (fun x => x = c ∨ x = d) w (w1.setCell ⟨g, a, none⟩ v') := by
  have hgw : g < w.heap.size := (h.own.1.lt g rfl).2
  have hgc : o g = c := h.own.2 g rfl
  have T : Turn o o1 (fun x => x = c ∨ x = d) w (w1.setCell ⟨g, a, none⟩ v') :=
    ⟨(hm.mono (G := fun k => o k = c ∨ o k = d) (fun k hk f => .inr ((h.rows a ha).2 k (hF k hk f)))).setCell (p := ⟨g, a, none⟩) (fun _ => .inl hgc) v', ho⟩
  have hrow : ∀ k, k < m.length → ∀ B, (vs[k]?.getD undef).ownBlock = some B → B < w.heap.size ∧ o B = d := fun k hk B hB => ⟨((h.rows k hk).1.lt B hB).2, (h.rows k hk).2 B hB⟩
  have hgF : ¬ F g := fun f => by
    have := (hrow a ha g (hF g hgw f)).2
    omega
  have hnew : ∀ k, k < m.length → k ≠ a → ∀ B, (vs[k]?.getD undef).ownBlock = some B → v'.ownBlock ≠ some B := fun k hk hka B hB e => by
    rcases hb with hb | hb
    · rw [hb] at e
      exact h.apart' hka hk ha hB e
    · have := hb B e
      have := (hrow k hk B hB).1
      omega
  have hvg : v'.ownBlock ≠ some g := fun e => by
    rcases hb with hb | hb
    · rw [hb] at e
      have := (hrow a ha g e).2
      omega
    · have := hb g e; omega
  have hl := h.len
  have hown1 : w1.ownsRow 0 37 1 (.slice (some ⟨g, 0, none⟩) n cap) m.length vs := owns_kept h.own.1 hm (fun k hk f => by have e : g = k := Option.some.inj hk; subst e; exact hgF f)
  have hn : n = m.length := by
    rcases h.own.1.2 with ⟨e, _⟩ | ⟨_, _, _, e, _⟩
    · cases e
    · cases e; rfl
  subst hn
  refine ⟨⟨by simp [hl], ?_, fun k hk => ?_, fun i j B hij hj hB => ?_⟩, T⟩
  · rw [List.length_set]
    exact ⟨(hown1.stored a v').1, fun k hk => by have e : g = k := Option.some.inj hk; subst e; exact (ho g hgw).trans hgc⟩
  · rw [List.length_set] at hk
    by_cases e : a = k
    · subst e
      rw [List.getElem?_set_self ha, List.getElem?_set_self (by omega), Option.getD_some, Option.getD_some]
      exact ⟨ownsRow_setCell_other hv.1 hvg v', hv.2⟩
    · rw [List.getElem?_set_ne e, List.getElem?_set_ne e]
      have hk2 := h.rows k hk
      refine ⟨ownsRow_setCell_other (owns_kept hk2.1 hm fun B hB f => ?_) (fun e2 => ?_) v', fun B hB => (ho B (hrow k hk B hB).1).trans (hk2.2 B hB)⟩
      · exact h.apart' (fun e' => e e'.symm) hk ha hB (hF B (hrow k hk B hB).1 f)
      · have := (hrow k hk g e2).2
        omega
  · rw [List.length_set] at hj
    by_cases hai : a = i
    · subst hai
      rw [List.getElem?_set_self (by omega), Option.getD_some] at hB
      rw [List.getElem?_set_ne (by omega)]
      intro e
      exact hnew j hj (by omega) B e hB
    · rw [List.getElem?_set_ne hai] at hB
      by_cases haj : a = j
      · subst haj
        rw [List.getElem?_set_self (by omega), Option.getD_some]
        exact hnew i (by omega) (by omega) B hB
      · rw [List.getElem?_set_ne haj]
        exact h.apart i j B hij hj hB
end
end Go.Proofs.Ytbmbfifempkhgaa

/- The writer's put, head, back. -/
namespace Go.Proofs.Ytbmbfifempkhgaa
open Go.RowKit

/-- the colours of what a maker owns: its block, its operations -/
def MkC (x : Nat) : Prop := x = 1 ∨ x = 2
/-- a maker in memory -/
structure MkAt (w : World) (o : Col) (M : Nat) (vo : Value) (ops : List GOp) (op cnt : Int) (vf : Value) : Prop where
  blk : Blk w o 1 M 104 #[vo, .int .i64 op, .int .i64 cnt, vf]
  own : Own w o 2 61 3 vo ops.length (opsV ops)

theorem MkAt.turn {w w' : World} {o o' : Col} {C : Nat → Prop} {M : Nat} {vo vf : Value} {ops : List GOp} {op cnt : Int} (h : MkAt w o M vo ops op cnt vf) (T : Turn o o' C w w') (h1 : ¬ C 1) (h2 : ¬ C 2) : MkAt w' o' M vo ops op cnt vf := ⟨h.blk.turn T h1, h.own.turn T h2⟩
theorem MkAt.drewN {w : World} {o : Col} {M : Nat} {vo vf : Value} {ops : List GOp} {op cnt : Int} (h : MkAt w o M vo ops op cnt vf) (m : Nat) : MkAt (w.drewN m) o M vo ops op cnt vf := ⟨h.blk, h.own⟩
theorem MkAt.setN {w : World} {o : Col} {M : Nat} {vo vf : Value} {ops : List GOp} {op cnt : Int} (h : MkAt w o M vo ops op cnt vf) (x : Int) : MkAt (w.setCell ⟨M, 1, none⟩ (.int .i64 x)) o M vo ops x cnt vf ∧ Turn o o MkC w (w.setCell ⟨M, 1, none⟩ (.int .i64 x)) := by
  obtain ⟨b, T⟩ := h.blk.set 1 (.int .i64 x)
  exact ⟨⟨b, h.own.turn T (by decide)⟩, T.mono (fun x e => .inl e)⟩
theorem MkAt.setC {w : World} {o : Col} {M : Nat} {vo vf : Value} {ops : List GOp} {op cnt : Int} (h : MkAt w o M vo ops op cnt vf) (x : Int) : MkAt (w.setCell ⟨M, 2, none⟩ (.int .i64 x)) o M vo ops op x vf ∧ Turn o o MkC w (w.setCell ⟨M, 2, none⟩ (.int .i64 x)) := by
  obtain ⟨b, T⟩ := h.blk.set 2 (.int .i64 x)
  exact ⟨⟨b, h.own.turn T (by decide)⟩, T.mono (fun x e => .inl e)⟩
/-- operations are put behind the others -/
theorem MkAt.grow {w w2 : World} {o : Col} {M : Nat} {vo vf v' : Value} {ops news : List GOp} {op cnt : Int} (h : MkAt w o M vo ops op cnt vf) (k1 : w2.ownsRow 0 61 3 v' (ops.length + news.length) (opsV ops ++ opsV news)) (k2 : Mods (fun b => vo.ownBlock = some b) w w2)
    (k4 : v'.ownBlock = vo.ownBlock ∨ ∀ b, v'.ownBlock = some b → w.heap.size ≤ b) :
    w2.cell? ⟨M, 0, none⟩ = some vo ∧ w2.frozen? ⟨M, 0, none⟩ = false ∧ Turn o (ext o w.heap.size 2) MkC w (w2.setCell ⟨M, 0, none⟩ v') ∧ MkAt (w2.setCell ⟨M, 0, none⟩ v') (ext o w.heap.size 2) M v' (ops ++ news) op cnt vf := by
  have T : Turn o (ext o w.heap.size 2) (fun x => x = 2) w w2 := Turn.of_mods o 2 k2 (fun b _ hb => h.own.2 b hb)
  have b2 := h.blk.turn T (by decide)
  obtain ⟨b3, T3⟩ := b2.set 0 v'
  have hM := h.blk.lt
  have hMc : o M = 1 := h.blk.2
  have hvM : v'.ownBlock ≠ some M := fun e => by
    rcases k4 with k4 | k4
    · rw [k4] at e
      have := h.own.2 M e
      omega
    · have := k4 M e; omega
  refine ⟨b2.cell 0 _ rfl, b2.frozen 0, (T.mono (D := MkC) (fun x e => .inr e)).trans T3 (fun x e => .inl e), b3, ?_, fun b hb => ?_⟩
  · rw [List.length_append, opsV_app]
    exact ownsRow_setCell_other k1 hvM v'
  · rcases k4 with k4 | k4
    · rw [k4] at hb
      exact (ext_old (h.own.1.lt b hb).2).trans (h.own.2 b hb)
    · exact ext_new (k4 b hb)

/-- what the writer's calls answer -/
def MkRet (v : Value) (w : World) (o : Col) (M : Nat) (ops : List GOp) (op cnt : Int) (vf : Value) (e : Ending) (w' : World) : Prop := e = .returned v ∧ ∃ o' vo', Turn o o' MkC w w' ∧ MkAt w' o' M vo' ops op cnt vf

set_option maxRecDepth 100000 in
set_option maxHeartbeats 1000000 in
theorem put_any (w : World) (o : Col) (M : Nat) (vo vf : Value) (ops : List GOp) (op cnt kd a b : Int) (h : MkAt w o M vo ops op cnt vf) (hl : ops.length ≤ 100000000000) :
    Calls Try.prog 45 #[.pointer (some ⟨M, 0, none⟩), .int .u8 kd, .int .i64 a, .int .i64 b] w (MkRet (.tuple #[]) w o M (ops ++ [⟨kd, a, b⟩]) op cnt vf) := by
  obtain ⟨i0, hi, hz0, hz1, hz2⟩ := info_parts info_Op
  obtain ⟨sa, sc, rfl⟩ := h.own.slice
  have q0 := h.blk.cell 0 _ rfl
  have HH := Lib.hid h
  clear h
  go_enter Try.func45, Try.ntmps45
  go_wp2_with (at_builtin; refine stop_here ?_)
  refine go_on ?_
  refine wpList_app rfl _ _ 37 rfl 0 61 i0 _ 3 24 Try.underlying37 hi hz0 hz1 hz2 rfl (.slice sa ops.length sc) ops.length _ rfl (HH.out.own.1.alloc (.cells #[.int .u8 kd, .int .i64 a, .int .i64 b] 61)) (some ⟨w.heap.size, 0, none⟩) 1 1 [.int .u8 kd, .int .i64 a, .int .i64 b] rfl rfl (fun h => by cases h) (news_alloc w [.int .u8 kd, .int .i64 a, .int .i64 b] 61) (by simp [Value.oneCell']) (by unfold maxLen; omega) (grow_ok (by omega)) (Nat.zero_le _) ?_
  intro v5 w5 k1 k20 _ k4
  have hm : Mods (fun b => (Value.slice sa ops.length sc).ownBlock = some b) w w5 := ((Mods.refl _ w).alloc _).grown k20 (fun b hb _ => hb)
  obtain ⟨z0, zf, T, N⟩ := HH.out.grow (news := [⟨kd, a, b⟩]) (v' := v5) (w2 := w5) k1 hm (k4.imp id (fun k4 b hb => by rw [k4] at hb; have := Option.some.inj hb; simp at this; omega))
  obtain ⟨s5, c5, rfl⟩ := owns_slice k1
  have HT := Lib.hid T
  have HN := Lib.hid N
  clear T N k1 k20 k4 hm q0
  go_wp2
  go_end0
  exact ⟨rfl, _, _, HT.out, HN.out⟩


set_option maxRecDepth 100000 in
set_option maxHeartbeats 1000000 in
theorem head_any (w : World) (o : Col) (M : Nat) (vo vf : Value) (ops : List GOp) (op cnt : Nat) (t : Int) (h : MkAt w o M vo ops op cnt vf) (hl : ops.length ≤ 10000000000) (ho : op ≤ 1000000) (hc : cnt ≤ 1000000) :
    Calls Try.prog 79 #[.pointer (some ⟨M, 0, none⟩), .int .i64 t] w (MkRet (.int .i64 ((ops.length + 1 : Nat) : Int)) w o M (ops ++ [⟨1, op, t⟩]) ((op + 1 : Nat) : Int) ((max cnt (op + 1) : Nat) : Int) vf) := by
  have q1 := h.blk.cell 1 _ rfl
  have HH := Lib.hid h
  have hl1 : ops.length ≤ 100000000000 := by omega
  clear h
  go_enter Try.func79, Try.ntmps79
  go_wp2_with fail
  refine (put_any w o M vo vf ops op cnt 1 op t HH.out hl1).mono ?_
  rintro e w2 ⟨rfl, o2, vo2, T2, h2⟩
  obtain ⟨s2, c2, rfl⟩ := h2.own.slice
  have p1 := h2.blk.cell 1 _ rfl
  have f1 := h2.blk.frozen 1
  have p2 := h2.blk.cell 2 _ rfl
  have f2 := h2.blk.frozen 2
  have hw : IntKind.i64.wrap ((op : Int) + 1) = (op : Int) + 1 := IntWalk.i64_in _ (by omega)
  obtain ⟨n3, T3⟩ := h2.setN ((op : Int) + 1)
  have HT2 := Lib.hid T2
  have HT3 := Lib.hid T3
  have HN3 := Lib.hid n3
  have m1 := n3.blk.cell 1 _ rfl
  have m2 := n3.blk.cell 2 _ rfl
  clear T2 T3 n3 q1 h2
  by_cases hx : op + 1 ≤ cnt
  · have hxi : (op : Int) + 1 ≤ cnt := by omega
    obtain ⟨n4, T4⟩ := HN3.out.setC ((cnt : Int))
    have HT4 := Lib.hid T4
    have HN4 := Lib.hid n4
    have y0 := n4.blk.cell 0 _ rfl
    clear T4 n4
    go_wp2_with fail
    refine wp_region_lex (fun w' => w'.cell? ⟨M, 1, none⟩ = some (.int .i64 ((op : Int) + 1)) ∧ w'.cell? ⟨M, 2, none⟩ = some (.int .i64 cnt)) [0, 1, 2, 3, 4, 5, 6, 7, 8, 9, 10, 11] [12] (by kernel_rfl) (by kernel_rfl) rfl (fun _ _ hx h => ⟨hx.cell h.1, hx.cell h.2⟩) ⟨m1, m2⟩ ?_
    intro Q' hQ'
    simp only [pickOps, List.flatMap_cons, List.flatMap_nil, List.drop_succ_cons, List.drop_zero, List.take_succ_cons, List.take_zero, List.cons_append, List.nil_append, List.append_nil]
    repeat (first
      | (refine wpReads_skip (by rfl) ?_; (try simp only [Act.put, List.setIfInBounds_toArray, List.set_cons_zero, List.set_cons_succ]))
      | (refine wpReads_cons ?_ (by rfl) (by rfl) ?_ ?_; rotate_left; (intro wz hz; (try dsimp only at hz); go_simp; try with_reducible rfl); (try simp only [Act.put, List.setIfInBounds_toArray, List.set_cons_zero, List.set_cons_succ]))
      | (refine wpReads_any ?_ (by rfl) ?_ ?_; rotate_left; (intro wz; go_simp; try with_reducible rfl); (try simp only [Act.put, List.setIfInBounds_toArray, List.set_cons_zero, List.set_cons_succ])))
    refine wpReads_nil ?_
    go_wp2
    go_ret
    exact ⟨congrArg Ending.returned (congrArg (Value.int .i64) (by simp)), o2, _, (HT2.out.trans HT3.out (fun _ h => h)).trans HT4.out.drew (fun _ h => h), by first | exact HN4.out.drewN 1 | (rw [show ((op + 1 : Nat) : Int) = (op : Int) + 1 by omega, show ((max cnt (op + 1) : Nat) : Int) = (cnt : Int) by omega]; exact HN4.out.drewN 1)⟩
  · have hxi : (cnt : Int) < op + 1 := by omega
    obtain ⟨n4, T4⟩ := HN3.out.setC ((op : Int) + 1)
    have HT4 := Lib.hid T4
    have HN4 := Lib.hid n4
    have y0 := n4.blk.cell 0 _ rfl
    clear T4 n4
    go_wp2_with fail
    refine wp_region_lex (fun w' => w'.cell? ⟨M, 1, none⟩ = some (.int .i64 ((op : Int) + 1)) ∧ w'.cell? ⟨M, 2, none⟩ = some (.int .i64 cnt)) [0, 1, 2, 3, 4, 5, 6, 7, 8, 9, 10, 11] [12] (by kernel_rfl) (by kernel_rfl) rfl (fun _ _ hx h => ⟨hx.cell h.1, hx.cell h.2⟩) ⟨m1, m2⟩ ?_
    intro Q' hQ'
    simp only [pickOps, List.flatMap_cons, List.flatMap_nil, List.drop_succ_cons, List.drop_zero, List.take_succ_cons, List.take_zero, List.cons_append, List.nil_append, List.append_nil]
    repeat (first
      | (refine wpReads_skip (by rfl) ?_; (try simp only [Act.put, List.setIfInBounds_toArray, List.set_cons_zero, List.set_cons_succ]))
      | (refine wpReads_cons ?_ (by rfl) (by rfl) ?_ ?_; rotate_left; (intro wz hz; (try dsimp only at hz); go_simp; try with_reducible rfl); (try simp only [Act.put, List.setIfInBounds_toArray, List.set_cons_zero, List.set_cons_succ]))
      | (refine wpReads_any ?_ (by rfl) ?_ ?_; rotate_left; (intro wz; go_simp; try with_reducible rfl); (try simp only [Act.put, List.setIfInBounds_toArray, List.set_cons_zero, List.set_cons_succ])))
    refine wpReads_nil ?_
    go_wp2
    go_ret
    exact ⟨congrArg Ending.returned (congrArg (Value.int .i64) (by simp)), o2, _, (HT2.out.trans HT3.out (fun _ h => h)).trans HT4.out.drew (fun _ h => h), by first | exact HN4.out.drewN 1 | (rw [show ((op + 1 : Nat) : Int) = (op : Int) + 1 by omega, show ((max cnt (op + 1) : Nat) : Int) = (op : Int) + 1 by omega]; exact HN4.out.drewN 1)⟩

set_option maxRecDepth 100000 in
theorem back_any (w : World) (o : Col) (M : Nat) (vo vf : Value) (ops : List GOp) (op : Nat) (cnt t : Int) (h : MkAt w o M vo ops ((op + 1 : Nat) : Int) cnt vf) (hl : ops.length ≤ 10000000000) (ho : op ≤ 1000000) :
    Calls Try.prog 80 #[.pointer (some ⟨M, 0, none⟩), .int .i64 t] w (MkRet (.tuple #[]) w o M (ops ++ [⟨2, op, t⟩]) op cnt vf) := by
  have hi : ((op + 1 : Nat) : Int) = (op : Int) + 1 := by omega
  rw [hi] at h
  clear hi
  have q1 := h.blk.cell 1 _ rfl
  have f1 := h.blk.frozen 1
  have hw : IntKind.i64.wrap ((op : Int) + 1 - 1) = (op : Int) := by rw [IntWalk.i64_in _ (by omega)]; omega
  obtain ⟨n3, T3⟩ := h.setN (op : Int)
  have p1 := n3.blk.cell 1 _ rfl
  have HT3 := Lib.hid T3
  have HN3 := Lib.hid n3
  have hl1 : ops.length ≤ 100000000000 := by omega
  clear h T3 n3
  go_enter Try.func80, Try.ntmps80
  go_wp2_with fail
  refine (put_any _ o M vo vf ops op cnt 2 op t HN3.out hl1).mono ?_
  rintro e w2 ⟨rfl, o2, vo2, T2, h2⟩
  have HT := Lib.hid (HT3.out.trans T2 (fun _ h => h))
  have HN := Lib.hid h2
  clear T2 h2
  go_wp2
  go_end0
  exact ⟨rfl, _, _, HT.out, HN.out⟩
end Go.Proofs.Ytbmbfifempkhgaa

/- emit's own. -/
namespace Go.Proofs.Ytbmbfifempkhgaa
open Go.RowKit

/-- a list of the answer's own -/
def OwnRet (w : World) (l : List Int) (e : Ending) (w' : World) : Prop := ∃ v, e = .returned v ∧ w'.ownsRow w.heap.size 3 1 v l.length (ivs l) ∧ Below w.heap.size w w'

set_option maxRecDepth 100000 in
theorem eown_any {o : Col} {c : Nat} (w : World) (ao : Option Addr) (n cap : Nat) (l : List Int) (h : Ints w o c (.slice ao n cap) l) (hn : l.length ≤ 17600000000000) : Calls Try.prog 46 #[.slice ao n cap] w (OwnRet w l) := by
  obtain ⟨i0, hi, hz0, hz1, hz2⟩ := info_parts info_int
  obtain rfl := h.len
  have hnews := h.news
  go_enter Try.func46, Try.ntmps46
  go_wp2_with (at_builtin; refine stop_here ?_)
  refine go_on ?_
  refine wpList_app rfl _ _ 52 rfl w.heap.size 3 i0 _ 1 8 Try.underlying52 hi hz0 hz1 hz2 rfl (.slice none 0 0) 0 [] rfl (World.ownsRow_nil w w.heap.size 3 1) ao l.length cap (ivs l) rfl (by simp) hnews.1 (by simpa using hnews.2) (ivs_one l) (by unfold maxLen; omega) (grow_ok (by omega)) (Nat.le_refl _) ?_
  intro v5 w5 k1 k20 _ _
  have hb : Below w.heap.size w w5 := below_mods ((Mods.refl _ w).grown k20 (fun b hb _ => by simp [Value.ownBlock] at hb))
  have k3 : w5.ownsRow w.heap.size 3 1 v5 l.length (ivs l) := by simpa using k1
  obtain ⟨s5, c5, rfl⟩ := owns_slice k3
  clear k1 k20 hnews h
  go_wp2
  go_ret
  exact ⟨_, rfl, k3, hb⟩
end Go.Proofs.Ytbmbfifempkhgaa

/- The closure of firings: an operation gets its kind and what it is on. -/
namespace Go.Proofs.Ytbmbfifempkhgaa
open Go.RowKit

def rowM (m : List (List GOp)) (a : Nat) : List GOp := m[a]?.getD []
def bAt (l : List GOp) (k : Nat) : Int := match l[k]? with | some x => x.b | none => 0
/-- the operation at a port gets its kind and what it is on -/
def putL (l : List GOp) (k : Nat) (kd x : Int) : List GOp := l.set k ⟨kd, x, bAt l k⟩
def putM (m : List (List GOp)) (a k : Nat) (kd x : Int) : List (List GOp) := m.set a (putL (rowM m a) k kd x)

theorem putL_len (l : List GOp) (k : Nat) (kd x : Int) : (putL l k kd x).length = l.length := by simp [putL]
theorem putM_len (m : List (List GOp)) (a k : Nat) (kd x : Int) : (putM m a k kd x).length = m.length := by simp [putM]
theorem putM_row (m : List (List GOp)) (a k : Nat) (kd x : Int) (i : Nat) : (rowM (putM m a k kd x) i).length = (rowM m i).length := by
  unfold putM rowM
  by_cases e : a = i
  · subst e
    by_cases h : a < m.length
    · rw [List.getElem?_set_self h, Option.getD_some, putL_len]
    · rw [List.getElem?_eq_none (by simpa using Nat.le_of_not_lt h), List.getElem?_eq_none (by omega)]
  · rw [List.getElem?_set_ne e]

theorem opsV_setK : ∀ (l : List GOp) (k : Nat) (h : k < l.length) (kd : Int), (opsV l).set (k * 3) (.int .u8 kd) = opsV (l.set k ⟨kd, l[k].a, l[k].b⟩)
  | [], k, h, _ => by simp at h
  | x :: l, 0, _, b => rfl
  | x :: l, k + 1, h, b => by
    have ih := opsV_setK l k (by simpa using h) b
    rw [opsV_cons, show (k + 1) * 3 = k * 3 + 1 + 1 + 1 by omega]
    simp only [List.set_cons_succ, ih, List.getElem_cons_succ, opsV_cons]

/-- what a write into a matrix answers -/
def OnRet (w : World) (o : Col) (c d : Nat) (v : Value) (m : List (List GOp)) (vs : List Value) (e : Ending) (w' : World) : Prop := e = .returned (.tuple #[]) ∧ Turn o o (fun x => x = d) w w' ∧ OpM w' o c d v m vs

theorem OpM.slot {w : World} {o : Col} {c d : Nat} {v : Value} {m : List (List GOp)} {vs : List Value} (h : OpM w o c d v m vs) {a : Nat} (ha : a < m.length) {k : Nat} (hk : k < (rowM m a).length) :
    ∃ G cap, vs[a]?.getD undef = .slice (some ⟨G, 0, none⟩) (rowM m a).length cap ∧ (rowM m a).length ≤ cap ∧ (∀ i, w.frozen? ⟨G, i, none⟩ = false) ∧ w.cell? ⟨G, k * 3, none⟩ = some (.int .u8 (rowM m a)[k].kind) ∧ w.cell? ⟨G, k * 3 + 1, none⟩ = some (.int .i64 (rowM m a)[k].a) ∧ w.cell? ⟨G, k * 3 + 2, none⟩ = some (.int .i64 (rowM m a)[k].b) := by
  have hr := (h.rows a ha).1
  rcases hr.2 with ⟨_, h0⟩ | ⟨G, cap, cur, e, _, hg, hc, _⟩
  · rw [rowM] at hk; omega
  · rw [e] at hr
    obtain ⟨g1, g2, g3⟩ := opsV_get (rowM m a) k hk
    refine ⟨G, cap, e, hc, fun i => frozen_of_block hg i, ?_, ?_, ?_⟩
    · have := hr.cells (g := G) rfl _ _ g1
      rwa [Addr.add_lit, Nat.zero_add] at this
    · have := hr.cells (g := G) rfl _ _ g2
      rwa [Addr.add_lit, Nat.zero_add] at this
    · have := hr.cells (g := G) rfl _ _ g3
      rwa [Addr.add_lit, Nat.zero_add] at this

theorem OpM.on {w : World} {o : Col} {c d : Nat} {v : Value} {m : List (List GOp)} {vs : List Value} (h : OpM w o c d v m vs) (hcd : c ≠ d) {a : Nat} (ha : a < m.length) {k : Nat} (hk : k < (rowM m a).length) {G n' cap : Nat} (hG : vs[a]?.getD undef = .slice (some ⟨G, 0, none⟩) n' cap) (kd x : Int) :
    Turn o o (fun x => x = d) w ((w.setCell ⟨G, k * 3, none⟩ (.int .u8 kd)).setCell ⟨G, k * 3 + 1, none⟩ (.int .i64 x)) ∧ OpM ((w.setCell ⟨G, k * 3, none⟩ (.int .u8 kd)).setCell ⟨G, k * 3 + 1, none⟩ (.int .i64 x)) o c d v (putM m a k kd x) vs := by
  have hb : (rowM m a)[k].b = bAt (rowM m a) k := by simp [bAt, hk]
  have e1 : (opsV (rowM m a)).set (k * 3) (.int .u8 kd) = opsV ((rowM m a).set k ⟨kd, (rowM m a)[k].a, (rowM m a)[k].b⟩) := opsV_setK _ _ hk kd
  obtain ⟨p1, T1⟩ := h.cell hcd (l' := (rowM m a).set k ⟨kd, (rowM m a)[k].a, (rowM m a)[k].b⟩) (u := .int .u8 kd) (i := k * 3) ha hG (by simp [rowM]) e1
  have ha2 : a < (m.set a ((rowM m a).set k ⟨kd, (rowM m a)[k].a, (rowM m a)[k].b⟩)).length := by simpa using ha
  have er : (m.set a ((rowM m a).set k ⟨kd, (rowM m a)[k].a, (rowM m a)[k].b⟩))[a]?.getD [] = (rowM m a).set k ⟨kd, (rowM m a)[k].a, (rowM m a)[k].b⟩ := by rw [List.getElem?_set_self ha]; rfl
  obtain ⟨p2, T2⟩ := p1.cell hcd (l' := putL (rowM m a) k kd x) (u := .int .i64 x) (i := k * 3 + 1) ha2 hG (by rw [er]; simp [putL]) (by
    rw [er, ← e1, opsV_setKA _ _ hk, putL, hb])
  refine ⟨T1.trans T2 (fun _ h => h), ?_⟩
  rw [List.set_set] at p2
  exact p2

set_option maxRecDepth 100000 in
theorem on_any (w : World) (o : Col) (c d : Nat) (v : Value) (m : List (List GOp)) (vs : List Value) (h : OpM w o c d v m vs) (hcd : c ≠ d) (a k : Nat) (ha : a < m.length) (hk : k < (rowM m a).length) (G n' cap : Nat) (hG : vs[a]?.getD undef = .slice (some ⟨G, 0, none⟩) n' cap) (kd x : Int) :
    Calls Try.prog 78 #[.pointer (some ⟨G, k * 3, none⟩), .int .u8 kd, .int .i64 x] w (OnRet w o c d v (putM m a k kd x) vs) := by
  obtain ⟨G', cap', e, _, hf, c0, c1, _⟩ := h.slot ha hk
  rw [hG] at e
  cases e
  have f0 := hf (k * 3)
  have f1 := hf (k * 3 + 1)
  obtain ⟨T, N⟩ := h.on hcd ha hk hG kd x
  have HT := Lib.hid T
  have HN := Lib.hid N
  clear T N h hG hf
  go_enter Try.func78, Try.ntmps78
  go_wp2
  go_end0
  exact ⟨rfl, HT.out, HN.out⟩
end Go.Proofs.Ytbmbfifempkhgaa

/- What is wrong with a nest: as plain functions. No program in sight. -/
namespace Go.Proofs.Ytbmbfifempkhgaa

/-- loops checked, d deep, n leaves before: the error, and the leaves then -/
def nestE : Nest → Nat → Nat → Int × Nat
  | .nil, _, n => (0, n)
  | .cons t nd b r, d, n =>
    if 2048 ≤ n then (5, n)
    else if !b.isNil && decide (16 ≤ d) then (161, n)
    else if t < 1 then (160, n)
    else if !b.isNil && decide (nd ≠ 0) then (162, n)
    else if b.isNil && (decide (nd < 0) || decide (32 ≤ nd)) then (100, n)
    else if b.isNil then nestE r d (n + 1)
    else if (nestE b (d + 1) n).1 ≠ 0 then nestE b (d + 1) n else nestE r d (nestE b (d + 1) n).2
/-- one loop checked -/
def oneE (t nd : Int) (b : Nest) (d n : Nat) : Int × Nat :=
  if 2048 ≤ n then (5, n)
  else if !b.isNil && decide (16 ≤ d) then (161, n)
  else if t < 1 then (160, n)
  else if !b.isNil && decide (nd ≠ 0) then (162, n)
  else if b.isNil && (decide (nd < 0) || decide (32 ≤ nd)) then (100, n)
  else if b.isNil then (0, n + 1)
  else nestE b (d + 1) n
theorem nestE_cons (t nd : Int) (b r : Nest) (d n : Nat) : nestE (.cons t nd b r) d n = if (oneE t nd b d n).1 ≠ 0 then oneE t nd b d n else nestE r d (oneE t nd b d n).2 := by
  unfold oneE
  rw [nestE]
  by_cases h1 : 2048 ≤ n
  · rw [if_pos h1, if_pos h1]; simp
  rw [if_neg h1, if_neg h1]
  by_cases h2 : (!b.isNil && decide (16 ≤ d)) = true
  · rw [if_pos h2, if_pos h2]; simp
  rw [if_neg h2, if_neg h2]
  by_cases h3 : t < 1
  · rw [if_pos h3, if_pos h3]; simp
  rw [if_neg h3, if_neg h3]
  by_cases h4 : (!b.isNil && decide (nd ≠ 0)) = true
  · rw [if_pos h4, if_pos h4]; simp
  rw [if_neg h4, if_neg h4]
  by_cases h5 : (b.isNil && (decide (nd < 0) || decide (32 ≤ nd))) = true
  · rw [if_pos h5, if_pos h5]; simp
  rw [if_neg h5, if_neg h5]
  by_cases h6 : b.isNil = true
  · rw [if_pos h6, if_pos h6]; simp
  rw [if_neg h6, if_neg h6]

/-- firings, counted onto s; 2049 where they are too many -/
def totalP : Nest → Int → Int
  | .nil, s => s
  | .cons t _ b r, s =>
    let n : Int := if b.isNil then 1 else totalP b 0
    if 2048 < t ∨ 2048 < n then 2049 else if 2048 < s + n * t then 2049 else totalP r (s + n * t)
def nestCheckE (l : Nest) : Int := if (nestE l 0 0).1 ≠ 0 then (nestE l 0 0).1 else if 2048 < totalP l 0 then 5 else 0

def Nest.drop : Nest → Nat → Nest
  | l, 0 => l
  | .nil, _ + 1 => .nil
  | .cons _ _ _ r, k + 1 => r.drop k
theorem drop_zero : ∀ l : Nest, l.drop 0 = l
  | .nil => rfl
  | .cons _ _ _ _ => rfl
theorem drop_items : ∀ (l : Nest) (k : Nat) (h : k < l.items.length), l.drop k = .cons (l.items[k]).1 (l.items[k]).2.1 (l.items[k]).2.2 (l.drop (k + 1))
  | .nil, k, h => by simp [Nest.items] at h
  | .cons t nd b r, 0, h => by simp [Nest.drop, Nest.items]
  | .cons t nd b r, k + 1, h => by
    have h' : k < r.items.length := by simpa [Nest.items] using h
    have := drop_items r k h'
    simpa [Nest.drop, Nest.items] using this
theorem drop_end : ∀ (l : Nest), l.drop l.items.length = .nil
  | .nil => rfl
  | .cons t nd b r => by simp [Nest.drop, Nest.items, drop_end r]
theorem isNil_len : ∀ (l : Nest), l.isNil = decide (l.items.length = 0)
  | .nil => rfl
  | .cons _ _ _ _ => by simp [Nest.isNil, Nest.items]

/-- no list is longer than a machine has -/
def NSized : Nest → Prop
  | .nil => True
  | .cons _ _ b r => NSized b ∧ NSized r ∧ r.items.length + 1 ≤ 17600000000000
theorem nsized_len : ∀ {l : Nest}, NSized l → l.items.length ≤ 17600000000000
  | .nil, _ => by simp [Nest.items]
  | .cons _ _ _ _, h => by simp only [Nest.items, List.length_cons]; exact h.2.2
theorem nsized_at : ∀ {l : Nest}, NSized l → ∀ x ∈ l.items, NSized x.2.2
  | .nil, _, x, hx => by simp [Nest.items] at hx
  | .cons _ _ _ _, h, x, hx => by
    simp only [Nest.items, List.mem_cons] at hx
    rcases hx with rfl | hx
    · exact h.1
    · exact nsized_at h.2.1 x hx
theorem nestE_le : ∀ (l : Nest) (d n : Nat), n ≤ 2048 → (nestE l d n).2 ≤ 2048
  | .nil, _, n, h => h
  | .cons t nd b r, d, n, h => by
    have hone : (oneE t nd b d n).2 ≤ 2048 := by
      unfold oneE
      by_cases h1 : 2048 ≤ n
      · rw [if_pos h1]; exact h
      rw [if_neg h1]
      split
      · exact h
      split
      · exact h
      split
      · exact h
      split
      · exact h
      split
      · show n + 1 ≤ 2048; omega
      · exact nestE_le b (d + 1) n h
    rw [nestE_cons]
    split
    · exact hone
    · exact nestE_le r d _ hone
theorem oneE_le (t nd : Int) (b : Nest) (d n : Nat) (h : n ≤ 2048) : (oneE t nd b d n).2 ≤ 2048 := by
  unfold oneE
  by_cases h1 : 2048 ≤ n
  · rw [if_pos h1]; exact h
  rw [if_neg h1]
  split
  · exact h
  split
  · exact h
  split
  · exact h
  split
  · exact h
  split
  · show n + 1 ≤ 2048; omega
  · exact nestE_le b (d + 1) n h
end Go.Proofs.Ytbmbfifempkhgaa

/- What the maker's row writes, plainly; rows of operations in memory. No function in sight. -/
namespace Go.Proofs.Ytbmbfifempkhgaa
open Go.RowKit

def HasRow (w : World) (v : Value) (l : List GOp) : Prop := ∃ ao cap, v = .slice ao l.length cap ∧ (ao = none → l.length = 0) ∧ (l.length ≤ cap ∧ ∀ ad, ao = some ad → ad.spot = none) ∧ ∀ ad, ao = some ad → ∀ j u, (opsV l)[j]? = some u → w.cell? (ad.add j) = some u
theorem HasRow.below {w w' : World} {v : Value} {l : List GOp} (h : HasRow w v l) (hb : Below w.heap.size w w') : HasRow w' v l := by
  obtain ⟨ao, cap, h1, h2, h3, h4⟩ := h
  refine ⟨ao, cap, h1, h2, h3, fun ad e j u hu => ?_⟩
  have := h4 ad e j u hu
  exact (hb.cell (World.block_lt_of_cell? _ _ this)).trans this
theorem HasRow.at {w : World} {ao : Option Addr} {n cap : Nat} {l : List GOp} (h : HasRow w (.slice ao n cap) l) {k : Nat} (hk : k < l.length) : n = l.length ∧ n ≤ cap ∧ ∃ b off, ao = some ⟨b, off, none⟩ ∧ ∀ i (hi : i < l.length), w.cell? ⟨b, off + i * 3, none⟩ = some (.int .u8 l[i].kind) ∧ w.cell? ⟨b, off + i * 3 + 1, none⟩ = some (.int .i64 l[i].a) ∧ w.cell? ⟨b, off + i * 3 + 2, none⟩ = some (.int .i64 l[i].b) := by
  obtain ⟨ao', cap', e, h2, h3, h4⟩ := h
  cases e
  refine ⟨rfl, h3.1, ?_⟩
  cases ao with
  | none => have := h2 rfl; omega
  | some ad =>
    obtain ⟨b, off, sp⟩ := ad
    obtain rfl : sp = none := h3.2 _ rfl
    refine ⟨b, off, rfl, fun i hi => ?_⟩
    obtain ⟨g1, g2, g3⟩ := opsV_get l i hi
    have a1 := h4 _ rfl _ _ g1
    have a2 := h4 _ rfl _ _ g2
    have a3 := h4 _ rfl _ _ g3
    rw [Addr.add_lit] at a1 a2 a3
    rw [Nat.add_assoc, Nat.add_assoc]
    exact ⟨a1, a2, a3⟩
theorem HasRow.slice {w : World} {v : Value} {l : List GOp} (h : HasRow w v l) : ∃ ao cap, v = .slice ao l.length cap := by
  obtain ⟨ao, cap, e, _⟩ := h
  exact ⟨ao, cap, e⟩
def RowR (w : World) (l : List GOp) (cs : List Value) : Prop := ∃ y, cs = [y] ∧ HasRow w y l
theorem row_steady : Steady RowR := fun _ _ _ _ hb ⟨y, h1, h2⟩ => ⟨y, h1, h2.below hb⟩
/-- a slice of rows of operations -/
def HasM (w : World) (v : Value) (m : List (List GOp)) : Prop := Recs w 1 RowR v m
theorem Own.row {w : World} {o : Col} {c : Nat} {v : Value} {l : List GOp} (h : Own w o c 61 3 v l.length (opsV l)) : HasRow w v l := by
  rcases h.1.2 with ⟨rfl, h0⟩ | ⟨G, cap, cur, rfl, _, _, hnc, _⟩
  · refine ⟨none, 0, by rw [h0], fun _ => h0, ⟨by omega, fun ad e => by cases e⟩, fun ad e => by cases e⟩
  · refine ⟨_, cap, rfl, (fun e => by cases e), ⟨hnc, fun ad e => by cases e; rfl⟩, fun ad e j u hu => ?_⟩
    obtain rfl := Option.some.inj e
    exact h.1.cells (g := G) rfl j u hu
theorem OpM.has {w : World} {o : Col} {c d : Nat} {v : Value} {m : List (List GOp)} {vs : List Value} (h : OpM w o c d v m vs) : HasM w v m := by
  have hl := h.len
  rcases h.own.1.2 with ⟨rfl, h0⟩ | ⟨G, cap, cur, rfl, _, hg, hnc, _⟩
  · exact .inl ⟨List.eq_nil_of_length_eq_zero h0, none, 0, rfl⟩
  · by_cases hp : 0 < m.length
    · refine .inr ⟨hp, G, 0, cap, rfl, hnc, block_lt hg, fun k hk => ⟨[vs[k]?.getD undef], rfl, ⟨_, rfl, ?_⟩, fun i hi => ?_⟩⟩
      · have := h.rows k hk
        rw [List.getElem?_eq_getElem hk, Option.getD_some] at this
        exact this.row
      · obtain rfl : i = 0 := by omega
        have := h.own.1.cells (g := G) rfl k vs[k] (by simp [show k < vs.length by omega])
        rw [Addr.add_lit] at this
        simpa [show k < vs.length by omega] using this
    · exact .inl ⟨List.eq_nil_of_length_eq_zero (by omega), some ⟨G, 0, none⟩, cap, by rw [show m.length = 0 by omega]⟩

def openP (op : Nat) (t : Int) (s : List GOp × Nat) : List GOp × Nat := (s.1 ++ [⟨1, op, t⟩], max s.2 (op + 1))
def closeP (op to : Nat) (s : List GOp × Nat) : List GOp × Nat := (s.1 ++ [⟨2, op, to⟩], s.2)
def leafP (F : List (List GOp)) (nd : Int) (s : List GOp × Nat) : List GOp × Nat := (s.1 ++ rowM F nd.toNat, s.2)
/-- what is written for a list of loops -/
def rowP (F : List (List GOp)) : Nest → Nat → List GOp × Nat → List GOp × Nat
  | .nil, _, s => s
  | .cons t nd b r, op, s => rowP F r op (if 1 < t then closeP op (s.1.length + 1) (if b.isNil then leafP F nd (openP op t s) else rowP F b (op + 1) (openP op t s)) else if b.isNil then leafP F nd s else rowP F b op s)

def costN : Nest → Nat
  | .nil => 0
  | .cons _ _ b r => 35 + costN b + costN r
def depthN : Nest → Nat
  | .nil => 0
  | .cons _ _ b r => max (depthN b + 1) (depthN r)
/-- each leaf is one of n actors -/
def LeafOk (n : Nat) : Nest → Prop
  | .nil => True
  | .cons _ nd b r => (b.isNil = true → 0 ≤ nd ∧ nd < n) ∧ LeafOk n b ∧ LeafOk n r

theorem rowP_len {F : List (List GOp)} (hF : ∀ k, (rowM F k).length ≤ 33) : ∀ (l : Nest) (op : Nat) (s : List GOp × Nat), (rowP F l op s).1.length ≤ s.1.length + costN l
  | .nil, _, s => by simp [rowP, costN]
  | .cons t nd b r, op, s => by
    rw [rowP]
    refine Nat.le_trans (rowP_len hF r op _) ?_
    rw [costN]
    have hl := hF nd.toNat
    have h1 := rowP_len hF b (op + 1) (openP op t s)
    have h2 := rowP_len hF b op s
    have h3 : (openP op t s).1.length = s.1.length + 1 := by simp [openP]
    split <;> split <;> (try simp only [closeP, leafP, List.length_append, List.length_cons, List.length_nil]) <;> omega
theorem rowP_cnt {F : List (List GOp)} : ∀ (l : Nest) (op : Nat) (s : List GOp × Nat), (rowP F l op s).2 ≤ max s.2 (op + depthN l)
  | .nil, _, s => by rw [rowP]; omega
  | .cons t nd b r, op, s => by
    rw [rowP]
    refine Nat.le_trans (rowP_cnt r op _) ?_
    rw [depthN]
    have h1 := rowP_cnt (F := F) b (op + 1) (openP op t s)
    have h2 := rowP_cnt (F := F) b op s
    have h3 : (openP op t s).2 = max s.2 (op + 1) := rfl
    split <;> split <;> (try simp only [closeP, leafP]) <;> omega
theorem leafOk_drop {n : Nat} : ∀ (l : Nest) (k : Nat), LeafOk n l → LeafOk n (l.drop k)
  | _, 0, h => by rw [drop_zero]; exact h
  | .nil, _ + 1, h => h
  | .cons _ _ _ r, k + 1, h => by rw [Nest.drop]; exact leafOk_drop r k h.2.2
/-- one loop -/
def stepP (F : List (List GOp)) (t nd : Int) (b : Nest) (op : Nat) (s : List GOp × Nat) : List GOp × Nat := if 1 < t then closeP op (s.1.length + 1) (if b.isNil then leafP F nd (openP op t s) else rowP F b (op + 1) (openP op t s)) else if b.isNil then leafP F nd s else rowP F b op s
theorem rowP_cons {F : List (List GOp)} {t nd : Int} {b r : Nest} {op : Nat} {s : List GOp × Nat} : rowP F (.cons t nd b r) op s = rowP F r op (stepP F t nd b op s) := by rw [rowP, stepP]
theorem stepP_len {F : List (List GOp)} (hF : ∀ k, (rowM F k).length ≤ 33) (t nd : Int) (b : Nest) (op : Nat) (s : List GOp × Nat) : (stepP F t nd b op s).1.length ≤ s.1.length + (35 + costN b) := by
  have := rowP_len hF (.cons t nd b .nil) op s
  rw [rowP_cons, rowP, costN, costN] at this
  omega
theorem stepP_cnt {F : List (List GOp)} (t nd : Int) (b : Nest) (op : Nat) (s : List GOp × Nat) : (stepP F t nd b op s).2 ≤ max s.2 (op + (depthN b + 1)) := by
  have := rowP_cnt (F := F) (.cons t nd b .nil) op s
  rw [rowP_cons, rowP, depthN, depthN] at this
  omega
/-- how much there is of a nest that is checked -/
def leafN : Nest → Nat
  | .nil => 0
  | .cons _ _ b r => (if b.isNil then 1 else leafN b) + leafN r
theorem leafN_pos : ∀ (b : Nest), b.isNil = false → 1 ≤ leafN b
  | .nil, h => by cases h
  | .cons _ _ b r, _ => by
    rw [leafN]
    by_cases h : b.isNil = true
    · rw [if_pos h]; omega
    · rw [if_neg h]
      have := leafN_pos b (by simpa using h)
      omega
theorem nestE_count : ∀ (l : Nest) (d n : Nat), d ≤ 16 → (nestE l d n).1 = 0 → (nestE l d n).2 = n + leafN l ∧ costN l ≤ 35 * (leafN l * (17 - d)) ∧ d + depthN l ≤ 17 ∧ LeafOk 32 l
  | .nil, d, n, hd, h => by simp [nestE, leafN, costN, depthN, LeafOk]; omega
  | .cons t nd b r, d, n, hd, h => by
    rw [nestE_cons] at h ⊢
    by_cases h0 : (oneE t nd b d n).1 = 0
    · rw [if_neg (by simpa using h0)] at h ⊢
      have ih := nestE_count r d _ hd h
      unfold oneE at h0 ih
      by_cases h1 : 2048 ≤ n
      · rw [if_pos h1] at h0; cases h0
      rw [if_neg h1] at h0 ih
      by_cases h2 : (!b.isNil && decide (16 ≤ d)) = true
      · rw [if_pos h2] at h0; cases h0
      rw [if_neg h2] at h0 ih
      by_cases h3 : t < 1
      · rw [if_pos h3] at h0; cases h0
      rw [if_neg h3] at h0 ih
      by_cases h4 : (!b.isNil && decide (nd ≠ 0)) = true
      · rw [if_pos h4] at h0; cases h0
      rw [if_neg h4] at h0 ih
      by_cases h5 : (b.isNil && (decide (nd < 0) || decide (32 ≤ nd))) = true
      · rw [if_pos h5] at h0; cases h0
      rw [if_neg h5] at h0 ih
      by_cases h6 : b.isNil = true
      · rw [if_pos h6] at h0 ih
        have hb : b = .nil := by cases b with | nil => rfl | cons _ _ _ _ => cases h6
        subst hb
        simp only [Nest.isNil, Bool.true_and, Bool.or_eq_true, decide_eq_true_eq] at h5
        have e : oneE t nd .nil d n = (0, n + 1) := by
          unfold oneE
          rw [if_neg h1, if_neg h2, if_neg h3, if_neg h4, if_neg (by simpa [Nest.isNil] using h5), if_pos h6]
        rw [e]
        obtain ⟨i1, i2, i3, i4⟩ := ih
        simp only [leafN, costN, depthN, LeafOk, Nest.isNil, if_true]
        dsimp only at i1
        refine ⟨by omega, ?_, by omega, ⟨fun _ => by omega, trivial, i4⟩⟩
        rw [Nat.add_mul]
        omega
      · rw [if_neg h6] at h0 ih
        have e : oneE t nd b d n = nestE b (d + 1) n := by
          unfold oneE
          rw [if_neg h1, if_neg h2, if_neg h3, if_neg h4, if_neg h5, if_neg h6]
        rw [e]
        have hb : b.isNil = false := by simpa using h6
        rw [hb] at h2
        have hd2 : d + 1 ≤ 16 := by simp at h2; omega
        obtain ⟨k1, k2, k3, k4⟩ := nestE_count b (d + 1) n hd2 h0
        obtain ⟨i1, i2, i3, i4⟩ := ih
        have hp := leafN_pos b hb
        refine ⟨by simp only [leafN, hb]; simp; omega, ?_, by simp only [depthN]; omega, ⟨fun h => (by rw [hb] at h; cases h), k4, i4⟩⟩
        simp only [leafN, costN, hb]
        rw [show 17 - d = (17 - (d + 1)) + 1 by omega, Nat.mul_add] at i2 ⊢
        simp only [Bool.false_eq_true, if_false]
        rw [Nat.add_mul]
        omega
    · rw [if_pos (by simpa using h0)] at h
      exact absurd h h0
end Go.Proofs.Ytbmbfifempkhgaa

/- Names: the walk of lex.Name. -/
namespace Go.Proofs.Ytbmbfifempkhgaa
open Go.RowKit

theorem letter_any (w : World) (b : Int) : Calls Try.prog 122 #[.int .u8 b] w (SameW (.bool (letterP b)) w) := by
  unfold letterP
  by_cases h1 : 97 ≤ b
  · rw [decide_eq_true h1, Bool.true_and]
    go_enter Try.func122, Try.ntmps122
    go_wp2
    go_ret
    exact ⟨rfl, rfl⟩
  · rw [decide_eq_false h1, Bool.false_and]
    go_enter Try.func122, Try.ntmps122
    go_wp2
    go_ret
    exact ⟨rfl, rfl⟩
theorem digit_any (w : World) (b : Int) : Calls Try.prog 130 #[.int .u8 b] w (SameW (.bool (digitP b)) w) := by
  unfold digitP
  by_cases h1 : 48 ≤ b
  · rw [decide_eq_true h1, Bool.true_and]
    go_enter Try.func130, Try.ntmps130
    go_wp2
    go_ret
    exact ⟨rfl, rfl⟩
  · rw [decide_eq_false h1, Bool.false_and]
    go_enter Try.func130, Try.ntmps130
    go_wp2
    go_ret
    exact ⟨rfl, rfl⟩
theorem inside_any (w : World) (b : Int) : Calls Try.prog 125 #[.int .u8 b] w (SameW (.bool (insideP b)) w) := by
  unfold insideP
  obtain ⟨x, hx⟩ : ∃ x, letterP b = x := ⟨_, rfl⟩
  obtain ⟨y, hy⟩ : ∃ x, digitP b = x := ⟨_, rfl⟩
  rw [hx, hy]
  have HX := Lib.hid hx
  have HY := Lib.hid hy
  clear hx hy
  cases x
  · cases y
    · go_enter Try.func125, Try.ntmps125
      go_wp2_with fail
      refine (letter_any w b).mono ?_
      rintro e _ ⟨rfl, rfl⟩
      rw [HX.out]
      go_wp2_with fail
      refine (digit_any w b).mono ?_
      rintro e _ ⟨rfl, rfl⟩
      rw [HY.out]
      go_wp2
      go_ret
      exact ⟨by simp; rfl, rfl⟩
    · go_enter Try.func125, Try.ntmps125
      go_wp2_with fail
      refine (letter_any w b).mono ?_
      rintro e _ ⟨rfl, rfl⟩
      rw [HX.out]
      go_wp2_with fail
      refine (digit_any w b).mono ?_
      rintro e _ ⟨rfl, rfl⟩
      rw [HY.out]
      go_wp2
      go_ret
      exact ⟨rfl, rfl⟩
  · go_enter Try.func125, Try.ntmps125
    go_wp2_with fail
    refine (letter_any w b).mono ?_
    rintro e _ ⟨rfl, rfl⟩
    rw [HX.out]
    go_wp2
    go_ret
    exact ⟨by simp, rfl⟩

/-- a cursor in memory -/
def Cur (w : World) (c : Nat) (s : ByteArray) (k : Nat) : Prop := w.heap[c]? = some (.cells #[.string s, .int .i64 k] 202 (0, 0))

theorem more_any (w : World) (c : Nat) (s : ByteArray) (k : Nat) (h : Cur w c s k) : Calls Try.prog 129 #[.pointer (some ⟨c, 0, none⟩)] w fun e w' => e = .returned (.bool (decide (k < s.size))) ∧ ∃ m, w' = w.drewN m := by
  have q0 := cells_row w _ h 0 _ rfl
  have q1 := cells_row w _ h 1 _ rfl
  by_cases hk : k < s.size
  · have hki : (k : Int) < s.size := by omega
    rw [decide_eq_true hk]
    go_enter Try.func129, Try.ntmps129
    go_wp2
    go_quiet (fail)
    go_wp2
    go_ret
    exact ⟨rfl, _, rfl⟩
  · have hki : ¬ (k : Int) < s.size := by omega
    rw [decide_eq_false hk]
    go_enter Try.func129, Try.ntmps129
    go_wp2
    go_quiet (fail)
    go_wp2
    go_ret
    exact ⟨rfl, _, rfl⟩

theorem peek_any (w : World) (c : Nat) (s : ByteArray) (h : Cur w c s 0) : Calls Try.prog 123 #[.pointer (some ⟨c, 0, none⟩), .int .i64 0] w fun e w' => e = .returned (.int .u8 (byteP s 0)) ∧ ∃ m, w' = w.drewN m := by
  have q0 := cells_row w _ h 0 _ rfl
  have q1 := cells_row w _ h 1 _ rfl
  unfold byteP
  by_cases hk : 0 < s.size
  · have hki : (0 : Int) < s.size := by omega
    have hse : ¬ s = ByteArray.empty := fun e => by rw [e] at hk; exact absurd hk (by decide)
    rw [dif_pos hk]
    go_enter Try.func123, Try.ntmps123
    go_wp2
    go_quiet (fail)
    go_wp2
    go_quiet (fail)
    go_wp2
    go_ret
    exact ⟨rfl, _, World.drewN_drewN _ _ _⟩
  · obtain rfl : s = ByteArray.empty := ByteArray.ext (Array.eq_empty_of_size_eq_zero (by have : s.data.size = s.size := rfl; omega))
    rw [dif_neg hk]
    clear hk
    go_enter Try.func123, Try.ntmps123
    go_wp2
    go_quiet (fail)
    go_wp2
    go_ret
    exact ⟨rfl, _, rfl⟩
end Go.Proofs.Ytbmbfifempkhgaa

/- Names: the walk of the cursor's while. -/
namespace Go.Proofs.Ytbmbfifempkhgaa
open Go.RowKit

theorem Cur.drewN {w : World} {c : Nat} {s : ByteArray} {k : Nat} (h : Cur w c s k) (m : Nat) : Cur (w.drewN m) c s k := h
/-- the cursor stands at k, all before it was inside -/
def Stand (w wr : World) (c : Nat) (s : ByteArray) (k : Nat) : Prop := Cur wr c s k ∧ k ≤ s.size ∧ (∀ i, i < k → insideP (byteP s i) = true) ∧ Mods (fun b => b = c) w wr

theorem stand_next {s : ByteArray} {k : Nat} (h : ∀ i, i < k → insideP (byteP s i) = true) (hx : insideP (byteP s k) = true) : ∀ i, i < k + 1 → insideP (byteP s i) = true := fun i hi => by
  by_cases e : i = k
  · rw [e]; exact hx
  · exact h i (by omega)
theorem meas_next {n k : Nat} (h : k < n) : n - (((k + 1 : Nat) : Int)).toNat < n - ((k : Int)).toNat := by omega
set_option maxHeartbeats 1000000 in
theorem while_any (w : World) (c : Nat) (s : ByteArray) (hs : s.size ≤ 4611686018427387904) (h : Cur w c s 0) : Calls Try.prog 124 #[.pointer (some ⟨c, 0, none⟩), .func (.func 125) #[] #[]] w fun e w' =>
    ∃ m, e = .returned (.string (s.extract 0 m)) ∧ m ≤ s.size ∧ (∀ i, i < m → insideP (byteP s i) = true) ∧ (m < s.size → insideP (byteP s m) = false) ∧ Mods (fun b => b = c) w w' := by
  have q0 := cells_row w _ h 0 _ rfl
  have q1 := cells_row w _ h 1 _ rfl
  have HC := Lib.hid h
  have HS := Lib.hid hs
  clear h hs
  go_enter Try.func124, Try.ntmps124
  go_wp2_with fail
  clear q0 q1
  go_loopw [24] (fun _ wr => ∃ k, Stand w wr c s k) (fun _ wr => s.size - (match wr.cell? ⟨c, 1, none⟩ with | some (.int _ k) => k.toNat | _ => 0))
  case atStart => exact ⟨0, HC.out, Nat.zero_le _, fun i hi => absurd hi (by omega), Mods.refl _ _⟩
  case round =>
    obtain ⟨k, hcur, hk, hin, hmod⟩ := hrel
    have HCu := Lib.hid hcur
    have HIN := Lib.hid hin
    have HM := Lib.hid hmod
    have q0 := cells_row wr _ hcur 0 _ rfl
    have q1 := cells_row wr _ hcur 1 _ rfl
    have f1 := frozen_of_block hcur 1
    clear hcur hin hmod
    by_cases hlt : k < s.size
    · have hlti : (k : Int) < s.size := by omega
      have hbt : byteP s k = ((s[k]'hlt).toNat : Int) := dif_pos hlt
      obtain ⟨x, hx⟩ : ∃ x, insideP (byteP s k) = x := ⟨_, rfl⟩
      have HX := Lib.hid hx
      have HBT := Lib.hid hbt
      have hsz := HS.out
      clear hx hbt
      go_wp2_with fail
      refine wp_region_soft (fun w' => Cur w' c s k ∧ ∃ m, w' = wr.drewN m) [0, 1, 2, 3, 4, 5, 6, 7, 8, 9, 10, 11, 12, 13, 14] [] (by kernel_rfl) (by kernel_rfl) rfl ⟨HCu.out, 1, rfl⟩ ?_
      simp only [pickOps, List.flatMap_cons, List.flatMap_nil, List.drop_succ_cons, List.drop_zero, List.take_succ_cons, List.take_zero, List.cons_append, List.nil_append, List.append_nil]
      repeat (first
        | (refine wpHead_skip (by rfl) ?_; (try simp only [Act.put, List.setIfInBounds_toArray, List.set_cons_zero, List.set_cons_succ]))
        | (refine wpHead_val ?_ (by rfl) ?_ ?_; rotate_left; (intro wz hz; (try dsimp only at hz); (first | (go_simp; done) | (go_simp; with_reducible rfl))); (try simp only [Act.put, List.setIfInBounds_toArray, List.set_cons_zero, List.set_cons_succ])))
      refine wpHead_call (.bool true) 129 #[.pointer (some ⟨c, 0, none⟩)] (by rfl) (fun wz => by go_simp) (fun wz hz => ?_) ?_
      · obtain ⟨hc, m0, rfl⟩ := hz
        refine (more_any _ c s k hc).mono ?_
        rintro e wy ⟨rfl, m, rfl⟩
        exact ⟨by rw [decide_eq_true hlt], hc, m0 + m, World.drewN_drewN _ _ _⟩
      simp only [Act.put, List.setIfInBounds_toArray, List.set_cons_zero, List.set_cons_succ]
      repeat (first
        | (refine wpHead_skip (by rfl) ?_; (try simp only [Act.put, List.setIfInBounds_toArray, List.set_cons_zero, List.set_cons_succ]))
        | (refine wpHead_val ?_ (by rfl) ?_ ?_; rotate_left; (intro wz hz; have q0 := cells_row wz _ hz.1 0 _ rfl; have q1 := cells_row wz _ hz.1 1 _ rfl; (first | (go_simp; done) | (go_simp; with_reducible rfl))); (try simp only [Act.put, List.setIfInBounds_toArray, List.set_cons_zero, List.set_cons_succ])))
      refine wpHead_call (.bool x) 125 #[.int .u8 ((s[k]'hlt).toNat : Int)] (by rfl) (fun wz => by go_simp) (fun wz hz => ?_) ?_
      · refine (inside_any _ _).mono ?_
        rintro e wy ⟨rfl, rfl⟩
        exact ⟨by rw [← HBT.out, HX.out], hz⟩
      simp only [Act.put, List.setIfInBounds_toArray, List.set_cons_zero, List.set_cons_succ]
      cases x with
      | true =>
        repeat (first
          | (refine wpHead_skip (by rfl) ?_; (try simp only [Act.put, List.setIfInBounds_toArray, List.set_cons_zero, List.set_cons_succ]))
          | (refine wpHead_val ?_ (by rfl) ?_ ?_; rotate_left; (intro wz hz; (try dsimp only at hz); (first | (go_simp; done) | (go_simp; with_reducible rfl))); (try simp only [Act.put, List.setIfInBounds_toArray, List.set_cons_zero, List.set_cons_succ])))
        refine wpHead_nil ?_
        intro w' hS
        obtain ⟨hc2, m0, rfl⟩ := hS
        have HC2 := Lib.hid hc2
        have q0 := cells_row _ _ hc2 0 _ rfl
        have q1 := cells_row _ _ hc2 1 _ rfl
        have f1 := frozen_of_block hc2 1
        clear hc2
        go_wp2
        have hc3 : Cur ((wr.drewN m0).setCell ⟨c, 1, none⟩ (.int .i64 ((k : Int) + 1))) c s (k + 1) := block_setCell HC2.out 1 (.int .i64 ((k : Int) + 1))
        have q1' := cells_row _ _ hc3 1 _ rfl
        have HC3 := Lib.hid hc3
        clear hc3
        go_roundw
        case rel => exact ⟨k + 1, HC3.out, hlt, stand_next HIN.out HX.out, (HM.out.drewN m0).setCell (p := ⟨c, 1, none⟩) (fun _ => rfl) _⟩
        case measure =>
          have e1 := cells_row _ _ HCu.out 1 _ rfl
          rw [q1', e1]
          exact meas_next hlt
      | false =>
        repeat (first
          | (refine wpHead_skip (by rfl) ?_; (try simp only [Act.put, List.setIfInBounds_toArray, List.set_cons_zero, List.set_cons_succ]))
          | (refine wpHead_val ?_ (by rfl) ?_ ?_; rotate_left; (intro wz hz; (try dsimp only at hz); (first | (go_simp; done) | (go_simp; with_reducible rfl))); (try simp only [Act.put, List.setIfInBounds_toArray, List.set_cons_zero, List.set_cons_succ])))
        refine wpHead_nil ?_
        intro w' hS
        obtain ⟨hc2, m0, rfl⟩ := hS
        have q0 := cells_row _ _ hc2 0 _ rfl
        have q1 := cells_row _ _ hc2 1 _ rfl
        go_wp2
        go_quiet (fail)
        go_wp2
        go_ret
        exact ⟨k, by first | rfl | simp, hk, HIN.out, fun _ => HX.out, ((HM.out.drewN m0).drewN _)⟩
    · obtain rfl : k = s.size := by omega
      go_wp2_with fail
      refine wp_region_soft (fun w' => Cur w' c s s.size ∧ ∃ m, w' = wr.drewN m) [0, 1, 2, 3, 4, 5, 6, 7, 8, 9, 10, 11, 12, 13, 14] [] (by kernel_rfl) (by kernel_rfl) rfl ⟨HCu.out, 1, rfl⟩ ?_
      simp only [pickOps, List.flatMap_cons, List.flatMap_nil, List.drop_succ_cons, List.drop_zero, List.take_succ_cons, List.take_zero, List.cons_append, List.nil_append, List.append_nil]
      repeat (first
        | (refine wpHead_skip (by rfl) ?_; (try simp only [Act.put, List.setIfInBounds_toArray, List.set_cons_zero, List.set_cons_succ]))
        | (refine wpHead_val ?_ (by rfl) ?_ ?_; rotate_left; (intro wz hz; (try dsimp only at hz); (first | (go_simp; done) | (go_simp; with_reducible rfl))); (try simp only [Act.put, List.setIfInBounds_toArray, List.set_cons_zero, List.set_cons_succ])))
      refine wpHead_call (.bool false) 129 #[.pointer (some ⟨c, 0, none⟩)] (by rfl) (fun wz => by go_simp) (fun wz hz => ?_) ?_
      · obtain ⟨hc, m0, rfl⟩ := hz
        refine (more_any _ c s s.size hc).mono ?_
        rintro e wy ⟨rfl, m, rfl⟩
        exact ⟨by rw [decide_eq_false (Nat.lt_irrefl _)], hc, m0 + m, World.drewN_drewN _ _ _⟩
      simp only [Act.put, List.setIfInBounds_toArray, List.set_cons_zero, List.set_cons_succ]
      repeat (first
        | (refine wpHead_skip (by rfl) ?_; (try simp only [Act.put, List.setIfInBounds_toArray, List.set_cons_zero, List.set_cons_succ]))
        | (refine wpHead_val ?_ (by rfl) ?_ ?_; rotate_left; (intro wz hz; (try dsimp only at hz); (first | (go_simp; done) | (go_simp; with_reducible rfl))); (try simp only [Act.put, List.setIfInBounds_toArray, List.set_cons_zero, List.set_cons_succ])))
      refine wpHead_nil ?_
      intro w' hS
      obtain ⟨hc2, m0, rfl⟩ := hS
      have q0 := cells_row _ _ hc2 0 _ rfl
      have q1 := cells_row _ _ hc2 1 _ rfl
      go_wp2
      go_quiet (fail)
      go_wp2
      go_ret
      exact ⟨s.size, by first | rfl | simp, Nat.le_refl _, HIN.out, fun h => absurd h (Nat.lt_irrefl _), ((HM.out.drewN m0).drewN _)⟩
end Go.Proofs.Ytbmbfifempkhgaa

/- Names: lex.Name, whole. -/
namespace Go.Proofs.Ytbmbfifempkhgaa
open Go.RowKit

theorem all_inside {s : ByteArray} (h : ∀ i, i < s.size → insideP (byteP s i) = true) : (List.range s.size).all (fun i => insideP (byteP s i)) = true := by
  rw [List.all_eq_true]
  exact fun i hi => h i (List.mem_range.1 hi)
theorem not_inside {s : ByteArray} {m : Nat} (hm : m < s.size) (h : insideP (byteP s m) = false) : (List.range s.size).all (fun i => insideP (byteP s i)) = false := by
  rw [List.all_eq_false]
  exact ⟨m, List.mem_range.2 hm, by rw [h]; simp⟩
theorem cur_new (w : World) (s : ByteArray) : Cur (w.alloc (.cells #[.string s, .int .i64 0] 202)) w.heap.size s 0 := heap_alloc_new w _
/-- what is turned lies in the new block -/
theorem below_cur {w w1 w2 : World} (h : w.heap.size < w1.heap.size) (hb : Below w.heap.size w w1) (hm : Mods (fun b => b = w.heap.size) w1 w2) : Below w.heap.size w w2 := hb.trans (hm.below (by omega) (fun k hk e => by omega))

set_option maxHeartbeats 1000000 in
theorem name_any (w : World) (s : ByteArray) (hs : s.size ≤ 4611686018427387904) : Calls Try.prog 110 #[.string s] w fun e w' => e = .returned (.bool (nameP s)) ∧ Below w.heap.size w w' := by
  obtain ⟨N, hN⟩ : ∃ N, nameP s = N := ⟨_, rfl⟩
  rw [hN]
  have HN := Lib.hid hN
  have HS := Lib.hid hs
  clear hN hs
  go_enter Try.func110, Try.ntmps110
  go_wp2_with fail
  have hC := cur_new w s
  have hb1 := (below_alloc w (.cells #[.string s, .int .i64 0] 202))
  refine (peek_any _ _ s hC).mono ?_
  rintro e w1 ⟨rfl, m1, rfl⟩
  go_wp2_with fail
  refine (letter_any _ _).mono ?_
  rintro e _ ⟨rfl, rfl⟩
  obtain ⟨x, hx⟩ : ∃ x, letterP (byteP s 0) = x := ⟨_, rfl⟩
  rw [hx]
  have HX := Lib.hid hx
  clear hx
  cases x with
  | false =>
    have e : N = false := by rw [← HN.out, nameP, HX.out]; rfl
    subst e
    go_wp2
    go_ret
    exact ⟨rfl, below_dr hb1⟩
  | true =>
    go_wp2_with fail
    refine (while_any _ _ s HS.out (hC.drewN _)).mono ?_
    rintro e w2 ⟨m, rfl, hm, hin, hout, hmod⟩
    have hb2 : Below w.heap.size w w2 := below_cur (by simp) (below_dr (n := m1) hb1) hmod
    have HB2 := Lib.hid hb2
    have hlen : (s.extract 0 m).size = m := by rw [ByteArray.size_extract]; omega
    clear hb2 hmod hb1 hC
    by_cases hms : m < s.size
    · have e : N = false := by rw [← HN.out, nameP, not_inside hms (hout hms)]; simp
      subst e
      have hmi : ¬ (m : Int) = s.size := by omega
      clear hin hout
      go_wp2
      go_ret
      exact ⟨by simp [hmi], HB2.out⟩
    · obtain rfl : m = s.size := by omega
      have hall := all_inside hin
      have hself : s.extract 0 s.size = s := by simp
      rw [hself]
      clear hin hout hself hlen
      by_cases h16 : s.size ≤ 16
      · have e : N = true := by rw [← HN.out, nameP, HX.out, hall, decide_eq_true h16]; rfl
        subst e
        have h16i : (s.size : Int) ≤ 16 := by omega
        clear hall
        go_wp2
        go_ret
        exact ⟨by simp [h16], HB2.out⟩
      · have e : N = false := by rw [← HN.out, nameP, HX.out, hall, decide_eq_false h16]; rfl
        subst e
        have h16i : ¬ (s.size : Int) ≤ 16 := by omega
        clear hall
        go_wp2
        go_ret
        exact ⟨by simp [h16]; exact h16i, HB2.out⟩
end Go.Proofs.Ytbmbfifempkhgaa

/- The checker's name. -/
namespace Go.Proofs.Ytbmbfifempkhgaa
open Go.RowKit
open Go.Maps (Keyed IsMap Tidy)

theorem lt_max {n m : Nat} (h : n ≤ m) (hm : m ≤ 1000000) : n < maxLen := by unfold maxLen; omega
theorem size_max {n : Nat} (h : n ≤ 4611686018427387904) : n ≤ maxLen := by unfold maxLen; omega
set_option maxRecDepth 100000 in
set_option maxHeartbeats 1000000 in
theorem gname_any (w : World) (o : Col) (C B : Nat) (X : ChkV) (k : Chk) (s : ByteArray) (hs : s.size ≤ 4611686018427387904) (hk : k.seen.length ≤ 1000000) (h : ChkAt w o C B X k) :
    Calls Try.prog 111 #[.pointer (some ⟨C, 0, none⟩), .string s] w fun e w' => e = .returned (.int .i64 (nameE k.seen s)) ∧ ∃ o', Turn o o' (fun x => x = 2) w w' ∧ (nameE k.seen s = 0 → ChkAt w' o' C B X ⟨k.seen ++ [s], k.ins, k.outs⟩) := by
  obtain ⟨N, hN⟩ : ∃ N, nameE k.seen s = N := ⟨_, rfl⟩
  rw [hN]
  have HN := Lib.hid hN
  have HS := Lib.hid hs
  have HK := Lib.hid hk
  have HC := Lib.hid h
  clear hN hs hk h
  go_enter Try.func111, Try.ntmps111
  go_wp2_with fail
  refine (name_any _ s HS.out).mono ?_
  rintro e w1 ⟨rfl, hb1⟩
  have HB1 := Lib.hid hb1
  have HC1 := Lib.hid (HC.out.turn (Turn.of_below o 0 hb1) (fun _ _ h => h))
  obtain ⟨x, hx⟩ : ∃ x, nameP s = x := ⟨_, rfl⟩
  rw [hx]
  have HX := Lib.hid hx
  clear hx hb1 HC
  cases x with
  | false =>
    have e : N = 82 := by rw [← HN.out, nameE, HX.out]; rfl
    subst e
    go_wp2
    go_ret
    exact ⟨rfl, _, (Turn.of_below o 0 HB1.out).mono (fun _ h => h.elim), fun h => by cases h⟩
  | true =>
    obtain ⟨D, n, gI, gO, h1, h2, h3, h4, h5, h6, h7⟩ := HC1.out.st
    have q5 := h1.cell 5 (.map (some B)) rfl
    have H1 := Lib.hid h1
    have H2 := Lib.hid h2
    have H4 := Lib.hid h4
    have H5 := Lib.hid h5
    have H6 := Lib.hid h6
    have H7 := Lib.hid h7
    have H3 := Lib.hid h3
    clear h1 h2 h3 h4 h5 h6 h7
    have hml : s.size ≤ maxLen := size_max HS.out
    go_wp2_with (at_lookup; refine stop_here ?_)
    refine go_on ?_
    refine wpList_lookup_own_int _ rfl _ _ 176 rfl 9 3 .i64 smap_law Try.underlying176 Try.underlying3 (int_zero _) B n D rfl H2.out _ _ rfl (WideMaps.keyOf_string_mk Try.underlying9 hml) ?_
    intro c hat hwc
    have hc := H4.out.2 s
    rw [hat] at hc
    obtain ⟨y, hy⟩ : ∃ y, k.seen.any (fun x => decide (x = s)) = y := ⟨_, rfl⟩
    rw [hy] at hc
    have HY := Lib.hid hy
    clear hat hwc hy
    cases y with
    | true =>
      obtain rfl : c = 1 := by injection hc with h; injection h with _ h
      have e : N = 83 := by rw [← HN.out, nameE, HX.out, HY.out]; rfl
      subst e
      clear hc
      go_wp2
      go_ret
      exact ⟨rfl, _, (Turn.of_below o 0 HB1.out).mono (fun _ h => h.elim), fun h => by cases h⟩
    | false =>
      obtain rfl : c = 0 := by injection hc with h; injection h with _ h
      have e : N = 0 := by rw [← HN.out, nameE, HX.out, HY.out]; rfl
      subst e
      clear hc
      go_wp2_with (at_mapUpdate; refine stop_here ?_)
      refine go_on ?_
      refine wpList_mapUpdate_own _ rfl _ _ _ 176 rfl 9 3 smap_law Try.underlying176 _ B n D rfl H2.out (lt_max H5.out HK.out) _ _ _ rfl rfl (WideMaps.keyOf_string_mk Try.underlying9 hml) _ [] (plainElem_int Try.underlying3 (by decide)) ?_
      intro w2 hown2 hg2
      have T2 : Turn (ext o w.heap.size 0) (ext (ext o w.heap.size 0) w1.heap.size 0) (fun x => x = 2) w1 w2 := Turn.of_mods _ 0 ((Mods.refl (fun b => b = B) w1).grown hg2 (fun b hb _ => (Option.some.inj hb).symm)) (fun b _ e => by rw [e]; exact H3.out)
      have HT := Lib.hid (((Turn.of_below o 0 HB1.out).mono (D := fun x => x = 2) (fun _ h => h.elim)).trans T2 (fun x e => e))
      have hB2 : ext (ext o w.heap.size 0) w1.heap.size 0 B = 2 := (ext_old H2.out.lt).trans H3.out
      have HN2 : Hid (ChkAt w2 (ext (ext o w.heap.size 0) w1.heap.size 0) C B X ⟨k.seen ++ [s], k.ins, k.outs⟩) := Lib.hid ⟨_, _, gI, gO, H1.out.turn T2 (by decide), hown2, hB2, seen_next H4.out s, by have := H5.out; simp; omega, H6.out.turn T2 (by decide) (by decide), H7.out.turn T2 (by decide) (by decide)⟩
      clear hown2 hg2 T2 hB2
      go_wp2
      go_ret
      exact ⟨rfl, _, HT.out, HN2.out⟩
end Go.Proofs.Ytbmbfifempkhgaa

/- The checker's ports: inputs, or outputs. -/
namespace Go.Proofs.Ytbmbfifempkhgaa
open Go.RowKit

def SpotRet (E : Int) (e : Ending) : Prop := ∃ a b c : Int, e = .returned (.tuple #[.int .i64 E, .agg #[.int .u8 a, .int .i64 b, .int .i64 c]])
/-- what a method of the checker answers -/
def ChkRet (w : World) (o : Col) (C B : Nat) (X : ChkV) (E : Int) (k : Chk) (e : Ending) (w' : World) : Prop := SpotRet E e ∧ ∃ o', Turn o o' ChkC w w' ∧ (E = 0 → ChkAt w' o' C B X k)

/-- the colours of what 'ports' turns -/
def ChkP (x : Nat) : Prop := x = 2 ∨ x = 4 ∨ x = 6
def ChkRetP (w : World) (o : Col) (C B : Nat) (X : ChkV) (E : Int) (k : Chk) (e : Ending) (w' : World) : Prop := SpotRet E e ∧ ∃ o', Turn o o' ChkP w w' ∧ (E = 0 → ChkAt w' o' C B X k)

/-- what is turned later lies in blocks that are new -/
theorem Turn.late {o o1 : Col} {C : Nat → Prop} {w w1 w2 : World} (h : Turn o o1 C w w1) (c : Nat) (m : Mods (fun k => w.heap.size ≤ k) w1 w2) : Turn o (ext o1 w1.heap.size c) C w w2 := by
  refine ⟨h.mods.trans m (fun _ _ h => h) (fun n hn f => by omega), fun k hk => ?_⟩
  rw [ext_old (Nat.lt_of_lt_of_le hk h.size)]
  exact h.same k hk
/-- the result's block, where nothing else lies -/
theorem spot_set {w : World} {o : Col} {R : Nat} {a b c : Int} (h : Blk w o 7 R 140 #[.int .u8 0, .int .i64 0, .int .i64 0]) :
    (((w.setCell ⟨R, 0, none⟩ (.int .u8 a)).setCell ⟨R, 1, none⟩ (.int .i64 b)).setCell ⟨R, 2, none⟩ (.int .i64 c)).heap[R]? = some (.cells #[.int .u8 a, .int .i64 b, .int .i64 c] 140 (0, 0)) :=
  block_setCell (block_setCell (block_setCell h.1 0 (.int .u8 a)) 1 (.int .i64 b)) 2 (.int .i64 c)
theorem spot_mods {w : World} {N R : Nat} (h : N ≤ R) (a b c : Value) : Mods (fun k => N ≤ k) w (((w.setCell ⟨R, 0, none⟩ a).setCell ⟨R, 1, none⟩ b).setCell ⟨R, 2, none⟩ c) :=
  (((Mods.refl _ w).setCell (p := ⟨R, 0, none⟩) (fun _ => h) a).setCell (p := ⟨R, 1, none⟩) (fun _ => h) b).setCell (p := ⟨R, 2, none⟩) (fun _ => h) c

theorem spot_only (w : World) (R : Nat) (a b c : Value) : Mods (fun k => k = R) w (((w.setCell ⟨R, 0, none⟩ a).setCell ⟨R, 1, none⟩ b).setCell ⟨R, 2, none⟩ c) :=
  (((Mods.refl (fun k => k = R) w).setCell (p := ⟨R, 0, none⟩) (fun _ => rfl) a).setCell (p := ⟨R, 1, none⟩) (fun _ => rfl) b).setCell (p := ⟨R, 2, none⟩) (fun _ => rfl) c
theorem ChkAt.spot {w : World} {q : Col} {C B R : Nat} {X : ChkV} {k : Chk} {t : TypeId} {cs : Array Value} (h : ChkAt w q C B X k) (hR : Blk w q 7 R t cs) (a b c : Value) : ChkAt (((w.setCell ⟨R, 0, none⟩ a).setCell ⟨R, 1, none⟩ b).setCell ⟨R, 2, none⟩ c) (ext q w.heap.size 7) C B X k :=
  h.turn (Turn.of_mods (C := fun x => x = 7) q 7 (spot_only w R a b c) (fun b _ e => by subst e; exact hR.2)) (fun x hx e => by subst e; exact absurd hx (by unfold ChkC; omega))
theorem portsE_cons {seen : List ByteArray} {side : List (List Bool)} {l : List GPort} {j : Nat} (h : j < l.length) : portsE seen side (l.drop j) = if portE seen side l[j] ≠ 0 then portE seen side l[j] else portsE (seen ++ [l[j].name]) (takeS side l[j].actor l[j].port) (l.drop (j + 1)) := by
  rw [List.drop_eq_getElem_cons h, portsE]
theorem portsS_snoc {side : List (List Bool)} {l : List GPort} {j : Nat} (h : j < l.length) : portsS side (l.take (j + 1)) = takeS (portsS side (l.take j)) l[j].actor l[j].port := by
  rw [List.take_succ_eq_append_getElem h, portsS, List.foldl_append]; rfl
theorem portsN_snoc {seen : List ByteArray} {l : List GPort} {j : Nat} (h : j < l.length) : portsN seen (l.take (j + 1)) = portsN seen (l.take j) ++ [l[j].name] := by
  rw [List.take_succ_eq_append_getElem h, portsN, portsN, List.map_append, List.append_assoc]; rfl
theorem spot_new (w : World) (o : Col) (c : Nat) : Blk (w.alloc (.cells #[.int .u8 0, .int .i64 0, .int .i64 0] 140)) (ext o w.heap.size c) c w.heap.size 140 #[.int .u8 0, .int .i64 0, .int .i64 0] := ⟨heap_alloc_new w _, ext_new (Nat.le_refl _)⟩

theorem port_split {seen : List ByteArray} {side : List (List Bool)} {p : GPort} {r : Int} : (if portE seen side p ≠ 0 then portE seen side p else r) = if nameE seen p.name ≠ 0 then nameE seen p.name else if takeE side p.actor p.port ≠ 0 then takeE side p.actor p.port else r := by
  unfold portE
  by_cases h : nameE seen p.name = 0
  · simp [h]
  · simp [h]
theorem portsN_len {seen : List ByteArray} {l : List GPort} {j : Nat} (hj : j ≤ l.length) (h : seen.length + l.length ≤ 1000000) : (portsN seen (l.take j)).length ≤ 1000000 := by
  simp [portsN]; omega

set_option maxRecDepth 100000 in
set_option maxHeartbeats 2000000 in
theorem gports_in (w0 w : World) (o : Col) (C B : Nat) (X : ChkV) (k : Chk) (v : Value) (l : List GPort) (kd en : Int) (hv : Recs w0 3 PortR v l) (K : Kept w0.heap.size o w0 w) (hn : k.seen.length + l.length ≤ 1000000) (hs : ∀ p ∈ l, p.name.size ≤ 4611686018427387904) (h : ChkAt w o C B X k) :
    Calls Try.prog 99 #[.pointer (some ⟨C, 0, none⟩), v, X.vI, .int .u8 kd, .int .i64 en] w (ChkRetP w o C B X (portsE k.seen k.ins l) ⟨portsN k.seen l, portsS k.ins l, k.outs⟩) := by
  obtain ⟨ao, cap, rfl⟩ := hv.slice
  obtain ⟨E, hE⟩ : ∃ E, portsE k.seen k.ins l = E := ⟨_, rfl⟩
  rw [hE]
  have HE := Lib.hid (show portsE (portsN k.seen (l.take 0)) (portsS k.ins (l.take 0)) (l.drop 0) = E by simpa [portsN, portsS] using hE)
  have HV := Lib.hid hv
  have HN := Lib.hid hn
  have HSZ := Lib.hid hs
  have hbR := below_alloc w (.cells #[.int .u8 0, .int .i64 0, .int .i64 0] 140)
  have HT0 := Lib.hid ((Turn.of_below o 7 hbR).mono (D := ChkP) (fun _ h => h.elim))
  have HK0 := Lib.hid (K.of_below 7 hbR)
  have HC0 : Hid (ChkAt _ _ C B X ⟨portsN k.seen (l.take 0), portsS k.ins (l.take 0), k.outs⟩) := Lib.hid (by simpa [portsN, portsS] using h.below 7 hbR)
  have HR0 := Lib.hid (spot_new w o 7)
  clear hE hv hn hs K h hbR
  go_enter Try.func99, Try.ntmps99
  go_wp2_with fail
  obtain ⟨R, hR⟩ : ∃ R, w.heap.size = R := ⟨_, rfl⟩
  have HRE := Lib.hid hR
  rw [hR] at HR0 HT0 HK0 HC0 ⊢
  clear hR
  go_loopw [18] (fun i wr => ∃ (j : Nat) (q : Col), j ≤ l.length ∧ i = .int .i64 j ∧ Kept w0.heap.size q w0 wr ∧ Turn o q ChkP w wr ∧ Blk wr q 7 R 140 #[.int .u8 0, .int .i64 0, .int .i64 0] ∧ ChkAt wr q C B X ⟨portsN k.seen (l.take j), portsS k.ins (l.take j), k.outs⟩ ∧ portsE (portsN k.seen (l.take j)) (portsS k.ins (l.take j)) (l.drop j) = E) (fun i _ => l.length - (intOf i).toNat)
  case atStart => exact ⟨0, _, Nat.zero_le _, rfl, HK0.out, HT0.out, HR0.out, HC0.out, HE.out⟩
  case round =>
    clear HK0 HT0 HR0 HC0 HE
    obtain ⟨j, q, hj, rfl, hK, hT, hR, hC, hE⟩ := hrel
    have HK := Lib.hid hK
    have HT := Lib.hid hT
    have HR := Lib.hid hR
    have HC := Lib.hid hC
    have HE := Lib.hid hE
    clear hK hT hR hC hE
    by_cases hlt : j < l.length
    · have hlti : (j : Int) < l.length := by omega
      obtain ⟨b0, off, rfl, hcap, hb0, hrec⟩ := (HV.out.below port_steady HK.out.below).at (by omega)
      obtain ⟨cs, hcs, hPR, hcl⟩ := hrec j hlt
      obtain rfl := hPR
      have c0 := hcl 0 (by omega)
      have c1 := hcl 1 (by omega)
      have c2 := hcl 2 (by omega)
      simp at c0 c1 c2
      have hcapi : (l.length : Int) ≤ cap := by omega
      clear hcl hcs hrec
      have hEc := HE.out
      rw [portsE_cons hlt] at hEc
      have HEC := Lib.hid hEc
      have HSn := Lib.hid (portsS_snoc (side := k.ins) hlt)
      have HNn := Lib.hid (portsN_snoc (seen := k.seen) hlt)
      have hpz := HSZ.out l[j] (List.getElem_mem hlt)
      generalize l[j] = p at *
      clear hEc
      rw [port_split] at HEC
      have hsl := portsN_len hj HN.out
      obtain ⟨sn, hsn⟩ : ∃ x, portsN k.seen (l.take j) = x := ⟨_, rfl⟩
      obtain ⟨sd, hsd⟩ : ∃ x, portsS k.ins (l.take j) = x := ⟨_, rfl⟩
      rw [hsn, hsd] at HEC HC
      rw [hsn] at HNn hsl
      rw [hsd] at HSn
      clear hsn hsd HE
      have hbX := below_alloc wr (.cells #[.string p.name, .int .i64 p.actor, .int .i64 p.port] 65)
      have hX : Blk (wr.alloc (.cells #[.string p.name, .int .i64 p.actor, .int .i64 p.port] 65)) (ext q wr.heap.size 8) 8 wr.heap.size 65 #[.string p.name, .int .i64 p.actor, .int .i64 p.port] := ⟨heap_alloc_new wr _, ext_new (Nat.le_refl _)⟩
      have hTX := (Turn.of_below q 8 hbX).mono (D := ChkP) (fun _ h => h.elim)
      have HK2 := Lib.hid (HK.out.of_below 8 hbX)
      have HT2 := Lib.hid (HT.out.trans hTX (fun _ h => h))
      have HR2 := Lib.hid (HR.out.turn (Turn.of_below q 8 hbX) (fun h => h))
      have HC2 := Lib.hid (HC.out.below 8 hbX)
      have HX := Lib.hid hX
      clear hbX hX hTX HK HT HR HC
      go_wp2_with fail
      refine (gname_any _ (ext q wr.heap.size 8) C B X ⟨sn, sd, k.outs⟩ p.name hpz hsl HC2.out).mono ?_
      rintro e w4 ⟨rfl, o4, T40, hC4⟩
      have T4 := T40.mono (D := ChkP) (fun x e => .inl e)
      have HK4 := Lib.hid (HK2.out.turn T4 (by unfold ChkP; omega))
      have HT4 := Lib.hid (HT2.out.trans T4 (fun _ h => h))
      have HR4 := Lib.hid (HR2.out.turn T4 (by unfold ChkP; omega))
      have HX4 := Lib.hid (HX.out.turn T4 (by unfold ChkP; omega))
      have HC4 := Lib.hid hC4
      clear T40 T4 hC4 HK2 HT2 HR2 HC2 HX
      obtain ⟨ne, hne⟩ : ∃ x, nameE sn p.name = x := ⟨_, rfl⟩
      rw [show nameE (Chk.seen ⟨sn, sd, k.outs⟩) p.name = ne from hne] at HC4 ⊢
      rw [hne] at HEC
      clear hne
      by_cases h0 : ne = 0
      · subst h0
        have hC5 := HC4.out rfl
        obtain ⟨gI, hSI⟩ := hC5.ins
        have HC5 := Lib.hid hC5
        have HSI := Lib.hid hSI
        have x1 := HX4.out.cell 1 _ rfl
        have x2 := HX4.out.cell 2 _ rfl
        rw [if_neg (by simp)] at HEC
        clear hC5 hSI HC4
        go_wp2_with fail
        refine (gtake_any _ o4 3 4 X.vI sd gI p.actor p.port (by decide) HSI.out).mono ?_
        rintro e w5 ⟨rfl, T5, hS5⟩
        have HK5 := Lib.hid (HK4.out.turn T5 (by decide))
        have HT5 := Lib.hid (HT4.out.trans T5 (fun x e => by subst e; unfold ChkP; omega))
        have HR5 := Lib.hid (HR4.out.turn T5 (by decide))
        have HC6 := Lib.hid (fun (e : takeE sd p.actor p.port = 0) => HC5.out.tookI T5 (hS5 e))
        clear T5 hS5 HK4 HT4 HR4 HX4 HC5 HSI x1 x2
        obtain ⟨te, hte⟩ : ∃ x, takeE sd p.actor p.port = x := ⟨_, rfl⟩
        rw [hte] at HEC HC6 ⊢
        clear hte
        by_cases h0 : te = 0
        · subst h0
          have HC7 := Lib.hid (HC6.out rfl)
          rw [if_neg (by simp)] at HEC
          have HE2 : Hid (portsE (portsN k.seen (l.take (j + 1))) (portsS k.ins (l.take (j + 1))) (l.drop (j + 1)) = E) := Lib.hid (by rw [HNn.out, HSn.out]; exact HEC.out)
          have HC8 : Hid (ChkAt w5 o4 C B X ⟨portsN k.seen (l.take (j + 1)), portsS k.ins (l.take (j + 1)), k.outs⟩) := Lib.hid (by rw [HNn.out, HSn.out]; exact HC7.out)
          have hnn := HN.out
          clear HC6 HC7 HEC
          go_wp2
          go_roundw
          case rel => exact ⟨j + 1, o4, hlt, by go_num, HK5.out, HT5.out, HR5.out, HC8.out, HE2.out⟩
          case measure => simp [intOf]; omega
        · have e : E = te := by rw [← HEC.out, if_pos h0]
          subst e
          have z0 := HR5.out.cell 0 _ rfl
          have z1 := HR5.out.cell 1 _ rfl
          have z2 := HR5.out.cell 2 _ rfl
          have f0 := HR5.out.frozen 0
          have f1 := HR5.out.frozen 1
          have f2 := HR5.out.frozen 2
          go_wp2
          refine bodyPost_ret_by (results_tmp_row rfl _ _ _ _ _ _ _ rfl (spot_set HR5.out) Try.underlying140 rfl (by kernel_rfl)) rfl ?_
          exact ⟨⟨_, _, _, rfl⟩, _, HT5.out.late 7 (spot_mods (by have := HRE.out; omega) _ _ _), fun h => absurd h h0⟩
      · have e : E = ne := by rw [← HEC.out, if_pos h0]
        subst e
        have z0 := HR4.out.cell 0 _ rfl
        have z1 := HR4.out.cell 1 _ rfl
        have z2 := HR4.out.cell 2 _ rfl
        have f0 := HR4.out.frozen 0
        have f1 := HR4.out.frozen 1
        have f2 := HR4.out.frozen 2
        go_wp2
        refine bodyPost_ret_by (results_tmp_row rfl _ _ _ _ _ _ _ rfl (spot_set HR4.out) Try.underlying140 rfl (by kernel_rfl)) rfl ?_
        exact ⟨⟨_, _, _, rfl⟩, _, HT4.out.late 7 (spot_mods (by have := HRE.out; omega) _ _ _), fun h => absurd h h0⟩
    · obtain rfl : j = l.length := by omega
      have hfin := HE.out
      rw [List.drop_length, List.take_length] at hfin
      obtain rfl : E = 0 := hfin.symm
      have hC9 := HC.out
      rw [List.take_length, ] at hC9
      have HC9 := Lib.hid hC9
      clear hfin hC9
      have z0 := HR.out.cell 0 _ rfl
      have z1 := HR.out.cell 1 _ rfl
      have z2 := HR.out.cell 2 _ rfl
      have f0 := HR.out.frozen 0
      have f1 := HR.out.frozen 1
      have f2 := HR.out.frozen 2
      go_wp2
      refine bodyPost_ret_by (results_tmp_row rfl _ _ _ _ _ _ _ rfl (spot_set HR.out) Try.underlying140 rfl (by kernel_rfl)) rfl ?_
      exact ⟨⟨_, _, _, rfl⟩, _, HT.out.late 7 (spot_mods (by have := HRE.out; omega) _ _ _), fun _ => HC9.out.spot HR.out _ _ _⟩
end Go.Proofs.Ytbmbfifempkhgaa

/- A row more on a side of the checker. -/
namespace Go.Proofs.Ytbmbfifempkhgaa
open Go.RowKit

theorem info_bool : (Try.prog.info? 4).map (fun i => (i.zero, i.size, i.bytes)) = some (some (.bool false), 1, 1) := by kernel_rfl
theorem info_bools : (Try.prog.info? 192).map (fun i => (i.zero, i.size, i.bytes)) = some (some (.slice none 0 0), 1, 24) := by kernel_rfl
theorem made_bools (n : Nat) : madeCells (Value.cells (.bool false)) (n * 1) = (bvs (List.replicate n false)).toArray := by
  rw [Nat.mul_one]
  apply Array.toList_inj.1
  simp [madeCells, Value.cells, bvs, Nat.mod_one, List.map_const']
theorem make_bools (w : World) (n : Nat) (h : n ≤ 1000) : (Instr.makeSlice 192 (.int .i64 (n : Int)) (.int .i64 (n : Int))).run Try.prog w = .ok (.slice (some ⟨w.heap.size, 0, none⟩) n n) (w.alloc (.cells (bvs (List.replicate n false)).toArray 4)) := by
  obtain ⟨i0, hi, hz0, hz1, hz2⟩ := info_parts info_bool
  have hr := run_make (P := Try.prog) (w := w) 192 4 i0 _ Try.underlying192 hi hz0 .i64 .i64 (n : Int) (n : Int) (by omega) (Int.le_refl _) (by rw [hz2]; omega) (by omega)
  rw [hz1] at hr
  simp only [Int.toNat_natCast] at hr
  rw [hr, made_bools]

/-- the old blocks keep their colours, the next gets d, the others c -/
def ext2 (o : Col) (n d c : Nat) : Col := fun k => if k < n then o k else if k = n then d else c
theorem ext2_old {o : Col} {n d c k : Nat} (h : k < n) : ext2 o n d c k = o k := by simp [ext2, h]
theorem ext2_at {o : Col} {n d c : Nat} : ext2 o n d c n = d := by simp [ext2]
theorem ext2_new {o : Col} {n d c k : Nat} (h : n < k) : ext2 o n d c k = c := by simp [ext2, Nat.not_lt.2 (Nat.le_of_lt h), Nat.ne_of_gt h]

def rowsV (side : List (List Bool)) (gs : List Nat) : List Value := (List.range side.length).map fun k => .slice (some ⟨gs[k]?.getD 0, 0, none⟩) (side[k]?.getD []).length (side[k]?.getD []).length
theorem rowsV_snoc {side : List (List Bool)} {gs : List Nat} (h : gs.length = side.length) (r : List Bool) (g : Nat) : rowsV (side ++ [r]) (gs ++ [g]) = rowsV side gs ++ [.slice (some ⟨g, 0, none⟩) r.length r.length] := by
  unfold rowsV
  rw [List.length_append, List.length_singleton, List.range_succ, List.map_append]
  congr 1
  · refine List.map_congr_left fun k hk => ?_
    have hk' := List.mem_range.1 hk
    rw [List.getElem?_append_left (by omega), List.getElem?_append_left hk']
  · simp [← h]
theorem rowsV_len (side : List (List Bool)) (gs : List Nat) : (rowsV side gs).length = side.length := by simp [rowsV]

theorem Side.push {w w2 : World} {o : Col} {c d : Nat} {v v' : Value} {side : List (List Bool)} {gs : List Nat} (h : Side w o c d v side gs) (hcd : c ≠ d) (n : Nat) {tmp : Obj}
    (k1 : w2.ownsRow 0 192 1 v' (side.length + 1) (rowsV side gs ++ [.slice (some ⟨w.heap.size, 0, none⟩) n n])) (k2 : ((w.alloc (.cells (bvs (List.replicate n false)).toArray 4)).alloc tmp).grownBy w2 v.ownBlock)
    (k4 : v'.ownBlock = v.ownBlock ∨ v'.ownBlock = some ((w.alloc (.cells (bvs (List.replicate n false)).toArray 4)).alloc tmp).heap.size) :
    Turn o (ext2 o w.heap.size d c) (fun x => x = c) w w2 ∧ Side w2 (ext2 o w.heap.size d c) c d v' (side ++ [List.replicate n false]) (gs ++ [w.heap.size]) := by
  have hown := fun b (hb : v.ownBlock = some b) => h.own.1.lt b hb
  have T : Turn o (ext2 o w.heap.size d c) (fun x => x = c) w w2 :=
    ⟨((((Mods.refl (fun b => v.ownBlock = some b) w).alloc _).alloc tmp).grown k2 (fun b hb _ => hb)).mono (fun b _ hb => h.own.2 b hb), fun k hk => ext2_old hk⟩
  refine ⟨T, ⟨by simp [h.len], ⟨?_, fun b hb => ?_⟩, fun k hk => ?_, fun i j hij hj => ?_⟩⟩
  · have e := rowsV_snoc h.len (List.replicate n false) w.heap.size
    rw [List.length_replicate] at e
    have e2 : (side ++ [List.replicate n false]).length = side.length + 1 := by simp
    rw [e2]
    rw [← e] at k1
    unfold rowsV at k1
    rw [e2] at k1
    exact k1
  · rcases k4 with k4 | k4
    · rw [k4] at hb
      rw [ext2_old (hown b hb).2]
      exact h.own.2 b hb
    · rw [k4] at hb
      have := Option.some.inj hb
      simp at this
      exact ext2_new (by omega)
  · have hk' : k < side.length + 1 := by simpa using hk
    by_cases e : k < side.length
    · rw [List.getElem?_append_left (by have := h.len; omega), List.getElem?_append_left e]
      exact (h.rows k e).turn T (fun e => hcd e.symm)
    · obtain rfl : k = side.length := by omega
      have e1 : (gs ++ [w.heap.size])[side.length]?.getD 0 = w.heap.size := by rw [← h.len]; simp
      have e2 : (side ++ [List.replicate n false])[side.length]?.getD [] = List.replicate n false := by simp
      rw [e1, e2]
      exact ⟨block_grown (block_alloc (heap_alloc_new w _) tmp) k2 (fun e => by have := (hown _ e).2; omega), ext2_at⟩
  · have hj' : j < side.length + 1 := by simpa using hj
    have hi : i < side.length := by omega
    have e1 : (gs ++ [w.heap.size])[i]?.getD 0 = gs[i]?.getD 0 := by rw [List.getElem?_append_left (by have := h.len; omega)]
    rw [e1]
    by_cases e : j < side.length
    · rw [List.getElem?_append_left (by have := h.len; omega)]
      exact h.apart i j hij e
    · obtain rfl : j = side.length := by omega
      have e2 : (gs ++ [w.heap.size])[side.length]?.getD 0 = w.heap.size := by rw [← h.len]; simp
      rw [e2]
      have := (h.rows i hi).lt
      omega

theorem ChkAt.pushI {w w2 : World} {o : Col} {C B : Nat} {X : ChkV} {k : Chk} (h : ChkAt w o C B X k) {gI : List Nat} (hs : Side w o 3 4 X.vI k.ins gI) (n : Nat) {tmp : Obj} {v' : Value}
    (k1 : w2.ownsRow 0 192 1 v' (k.ins.length + 1) (rowsV k.ins gI ++ [.slice (some ⟨w.heap.size, 0, none⟩) n n])) (k2 : ((w.alloc (.cells (bvs (List.replicate n false)).toArray 4)).alloc tmp).grownBy w2 X.vI.ownBlock)
    (k4 : v'.ownBlock = X.vI.ownBlock ∨ v'.ownBlock = some ((w.alloc (.cells (bvs (List.replicate n false)).toArray 4)).alloc tmp).heap.size) :
    (w2.cell? ⟨C, 6, none⟩ = some X.vI ∧ w2.frozen? ⟨C, 6, none⟩ = false) ∧ Turn o (ext2 o w.heap.size 4 3) ChkC w (w2.setCell ⟨C, 6, none⟩ v') ∧ ChkAt (w2.setCell ⟨C, 6, none⟩ v') (ext2 o w.heap.size 4 3) C B ⟨X.name, X.va, X.ve, X.vi, X.vo, v', X.vO⟩ ⟨k.seen, k.ins ++ [List.replicate n false], k.outs⟩ := by
  obtain ⟨D, m, gI', gO, h1, h2, h3, h4, h5, h6, h7⟩ := h.st
  obtain ⟨T, S⟩ := hs.push (by decide) n k1 k2 k4
  obtain ⟨m1, m2⟩ := map_turn h2 T (by rw [h3]; decide)
  have b1 := h1.turn T (by decide)
  have b7 := h7.turn T (by decide) (by decide)
  obtain ⟨b2, T2⟩ := b1.set 6 v'
  obtain ⟨m3, m4⟩ := map_turn m1 T2 (by rw [m2, h3]; decide)
  refine ⟨⟨b1.cell 6 _ rfl, b1.frozen 6⟩, (T.mono (fun x e => by subst e; unfold ChkC; omega)).trans T2 (fun x e => by subst e; unfold ChkC; omega), D, m, _, gO, ?_, m3, m2.trans h3, h4, h5, S.turn T2 (by decide) (by decide), b7.turn T2 (by decide) (by decide)⟩
  exact b2
theorem ChkAt.pushO {w w2 : World} {o : Col} {C B : Nat} {X : ChkV} {k : Chk} (h : ChkAt w o C B X k) {gO : List Nat} (hs : Side w o 5 6 X.vO k.outs gO) (n : Nat) {tmp : Obj} {v' : Value}
    (k1 : w2.ownsRow 0 192 1 v' (k.outs.length + 1) (rowsV k.outs gO ++ [.slice (some ⟨w.heap.size, 0, none⟩) n n])) (k2 : ((w.alloc (.cells (bvs (List.replicate n false)).toArray 4)).alloc tmp).grownBy w2 X.vO.ownBlock)
    (k4 : v'.ownBlock = X.vO.ownBlock ∨ v'.ownBlock = some ((w.alloc (.cells (bvs (List.replicate n false)).toArray 4)).alloc tmp).heap.size) :
    (w2.cell? ⟨C, 7, none⟩ = some X.vO ∧ w2.frozen? ⟨C, 7, none⟩ = false) ∧ Turn o (ext2 o w.heap.size 6 5) ChkC w (w2.setCell ⟨C, 7, none⟩ v') ∧ ChkAt (w2.setCell ⟨C, 7, none⟩ v') (ext2 o w.heap.size 6 5) C B ⟨X.name, X.va, X.ve, X.vi, X.vo, X.vI, v'⟩ ⟨k.seen, k.ins, k.outs ++ [List.replicate n false]⟩ := by
  obtain ⟨D, m, gI, gO', h1, h2, h3, h4, h5, h6, h7⟩ := h.st
  obtain ⟨T, S⟩ := hs.push (by decide) n k1 k2 k4
  obtain ⟨m1, m2⟩ := map_turn h2 T (by rw [h3]; decide)
  have b1 := h1.turn T (by decide)
  have b6 := h6.turn T (by decide) (by decide)
  obtain ⟨b2, T2⟩ := b1.set 7 v'
  obtain ⟨m3, m4⟩ := map_turn m1 T2 (by rw [m2, h3]; decide)
  refine ⟨⟨b1.cell 7 _ rfl, b1.frozen 7⟩, (T.mono (fun x e => by subst e; unfold ChkC; omega)).trans T2 (fun x e => by subst e; unfold ChkC; omega), D, m, gI, _, ?_, m3, m2.trans h3, h4, h5, b6.turn T2 (by decide) (by decide), S.turn T2 (by decide) (by decide)⟩
  exact b2
end Go.Proofs.Ytbmbfifempkhgaa

/- The shape of an actor: its rates. -/
namespace Go.Proofs.Ytbmbfifempkhgaa
open Go.RowKit

theorem within_yes (w : World) (n m : Int) (h1 : 1 ≤ n) (h2 : n ≤ m) : Calls Try.prog 63 #[.int .i64 n, .int .i64 m] w fun e w' => e = .returned (.bool true) ∧ w = w' := by
  have := within_any w n m
  rwa [decide_eq_true (And.intro h1 h2)] at this
theorem within_no (w : World) (n m : Int) (h : n < 1 ∨ m < n) : Calls Try.prog 63 #[.int .i64 n, .int .i64 m] w fun e w' => e = .returned (.bool false) ∧ w = w' := by
  have := within_any w n m
  rwa [decide_eq_false (by omega)] at this

theorem ints_box (w : World) (vs : List Int) (hp : 0 < vs.length) : Ints (w.alloc (.cells (ivs vs).toArray 3)) (fun _ => 0) 0 (.slice (some ⟨w.heap.size, 0, none⟩) vs.length vs.length) vs := by
  have h := heap_alloc_new w (.cells (ivs vs).toArray 3)
  refine .inr ⟨by simpa using hp, w.heap.size, 0, vs.length, by simp, by simp, by simp, rfl, fun k hk => ?_⟩
  rw [Nat.zero_add]
  refine cells_row _ _ h k _ ?_
  rw [List.getElem?_toArray]
  simp at hk
  simp [hk]

/-- what 'Of' answers -/
def OfOk (w : World) (t : Int) (ps : List Int) (e : Ending) (w' : World) : Prop :=
  ∃ vi vo, e = .returned (.tuple #[vi, vo, .int .i64 0]) ∧ w'.ownsRow w.heap.size 3 1 vi (insP t ps).length (ivs (insP t ps)) ∧ w'.ownsRow w.heap.size 3 1 vo (outsP t ps).length (ivs (outsP t ps)) ∧ Below w.heap.size w w'
def OfNo (w : World) (x : Int) (e : Ending) (w' : World) : Prop := e = .returned (.tuple #[.slice none 0 0, .slice none 0 0, .int .i64 x]) ∧ Below w.heap.size w w'

theorem of_fin {w W0 w1 W1 w2 : World} {v1 v2 : Value} {n1 n2 : Nat} {l1 l2 : List Value} (h0 : Below w.heap.size w W0) (ho1 : w1.ownsRow W0.heap.size 3 1 v1 n1 l1) (hb1 : Below W0.heap.size W0 w1) (h1 : Below w1.heap.size w1 W1) (ho2 : w2.ownsRow W1.heap.size 3 1 v2 n2 l2) (hb2 : Below W1.heap.size W1 w2) :
    w2.ownsRow w.heap.size 3 1 v1 n1 l1 ∧ w2.ownsRow w.heap.size 3 1 v2 n2 l2 ∧ Below w.heap.size w w2 := by
  have s0 := h0.size
  have s1 := hb1.size
  have s2 := h1.size
  have b2 : Below w1.heap.size w1 w2 := h1.trans (hb2.mono s2)
  exact ⟨owns_base (owns_kept ho1 (Mods.of_below b2 (fun _ => False)) (fun _ _ h => h)) (fun k hk => by have := (ho1.lt k hk).1; omega), owns_base ho2 (fun k hk => by have := (ho2.lt k hk).1; omega), h0.trans ((hb1.mono s0).trans (b2.mono (by omega)))⟩
theorem of_fin1 {w W0 w1 : World} {v1 : Value} {n1 : Nat} {l1 : List Value} (h0 : Below w.heap.size w W0) (ho1 : w1.ownsRow W0.heap.size 3 1 v1 n1 l1) (hb1 : Below W0.heap.size W0 w1) :
    w1.ownsRow w.heap.size 3 1 v1 n1 l1 ∧ Below w.heap.size w w1 := by
  have s0 := h0.size
  exact ⟨owns_base ho1 (fun k hk => by have := (ho1.lt k hk).1; omega), h0.trans (hb1.mono s0)⟩

set_option maxRecDepth 100000 in
set_option maxHeartbeats 1000000 in
theorem of_tag (w : World) (t : Int) (v : Value) (h : t < 1 ∨ 11 < t) : Calls Try.prog 22 #[.int .u8 t, v] w (OfNo w 60) := by
  by_cases h1 : t < 1
  · go_enter Try.func22, Try.ntmps22
    go_wp2
    go_ret3
    exact ⟨rfl, Below.refl _ _⟩
  · have h2 : 11 < t := by omega
    go_enter Try.func22, Try.ntmps22
    go_wp2
    go_ret3
    exact ⟨rfl, Below.refl _ _⟩

theorem pair_cases (x y : Int) : (x < 1 ∨ 16 < x) ∨ ((1 ≤ x ∧ x ≤ 16) ∧ (y < 1 ∨ 64 < y)) ∨ ((1 ≤ x ∧ x ≤ 16) ∧ (1 ≤ y ∧ y ≤ 64) ∧ 0 ≤ x * y ∧ x * y ≤ 64) ∨ ((1 ≤ x ∧ x ≤ 16) ∧ (1 ≤ y ∧ y ≤ 64) ∧ 64 < x * y ∧ x * y ≤ 1024) := by
  by_cases h1 : x < 1 ∨ 16 < x
  · exact .inl h1
  · by_cases h2 : y < 1 ∨ 64 < y
    · exact .inr (.inl ⟨by omega, h2⟩)
    · have h3 : 0 ≤ x * y := Int.mul_nonneg (by omega) (by omega)
      have h4 : x * y ≤ 16 * 64 := Int.mul_le_mul (by omega) (by omega) (by omega) (by omega)
      by_cases h5 : x * y ≤ 64
      · exact .inr (.inr (.inl ⟨by omega, by omega, h3, h5⟩))
      · exact .inr (.inr (.inr ⟨by omega, by omega, by omega, by omega⟩))

set_option maxRecDepth 100000 in
set_option maxHeartbeats 4000000 in
theorem of_1_l0 (w : World) (ao : Option Addr) (cap : Nat) : Calls Try.prog 22 #[.int .u8 1, .slice ao 0 cap] w (OfNo w 61) := by
  go_enter Try.func22, Try.ntmps22
  go_wp2_with (go_at_call 63; (first | ((with_reducible refine (within_yes _ _ _ ?_ ?_).mono ?_); (focus omega); (focus omega)) | ((with_reducible refine (within_no _ _ _ ?_).mono ?_); (focus omega))); rintro e w' ⟨rfl, rfl⟩)
  go_ret3
  exact ⟨rfl, Below.refl _ _⟩

set_option maxRecDepth 100000 in
set_option maxHeartbeats 4000000 in
theorem of_1_l1 (w : World) {o : Col} {c : Nat} (ao : Option Addr) (cap : Nat) (x : Int) (h : Ints w o c (.slice ao 1 cap) [x]) : Calls Try.prog 22 #[.int .u8 1, .slice ao 1 cap] w (OfOk w 1 [x]) := by
  obtain ⟨b, off, rfl, -, hcap, -, -, hc⟩ := h.at (by simp)
  have c0 := hc 0 (by simp)
  simp at c0
  clear hc h
  go_enter Try.func22, Try.ntmps22
  go_wp2_with (go_at_call 63; (first | ((with_reducible refine (within_yes _ _ _ ?_ ?_).mono ?_); (focus omega); (focus omega)) | ((with_reducible refine (within_no _ _ _ ?_).mono ?_); (focus omega))); rintro e w' ⟨rfl, rfl⟩)
  refine (ports_any _ _ _ _ [1] (ints_box _ [1] (by simp))  (by simp)).mono ?_
  rintro e w1 ⟨g1, c1, rfl, ho1, hb1⟩
  go_wp2_with fail
  refine (ports_any _ _ _ _ [1] (ints_box _ [1] (by simp))  (by simp)).mono ?_
  rintro e w2 ⟨g2, c2, rfl, ho2, hb2⟩
  go_wp2
  go_ret3
  exact ⟨_, _, rfl, by simpa [insP, outsP, hd, hd1] using of_fin (by first | exact Below.refl _ _ | exact (Below.refl _ _).alloc (Nat.le_refl _) _) ho1 hb1 (by first | exact Below.refl _ _ | exact (Below.refl _ _).alloc (Nat.le_refl _) _) ho2 hb2⟩

set_option maxRecDepth 100000 in
set_option maxHeartbeats 4000000 in
theorem of_1_l2 (w : World) {o : Col} {c : Nat} (ao : Option Addr) (cap : Nat) (x y : Int) (h : Ints w o c (.slice ao 2 cap) [x, y]) : Calls Try.prog 22 #[.int .u8 1, .slice ao 2 cap] w (OfOk w 1 [x, y]) := by
  obtain ⟨b, off, rfl, -, hcap, -, -, hc⟩ := h.at (by simp)
  have c0 := hc 0 (by simp)
  have c1 := hc 1 (by simp)
  simp at c0 c1
  clear hc h
  have hcase : (x < 1 ∨ 16 < x) ∨ ((1 ≤ x ∧ x ≤ 16) ∧ (y < 1 ∨ 64 < y)) ∨ ((1 ≤ x ∧ x ≤ 16) ∧ (1 ≤ y ∧ y ≤ 64) ∧ 0 ≤ x * y ∧ x * y ≤ 64) ∨ ((1 ≤ x ∧ x ≤ 16) ∧ (1 ≤ y ∧ y ≤ 64) ∧ 64 < x * y ∧ x * y ≤ 1024) := pair_cases x y
  rcases hcase with hx | ⟨hx, hy⟩ | ⟨hx, hy, hz, hz2⟩ | ⟨hx, hy, hz, hz2⟩
  all_goals
    go_enter Try.func22, Try.ntmps22
    go_wp2_with (go_at_call 63; (first | ((with_reducible refine (within_yes _ _ _ ?_ ?_).mono ?_); (focus omega); (focus omega)) | ((with_reducible refine (within_no _ _ _ ?_).mono ?_); (focus omega))); rintro e w' ⟨rfl, rfl⟩)
    refine (ports_any _ _ _ _ [1] (ints_box _ [1] (by simp))  (by simp)).mono ?_
    rintro e w1 ⟨g1, c1, rfl, ho1, hb1⟩
    go_wp2_with fail
    refine (ports_any _ _ _ _ [1] (ints_box _ [1] (by simp))  (by simp)).mono ?_
    rintro e w2 ⟨g2, c2, rfl, ho2, hb2⟩
    go_wp2
    go_ret3
    exact ⟨_, _, rfl, by simpa [insP, outsP, hd, hd1] using of_fin (by first | exact Below.refl _ _ | exact (Below.refl _ _).alloc (Nat.le_refl _) _) ho1 hb1 (by first | exact Below.refl _ _ | exact (Below.refl _ _).alloc (Nat.le_refl _) _) ho2 hb2⟩

set_option maxRecDepth 100000 in
set_option maxHeartbeats 4000000 in
theorem of_1_l3y (w : World) {o : Col} {c : Nat} (ao : Option Addr) (cap : Nat) (l : List Int) (k : Nat) (hk : l.length = k + 3) (hm : k ≤ 13) (h : Ints w o c (.slice ao (k + 3) cap) l) : Calls Try.prog 22 #[.int .u8 1, .slice ao (k + 3) cap] w (OfOk w 1 l) := by
  obtain ⟨b, off, rfl, -, hcap, -, -, hc⟩ := h.at (by omega)
  have c0 := hc 0 (by omega)
  have c1 := hc 1 (by omega)
  generalize l[0]?.getD 0 = x at c0
  generalize l[1]?.getD 0 = y at c1
  have hkk : (k : Int) ≤ 17600000000000 := by omega
  rw [Nat.add_zero] at c0
  clear hc h hk
  go_enter Try.func22, Try.ntmps22
  go_wp2_with (go_at_call 63; (first | ((with_reducible refine (within_yes _ _ _ ?_ ?_).mono ?_); (focus omega); (focus omega)) | ((with_reducible refine (within_no _ _ _ ?_).mono ?_); (focus omega))); rintro e w' ⟨rfl, rfl⟩)
  refine (ports_any _ _ _ _ [1] (ints_box _ [1] (by simp))  (by simp)).mono ?_
  rintro e w1 ⟨g1, c1, rfl, ho1, hb1⟩
  go_wp2_with fail
  refine (ports_any _ _ _ _ [1] (ints_box _ [1] (by simp))  (by simp)).mono ?_
  rintro e w2 ⟨g2, c2, rfl, ho2, hb2⟩
  go_wp2
  go_ret3
  exact ⟨_, _, rfl, by simpa [insP, outsP, hd, hd1] using of_fin (by first | exact Below.refl _ _ | exact (Below.refl _ _).alloc (Nat.le_refl _) _) ho1 hb1 (by first | exact Below.refl _ _ | exact (Below.refl _ _).alloc (Nat.le_refl _) _) ho2 hb2⟩

set_option maxRecDepth 100000 in
set_option maxHeartbeats 4000000 in
theorem of_1_l3n (w : World) {o : Col} {c : Nat} (ao : Option Addr) (cap : Nat) (l : List Int) (k : Nat) (hk : l.length = k + 3) (hm1 : 13 < k) (hm : k ≤ 17600000000000) (h : Ints w o c (.slice ao (k + 3) cap) l) : Calls Try.prog 22 #[.int .u8 1, .slice ao (k + 3) cap] w (OfNo w 61) := by
  obtain ⟨b, off, rfl, -, hcap, -, -, hc⟩ := h.at (by omega)
  have c0 := hc 0 (by omega)
  have c1 := hc 1 (by omega)
  generalize l[0]?.getD 0 = x at c0
  generalize l[1]?.getD 0 = y at c1
  have hkk : (k : Int) ≤ 17600000000000 := by omega
  rw [Nat.add_zero] at c0
  clear hc h hk
  have hk1 : (13 : Int) < k := by omega
  go_enter Try.func22, Try.ntmps22
  go_wp2_with (go_at_call 63; (first | ((with_reducible refine (within_yes _ _ _ ?_ ?_).mono ?_); (focus omega); (focus omega)) | ((with_reducible refine (within_no _ _ _ ?_).mono ?_); (focus omega))); rintro e w' ⟨rfl, rfl⟩)
  go_ret3
  exact ⟨rfl, Below.refl _ _⟩

set_option maxRecDepth 100000 in
set_option maxHeartbeats 4000000 in
theorem of_2_l0 (w : World) (ao : Option Addr) (cap : Nat) : Calls Try.prog 22 #[.int .u8 2, .slice ao 0 cap] w (OfNo w 61) := by
  go_enter Try.func22, Try.ntmps22
  go_wp2_with (go_at_call 63; (first | ((with_reducible refine (within_yes _ _ _ ?_ ?_).mono ?_); (focus omega); (focus omega)) | ((with_reducible refine (within_no _ _ _ ?_).mono ?_); (focus omega))); rintro e w' ⟨rfl, rfl⟩)
  go_ret3
  exact ⟨rfl, Below.refl _ _⟩

set_option maxRecDepth 100000 in
set_option maxHeartbeats 4000000 in
theorem of_2_l1y (w : World) {o : Col} {c : Nat} (ao : Option Addr) (cap : Nat) (x : Int) (h1 : 1 ≤ x) (h2 : x ≤ 64) (h : Ints w o c (.slice ao 1 cap) [x]) : Calls Try.prog 22 #[.int .u8 2, .slice ao 1 cap] w (OfOk w 2 [x]) := by
  obtain ⟨b, off, rfl, -, hcap, -, -, hc⟩ := h.at (by simp)
  have c0 := hc 0 (by simp)
  simp at c0
  clear hc h
  go_enter Try.func22, Try.ntmps22
  go_wp2_with (go_at_call 63; (first | ((with_reducible refine (within_yes _ _ _ ?_ ?_).mono ?_); (focus omega); (focus omega)) | ((with_reducible refine (within_no _ _ _ ?_).mono ?_); (focus omega))); rintro e w' ⟨rfl, rfl⟩)
  refine (ports_any _ _ _ _ [1] (ints_box _ [1] (by simp))  (by simp)).mono ?_
  rintro e w1 ⟨g1, c1, rfl, ho1, hb1⟩
  go_wp2_with fail
  refine (ports_any _ _ _ _ [x] (ints_box _ [x] (by simp))  (by simp)).mono ?_
  rintro e w2 ⟨g2, c2, rfl, ho2, hb2⟩
  go_wp2
  go_ret3
  exact ⟨_, _, rfl, by simpa [insP, outsP, hd, hd1] using of_fin (by first | exact Below.refl _ _ | exact (Below.refl _ _).alloc (Nat.le_refl _) _) ho1 hb1 (by first | exact Below.refl _ _ | exact (Below.refl _ _).alloc (Nat.le_refl _) _) ho2 hb2⟩

set_option maxRecDepth 100000 in
set_option maxHeartbeats 4000000 in
theorem of_2_l1n (w : World) {o : Col} {c : Nat} (ao : Option Addr) (cap : Nat) (x : Int) (h1 : x < 1 ∨ 64 < x) (h : Ints w o c (.slice ao 1 cap) [x]) : Calls Try.prog 22 #[.int .u8 2, .slice ao 1 cap] w (OfNo w 61) := by
  obtain ⟨b, off, rfl, -, hcap, -, -, hc⟩ := h.at (by simp)
  have c0 := hc 0 (by simp)
  simp at c0
  clear hc h
  go_enter Try.func22, Try.ntmps22
  go_wp2_with (go_at_call 63; (first | ((with_reducible refine (within_yes _ _ _ ?_ ?_).mono ?_); (focus omega); (focus omega)) | ((with_reducible refine (within_no _ _ _ ?_).mono ?_); (focus omega))); rintro e w' ⟨rfl, rfl⟩)
  go_ret3
  exact ⟨rfl, Below.refl _ _⟩

set_option maxRecDepth 100000 in
set_option maxHeartbeats 4000000 in
theorem of_2_l2 (w : World) {o : Col} {c : Nat} (ao : Option Addr) (cap : Nat) (x y : Int) (h : Ints w o c (.slice ao 2 cap) [x, y]) : Calls Try.prog 22 #[.int .u8 2, .slice ao 2 cap] w (OfNo w 61) := by
  obtain ⟨b, off, rfl, -, hcap, -, -, hc⟩ := h.at (by simp)
  have c0 := hc 0 (by simp)
  have c1 := hc 1 (by simp)
  simp at c0 c1
  clear hc h
  have hcase : (x < 1 ∨ 16 < x) ∨ ((1 ≤ x ∧ x ≤ 16) ∧ (y < 1 ∨ 64 < y)) ∨ ((1 ≤ x ∧ x ≤ 16) ∧ (1 ≤ y ∧ y ≤ 64) ∧ 0 ≤ x * y ∧ x * y ≤ 64) ∨ ((1 ≤ x ∧ x ≤ 16) ∧ (1 ≤ y ∧ y ≤ 64) ∧ 64 < x * y ∧ x * y ≤ 1024) := pair_cases x y
  rcases hcase with hx | ⟨hx, hy⟩ | ⟨hx, hy, hz, hz2⟩ | ⟨hx, hy, hz, hz2⟩
  all_goals
    go_enter Try.func22, Try.ntmps22
    go_wp2_with (go_at_call 63; (first | ((with_reducible refine (within_yes _ _ _ ?_ ?_).mono ?_); (focus omega); (focus omega)) | ((with_reducible refine (within_no _ _ _ ?_).mono ?_); (focus omega))); rintro e w' ⟨rfl, rfl⟩)
    go_ret3
    exact ⟨rfl, Below.refl _ _⟩

set_option maxRecDepth 100000 in
set_option maxHeartbeats 4000000 in
theorem of_2_l3 (w : World) {o : Col} {c : Nat} (ao : Option Addr) (cap : Nat) (l : List Int) (k : Nat) (hk : l.length = k + 3) (hm : k ≤ 17600000000000) (h : Ints w o c (.slice ao (k + 3) cap) l) : Calls Try.prog 22 #[.int .u8 2, .slice ao (k + 3) cap] w (OfNo w 61) := by
  obtain ⟨b, off, rfl, -, hcap, -, -, hc⟩ := h.at (by omega)
  have c0 := hc 0 (by omega)
  have c1 := hc 1 (by omega)
  generalize l[0]?.getD 0 = x at c0
  generalize l[1]?.getD 0 = y at c1
  have hkk : (k : Int) ≤ 17600000000000 := by omega
  rw [Nat.add_zero] at c0
  clear hc h hk
  go_enter Try.func22, Try.ntmps22
  go_wp2_with (go_at_call 63; (first | ((with_reducible refine (within_yes _ _ _ ?_ ?_).mono ?_); (focus omega); (focus omega)) | ((with_reducible refine (within_no _ _ _ ?_).mono ?_); (focus omega))); rintro e w' ⟨rfl, rfl⟩)
  go_ret3
  exact ⟨rfl, Below.refl _ _⟩

set_option maxRecDepth 100000 in
set_option maxHeartbeats 4000000 in
theorem of_3_l0 (w : World) (ao : Option Addr) (cap : Nat) : Calls Try.prog 22 #[.int .u8 3, .slice ao 0 cap] w (OfNo w 61) := by
  go_enter Try.func22, Try.ntmps22
  go_wp2_with (go_at_call 63; (first | ((with_reducible refine (within_yes _ _ _ ?_ ?_).mono ?_); (focus omega); (focus omega)) | ((with_reducible refine (within_no _ _ _ ?_).mono ?_); (focus omega))); rintro e w' ⟨rfl, rfl⟩)
  go_ret3
  exact ⟨rfl, Below.refl _ _⟩

set_option maxRecDepth 100000 in
set_option maxHeartbeats 4000000 in
theorem of_3_l1y (w : World) {o : Col} {c : Nat} (ao : Option Addr) (cap : Nat) (x : Int) (h1 : 1 ≤ x) (h2 : x ≤ 64) (h : Ints w o c (.slice ao 1 cap) [x]) : Calls Try.prog 22 #[.int .u8 3, .slice ao 1 cap] w (OfOk w 3 [x]) := by
  obtain ⟨b, off, rfl, -, hcap, -, -, hc⟩ := h.at (by simp)
  have c0 := hc 0 (by simp)
  simp at c0
  clear hc h
  go_enter Try.func22, Try.ntmps22
  go_wp2_with (go_at_call 63; (first | ((with_reducible refine (within_yes _ _ _ ?_ ?_).mono ?_); (focus omega); (focus omega)) | ((with_reducible refine (within_no _ _ _ ?_).mono ?_); (focus omega))); rintro e w' ⟨rfl, rfl⟩)
  refine (ports_any _ _ _ _ [x] (ints_box _ [x] (by simp))  (by simp)).mono ?_
  rintro e w1 ⟨g1, c1, rfl, ho1, hb1⟩
  go_wp2_with fail
  refine (ports_any _ _ _ _ [1] (ints_box _ [1] (by simp))  (by simp)).mono ?_
  rintro e w2 ⟨g2, c2, rfl, ho2, hb2⟩
  go_wp2
  go_ret3
  exact ⟨_, _, rfl, by simpa [insP, outsP, hd, hd1] using of_fin (by first | exact Below.refl _ _ | exact (Below.refl _ _).alloc (Nat.le_refl _) _) ho1 hb1 (by first | exact Below.refl _ _ | exact (Below.refl _ _).alloc (Nat.le_refl _) _) ho2 hb2⟩

set_option maxRecDepth 100000 in
set_option maxHeartbeats 4000000 in
theorem of_3_l1n (w : World) {o : Col} {c : Nat} (ao : Option Addr) (cap : Nat) (x : Int) (h1 : x < 1 ∨ 64 < x) (h : Ints w o c (.slice ao 1 cap) [x]) : Calls Try.prog 22 #[.int .u8 3, .slice ao 1 cap] w (OfNo w 61) := by
  obtain ⟨b, off, rfl, -, hcap, -, -, hc⟩ := h.at (by simp)
  have c0 := hc 0 (by simp)
  simp at c0
  clear hc h
  go_enter Try.func22, Try.ntmps22
  go_wp2_with (go_at_call 63; (first | ((with_reducible refine (within_yes _ _ _ ?_ ?_).mono ?_); (focus omega); (focus omega)) | ((with_reducible refine (within_no _ _ _ ?_).mono ?_); (focus omega))); rintro e w' ⟨rfl, rfl⟩)
  go_ret3
  exact ⟨rfl, Below.refl _ _⟩

set_option maxRecDepth 100000 in
set_option maxHeartbeats 4000000 in
theorem of_3_l2 (w : World) {o : Col} {c : Nat} (ao : Option Addr) (cap : Nat) (x y : Int) (h : Ints w o c (.slice ao 2 cap) [x, y]) : Calls Try.prog 22 #[.int .u8 3, .slice ao 2 cap] w (OfNo w 61) := by
  obtain ⟨b, off, rfl, -, hcap, -, -, hc⟩ := h.at (by simp)
  have c0 := hc 0 (by simp)
  have c1 := hc 1 (by simp)
  simp at c0 c1
  clear hc h
  have hcase : (x < 1 ∨ 16 < x) ∨ ((1 ≤ x ∧ x ≤ 16) ∧ (y < 1 ∨ 64 < y)) ∨ ((1 ≤ x ∧ x ≤ 16) ∧ (1 ≤ y ∧ y ≤ 64) ∧ 0 ≤ x * y ∧ x * y ≤ 64) ∨ ((1 ≤ x ∧ x ≤ 16) ∧ (1 ≤ y ∧ y ≤ 64) ∧ 64 < x * y ∧ x * y ≤ 1024) := pair_cases x y
  rcases hcase with hx | ⟨hx, hy⟩ | ⟨hx, hy, hz, hz2⟩ | ⟨hx, hy, hz, hz2⟩
  all_goals
    go_enter Try.func22, Try.ntmps22
    go_wp2_with (go_at_call 63; (first | ((with_reducible refine (within_yes _ _ _ ?_ ?_).mono ?_); (focus omega); (focus omega)) | ((with_reducible refine (within_no _ _ _ ?_).mono ?_); (focus omega))); rintro e w' ⟨rfl, rfl⟩)
    go_ret3
    exact ⟨rfl, Below.refl _ _⟩

set_option maxRecDepth 100000 in
set_option maxHeartbeats 4000000 in
theorem of_3_l3 (w : World) {o : Col} {c : Nat} (ao : Option Addr) (cap : Nat) (l : List Int) (k : Nat) (hk : l.length = k + 3) (hm : k ≤ 17600000000000) (h : Ints w o c (.slice ao (k + 3) cap) l) : Calls Try.prog 22 #[.int .u8 3, .slice ao (k + 3) cap] w (OfNo w 61) := by
  obtain ⟨b, off, rfl, -, hcap, -, -, hc⟩ := h.at (by omega)
  have c0 := hc 0 (by omega)
  have c1 := hc 1 (by omega)
  generalize l[0]?.getD 0 = x at c0
  generalize l[1]?.getD 0 = y at c1
  have hkk : (k : Int) ≤ 17600000000000 := by omega
  rw [Nat.add_zero] at c0
  clear hc h hk
  go_enter Try.func22, Try.ntmps22
  go_wp2_with (go_at_call 63; (first | ((with_reducible refine (within_yes _ _ _ ?_ ?_).mono ?_); (focus omega); (focus omega)) | ((with_reducible refine (within_no _ _ _ ?_).mono ?_); (focus omega))); rintro e w' ⟨rfl, rfl⟩)
  go_ret3
  exact ⟨rfl, Below.refl _ _⟩

set_option maxRecDepth 100000 in
set_option maxHeartbeats 4000000 in
theorem of_4_l0 (w : World) (ao : Option Addr) (cap : Nat) : Calls Try.prog 22 #[.int .u8 4, .slice ao 0 cap] w (OfNo w 61) := by
  go_enter Try.func22, Try.ntmps22
  go_wp2_with (go_at_call 63; (first | ((with_reducible refine (within_yes _ _ _ ?_ ?_).mono ?_); (focus omega); (focus omega)) | ((with_reducible refine (within_no _ _ _ ?_).mono ?_); (focus omega))); rintro e w' ⟨rfl, rfl⟩)
  go_ret3
  exact ⟨rfl, Below.refl _ _⟩

set_option maxRecDepth 100000 in
set_option maxHeartbeats 4000000 in
theorem of_4_l1 (w : World) {o : Col} {c : Nat} (ao : Option Addr) (cap : Nat) (x : Int) (h : Ints w o c (.slice ao 1 cap) [x]) : Calls Try.prog 22 #[.int .u8 4, .slice ao 1 cap] w (OfNo w 61) := by
  obtain ⟨b, off, rfl, -, hcap, -, -, hc⟩ := h.at (by simp)
  have c0 := hc 0 (by simp)
  simp at c0
  clear hc h
  go_enter Try.func22, Try.ntmps22
  go_wp2_with (go_at_call 63; (first | ((with_reducible refine (within_yes _ _ _ ?_ ?_).mono ?_); (focus omega); (focus omega)) | ((with_reducible refine (within_no _ _ _ ?_).mono ?_); (focus omega))); rintro e w' ⟨rfl, rfl⟩)
  go_ret3
  exact ⟨rfl, Below.refl _ _⟩

set_option maxRecDepth 100000 in
set_option maxHeartbeats 4000000 in
theorem of_4_l2y (w : World) {o : Col} {c : Nat} (ao : Option Addr) (cap : Nat) (n k : Nat) (h1 : 1 ≤ n) (h2 : n ≤ 16) (h3 : 1 ≤ k) (h4 : k ≤ 64) (h5 : n * k ≤ 64) (h : Ints w o c (.slice ao 2 cap) [(n : Int), (k : Int)]) : Calls Try.prog 22 #[.int .u8 4, .slice ao 2 cap] w (OfOk w 4 [(n : Int), (k : Int)]) := by
  obtain ⟨b, off, rfl, -, hcap, -, -, hc⟩ := h.at (by simp)
  have c0 := hc 0 (by simp)
  have c1 := hc 1 (by simp)
  simp at c0 c1
  clear hc h
  have h1i : (1 : Int) ≤ n := by omega
  have h2i : (n : Int) ≤ 16 := by omega
  have h3i : (1 : Int) ≤ k := by omega
  have h4i : (k : Int) ≤ 64 := by omega
  have h5i : (n : Int) * k ≤ 64 := by exact_mod_cast h5
  have h6i : (0 : Int) ≤ (n : Int) * k := by exact_mod_cast Nat.zero_le _
  go_enter Try.func22, Try.ntmps22
  go_wp2_with (go_at_call 63; (first | ((with_reducible refine (within_yes _ _ _ ?_ ?_).mono ?_); (focus omega); (focus omega)) | ((with_reducible refine (within_no _ _ _ ?_).mono ?_); (focus omega))); rintro e w' ⟨rfl, rfl⟩)
  refine (same_any _ n k (by omega)).mono ?_
  rintro e w1 ⟨g1, c1, rfl, ho1, hb1⟩
  go_wp2_with fail
  refine (ports_any _ _ _ _ [(n : Int) * k] (ints_box _ [(n : Int) * k] (by simp))  (by simp)).mono ?_
  rintro e w2 ⟨g2, c2, rfl, ho2, hb2⟩
  go_wp2
  go_ret3
  exact ⟨_, _, rfl, by simpa [insP, outsP, hd, hd1] using of_fin (by first | exact Below.refl _ _ | exact (Below.refl _ _).alloc (Nat.le_refl _) _) ho1 hb1 (by first | exact Below.refl _ _ | exact (Below.refl _ _).alloc (Nat.le_refl _) _) ho2 hb2⟩

set_option maxRecDepth 100000 in
set_option maxHeartbeats 4000000 in
theorem of_4_l2n (w : World) {o : Col} {c : Nat} (ao : Option Addr) (cap : Nat) (x y : Int) (hcase : (x < 1 ∨ 16 < x) ∨ ((1 ≤ x ∧ x ≤ 16) ∧ (y < 1 ∨ 64 < y)) ∨ ((1 ≤ x ∧ x ≤ 16) ∧ (1 ≤ y ∧ y ≤ 64) ∧ 64 < x * y ∧ x * y ≤ 1024)) (h : Ints w o c (.slice ao 2 cap) [x, y]) : Calls Try.prog 22 #[.int .u8 4, .slice ao 2 cap] w (OfNo w 61) := by
  obtain ⟨b, off, rfl, -, hcap, -, -, hc⟩ := h.at (by simp)
  have c0 := hc 0 (by simp)
  have c1 := hc 1 (by simp)
  simp at c0 c1
  clear hc h
  rcases hcase with hx | ⟨hx, hy⟩ | ⟨hx, hy, hz, hz2⟩
  all_goals
    go_enter Try.func22, Try.ntmps22
    go_wp2_with (go_at_call 63; (first | ((with_reducible refine (within_yes _ _ _ ?_ ?_).mono ?_); (focus omega); (focus omega)) | ((with_reducible refine (within_no _ _ _ ?_).mono ?_); (focus omega))); rintro e w' ⟨rfl, rfl⟩)
    go_ret3
    exact ⟨rfl, Below.refl _ _⟩

set_option maxRecDepth 100000 in
set_option maxHeartbeats 4000000 in
theorem of_4_l3 (w : World) {o : Col} {c : Nat} (ao : Option Addr) (cap : Nat) (l : List Int) (k : Nat) (hk : l.length = k + 3) (hm : k ≤ 17600000000000) (h : Ints w o c (.slice ao (k + 3) cap) l) : Calls Try.prog 22 #[.int .u8 4, .slice ao (k + 3) cap] w (OfNo w 61) := by
  obtain ⟨b, off, rfl, -, hcap, -, -, hc⟩ := h.at (by omega)
  have c0 := hc 0 (by omega)
  have c1 := hc 1 (by omega)
  generalize l[0]?.getD 0 = x at c0
  generalize l[1]?.getD 0 = y at c1
  have hkk : (k : Int) ≤ 17600000000000 := by omega
  rw [Nat.add_zero] at c0
  clear hc h hk
  go_enter Try.func22, Try.ntmps22
  go_wp2_with (go_at_call 63; (first | ((with_reducible refine (within_yes _ _ _ ?_ ?_).mono ?_); (focus omega); (focus omega)) | ((with_reducible refine (within_no _ _ _ ?_).mono ?_); (focus omega))); rintro e w' ⟨rfl, rfl⟩)
  go_ret3
  exact ⟨rfl, Below.refl _ _⟩

set_option maxRecDepth 100000 in
set_option maxHeartbeats 4000000 in
theorem of_5_l0 (w : World) (ao : Option Addr) (cap : Nat) : Calls Try.prog 22 #[.int .u8 5, .slice ao 0 cap] w (OfNo w 61) := by
  go_enter Try.func22, Try.ntmps22
  go_wp2_with (go_at_call 63; (first | ((with_reducible refine (within_yes _ _ _ ?_ ?_).mono ?_); (focus omega); (focus omega)) | ((with_reducible refine (within_no _ _ _ ?_).mono ?_); (focus omega))); rintro e w' ⟨rfl, rfl⟩)
  go_ret3
  exact ⟨rfl, Below.refl _ _⟩

set_option maxRecDepth 100000 in
set_option maxHeartbeats 4000000 in
theorem of_5_l1 (w : World) {o : Col} {c : Nat} (ao : Option Addr) (cap : Nat) (x : Int) (h : Ints w o c (.slice ao 1 cap) [x]) : Calls Try.prog 22 #[.int .u8 5, .slice ao 1 cap] w (OfNo w 61) := by
  obtain ⟨b, off, rfl, -, hcap, -, -, hc⟩ := h.at (by simp)
  have c0 := hc 0 (by simp)
  simp at c0
  clear hc h
  go_enter Try.func22, Try.ntmps22
  go_wp2_with (go_at_call 63; (first | ((with_reducible refine (within_yes _ _ _ ?_ ?_).mono ?_); (focus omega); (focus omega)) | ((with_reducible refine (within_no _ _ _ ?_).mono ?_); (focus omega))); rintro e w' ⟨rfl, rfl⟩)
  go_ret3
  exact ⟨rfl, Below.refl _ _⟩

set_option maxRecDepth 100000 in
set_option maxHeartbeats 4000000 in
theorem of_5_l2y (w : World) {o : Col} {c : Nat} (ao : Option Addr) (cap : Nat) (n k : Nat) (h1 : 1 ≤ n) (h2 : n ≤ 16) (h3 : 1 ≤ k) (h4 : k ≤ 64) (h5 : n * k ≤ 64) (h : Ints w o c (.slice ao 2 cap) [(n : Int), (k : Int)]) : Calls Try.prog 22 #[.int .u8 5, .slice ao 2 cap] w (OfOk w 5 [(n : Int), (k : Int)]) := by
  obtain ⟨b, off, rfl, -, hcap, -, -, hc⟩ := h.at (by simp)
  have c0 := hc 0 (by simp)
  have c1 := hc 1 (by simp)
  simp at c0 c1
  clear hc h
  have h1i : (1 : Int) ≤ n := by omega
  have h2i : (n : Int) ≤ 16 := by omega
  have h3i : (1 : Int) ≤ k := by omega
  have h4i : (k : Int) ≤ 64 := by omega
  have h5i : (n : Int) * k ≤ 64 := by exact_mod_cast h5
  have h6i : (0 : Int) ≤ (n : Int) * k := by exact_mod_cast Nat.zero_le _
  go_enter Try.func22, Try.ntmps22
  go_wp2_with (go_at_call 63; (first | ((with_reducible refine (within_yes _ _ _ ?_ ?_).mono ?_); (focus omega); (focus omega)) | ((with_reducible refine (within_no _ _ _ ?_).mono ?_); (focus omega))); rintro e w' ⟨rfl, rfl⟩)
  refine (ports_any _ _ _ _ [(n : Int) * k] (ints_box _ [(n : Int) * k] (by simp))  (by simp)).mono ?_
  rintro e w1 ⟨g1, c1, rfl, ho1, hb1⟩
  go_wp2_with fail
  refine (same_any _ n k (by omega)).mono ?_
  rintro e w2 ⟨g2, c2, rfl, ho2, hb2⟩
  go_wp2
  go_ret3
  exact ⟨_, _, rfl, by simpa [insP, outsP, hd, hd1] using of_fin (by first | exact Below.refl _ _ | exact (Below.refl _ _).alloc (Nat.le_refl _) _) ho1 hb1 (by first | exact Below.refl _ _ | exact (Below.refl _ _).alloc (Nat.le_refl _) _) ho2 hb2⟩

set_option maxRecDepth 100000 in
set_option maxHeartbeats 4000000 in
theorem of_5_l2n (w : World) {o : Col} {c : Nat} (ao : Option Addr) (cap : Nat) (x y : Int) (hcase : (x < 1 ∨ 16 < x) ∨ ((1 ≤ x ∧ x ≤ 16) ∧ (y < 1 ∨ 64 < y)) ∨ ((1 ≤ x ∧ x ≤ 16) ∧ (1 ≤ y ∧ y ≤ 64) ∧ 64 < x * y ∧ x * y ≤ 1024)) (h : Ints w o c (.slice ao 2 cap) [x, y]) : Calls Try.prog 22 #[.int .u8 5, .slice ao 2 cap] w (OfNo w 61) := by
  obtain ⟨b, off, rfl, -, hcap, -, -, hc⟩ := h.at (by simp)
  have c0 := hc 0 (by simp)
  have c1 := hc 1 (by simp)
  simp at c0 c1
  clear hc h
  rcases hcase with hx | ⟨hx, hy⟩ | ⟨hx, hy, hz, hz2⟩
  all_goals
    go_enter Try.func22, Try.ntmps22
    go_wp2_with (go_at_call 63; (first | ((with_reducible refine (within_yes _ _ _ ?_ ?_).mono ?_); (focus omega); (focus omega)) | ((with_reducible refine (within_no _ _ _ ?_).mono ?_); (focus omega))); rintro e w' ⟨rfl, rfl⟩)
    go_ret3
    exact ⟨rfl, Below.refl _ _⟩

set_option maxRecDepth 100000 in
set_option maxHeartbeats 4000000 in
theorem of_5_l3 (w : World) {o : Col} {c : Nat} (ao : Option Addr) (cap : Nat) (l : List Int) (k : Nat) (hk : l.length = k + 3) (hm : k ≤ 17600000000000) (h : Ints w o c (.slice ao (k + 3) cap) l) : Calls Try.prog 22 #[.int .u8 5, .slice ao (k + 3) cap] w (OfNo w 61) := by
  obtain ⟨b, off, rfl, -, hcap, -, -, hc⟩ := h.at (by omega)
  have c0 := hc 0 (by omega)
  have c1 := hc 1 (by omega)
  generalize l[0]?.getD 0 = x at c0
  generalize l[1]?.getD 0 = y at c1
  have hkk : (k : Int) ≤ 17600000000000 := by omega
  rw [Nat.add_zero] at c0
  clear hc h hk
  go_enter Try.func22, Try.ntmps22
  go_wp2_with (go_at_call 63; (first | ((with_reducible refine (within_yes _ _ _ ?_ ?_).mono ?_); (focus omega); (focus omega)) | ((with_reducible refine (within_no _ _ _ ?_).mono ?_); (focus omega))); rintro e w' ⟨rfl, rfl⟩)
  go_ret3
  exact ⟨rfl, Below.refl _ _⟩

set_option maxRecDepth 100000 in
set_option maxHeartbeats 4000000 in
theorem of_6_l0 (w : World) (ao : Option Addr) (cap : Nat) : Calls Try.prog 22 #[.int .u8 6, .slice ao 0 cap] w (OfNo w 61) := by
  go_enter Try.func22, Try.ntmps22
  go_wp2_with (go_at_call 63; (first | ((with_reducible refine (within_yes _ _ _ ?_ ?_).mono ?_); (focus omega); (focus omega)) | ((with_reducible refine (within_no _ _ _ ?_).mono ?_); (focus omega))); rintro e w' ⟨rfl, rfl⟩)
  go_ret3
  exact ⟨rfl, Below.refl _ _⟩

set_option maxRecDepth 100000 in
set_option maxHeartbeats 4000000 in
theorem of_6_l1y (w : World) {o : Col} {c : Nat} (ao : Option Addr) (cap : Nat) (n : Nat) (h1 : 1 ≤ n) (h2 : n ≤ 16) (h : Ints w o c (.slice ao 1 cap) [(n : Int)]) : Calls Try.prog 22 #[.int .u8 6, .slice ao 1 cap] w (OfOk w 6 [(n : Int)]) := by
  obtain ⟨b, off, rfl, -, hcap, -, -, hc⟩ := h.at (by simp)
  have c0 := hc 0 (by simp)
  simp at c0
  clear hc h
  have h1i : (1 : Int) ≤ n := by omega
  have h2i : (n : Int) ≤ 16 := by omega
  go_enter Try.func22, Try.ntmps22
  go_wp2_with (go_at_call 63; (first | ((with_reducible refine (within_yes _ _ _ ?_ ?_).mono ?_); (focus omega); (focus omega)) | ((with_reducible refine (within_no _ _ _ ?_).mono ?_); (focus omega))); rintro e w' ⟨rfl, rfl⟩)
  refine (same_any _ n 1 (by omega)).mono ?_
  rintro e w1 ⟨g1, c1, rfl, ho1, hb1⟩
  go_wp2_with fail
  refine (ports_any _ _ _ _ [1] (ints_box _ [1] (by simp))  (by simp)).mono ?_
  rintro e w2 ⟨g2, c2, rfl, ho2, hb2⟩
  go_wp2
  go_ret3
  exact ⟨_, _, rfl, by simpa [insP, outsP, hd, hd1] using of_fin (by first | exact Below.refl _ _ | exact (Below.refl _ _).alloc (Nat.le_refl _) _) ho1 hb1 (by first | exact Below.refl _ _ | exact (Below.refl _ _).alloc (Nat.le_refl _) _) ho2 hb2⟩

set_option maxRecDepth 100000 in
set_option maxHeartbeats 4000000 in
theorem of_6_l1n (w : World) {o : Col} {c : Nat} (ao : Option Addr) (cap : Nat) (x : Int) (h1 : x < 1 ∨ 16 < x) (h : Ints w o c (.slice ao 1 cap) [x]) : Calls Try.prog 22 #[.int .u8 6, .slice ao 1 cap] w (OfNo w 61) := by
  obtain ⟨b, off, rfl, -, hcap, -, -, hc⟩ := h.at (by simp)
  have c0 := hc 0 (by simp)
  simp at c0
  clear hc h
  go_enter Try.func22, Try.ntmps22
  go_wp2_with (go_at_call 63; (first | ((with_reducible refine (within_yes _ _ _ ?_ ?_).mono ?_); (focus omega); (focus omega)) | ((with_reducible refine (within_no _ _ _ ?_).mono ?_); (focus omega))); rintro e w' ⟨rfl, rfl⟩)
  go_ret3
  exact ⟨rfl, Below.refl _ _⟩

set_option maxRecDepth 100000 in
set_option maxHeartbeats 4000000 in
theorem of_6_l2 (w : World) {o : Col} {c : Nat} (ao : Option Addr) (cap : Nat) (x y : Int) (h : Ints w o c (.slice ao 2 cap) [x, y]) : Calls Try.prog 22 #[.int .u8 6, .slice ao 2 cap] w (OfNo w 61) := by
  obtain ⟨b, off, rfl, -, hcap, -, -, hc⟩ := h.at (by simp)
  have c0 := hc 0 (by simp)
  have c1 := hc 1 (by simp)
  simp at c0 c1
  clear hc h
  have hcase : (x < 1 ∨ 16 < x) ∨ ((1 ≤ x ∧ x ≤ 16) ∧ (y < 1 ∨ 64 < y)) ∨ ((1 ≤ x ∧ x ≤ 16) ∧ (1 ≤ y ∧ y ≤ 64) ∧ 0 ≤ x * y ∧ x * y ≤ 64) ∨ ((1 ≤ x ∧ x ≤ 16) ∧ (1 ≤ y ∧ y ≤ 64) ∧ 64 < x * y ∧ x * y ≤ 1024) := pair_cases x y
  rcases hcase with hx | ⟨hx, hy⟩ | ⟨hx, hy, hz, hz2⟩ | ⟨hx, hy, hz, hz2⟩
  all_goals
    go_enter Try.func22, Try.ntmps22
    go_wp2_with (go_at_call 63; (first | ((with_reducible refine (within_yes _ _ _ ?_ ?_).mono ?_); (focus omega); (focus omega)) | ((with_reducible refine (within_no _ _ _ ?_).mono ?_); (focus omega))); rintro e w' ⟨rfl, rfl⟩)
    go_ret3
    exact ⟨rfl, Below.refl _ _⟩

set_option maxRecDepth 100000 in
set_option maxHeartbeats 4000000 in
theorem of_6_l3 (w : World) {o : Col} {c : Nat} (ao : Option Addr) (cap : Nat) (l : List Int) (k : Nat) (hk : l.length = k + 3) (hm : k ≤ 17600000000000) (h : Ints w o c (.slice ao (k + 3) cap) l) : Calls Try.prog 22 #[.int .u8 6, .slice ao (k + 3) cap] w (OfNo w 61) := by
  obtain ⟨b, off, rfl, -, hcap, -, -, hc⟩ := h.at (by omega)
  have c0 := hc 0 (by omega)
  have c1 := hc 1 (by omega)
  generalize l[0]?.getD 0 = x at c0
  generalize l[1]?.getD 0 = y at c1
  have hkk : (k : Int) ≤ 17600000000000 := by omega
  rw [Nat.add_zero] at c0
  clear hc h hk
  go_enter Try.func22, Try.ntmps22
  go_wp2_with (go_at_call 63; (first | ((with_reducible refine (within_yes _ _ _ ?_ ?_).mono ?_); (focus omega); (focus omega)) | ((with_reducible refine (within_no _ _ _ ?_).mono ?_); (focus omega))); rintro e w' ⟨rfl, rfl⟩)
  go_ret3
  exact ⟨rfl, Below.refl _ _⟩

set_option maxRecDepth 100000 in
set_option maxHeartbeats 4000000 in
theorem of_7_l0 (w : World) (ao : Option Addr) (cap : Nat) : Calls Try.prog 22 #[.int .u8 7, .slice ao 0 cap] w (OfOk w 7 []) := by
  go_enter Try.func22, Try.ntmps22
  go_wp2_with (go_at_call 63; (first | ((with_reducible refine (within_yes _ _ _ ?_ ?_).mono ?_); (focus omega); (focus omega)) | ((with_reducible refine (within_no _ _ _ ?_).mono ?_); (focus omega))); rintro e w' ⟨rfl, rfl⟩)
  refine (ports_any _ _ _ _ [1, 1] (ints_box _ [1, 1] (by simp))  (by simp)).mono ?_
  rintro e w1 ⟨g1, c1, rfl, ho1, hb1⟩
  go_wp2_with fail
  refine (ports_any _ _ _ _ [1] (ints_box _ [1] (by simp))  (by simp)).mono ?_
  rintro e w2 ⟨g2, c2, rfl, ho2, hb2⟩
  go_wp2
  go_ret3
  exact ⟨_, _, rfl, by simpa [insP, outsP, hd, hd1] using of_fin (by first | exact Below.refl _ _ | exact (Below.refl _ _).alloc (Nat.le_refl _) _) ho1 hb1 (by first | exact Below.refl _ _ | exact (Below.refl _ _).alloc (Nat.le_refl _) _) ho2 hb2⟩

set_option maxRecDepth 100000 in
set_option maxHeartbeats 4000000 in
theorem of_7_l1 (w : World) {o : Col} {c : Nat} (ao : Option Addr) (cap : Nat) (x : Int) (h : Ints w o c (.slice ao 1 cap) [x]) : Calls Try.prog 22 #[.int .u8 7, .slice ao 1 cap] w (OfNo w 61) := by
  obtain ⟨b, off, rfl, -, hcap, -, -, hc⟩ := h.at (by simp)
  have c0 := hc 0 (by simp)
  simp at c0
  clear hc h
  go_enter Try.func22, Try.ntmps22
  go_wp2_with (go_at_call 63; (first | ((with_reducible refine (within_yes _ _ _ ?_ ?_).mono ?_); (focus omega); (focus omega)) | ((with_reducible refine (within_no _ _ _ ?_).mono ?_); (focus omega))); rintro e w' ⟨rfl, rfl⟩)
  go_ret3
  exact ⟨rfl, Below.refl _ _⟩

set_option maxRecDepth 100000 in
set_option maxHeartbeats 4000000 in
theorem of_7_l2 (w : World) {o : Col} {c : Nat} (ao : Option Addr) (cap : Nat) (x y : Int) (h : Ints w o c (.slice ao 2 cap) [x, y]) : Calls Try.prog 22 #[.int .u8 7, .slice ao 2 cap] w (OfNo w 61) := by
  obtain ⟨b, off, rfl, -, hcap, -, -, hc⟩ := h.at (by simp)
  have c0 := hc 0 (by simp)
  have c1 := hc 1 (by simp)
  simp at c0 c1
  clear hc h
  have hcase : (x < 1 ∨ 16 < x) ∨ ((1 ≤ x ∧ x ≤ 16) ∧ (y < 1 ∨ 64 < y)) ∨ ((1 ≤ x ∧ x ≤ 16) ∧ (1 ≤ y ∧ y ≤ 64) ∧ 0 ≤ x * y ∧ x * y ≤ 64) ∨ ((1 ≤ x ∧ x ≤ 16) ∧ (1 ≤ y ∧ y ≤ 64) ∧ 64 < x * y ∧ x * y ≤ 1024) := pair_cases x y
  rcases hcase with hx | ⟨hx, hy⟩ | ⟨hx, hy, hz, hz2⟩ | ⟨hx, hy, hz, hz2⟩
  all_goals
    go_enter Try.func22, Try.ntmps22
    go_wp2_with (go_at_call 63; (first | ((with_reducible refine (within_yes _ _ _ ?_ ?_).mono ?_); (focus omega); (focus omega)) | ((with_reducible refine (within_no _ _ _ ?_).mono ?_); (focus omega))); rintro e w' ⟨rfl, rfl⟩)
    go_ret3
    exact ⟨rfl, Below.refl _ _⟩

set_option maxRecDepth 100000 in
set_option maxHeartbeats 4000000 in
theorem of_7_l3 (w : World) {o : Col} {c : Nat} (ao : Option Addr) (cap : Nat) (l : List Int) (k : Nat) (hk : l.length = k + 3) (hm : k ≤ 17600000000000) (h : Ints w o c (.slice ao (k + 3) cap) l) : Calls Try.prog 22 #[.int .u8 7, .slice ao (k + 3) cap] w (OfNo w 61) := by
  obtain ⟨b, off, rfl, -, hcap, -, -, hc⟩ := h.at (by omega)
  have c0 := hc 0 (by omega)
  have c1 := hc 1 (by omega)
  generalize l[0]?.getD 0 = x at c0
  generalize l[1]?.getD 0 = y at c1
  have hkk : (k : Int) ≤ 17600000000000 := by omega
  rw [Nat.add_zero] at c0
  clear hc h hk
  go_enter Try.func22, Try.ntmps22
  go_wp2_with (go_at_call 63; (first | ((with_reducible refine (within_yes _ _ _ ?_ ?_).mono ?_); (focus omega); (focus omega)) | ((with_reducible refine (within_no _ _ _ ?_).mono ?_); (focus omega))); rintro e w' ⟨rfl, rfl⟩)
  go_ret3
  exact ⟨rfl, Below.refl _ _⟩

set_option maxRecDepth 100000 in
set_option maxHeartbeats 4000000 in
theorem of_8_l0 (w : World) (ao : Option Addr) (cap : Nat) : Calls Try.prog 22 #[.int .u8 8, .slice ao 0 cap] w (OfOk w 8 []) := by
  go_enter Try.func22, Try.ntmps22
  go_wp2_with (go_at_call 63; (first | ((with_reducible refine (within_yes _ _ _ ?_ ?_).mono ?_); (focus omega); (focus omega)) | ((with_reducible refine (within_no _ _ _ ?_).mono ?_); (focus omega))); rintro e w' ⟨rfl, rfl⟩)
  refine (ports_any _ _ _ _ [1] (ints_box _ [1] (by simp))  (by simp)).mono ?_
  rintro e w1 ⟨g1, c1, rfl, ho1, hb1⟩
  go_wp2_with fail
  refine (ports_any _ _ _ _ [1] (ints_box _ [1] (by simp))  (by simp)).mono ?_
  rintro e w2 ⟨g2, c2, rfl, ho2, hb2⟩
  go_wp2
  go_ret3
  exact ⟨_, _, rfl, by simpa [insP, outsP, hd, hd1] using of_fin (by first | exact Below.refl _ _ | exact (Below.refl _ _).alloc (Nat.le_refl _) _) ho1 hb1 (by first | exact Below.refl _ _ | exact (Below.refl _ _).alloc (Nat.le_refl _) _) ho2 hb2⟩

set_option maxRecDepth 100000 in
set_option maxHeartbeats 4000000 in
theorem of_8_l1 (w : World) {o : Col} {c : Nat} (ao : Option Addr) (cap : Nat) (x : Int) (h : Ints w o c (.slice ao 1 cap) [x]) : Calls Try.prog 22 #[.int .u8 8, .slice ao 1 cap] w (OfNo w 61) := by
  obtain ⟨b, off, rfl, -, hcap, -, -, hc⟩ := h.at (by simp)
  have c0 := hc 0 (by simp)
  simp at c0
  clear hc h
  go_enter Try.func22, Try.ntmps22
  go_wp2_with (go_at_call 63; (first | ((with_reducible refine (within_yes _ _ _ ?_ ?_).mono ?_); (focus omega); (focus omega)) | ((with_reducible refine (within_no _ _ _ ?_).mono ?_); (focus omega))); rintro e w' ⟨rfl, rfl⟩)
  go_ret3
  exact ⟨rfl, Below.refl _ _⟩

set_option maxRecDepth 100000 in
set_option maxHeartbeats 4000000 in
theorem of_8_l2 (w : World) {o : Col} {c : Nat} (ao : Option Addr) (cap : Nat) (x y : Int) (h : Ints w o c (.slice ao 2 cap) [x, y]) : Calls Try.prog 22 #[.int .u8 8, .slice ao 2 cap] w (OfNo w 61) := by
  obtain ⟨b, off, rfl, -, hcap, -, -, hc⟩ := h.at (by simp)
  have c0 := hc 0 (by simp)
  have c1 := hc 1 (by simp)
  simp at c0 c1
  clear hc h
  have hcase : (x < 1 ∨ 16 < x) ∨ ((1 ≤ x ∧ x ≤ 16) ∧ (y < 1 ∨ 64 < y)) ∨ ((1 ≤ x ∧ x ≤ 16) ∧ (1 ≤ y ∧ y ≤ 64) ∧ 0 ≤ x * y ∧ x * y ≤ 64) ∨ ((1 ≤ x ∧ x ≤ 16) ∧ (1 ≤ y ∧ y ≤ 64) ∧ 64 < x * y ∧ x * y ≤ 1024) := pair_cases x y
  rcases hcase with hx | ⟨hx, hy⟩ | ⟨hx, hy, hz, hz2⟩ | ⟨hx, hy, hz, hz2⟩
  all_goals
    go_enter Try.func22, Try.ntmps22
    go_wp2_with (go_at_call 63; (first | ((with_reducible refine (within_yes _ _ _ ?_ ?_).mono ?_); (focus omega); (focus omega)) | ((with_reducible refine (within_no _ _ _ ?_).mono ?_); (focus omega))); rintro e w' ⟨rfl, rfl⟩)
    go_ret3
    exact ⟨rfl, Below.refl _ _⟩

set_option maxRecDepth 100000 in
set_option maxHeartbeats 4000000 in
theorem of_8_l3 (w : World) {o : Col} {c : Nat} (ao : Option Addr) (cap : Nat) (l : List Int) (k : Nat) (hk : l.length = k + 3) (hm : k ≤ 17600000000000) (h : Ints w o c (.slice ao (k + 3) cap) l) : Calls Try.prog 22 #[.int .u8 8, .slice ao (k + 3) cap] w (OfNo w 61) := by
  obtain ⟨b, off, rfl, -, hcap, -, -, hc⟩ := h.at (by omega)
  have c0 := hc 0 (by omega)
  have c1 := hc 1 (by omega)
  generalize l[0]?.getD 0 = x at c0
  generalize l[1]?.getD 0 = y at c1
  have hkk : (k : Int) ≤ 17600000000000 := by omega
  rw [Nat.add_zero] at c0
  clear hc h hk
  go_enter Try.func22, Try.ntmps22
  go_wp2_with (go_at_call 63; (first | ((with_reducible refine (within_yes _ _ _ ?_ ?_).mono ?_); (focus omega); (focus omega)) | ((with_reducible refine (within_no _ _ _ ?_).mono ?_); (focus omega))); rintro e w' ⟨rfl, rfl⟩)
  go_ret3
  exact ⟨rfl, Below.refl _ _⟩

set_option maxRecDepth 100000 in
set_option maxHeartbeats 4000000 in
theorem of_9_l0 (w : World) (ao : Option Addr) (cap : Nat) : Calls Try.prog 22 #[.int .u8 9, .slice ao 0 cap] w (OfNo w 61) := by
  go_enter Try.func22, Try.ntmps22
  go_wp2_with (go_at_call 63; (first | ((with_reducible refine (within_yes _ _ _ ?_ ?_).mono ?_); (focus omega); (focus omega)) | ((with_reducible refine (within_no _ _ _ ?_).mono ?_); (focus omega))); rintro e w' ⟨rfl, rfl⟩)
  go_ret3
  exact ⟨rfl, Below.refl _ _⟩

set_option maxRecDepth 100000 in
set_option maxHeartbeats 4000000 in
theorem of_9_l1y (w : World) {o : Col} {c : Nat} (ao : Option Addr) (cap : Nat) (n : Nat) (h1 : 1 ≤ n) (h2 : n ≤ 16) (h : Ints w o c (.slice ao 1 cap) [(n : Int)]) : Calls Try.prog 22 #[.int .u8 9, .slice ao 1 cap] w (OfOk w 9 [(n : Int)]) := by
  obtain ⟨b, off, rfl, -, hcap, -, -, hc⟩ := h.at (by simp)
  have c0 := hc 0 (by simp)
  simp at c0
  clear hc h
  have h1i : (1 : Int) ≤ n := by omega
  have h2i : (n : Int) ≤ 16 := by omega
  go_enter Try.func22, Try.ntmps22
  go_wp2_with (go_at_call 63; (first | ((with_reducible refine (within_yes _ _ _ ?_ ?_).mono ?_); (focus omega); (focus omega)) | ((with_reducible refine (within_no _ _ _ ?_).mono ?_); (focus omega))); rintro e w' ⟨rfl, rfl⟩)
  refine (ports_any _ _ _ _ [1] (ints_box _ [1] (by simp))  (by simp)).mono ?_
  rintro e w1 ⟨g1, c1, rfl, ho1, hb1⟩
  go_wp2_with fail
  refine (same_any _ n 1 (by omega)).mono ?_
  rintro e w2 ⟨g2, c2, rfl, ho2, hb2⟩
  go_wp2
  go_ret3
  exact ⟨_, _, rfl, by simpa [insP, outsP, hd, hd1] using of_fin (by first | exact Below.refl _ _ | exact (Below.refl _ _).alloc (Nat.le_refl _) _) ho1 hb1 (by first | exact Below.refl _ _ | exact (Below.refl _ _).alloc (Nat.le_refl _) _) ho2 hb2⟩

set_option maxRecDepth 100000 in
set_option maxHeartbeats 4000000 in
theorem of_9_l1n (w : World) {o : Col} {c : Nat} (ao : Option Addr) (cap : Nat) (x : Int) (h1 : x < 1 ∨ 16 < x) (h : Ints w o c (.slice ao 1 cap) [x]) : Calls Try.prog 22 #[.int .u8 9, .slice ao 1 cap] w (OfNo w 61) := by
  obtain ⟨b, off, rfl, -, hcap, -, -, hc⟩ := h.at (by simp)
  have c0 := hc 0 (by simp)
  simp at c0
  clear hc h
  go_enter Try.func22, Try.ntmps22
  go_wp2_with (go_at_call 63; (first | ((with_reducible refine (within_yes _ _ _ ?_ ?_).mono ?_); (focus omega); (focus omega)) | ((with_reducible refine (within_no _ _ _ ?_).mono ?_); (focus omega))); rintro e w' ⟨rfl, rfl⟩)
  go_ret3
  exact ⟨rfl, Below.refl _ _⟩

set_option maxRecDepth 100000 in
set_option maxHeartbeats 4000000 in
theorem of_9_l2 (w : World) {o : Col} {c : Nat} (ao : Option Addr) (cap : Nat) (x y : Int) (h : Ints w o c (.slice ao 2 cap) [x, y]) : Calls Try.prog 22 #[.int .u8 9, .slice ao 2 cap] w (OfNo w 61) := by
  obtain ⟨b, off, rfl, -, hcap, -, -, hc⟩ := h.at (by simp)
  have c0 := hc 0 (by simp)
  have c1 := hc 1 (by simp)
  simp at c0 c1
  clear hc h
  have hcase : (x < 1 ∨ 16 < x) ∨ ((1 ≤ x ∧ x ≤ 16) ∧ (y < 1 ∨ 64 < y)) ∨ ((1 ≤ x ∧ x ≤ 16) ∧ (1 ≤ y ∧ y ≤ 64) ∧ 0 ≤ x * y ∧ x * y ≤ 64) ∨ ((1 ≤ x ∧ x ≤ 16) ∧ (1 ≤ y ∧ y ≤ 64) ∧ 64 < x * y ∧ x * y ≤ 1024) := pair_cases x y
  rcases hcase with hx | ⟨hx, hy⟩ | ⟨hx, hy, hz, hz2⟩ | ⟨hx, hy, hz, hz2⟩
  all_goals
    go_enter Try.func22, Try.ntmps22
    go_wp2_with (go_at_call 63; (first | ((with_reducible refine (within_yes _ _ _ ?_ ?_).mono ?_); (focus omega); (focus omega)) | ((with_reducible refine (within_no _ _ _ ?_).mono ?_); (focus omega))); rintro e w' ⟨rfl, rfl⟩)
    go_ret3
    exact ⟨rfl, Below.refl _ _⟩

set_option maxRecDepth 100000 in
set_option maxHeartbeats 4000000 in
theorem of_9_l3 (w : World) {o : Col} {c : Nat} (ao : Option Addr) (cap : Nat) (l : List Int) (k : Nat) (hk : l.length = k + 3) (hm : k ≤ 17600000000000) (h : Ints w o c (.slice ao (k + 3) cap) l) : Calls Try.prog 22 #[.int .u8 9, .slice ao (k + 3) cap] w (OfNo w 61) := by
  obtain ⟨b, off, rfl, -, hcap, -, -, hc⟩ := h.at (by omega)
  have c0 := hc 0 (by omega)
  have c1 := hc 1 (by omega)
  generalize l[0]?.getD 0 = x at c0
  generalize l[1]?.getD 0 = y at c1
  have hkk : (k : Int) ≤ 17600000000000 := by omega
  rw [Nat.add_zero] at c0
  clear hc h hk
  go_enter Try.func22, Try.ntmps22
  go_wp2_with (go_at_call 63; (first | ((with_reducible refine (within_yes _ _ _ ?_ ?_).mono ?_); (focus omega); (focus omega)) | ((with_reducible refine (within_no _ _ _ ?_).mono ?_); (focus omega))); rintro e w' ⟨rfl, rfl⟩)
  go_ret3
  exact ⟨rfl, Below.refl _ _⟩

set_option maxRecDepth 100000 in
set_option maxHeartbeats 4000000 in
theorem of_10_l0 (w : World) (ao : Option Addr) (cap : Nat) : Calls Try.prog 22 #[.int .u8 10, .slice ao 0 cap] w (OfNo w 61) := by
  go_enter Try.func22, Try.ntmps22
  go_wp2_with (go_at_call 63; (first | ((with_reducible refine (within_yes _ _ _ ?_ ?_).mono ?_); (focus omega); (focus omega)) | ((with_reducible refine (within_no _ _ _ ?_).mono ?_); (focus omega))); rintro e w' ⟨rfl, rfl⟩)
  go_ret3
  exact ⟨rfl, Below.refl _ _⟩

set_option maxRecDepth 100000 in
set_option maxHeartbeats 4000000 in
theorem of_10_l1 (w : World) {o : Col} {c : Nat} (ao : Option Addr) (cap : Nat) (x : Int) (h : Ints w o c (.slice ao 1 cap) [x]) : Calls Try.prog 22 #[.int .u8 10, .slice ao 1 cap] w (OfNo w 61) := by
  obtain ⟨b, off, rfl, -, hcap, -, -, hc⟩ := h.at (by simp)
  have c0 := hc 0 (by simp)
  simp at c0
  clear hc h
  go_enter Try.func22, Try.ntmps22
  go_wp2_with (go_at_call 63; (first | ((with_reducible refine (within_yes _ _ _ ?_ ?_).mono ?_); (focus omega); (focus omega)) | ((with_reducible refine (within_no _ _ _ ?_).mono ?_); (focus omega))); rintro e w' ⟨rfl, rfl⟩)
  go_ret3
  exact ⟨rfl, Below.refl _ _⟩

set_option maxRecDepth 100000 in
set_option maxHeartbeats 4000000 in
theorem of_10_l2 (w : World) {o : Col} {c : Nat} (ao : Option Addr) (cap : Nat) (x y : Int) (h : Ints w o c (.slice ao 2 cap) [x, y]) : Calls Try.prog 22 #[.int .u8 10, .slice ao 2 cap] w (OfOk w 10 [x, y]) := by
  obtain ⟨b, off, rfl, -, hcap, -, -, hc⟩ := h.at (by simp)
  have c0 := hc 0 (by simp)
  have c1 := hc 1 (by simp)
  simp at c0 c1
  clear hc h
  have hcase : (x < 1 ∨ 16 < x) ∨ ((1 ≤ x ∧ x ≤ 16) ∧ (y < 1 ∨ 64 < y)) ∨ ((1 ≤ x ∧ x ≤ 16) ∧ (1 ≤ y ∧ y ≤ 64) ∧ 0 ≤ x * y ∧ x * y ≤ 64) ∨ ((1 ≤ x ∧ x ≤ 16) ∧ (1 ≤ y ∧ y ≤ 64) ∧ 64 < x * y ∧ x * y ≤ 1024) := pair_cases x y
  rcases hcase with hx | ⟨hx, hy⟩ | ⟨hx, hy, hz, hz2⟩ | ⟨hx, hy, hz, hz2⟩
  all_goals
    go_enter Try.func22, Try.ntmps22
    go_wp2_with (go_at_call 63; (first | ((with_reducible refine (within_yes _ _ _ ?_ ?_).mono ?_); (focus omega); (focus omega)) | ((with_reducible refine (within_no _ _ _ ?_).mono ?_); (focus omega))); rintro e w' ⟨rfl, rfl⟩)
    refine (ports_any _ _ _ _ [1] (ints_box _ [1] (by simp))  (by simp)).mono ?_
    rintro e w1 ⟨g1, c1, rfl, ho1, hb1⟩
    go_wp2
    go_ret3
    exact ⟨_, _, rfl, World.ownsRow_nil _ _ _ _, by simpa [insP, outsP, hd, hd1] using of_fin1 (by first | exact Below.refl _ _ | exact (Below.refl _ _).alloc (Nat.le_refl _) _) ho1 hb1⟩

set_option maxRecDepth 100000 in
set_option maxHeartbeats 4000000 in
theorem of_10_l3 (w : World) {o : Col} {c : Nat} (ao : Option Addr) (cap : Nat) (l : List Int) (k : Nat) (hk : l.length = k + 3) (hm : k ≤ 17600000000000) (h : Ints w o c (.slice ao (k + 3) cap) l) : Calls Try.prog 22 #[.int .u8 10, .slice ao (k + 3) cap] w (OfNo w 61) := by
  obtain ⟨b, off, rfl, -, hcap, -, -, hc⟩ := h.at (by omega)
  have c0 := hc 0 (by omega)
  have c1 := hc 1 (by omega)
  generalize l[0]?.getD 0 = x at c0
  generalize l[1]?.getD 0 = y at c1
  have hkk : (k : Int) ≤ 17600000000000 := by omega
  rw [Nat.add_zero] at c0
  clear hc h hk
  go_enter Try.func22, Try.ntmps22
  go_wp2_with (go_at_call 63; (first | ((with_reducible refine (within_yes _ _ _ ?_ ?_).mono ?_); (focus omega); (focus omega)) | ((with_reducible refine (within_no _ _ _ ?_).mono ?_); (focus omega))); rintro e w' ⟨rfl, rfl⟩)
  go_ret3
  exact ⟨rfl, Below.refl _ _⟩

set_option maxRecDepth 100000 in
set_option maxHeartbeats 4000000 in
theorem of_11_l0 (w : World) (ao : Option Addr) (cap : Nat) : Calls Try.prog 22 #[.int .u8 11, .slice ao 0 cap] w (OfNo w 61) := by
  go_enter Try.func22, Try.ntmps22
  go_wp2_with (go_at_call 63; (first | ((with_reducible refine (within_yes _ _ _ ?_ ?_).mono ?_); (focus omega); (focus omega)) | ((with_reducible refine (within_no _ _ _ ?_).mono ?_); (focus omega))); rintro e w' ⟨rfl, rfl⟩)
  go_ret3
  exact ⟨rfl, Below.refl _ _⟩

set_option maxRecDepth 100000 in
set_option maxHeartbeats 4000000 in
theorem of_11_l1y (w : World) {o : Col} {c : Nat} (ao : Option Addr) (cap : Nat) (x : Int) (h1 : 1 ≤ x) (h2 : x ≤ 64) (h : Ints w o c (.slice ao 1 cap) [x]) : Calls Try.prog 22 #[.int .u8 11, .slice ao 1 cap] w (OfOk w 11 [x]) := by
  obtain ⟨b, off, rfl, -, hcap, -, -, hc⟩ := h.at (by simp)
  have c0 := hc 0 (by simp)
  simp at c0
  clear hc h
  go_enter Try.func22, Try.ntmps22
  go_wp2_with (go_at_call 63; (first | ((with_reducible refine (within_yes _ _ _ ?_ ?_).mono ?_); (focus omega); (focus omega)) | ((with_reducible refine (within_no _ _ _ ?_).mono ?_); (focus omega))); rintro e w' ⟨rfl, rfl⟩)
  refine (ports_any _ _ _ _ [x] (ints_box _ [x] (by simp))  (by simp)).mono ?_
  rintro e w1 ⟨g1, c1, rfl, ho1, hb1⟩
  go_wp2
  go_ret3
  have hf := of_fin1 (w := w) (by first | exact Below.refl _ _ | exact (Below.refl _ _).alloc (Nat.le_refl _) _) ho1 hb1
  exact ⟨_, _, rfl, by simpa [insP, outsP, hd, hd1] using hf.1, World.ownsRow_nil _ _ _ _, hf.2⟩

set_option maxRecDepth 100000 in
set_option maxHeartbeats 4000000 in
theorem of_11_l1n (w : World) {o : Col} {c : Nat} (ao : Option Addr) (cap : Nat) (x : Int) (h1 : x < 1 ∨ 64 < x) (h : Ints w o c (.slice ao 1 cap) [x]) : Calls Try.prog 22 #[.int .u8 11, .slice ao 1 cap] w (OfNo w 61) := by
  obtain ⟨b, off, rfl, -, hcap, -, -, hc⟩ := h.at (by simp)
  have c0 := hc 0 (by simp)
  simp at c0
  clear hc h
  go_enter Try.func22, Try.ntmps22
  go_wp2_with (go_at_call 63; (first | ((with_reducible refine (within_yes _ _ _ ?_ ?_).mono ?_); (focus omega); (focus omega)) | ((with_reducible refine (within_no _ _ _ ?_).mono ?_); (focus omega))); rintro e w' ⟨rfl, rfl⟩)
  go_ret3
  exact ⟨rfl, Below.refl _ _⟩

set_option maxRecDepth 100000 in
set_option maxHeartbeats 4000000 in
theorem of_11_l2 (w : World) {o : Col} {c : Nat} (ao : Option Addr) (cap : Nat) (x y : Int) (h : Ints w o c (.slice ao 2 cap) [x, y]) : Calls Try.prog 22 #[.int .u8 11, .slice ao 2 cap] w (OfNo w 61) := by
  obtain ⟨b, off, rfl, -, hcap, -, -, hc⟩ := h.at (by simp)
  have c0 := hc 0 (by simp)
  have c1 := hc 1 (by simp)
  simp at c0 c1
  clear hc h
  have hcase : (x < 1 ∨ 16 < x) ∨ ((1 ≤ x ∧ x ≤ 16) ∧ (y < 1 ∨ 64 < y)) ∨ ((1 ≤ x ∧ x ≤ 16) ∧ (1 ≤ y ∧ y ≤ 64) ∧ 0 ≤ x * y ∧ x * y ≤ 64) ∨ ((1 ≤ x ∧ x ≤ 16) ∧ (1 ≤ y ∧ y ≤ 64) ∧ 64 < x * y ∧ x * y ≤ 1024) := pair_cases x y
  rcases hcase with hx | ⟨hx, hy⟩ | ⟨hx, hy, hz, hz2⟩ | ⟨hx, hy, hz, hz2⟩
  all_goals
    go_enter Try.func22, Try.ntmps22
    go_wp2_with (go_at_call 63; (first | ((with_reducible refine (within_yes _ _ _ ?_ ?_).mono ?_); (focus omega); (focus omega)) | ((with_reducible refine (within_no _ _ _ ?_).mono ?_); (focus omega))); rintro e w' ⟨rfl, rfl⟩)
    go_ret3
    exact ⟨rfl, Below.refl _ _⟩

set_option maxRecDepth 100000 in
set_option maxHeartbeats 4000000 in
theorem of_11_l3 (w : World) {o : Col} {c : Nat} (ao : Option Addr) (cap : Nat) (l : List Int) (k : Nat) (hk : l.length = k + 3) (hm : k ≤ 17600000000000) (h : Ints w o c (.slice ao (k + 3) cap) l) : Calls Try.prog 22 #[.int .u8 11, .slice ao (k + 3) cap] w (OfNo w 61) := by
  obtain ⟨b, off, rfl, -, hcap, -, -, hc⟩ := h.at (by omega)
  have c0 := hc 0 (by omega)
  have c1 := hc 1 (by omega)
  generalize l[0]?.getD 0 = x at c0
  generalize l[1]?.getD 0 = y at c1
  have hkk : (k : Int) ≤ 17600000000000 := by omega
  rw [Nat.add_zero] at c0
  clear hc h hk
  go_enter Try.func22, Try.ntmps22
  go_wp2_with (go_at_call 63; (first | ((with_reducible refine (within_yes _ _ _ ?_ ?_).mono ?_); (focus omega); (focus omega)) | ((with_reducible refine (within_no _ _ _ ?_).mono ?_); (focus omega))); rintro e w' ⟨rfl, rfl⟩)
  go_ret3
  exact ⟨rfl, Below.refl _ _⟩

end Go.Proofs.Ytbmbfifempkhgaa