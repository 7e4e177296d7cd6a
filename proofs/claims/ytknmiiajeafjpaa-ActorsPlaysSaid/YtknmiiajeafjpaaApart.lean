/- Apart: lists of their owner's own share no memory. -/
import Derived.Test.YtknmiiajeafjpaaOuts
namespace Go.Proofs.Ytknmiiajeafjpaa
open Go.RowKit

def rowV (i n : Nat) : List Int := (List.range n).map fun (k : Nat) => (i : Int) * 1000003 + k
def rowM (i n : Nat) : List Int := (List.range n).map fun (k : Nat) => -(i : Int) * 1000003 - k - 1
theorem rowV_len (i n : Nat) : (rowV i n).length = n := by simp [rowV]
theorem rowM_len (i n : Nat) : (rowM i n).length = n := by simp [rowM]
theorem rowM_succ (i k : Nat) : rowM i (k + 1) = rowM i k ++ [-(i : Int) * 1000003 - k - 1] := by simp [rowM, List.range_succ]
theorem rowV_succ (i k : Nat) : rowV i (k + 1) = rowV i k ++ [(i : Int) * 1000003 + k] := by simp [rowV, List.range_succ]
theorem rowV_get (i n k : Nat) (h : k < n) : (rowV i n)[k]? = some ((i : Int) * 1000003 + k) := by simp [rowV, h]
theorem rowM_get (i n k : Nat) (h : k < n) : (rowM i n)[k]? = some (-(i : Int) * 1000003 - k - 1) := by simp [rowM, h]
theorem set_step {zs : List Int} {i k : Nat} (hk : k < zs.length) (h : zs.take k = rowV i k) : (zs.set k ((i : Int) * 1000003 + k)).take (k + 1) = rowV i (k + 1) := by
  rw [rowV_succ, ← h, List.take_succ_eq_append_getElem (by simpa using hk), List.take_set_of_le (Nat.le_refl _)]
  simp

/-- colours for rows: row i has 10 + i, the list of them 1 -/
def rowCol (ov : Value) (vs : List Value) : Col := fun k => if ov.ownBlock = some k then 1 else
  match (List.range vs.length).find? (fun i => decide ((vs[i]?.getD undef).ownBlock = some k)) with
  | some i => 10 + i
  | none => 0

theorem rowCol_row {ov : Value} {vs : List Value} {i k : Nat} (hi : i < vs.length) (h : (vs[i]?.getD undef).ownBlock = some k) (hov : ov.ownBlock ≠ some k)
    (hd : ∀ i j B, i < j → j < vs.length → (vs[i]?.getD undef).ownBlock = some B → (vs[j]?.getD undef).ownBlock ≠ some B) : rowCol ov vs k = 10 + i := by
  unfold rowCol
  rw [if_neg hov]
  split
  · rename_i j hj
    have h1 := List.find?_some hj
    have h2 := List.mem_of_find?_eq_some hj
    simp at h1 h2
    have : j = i := by
      rcases Nat.lt_trichotomy i j with hlt | rfl | hlt
      · exact absurd h1 (by simpa using hd i j k hlt h2 h)
      · rfl
      · exact absurd h (hd j i k hlt hi (by simpa using h1))
    omega
  · rename_i hn
    have := List.find?_eq_none.1 hn i (List.mem_range.2 hi)
    simp [h] at this

theorem rowCol_is {ov : Value} {vs : List Value} {k : Nat} (h : 10 ≤ rowCol ov vs k) : ∃ i, i < vs.length ∧ (vs[i]?.getD undef).ownBlock = some k := by
  unfold rowCol at h
  split at h
  · omega
  · split at h
    · rename_i j hj
      have h1 := List.find?_some hj
      have h2 := List.mem_of_find?_eq_some hj
      exact ⟨j, List.mem_range.1 h2, by simpa using h1⟩
    · omega

section
variable {o o' : Col} {w w' : World}

/-- u reads as the ints l, from its block's first cell on -/
def Read0 (w : World) (o : Col) (c : Nat) (u : Value) (l : List Int) : Prop :=
  ∃ ao cap, u = .slice ao l.length cap ∧ l.length ≤ cap ∧ (0 < l.length → ∃ g, ao = some ⟨g, 0, none⟩ ∧ g < w.heap.size ∧ o g = c ∧ ∀ k, k < l.length → w.cell? ⟨g, k, none⟩ = some (iv (l[k]?.getD 0)))

theorem Read0.turn {C : Nat → Prop} {c : Nat} {u : Value} {l : List Int} (h : Read0 w o c u l) (T : Turn o o' C w w') (hc : ¬ C c) : Read0 w' o' c u l := by
  obtain ⟨ao, cap, h1, h2, h3⟩ := h
  refine ⟨ao, cap, h1, h2, fun hp => ?_⟩
  obtain ⟨g, h4, h5, h6, h7⟩ := h3 hp
  exact ⟨g, h4, Nat.lt_of_lt_of_le h5 T.size, (T.same g h5).trans h6, fun k hk => T.cell (h7 k hk) (by show ¬ C (o g); rw [h6]; exact hc)⟩

theorem Own.cap {c e n : Nat} {sa : Option Addr} {len cap : Nat} {xs : List Value} (h : Own w o c e 1 (.slice sa len cap) n xs) : len = n ∧ n ≤ cap := by
  rcases h.1.2 with ⟨h0, h1⟩ | ⟨g, cap', cur, hv, _, _, hnc, _⟩
  · cases h0; subst h1; simp
  · cases hv; exact ⟨rfl, hnc⟩

theorem Own.read0 {c e n : Nat} {u : Value} {l : List Int} (h : Own w o c e 1 u n (ivs l)) : Read0 w o c u l := by
  obtain ⟨ao, cap, rfl⟩ := h.slice
  have hn := h.len
  rw [ivs_len] at hn
  subst hn
  refine ⟨ao, cap, rfl, h.cap.2, fun hp => ?_⟩
  obtain ⟨_, _, g, _, rfl, hcl, _, hg⟩ := owns_cell h.1 (by simpa using hp)
  exact ⟨g, rfl, hg, h.2 g rfl, fun k hk => hcl k _ (by simp [hk])⟩

/-- what was appended to a row does not touch what it began with, wherever that is read -/
theorem Read0.app {c n : Nat} {u v v' : Value} {l : List Int} {xs news : List Value} {e m : Nat} {tmp : Obj} (hr : Read0 w o c u l) (hp : ∀ k, k < l.length → xs[k]? = some (iv (l[k]?.getD 0))) (hx : xs.length = n)
    (k1 : w'.ownsRow 0 e 1 v' m (xs ++ news)) (k2 : (w.alloc tmp).grownBy w' v.ownBlock) (k4 : v'.ownBlock = v.ownBlock ∨ v'.ownBlock = some (w.alloc tmp).heap.size ∧ (w.alloc tmp).grownBy w' none) (ho : ∀ k, k < w.heap.size → o' k = o k) : Read0 w' o' c u l := by
  obtain ⟨ao, cap, h1, h2, h3⟩ := hr
  refine ⟨ao, cap, h1, h2, fun hp0 => ?_⟩
  obtain ⟨g, h4, h5, h6, h7⟩ := h3 hp0
  have hsz : g < (w.alloc tmp).heap.size := by simp; omega
  refine ⟨g, h4, Nat.lt_of_lt_of_le hsz k2.size, (ho g h5).trans h6, fun k hk => ?_⟩
  by_cases hg : v.ownBlock = some g
  · rcases k4 with k4 | ⟨_, k4⟩
    · obtain ⟨s', c', rfl⟩ := owns_slice k1
      have hxk := (List.getElem?_eq_some_iff.1 (hp k hk)).1
      obtain ⟨_, _, g', _, e', hcl, _⟩ := owns_cell k1 (by simp; omega)
      subst e'
      have : g' = g := Option.some.inj (k4.trans hg)
      subst this
      exact hcl k _ (by rw [List.getElem?_append_left hxk]; exact hp k hk)
    · exact (World.cell?_of_block (w := w.alloc tmp) (k4.block g hsz (by simp))).trans (ca (h7 k hk))
  · exact (World.cell?_of_block (w := w.alloc tmp) (k2.block g hsz (fun e => hg e.symm))).trans (ca (h7 k hk))

end

/-- the rows, in the first loop: those before i are written whole, of i the first k -/
def Ap1 (w : World) (o : Col) (vs : List Value) (ns : List Nat) (i k : Nat) : Prop :=
  ∀ j, j < vs.length → ∃ zs : List Int, zs.length = ns[j]?.getD 0 ∧ (j < i → zs = rowV j (ns[j]?.getD 0)) ∧ (j = i → zs.take k = rowV i k) ∧ Own w o (10 + j) 3 1 (vs[j]?.getD undef) (ns[j]?.getD 0) (ivs zs)
/-- .. the long list: those before i are in it -/
def Lo1 (w : World) (o : Col) (L : Nat) (vs : List Value) (i : Nat) : Prop :=
  ∃ ls : List Value, ls.length = vs.length ∧ (∀ j, j < i → ls[j]? = vs[j]?) ∧ Own w o 2 22 1 (.slice (some ⟨L, 0, none⟩) vs.length vs.length) vs.length ls

/-- how much is appended -/
def grew (i k j : Nat) : Nat := if j < i then 16 else if j = i then k else 0
/-- the rows, in the second loop -/
def Ap2 (w : World) (o : Col) (L : Nat) (vs : List Value) (ns : List Nat) (i k : Nat) : Prop :=
  (∀ j, j < vs.length → Read0 w o (10 + j) (vs[j]?.getD undef) (rowV j (ns[j]?.getD 0))) ∧
    ∃ ls : List Value, ls.length = vs.length ∧ Own w o 2 22 1 (.slice (some ⟨L, 0, none⟩) vs.length vs.length) vs.length ls ∧
      ∀ j, j < vs.length → Own w o (10 + j) 3 1 (ls[j]?.getD undef) (ns[j]?.getD 0 + grew i k j) (ivs (rowV j (ns[j]?.getD 0) ++ rowM j (grew i k j)))

theorem Ap1.step {w : World} {o : Col} {vs : List Value} {ns : List Nat} {i k g n cap : Nat} (h : Ap1 w o vs ns i k) (hi : i < vs.length) (hv : vs[i]?.getD undef = .slice (some ⟨g, 0, none⟩) n cap) (hn : ns[i]?.getD 0 = n) (hk : k < n) :
    Ap1 (w.setCell ⟨g, k, none⟩ (.int .i64 ((i : Int) * 1000003 + k))) o vs ns i (k + 1) ∧ Turn o o (fun x => x = 10 + i) w (w.setCell ⟨g, k, none⟩ (.int .i64 ((i : Int) * 1000003 + k))) := by
  obtain ⟨zs, h1, h2, h3, h4⟩ := h i hi
  have hog : o g = 10 + i := h4.2 g (by rw [hv]; rfl)
  have T : Turn o o (fun x => x = 10 + i) w (w.setCell ⟨g, k, none⟩ (.int .i64 ((i : Int) * 1000003 + k))) :=
    ⟨(Mods.refl (fun k => o k = 10 + i) w).setCell (p := ⟨g, k, none⟩) (fun _ => hog) _, fun _ _ => rfl⟩
  refine ⟨fun j hj => ?_, T⟩
  by_cases e : j = i
  · subst e
    rw [hv, hn] at h4
    obtain ⟨h5, _⟩ := h4.1.stored k (.int .i64 ((j : Int) * 1000003 + k))
    refine ⟨zs.set k ((j : Int) * 1000003 + k), by simpa using h1, fun hlt => absurd hlt (Nat.lt_irrefl _), fun _ => set_step (by omega) (h3 rfl), ?_⟩
    rw [hv, hn]
    refine ⟨by rw [show ivs (zs.set k ((j : Int) * 1000003 + k)) = (ivs zs).set k (.int .i64 ((j : Int) * 1000003 + k)) by simp [List.map_set]]; exact h5, fun b hb => ?_⟩
    have := h4.2 b hb
    exact this
  · obtain ⟨zs, h1, h2, h3, h4⟩ := h j hj
    exact ⟨zs, h1, h2, fun e' => absurd e' e, h4.turn T (by show ¬ 10 + j = 10 + i; omega)⟩
theorem Ap1.next {w : World} {o : Col} {vs : List Value} {ns : List Nat} {i k : Nat} (h : Ap1 w o vs ns i k) (hk : ns[i]?.getD 0 = k) : Ap1 w o vs ns (i + 1) 0 := fun j hj => by
  obtain ⟨zs, h1, h2, h3, h4⟩ := h j hj
  refine ⟨zs, h1, fun hlt => ?_, fun _ => by simp [rowV], h4⟩
  by_cases e : j = i
  · subst e
    have := h3 rfl
    rwa [List.take_of_length_le (by omega), ← hk] at this
  · exact h2 (by omega)
theorem Ap1.turn {w w' : World} {o o' : Col} {C : Nat → Prop} {vs : List Value} {ns : List Nat} {i k : Nat} (h : Ap1 w o vs ns i k) (T : Turn o o' C w w') (hC : ∀ j, ¬ C (10 + j)) : Ap1 w' o' vs ns i k := fun j hj => by
  obtain ⟨zs, h1, h2, h3, h4⟩ := h j hj
  exact ⟨zs, h1, h2, h3, h4.turn T (hC j)⟩
theorem Ap1.done {w : World} {o : Col} {L : Nat} {vs : List Value} {ns : List Nat} (h : Ap1 w o vs ns vs.length 0) (hl : Lo1 w o L vs vs.length) : Ap2 w o L vs ns 0 0 := by
  obtain ⟨ls, h1, h2, h3⟩ := hl
  have hall : ∀ j, j < vs.length → Own w o (10 + j) 3 1 (vs[j]?.getD undef) (ns[j]?.getD 0) (ivs (rowV j (ns[j]?.getD 0))) := fun j hj => by
    obtain ⟨zs, _, h5, _, h6⟩ := h j hj
    rwa [h5 hj] at h6
  refine ⟨fun j hj => (hall j hj).read0, ls, h1, h3, fun j hj => ?_⟩
  rw [h2 j hj]
  simpa [grew, rowM] using hall j hj
theorem Lo1.step {w : World} {o : Col} {L i : Nat} {vs : List Value} (h : Lo1 w o L vs i) (hi : i < vs.length) : Lo1 (w.setCell ⟨L, i, none⟩ (vs[i]?.getD undef)) o L vs (i + 1) ∧ Turn o o (fun x => x = 2) w (w.setCell ⟨L, i, none⟩ (vs[i]?.getD undef)) := by
  obtain ⟨ls, h1, h2, h3⟩ := h
  obtain ⟨h4, _⟩ := h3.1.stored i (vs[i]?.getD undef)
  have hL := h3.2 L rfl
  refine ⟨⟨ls.set i (vs[i]?.getD undef), by simpa using h1, fun j hj => ?_, h4, h3.2⟩, ⟨(Mods.refl (fun k => o k = 2) w).setCell (p := ⟨L, i, none⟩) (fun _ => hL) _, fun _ _ => rfl⟩⟩
  by_cases e : j = i
  · subst e
    rw [List.getElem?_set_self (by omega)]
    simp [hi]
  · rw [List.getElem?_set_ne (Ne.symm e)]
    exact h2 j (by omega)
theorem Lo1.turn {w w' : World} {o o' : Col} {C : Nat → Prop} {L i : Nat} {vs : List Value} (h : Lo1 w o L vs i) (T : Turn o o' C w w') (hC : ¬ C 2) : Lo1 w' o' L vs i := by
  obtain ⟨ls, h1, h2, h3⟩ := h
  exact ⟨ls, h1, h2, h3.turn T hC⟩

theorem Ap2.next {w : World} {o : Col} {L : Nat} {vs : List Value} {ns : List Nat} {i : Nat} (h : Ap2 w o L vs ns i 16) : Ap2 w o L vs ns (i + 1) 0 := by
  obtain ⟨h1, ls, h2, h3, h4⟩ := h
  refine ⟨h1, ls, h2, h3, fun j hj => ?_⟩
  have e : grew (i + 1) 0 j = grew i 16 j := by
    rcases Nat.lt_trichotomy j i with h | h | h
    · simp [grew, h, show j < i + 1 by omega]
    · simp [grew, h]
    · simp [grew, show ¬ j < i + 1 by omega, show ¬ j < i by omega, show ¬ j = i by omega]
  rw [e]; exact h4 j hj

/-- one number is appended to row i, and the row put back -/
theorem Ap2.step {w w2 : World} {o : Col} {L : Nat} {vs ls : List Value} {ns : List Nat} {i k : Nat} {v' : Value} {tmp : Obj} (h1 : ∀ j, j < vs.length → Read0 w o (10 + j) (vs[j]?.getD undef) (rowV j (ns[j]?.getD 0)))
    (h2 : ls.length = vs.length) (h3 : Own w o 2 22 1 (.slice (some ⟨L, 0, none⟩) vs.length vs.length) vs.length ls)
    (h4 : ∀ j, j < vs.length → Own w o (10 + j) 3 1 (ls[j]?.getD undef) (ns[j]?.getD 0 + grew i k j) (ivs (rowV j (ns[j]?.getD 0) ++ rowM j (grew i k j)))) (hi : i < vs.length)
    (k1 : w2.ownsRow 0 3 1 v' (ns[i]?.getD 0 + k + 1) (ivs (rowV i (ns[i]?.getD 0) ++ rowM i k) ++ [.int .i64 (-(i : Int) * 1000003 - k - 1)])) (k2 : (w.alloc tmp).grownBy w2 (ls[i]?.getD undef).ownBlock)
    (k4 : v'.ownBlock = (ls[i]?.getD undef).ownBlock ∨ v'.ownBlock = some (w.alloc tmp).heap.size ∧ (w.alloc tmp).grownBy w2 none) :
    Own w2 (ext o w.heap.size (10 + i)) 2 22 1 (.slice (some ⟨L, 0, none⟩) vs.length vs.length) vs.length ls ∧ Ap2 (w2.setCell ⟨L, i, none⟩ v') (ext o w.heap.size (10 + i)) L vs ns i (k + 1) ∧
      Turn o (ext o w.heap.size (10 + i)) (fun x => x = 10 + i ∨ x = 2) w (w2.setCell ⟨L, i, none⟩ v') := by
  have hown := h4 i hi
  have hgi : grew i k i = k := by simp [grew]
  rw [hgi] at hown
  have T : Turn o (ext o w.heap.size (10 + i)) (fun x => x = 10 + i) w w2 :=
    Turn.of_mods o (10 + i) (((Mods.refl (fun b => (ls[i]?.getD undef).ownBlock = some b) w).alloc tmp).grown k2 (fun b hb _ => hb)) (fun b _ hb => hown.2 b hb)
  have h3' := h3.turn T (by show ¬ 2 = 10 + i; omega)
  have hL : (ext o w.heap.size (10 + i)) L = 2 := h3'.2 L rfl
  have T2 : Turn (ext o w.heap.size (10 + i)) (ext o w.heap.size (10 + i)) (fun x => x = 2) w2 (w2.setCell ⟨L, i, none⟩ v') :=
    ⟨(Mods.refl (fun k => (ext o w.heap.size (10 + i)) k = 2) w2).setCell (p := ⟨L, i, none⟩) (fun _ => hL) _, fun _ _ => rfl⟩
  obtain ⟨h6, _⟩ := h3'.1.stored i v'
  refine ⟨h3', ⟨fun j hj => ?_, ls.set i v', by simpa using h2, ⟨h6, h3'.2⟩, fun j hj => ?_⟩, (T.mono (fun _ h => .inl h)).trans T2 (fun _ h => .inr h)⟩
  · refine Read0.turn ?_ T2 (by show ¬ 10 + j = 2; omega)
    by_cases e : j = i
    · subst e
      refine (h1 j hj).app (xs := ivs (rowV j (ns[j]?.getD 0) ++ rowM j k)) (fun q hq => ?_) rfl k1 k2 k4 (fun _ hk => ext_old hk)
      rw [rowV_len] at hq
      simp [rowV, List.getElem?_append_left, hq]
    · exact (h1 j hj).turn T (by show ¬ 10 + j = 10 + i; omega)
  · refine Own.turn ?_ T2 (by show ¬ 10 + j = 2; omega)
    by_cases e : j = i
    · subst e
      rw [List.getElem?_set_self (by omega)]
      have hg2 : grew j (k + 1) j = k + 1 := by simp [grew]
      rw [hg2, rowM_succ, ← List.append_assoc]
      refine ⟨by simpa [Nat.add_assoc] using k1, fun b hb => ?_⟩
      rcases k4 with k4 | ⟨k4, _⟩
      · rw [Option.getD_some, k4] at hb
        exact (ext_old (hown.1.lt b hb).2).trans (hown.2 b hb)
      · rw [Option.getD_some, k4] at hb
        have := Option.some.inj hb
        simp at this
        exact ext_new (by omega)
    · rw [List.getElem?_set_ne (Ne.symm e)]
      have hg2 : grew i (k + 1) j = grew i k j := by simp [grew, e]
      rw [hg2]
      exact (h4 j hj).turn T (by show ¬ 10 + j = 10 + i; omega)
end Go.Proofs.Ytknmiiajeafjpaa
