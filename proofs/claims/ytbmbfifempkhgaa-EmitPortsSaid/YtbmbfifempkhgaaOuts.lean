/- Lists of lists: read (LL), or owned row by row (Outs). No function in sight. -/
import Derived.Test.YtbmbfifempkhgaaL1
namespace Go.Proofs.Ytbmbfifempkhgaa
open Go.RowKit

/-- v reads as the values vs, wherever it lies -/
abbrev Has (w : World) (v : Value) (vs : List Value) : Prop := Vals w (fun _ => 0) 0 v vs

section
variable {o o' o1 o2 : Col} {C D : Nat → Prop} {w w' w1 w2 : World} {c d : Nat}

theorem Vals.has {v : Value} {vs : List Value} (h : Vals w o c v vs) : Has w v vs := by
  rcases h with h | ⟨hp, b, off, cap, rfl, hl, hb, _, hcl⟩
  · exact .inl h
  · exact .inr ⟨hp, b, off, cap, rfl, hl, hb, rfl, hcl⟩
theorem Vals.below {v : Value} {vs : List Value} (h : Has w v vs) (hb : Below w.heap.size w w') : Has w' v vs := h.turn (o' := fun _ => 0) (C := fun _ => False) ⟨Mods.of_below hb _, fun _ _ => rfl⟩ (fun h => h)

/-- v is a slice of slices that reads as xss -/
def LL (w : World) (v : Value) (xss : List (List Int)) : Prop :=
  ∃ vs, vs.length = xss.length ∧ Has w v vs ∧ ∀ k, k < xss.length → Has w (vs[k]?.getD undef) (ivs (xss[k]?.getD []))

theorem LL.below {v : Value} {xss : List (List Int)} (h : LL w v xss) (hb : Below w.heap.size w w') : LL w' v xss := by
  obtain ⟨vs, h1, h2, h3⟩ := h
  exact ⟨vs, h1, h2.below hb, fun k hk => (h3 k hk).below hb⟩
theorem LL.slice {v : Value} {xss : List (List Int)} (h : LL w v xss) : ∃ ao cap, v = .slice ao xss.length cap := by
  obtain ⟨vs, h1, h2, _⟩ := h
  rw [← h1]
  exact h2.slice
theorem LL.len {ao : Option Addr} {n cap : Nat} {xss : List (List Int)} (h : LL w (.slice ao n cap) xss) : n = xss.length := by
  obtain ⟨ao', cap', e⟩ := h.slice
  cases e; rfl
/-- its rows -/
theorem LL.at {ao : Option Addr} {n cap : Nat} {xss : List (List Int)} (h : LL w (.slice ao n cap) xss) (hp : 0 < xss.length) : ∃ b off, ao = some ⟨b, off, none⟩ ∧ n ≤ cap ∧
    ∀ k, k < xss.length → ∃ a0 c0, w.cell? ⟨b, off + k, none⟩ = some (.slice a0 (xss[k]?.getD []).length c0) ∧ Has w (.slice a0 (xss[k]?.getD []).length c0) (ivs (xss[k]?.getD [])) := by
  obtain ⟨vs, h1, h2, h3⟩ := h
  obtain ⟨b, off, e, _, hc, _, _, hcl⟩ := h2.at (by omega)
  refine ⟨b, off, e, hc, fun k hk => ?_⟩
  have hr := h3 k hk
  have hk' := hcl k (by omega)
  obtain ⟨a0, c0, e0⟩ := hr.slice
  rw [ivs_len] at e0
  rw [e0] at hr hk'
  exact ⟨a0, c0, hk', hr⟩

/-- new blocks have colour 1, but for R -/
def canon (N R : Nat) : Col := fun k => if k = R then 2 else if k < N then 0 else 1
theorem canon_new {N R k : Nat} (h : N ≤ k) (hR : k ≠ R) : canon N R k = 1 := by simp [canon, hR, Nat.not_lt.2 h]
theorem canon_is {N R k : Nat} (h : canon N R k = 1) : N ≤ k ∧ k ≠ R := by
  unfold canon at h
  split at h
  · cases h
  · split at h
    · cases h
    · exact ⟨by omega, by assumption⟩

/-- ov is a slice of slices of its owner's own: the rows xss, each in a block of its own -/
def Outs (w : World) (o : Col) (c : Nat) (ov : Value) (xss : List (List Int)) : Prop :=
  ∃ vs, vs.length = xss.length ∧ Own w o c 52 1 ov vs.length vs ∧ (∀ k, k < xss.length → Own w o c 3 1 (vs[k]?.getD undef) (xss[k]?.getD []).length (ivs (xss[k]?.getD []))) ∧
    (∀ i j B, i < j → j < xss.length → (vs[i]?.getD undef).ownBlock = some B → (vs[j]?.getD undef).ownBlock ≠ some B) ∧ ∀ i B, i < xss.length → (vs[i]?.getD undef).ownBlock = some B → ov.ownBlock ≠ some B

theorem Outs.turn {ov : Value} {xss : List (List Int)} (h : Outs w o c ov xss) (T : Turn o o' C w w') (hc : ¬ C c) : Outs w' o' c ov xss := by
  obtain ⟨vs, h1, h2, h3, h4, h5⟩ := h
  exact ⟨vs, h1, h2.turn T hc, fun k hk => (h3 k hk).turn T hc, h4, h5⟩
theorem Outs.recol {ov : Value} {xss : List (List Int)} (h : Outs w o c ov xss) (ho : ∀ k, k < w.heap.size → o k = c → o' k = d) : Outs w o' d ov xss := by
  obtain ⟨vs, h1, h2, h3, h4, h5⟩ := h
  exact ⟨vs, h1, ⟨h2.1, fun k hk => ho k (h2.1.lt k hk).2 (h2.2 k hk)⟩, fun k hk => ⟨(h3 k hk).1, fun j hj => ho j ((h3 k hk).1.lt j hj).2 ((h3 k hk).2 j hj)⟩, h4, h5⟩
theorem Outs.ll {ov : Value} {xss : List (List Int)} (h : Outs w o c ov xss) : LL w ov xss := by
  obtain ⟨vs, h1, h2, h3, h4, h5⟩ := h
  exact ⟨vs, h1, h2.vals.has, fun k hk => (h3 k hk).vals.has⟩
theorem Outs.nil (w : World) (o : Col) (c : Nat) : Outs w o c (.slice none 0 0) [] := ⟨[], rfl, Own.nil _ _ _ _ _, fun k hk => by simp at hk, fun i j B _ hj => by simp at hj, fun i B hi => by simp at hi⟩

/-- one row, just made, in a slice just made -/
theorem outs_row {N R : Nat} {v : Value} {l : List Int} (hv : w1.ownsRow N 3 1 v l.length (ivs l)) (hs : N ≤ w1.heap.size) (hR : v.ownBlock ≠ some R) (hR1 : w1.heap.size ≠ R) :
    Outs (w1.alloc (.cells #[v] 52)) (canon N R) 1 (.slice (some ⟨w1.heap.size, 0, none⟩) 1 1) [l] := by
  have hb := heap_alloc_new w1 (.cells #[v] 52)
  have hv' := hv.alloc (.cells #[v] 52)
  refine ⟨[v], rfl, ⟨⟨rfl, .inr ⟨w1.heap.size, 1, #[v], rfl, Nat.zero_le _, hb, Nat.le_refl _, by unfold maxLen; omega, rfl, rfl⟩⟩, fun k hk => ?_⟩, fun k hk => ?_, fun i j B hij hj => by simp at hj; omega, fun i B hi hB => ?_⟩
  · obtain rfl := Option.some.inj hk
    exact canon_new hs hR1
  · obtain rfl : k = 0 := by simpa using hk
    exact ⟨owns_base hv' (fun _ _ => Nat.zero_le _), fun j hj => canon_new (hv.lt j hj).1 (fun e => hR (by rw [← e]; exact hj))⟩
  · obtain rfl : i = 0 := by simpa using hi
    intro e
    obtain rfl := Option.some.inj e
    exact absurd (hv.lt _ hB).2 (Nat.lt_irrefl _)

/-- a row is laid anew -/
theorem Outs.set {g n cap i : Nat} {xss : List (List Int)} {v' : Value} {l' : List Int} {F : Nat → Prop} {vs : List Value} (h1 : vs.length = xss.length) (h2 : Own w o c 52 1 (.slice (some ⟨g, 0, none⟩) n cap) vs.length vs)
    (h3 : ∀ k, k < xss.length → Own w o c 3 1 (vs[k]?.getD undef) (xss[k]?.getD []).length (ivs (xss[k]?.getD []))) (h4 : ∀ i j B, i < j → j < xss.length → (vs[i]?.getD undef).ownBlock = some B → (vs[j]?.getD undef).ownBlock ≠ some B)
    (h5 : ∀ i B, i < xss.length → (vs[i]?.getD undef).ownBlock = some B → g ≠ B) (hi : i < xss.length) (hm : Mods F w w1) (hF : ∀ k, k < w.heap.size → F k → (vs[i]?.getD undef).ownBlock = some k)
    (hv : Own w1 o c 3 1 v' l'.length (ivs l')) (hb : v'.ownBlock = (vs[i]?.getD undef).ownBlock ∨ ∀ k, v'.ownBlock = some k → w.heap.size ≤ k) :
    Outs (w1.setCell ⟨g, i, none⟩ v') o c (.slice (some ⟨g, 0, none⟩) n cap) (xss.set i l') := by
  have hgw : g < w.heap.size := (h2.1.lt g rfl).2
  have hg1 : g < w1.heap.size := Nat.lt_of_lt_of_le hgw hm.size
  have new : ∀ k, k < w.heap.size → (vs[i]?.getD undef).ownBlock ≠ some k → v'.ownBlock ≠ some k := fun k hk hn e => by
    rcases hb with hb | hb
    · exact hn (hb ▸ e)
    · have := hb k e; omega
  have hgn : v'.ownBlock ≠ some g := new g hgw (fun e => h5 i g hi e rfl)
  have hown1 : w1.ownsRow 0 52 1 (.slice (some ⟨g, 0, none⟩) n cap) vs.length vs := owns_kept h2.1 hm (fun k hk f => h5 i k hi (hF k (by have e : g = k := Option.some.inj hk; omega) f) (Option.some.inj hk))
  have hn : n = vs.length := by
    rcases h2.1.2 with ⟨e, _⟩ | ⟨_, _, _, e, _⟩
    · cases e
    · cases e; rfl
  subst hn
  have hst := (hown1.stored i v').1
  refine ⟨vs.set i v', by simp [h1], ⟨by rw [List.length_set]; exact hst, h2.2⟩, fun k hk => ?_, fun a b B hab hb' hB => ?_, fun a B ha hB => ?_⟩
  · rw [List.length_set] at hk
    by_cases hki : k = i
    · subst hki
      have e1 : (vs.set k v')[k]?.getD undef = v' := by simp [show k < vs.length by omega]
      have e2 : (xss.set k l')[k]?.getD [] = l' := by simp [hk]
      rw [e1, e2]
      exact ⟨ownsRow_setCell_other hv.1 hgn v', hv.2⟩
    · have e1 : (vs.set i v')[k]?.getD undef = vs[k]?.getD undef := by rw [List.getElem?_set_ne (Ne.symm hki)]
      have e2 : (xss.set i l')[k]?.getD [] = xss[k]?.getD [] := by rw [List.getElem?_set_ne (Ne.symm hki)]
      rw [e1, e2]
      have hk3 := h3 k hk
      refine ⟨ownsRow_setCell_other (owns_kept hk3.1 hm fun B hB f => ?_) (fun e => h5 k g hk e rfl) v', hk3.2⟩
      have := hF B (hk3.1.lt B hB).2 f
      rcases Nat.lt_or_gt_of_ne hki with hlt | hlt
      · exact h4 k i B hlt hi hB this
      · exact h4 i k B hlt hk this hB
  · rw [List.length_set] at hb'
    have olt : ∀ k B, k < xss.length → (vs[k]?.getD undef).ownBlock = some B → B < w.heap.size := fun k B hk hB => ((h3 k hk).1.lt B hB).2
    by_cases hai : a = i
    · subst hai
      rw [show (vs.set a v')[a]?.getD undef = v' by simp [show a < vs.length by omega]] at hB
      rw [List.getElem?_set_ne (by omega)]
      intro e
      have hBl := olt b B hb' e
      exact new B hBl (fun e' => h4 a b B hab hb' e' e) hB
    · rw [List.getElem?_set_ne (Ne.symm hai)] at hB
      by_cases hbi : b = i
      · subst hbi
        rw [show (vs.set b v')[b]?.getD undef = v' by simp [show b < vs.length by omega]]
        exact new B (olt a B (by omega) hB) (h4 a b B hab hb' hB)
      · rw [List.getElem?_set_ne (Ne.symm hbi)]
        exact h4 a b B hab hb' hB
  · rw [List.length_set] at ha
    by_cases hai : a = i
    · subst hai
      rw [show (vs.set a v')[a]?.getD undef = v' by simp [show a < vs.length by omega]] at hB
      intro e
      exact hgn (by rw [hB]; exact e.symm)
    · rw [List.getElem?_set_ne (Ne.symm hai)] at hB
      intro e
      exact h5 a B ha hB (Option.some.inj e)

end
end Go.Proofs.Ytbmbfifempkhgaa
