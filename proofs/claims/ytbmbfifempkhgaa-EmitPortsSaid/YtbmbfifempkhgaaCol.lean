/- Colours of blocks: what a structure holds bears one colour, a step turns blocks of some colours alone, and all of other colours stays. No program in sight. -/
import Derived.Test.YtbmbfifempkhgaaMem
import Derived.OneCell
namespace Go.Proofs.Ytbmbfifempkhgaa
open Go.RowKit

abbrev Col := Nat → Nat
/-- the blocks from n on get colour c -/
def ext (o : Col) (n c : Nat) : Col := fun k => if k < n then o k else c
theorem ext_old {o : Col} {n c k : Nat} (h : k < n) : ext o n c k = o k := by simp [ext, h]
theorem ext_new {o : Col} {n c k : Nat} (h : n ≤ k) : ext o n c k = c := by simp [ext, Nat.not_lt.2 h]

/-- from w to w' blocks of the colours C may have turned; old blocks keep their colours -/
structure Turn (o o' : Col) (C : Nat → Prop) (w w' : World) : Prop where
  mods : Mods (fun k => C (o k)) w w'
  same : ∀ k, k < w.heap.size → o' k = o k

section
variable {o o' o1 o2 : Col} {C D : Nat → Prop} {w w' w1 w2 : World} {c d : Nat}

theorem Turn.size (h : Turn o o' C w w') : w.heap.size ≤ w'.heap.size := h.mods.size
theorem Turn.refl (o : Col) (C : Nat → Prop) (w : World) : Turn o o C w w := ⟨Mods.refl _ _, fun _ _ => rfl⟩
theorem Turn.trans (h : Turn o o1 C w w1) (k : Turn o1 o2 D w1 w2) (hD : ∀ c, D c → C c) : Turn o o2 C w w2 :=
  ⟨h.mods.trans k.mods (fun _ _ h => h) (fun n hn f => by rw [← h.same n hn]; exact hD _ f), fun n hn => (k.same n (Nat.lt_of_lt_of_le hn h.size)).trans (h.same n hn)⟩
theorem Turn.mono (h : Turn o o' C w w') (hD : ∀ c, C c → D c) : Turn o o' D w w' := ⟨h.mods.mono fun _ _ f => hD _ f, h.same⟩
theorem Turn.drewN (h : Turn o o' C w w') (n : Nat) : Turn o o' C w (w'.drewN n) := ⟨h.mods.drewN n, h.same⟩
theorem Turn.drew (h : Turn o o' C w w') : Turn o o' C w w'.drew := ⟨h.mods.drew, h.same⟩
theorem Turn.of_below (o : Col) (c : Nat) (h : Below w.heap.size w w') : Turn o (ext o w.heap.size c) (fun _ => False) w w' := ⟨Mods.of_below h _, fun _ hk => ext_old hk⟩
theorem Turn.of_quiet (o : Col) (h : ∃ m, w' = w.drewN m) : Turn o o (fun _ => False) w w' := by obtain ⟨m, rfl⟩ := h; exact (Turn.refl _ _ _).drewN m
theorem Turn.of_mods {F : Nat → Prop} (o : Col) (c : Nat) (h : Mods F w w') (hF : ∀ k, k < w.heap.size → F k → C (o k)) : Turn o (ext o w.heap.size c) C w w' := ⟨h.mono hF, fun _ hk => ext_old hk⟩
theorem Turn.below (h : Turn o o' C w w') {B : Nat} (hB : B ≤ w.heap.size) (hC : ∀ k, k < B → ¬ C (o k)) : Below B w w' := h.mods.below hB hC
theorem Turn.block (h : Turn o o' C w w') {b : Nat} {x : Obj} (hb : w.heap[b]? = some x) (hc : ¬ C (o b)) : w'.heap[b]? = some x ∧ o' b = o b := ⟨block_mods hb h.mods hc, h.same b (block_lt hb)⟩
theorem Turn.cell (h : Turn o o' C w w') {p : Addr} {v : Value} (hp : w.cell? p = some v) (hc : ¬ C (o p.block)) : w'.cell? p = some v := (h.mods.cell (World.block_lt_of_cell? _ _ hp) hc).trans hp

/-- block b holds the cells cs -/
def Blk (w : World) (o : Col) (c b : Nat) (t : TypeId) (cs : Array Value) : Prop := w.heap[b]? = some (.cells cs t (0, 0)) ∧ o b = c

theorem Blk.lt {b : Nat} {t : TypeId} {cs : Array Value} (h : Blk w o c b t cs) : b < w.heap.size := block_lt h.1
theorem Blk.turn {b : Nat} {t : TypeId} {cs : Array Value} (h : Blk w o c b t cs) (T : Turn o o' C w w') (hc : ¬ C c) : Blk w' o' c b t cs := by
  obtain ⟨h1, h2⟩ := T.block h.1 (by rw [h.2]; exact hc)
  exact ⟨h1, h2.trans h.2⟩
theorem Blk.cell {b : Nat} {t : TypeId} {cs : Array Value} (h : Blk w o c b t cs) (i : Nat) (v : Value) (hv : cs[i]? = some v) : w.cell? ⟨b, i, none⟩ = some v := cells_row w b h.1 i v hv
theorem Blk.frozen {b : Nat} {t : TypeId} {cs : Array Value} (h : Blk w o c b t cs) (i : Nat) : w.frozen? ⟨b, i, none⟩ = false := frozen_of_block h.1 i
theorem Blk.drewN {b : Nat} {t : TypeId} {cs : Array Value} (h : Blk w o c b t cs) (m : Nat) : Blk (w.drewN m) o c b t cs := h
theorem Blk.set {b : Nat} {t : TypeId} {cs : Array Value} (h : Blk w o c b t cs) (i : Nat) (u : Value) : Blk (w.setCell ⟨b, i, none⟩ u) o c b t (cs.setIfInBounds i u) ∧ Turn o o (fun x => x = c) w (w.setCell ⟨b, i, none⟩ u) :=
  ⟨⟨block_setCell h.1 i u, h.2⟩, ⟨(Mods.refl (fun k => o k = c) w).setCell (p := ⟨b, i, none⟩) (fun _ => h.2) u, fun _ _ => rfl⟩⟩
theorem Blk.recol {b : Nat} {t : TypeId} {cs : Array Value} (h : Blk w o c b t cs) {o' : Col} {c' : Nat} (ho : o' b = c') : Blk w o' c' b t cs := ⟨h.1, ho⟩

/-- v is a slice that reads as the values vs, one cell each; its block has colour c -/
def Vals (w : World) (o : Col) (c : Nat) (v : Value) (vs : List Value) : Prop :=
  (vs = [] ∧ ∃ ao cap, v = .slice ao 0 cap) ∨ (0 < vs.length ∧ ∃ b off cap, v = .slice (some ⟨b, off, none⟩) vs.length cap ∧ vs.length ≤ cap ∧ b < w.heap.size ∧ o b = c ∧ ∀ k, k < vs.length → w.cell? ⟨b, off + k, none⟩ = some (vs[k]?.getD undef))

theorem Vals.turn {v : Value} {vs : List Value} (h : Vals w o c v vs) (T : Turn o o' C w w') (hc : ¬ C c) : Vals w' o' c v vs := by
  rcases h with h | ⟨hp, b, off, cap, rfl, hl, hb, ho, hcl⟩
  · exact .inl h
  · exact .inr ⟨hp, b, off, cap, rfl, hl, Nat.lt_of_lt_of_le hb T.size, (T.same b hb).trans ho, fun k hk => T.cell (hcl k hk) (by show ¬ C (o b); rw [ho]; exact hc)⟩
theorem Vals.drewN {v : Value} {vs : List Value} (h : Vals w o c v vs) (m : Nat) : Vals (w.drewN m) o c v vs := h.turn ((Turn.refl o (fun _ => False) w).drewN m) (fun h => h)
theorem Vals.slice {v : Value} {vs : List Value} (h : Vals w o c v vs) : ∃ ao cap, v = .slice ao vs.length cap := by
  rcases h with ⟨rfl, ao, cap, rfl⟩ | ⟨_, b, off, cap, rfl, _⟩
  · exact ⟨_, _, rfl⟩
  · exact ⟨_, _, rfl⟩
/-- its cells, where there is one -/
theorem Vals.at {ao : Option Addr} {n cap : Nat} {vs : List Value} (h : Vals w o c (.slice ao n cap) vs) (hp : 0 < vs.length) : ∃ b off, ao = some ⟨b, off, none⟩ ∧ n = vs.length ∧ n ≤ cap ∧ b < w.heap.size ∧ o b = c ∧ ∀ k, k < vs.length → w.cell? ⟨b, off + k, none⟩ = some (vs[k]?.getD undef) := by
  rcases h with ⟨rfl, _⟩ | ⟨_, b, off, cap', hv, hl, hb, ho, hcl⟩
  · simp at hp
  · cases hv
    exact ⟨b, off, rfl, rfl, hl, hb, ho, hcl⟩
theorem Vals.len {ao : Option Addr} {n cap : Nat} {vs : List Value} (h : Vals w o c (.slice ao n cap) vs) : n = vs.length := by
  obtain ⟨ao', cap', e⟩ := h.slice
  cases e; rfl
theorem Vals.nil (w : World) (o : Col) (c : Nat) (ao : Option Addr) (cap : Nat) : Vals w o c (.slice ao 0 cap) [] := .inl ⟨rfl, ao, cap, rfl⟩

/-- as what is appended -/
theorem Vals.news {ao : Option Addr} {n cap : Nat} {vs : List Value} (h : Vals w o c (.slice ao n cap) vs) : (ao = none → n = 0) ∧ ∀ ad, ao = some ad → ∀ j u, vs[j]? = some u → w.cell? (ad.add j) = some u := by
  rcases h with ⟨rfl, ao', cap', e⟩ | ⟨hp, b, off, cap', e, hl, hb, ho, hcl⟩
  · cases e
    exact ⟨fun _ => rfl, fun _ _ j u hu => by simp at hu⟩
  · cases e
    refine ⟨(fun h => by cases h), fun ad had j u hu => ?_⟩
    obtain rfl := Option.some.inj had
    rw [Addr.add_lit]
    have hj := (List.getElem?_eq_some_iff.1 hu).1
    rw [hcl j hj, hu]
    rfl

theorem vals_of_cells {ao : Option Addr} {vs : List Value} {cap : Nat} (hcap : vs.length ≤ cap) (hn : ao = none → vs.length = 0) (hsp : ∀ a, ao = some a → a.spot = none) (h : ∀ ad, ao = some ad → ∀ j u, vs[j]? = some u → w.cell? (ad.add j) = some u)
    (ho : ∀ a, ao = some a → a.block < w.heap.size → o a.block = c) : Vals w o c (.slice ao vs.length cap) vs := by
  by_cases hp : 0 < vs.length
  · cases ao with
    | none => have := hn rfl; omega
    | some a =>
      obtain ⟨b, off, spot⟩ := a
      obtain rfl : spot = none := hsp _ rfl
      have hcl : ∀ k, k < vs.length → w.cell? ⟨b, off + k, none⟩ = some (vs[k]?.getD undef) := fun k hk => by
        have := h ⟨b, off, none⟩ rfl k vs[k] (by simp [hk])
        rw [Addr.add_lit] at this
        simpa [hk] using this
      have hb := World.block_lt_of_cell? _ _ (hcl 0 hp)
      exact .inr ⟨hp, b, off, cap, rfl, hcap, hb, ho ⟨b, off, none⟩ rfl hb, hcl⟩
  · obtain rfl : vs = [] := List.eq_nil_of_length_eq_zero (by omega)
    exact .inl ⟨rfl, ao, cap, rfl⟩

/-- an int as a value -/
abbrev iv (n : Int) : Value := .int .i64 n
abbrev ivs (l : List Int) : List Value := l.map (Value.int .i64)
/-- v is a slice of the ints l -/
abbrev Ints (w : World) (o : Col) (c : Nat) (v : Value) (l : List Int) : Prop := Vals w o c v (ivs l)

theorem ivs_get {l : List Int} {k : Nat} (h : k < l.length) : (ivs l)[k]?.getD undef = iv (l[k]?.getD 0) := by simp [ivs, h]
theorem ivs_len (l : List Int) : (ivs l).length = l.length := by simp
theorem Ints.at {ao : Option Addr} {n cap : Nat} {l : List Int} (h : Ints w o c (.slice ao n cap) l) (hp : 0 < l.length) : ∃ b off, ao = some ⟨b, off, none⟩ ∧ n = l.length ∧ n ≤ cap ∧ b < w.heap.size ∧ o b = c ∧ ∀ k, k < l.length → w.cell? ⟨b, off + k, none⟩ = some (iv (l[k]?.getD 0)) := by
  obtain ⟨b, off, h1, h2, h3, h4, h5, h6⟩ := Vals.at h (by simpa using hp)
  exact ⟨b, off, h1, by simpa using h2, h3, h4, h5, fun k hk => by rw [h6 k (by simpa using hk), ivs_get hk]⟩
theorem Ints.len {ao : Option Addr} {n cap : Nat} {l : List Int} (h : Ints w o c (.slice ao n cap) l) : n = l.length := by simpa using Vals.len h
theorem Ints.slice {v : Value} {l : List Int} (h : Ints w o c v l) : ∃ ao cap, v = .slice ao l.length cap := by simpa using Vals.slice h

/-- an owned row, at a colour -/
def Own (w : World) (o : Col) (c : Nat) (e size : Nat) (v : Value) (n : Nat) (xs : List Value) : Prop := w.ownsRow 0 e size v n xs ∧ ∀ k, v.ownBlock = some k → o k = c

theorem Own.turn {e size n : Nat} {v : Value} {xs : List Value} (h : Own w o c e size v n xs) (T : Turn o o' C w w') (hc : ¬ C c) : Own w' o' c e size v n xs :=
  ⟨owns_kept h.1 T.mods (fun k hk f => hc (by rw [← h.2 k hk]; exact f)), fun k hk => (T.same k (h.1.lt k hk).2).trans (h.2 k hk)⟩
theorem Own.recol {e size n : Nat} {v : Value} {xs : List Value} (h : Own w o c e size v n xs) {o' : Col} {c' : Nat} (ho : ∀ k, v.ownBlock = some k → o' k = c') : Own w o' c' e size v n xs := ⟨h.1, ho⟩
theorem Own.drewN {e size n : Nat} {v : Value} {xs : List Value} (h : Own w o c e size v n xs) (m : Nat) : Own (w.drewN m) o c e size v n xs := h
/-- out of a contract of the elder kind: all new blocks get colour c -/
theorem Own.made {e size n : Nat} {v : Value} {xs : List Value} (o : Col) (c : Nat) {N : Nat} (h : w'.ownsRow N e size v n xs) : Own w' (ext o N c) c e size v n xs :=
  ⟨owns_base h (fun _ _ => Nat.zero_le _), fun k hk => ext_new (h.lt k hk).1⟩
theorem Own.vals {e n : Nat} {v : Value} {vs : List Value} (h : Own w o c e 1 v n vs) : Vals w o c v vs := by
  have hl := h.1.1
  rcases h.1.2 with ⟨rfl, h0⟩ | ⟨g, cap, cur, rfl, _, hg, hnc, _, hcs, ht⟩
  · subst h0
    obtain rfl : vs = [] := List.eq_nil_of_length_eq_zero (by simpa using hl)
    exact .inl ⟨rfl, none, 0, rfl⟩
  · obtain rfl : vs.length = n := by simpa using hl
    refine vals_of_cells hnc (fun h => by cases h) (fun a ha => by cases ha; rfl) (fun ad had j u hu => ?_) (fun a ha _ => by cases ha; exact h.2 g rfl)
    obtain rfl := Option.some.inj had
    exact h.1.cells (g := g) rfl j u hu
theorem Own.len {e n : Nat} {v : Value} {vs : List Value} (h : Own w o c e 1 v n vs) : vs.length = n := by simpa using h.1.1
theorem Own.nil (w : World) (o : Col) (c e size : Nat) : Own w o c e size (.slice none 0 0) 0 [] := ⟨World.ownsRow_nil _ _ _ _, fun k hk => by simp [Value.ownBlock] at hk⟩
theorem Own.slice {e size n : Nat} {v : Value} {xs : List Value} (h : Own w o c e size v n xs) : ∃ ao cap, v = .slice ao n cap := owns_slice h.1

end

/-- below which nothing turns: what the call found when it began has colour 0 -/
structure Kept (B : Nat) (o : Col) (w0 w : World) : Prop where
  below : Below B w0 w
  old : ∀ k, k < B → o k = 0
  size : B ≤ w.heap.size

theorem Kept.start (w : World) : Kept w.heap.size (fun _ => 0) w w := ⟨Below.refl _ _, fun _ _ => rfl, Nat.le_refl _⟩
theorem Kept.turn {B : Nat} {o o' : Col} {C : Nat → Prop} {w0 w w' : World} (h : Kept B o w0 w) (T : Turn o o' C w w') (hC : ¬ C 0) : Kept B o' w0 w' :=
  ⟨h.below.trans (T.below h.size (fun k hk f => hC (by rw [h.old k hk] at f; exact f))), fun k hk => (T.same k (Nat.lt_of_lt_of_le hk h.size)).trans (h.old k hk), Nat.le_trans h.size T.size⟩

end Go.Proofs.Ytbmbfifempkhgaa
