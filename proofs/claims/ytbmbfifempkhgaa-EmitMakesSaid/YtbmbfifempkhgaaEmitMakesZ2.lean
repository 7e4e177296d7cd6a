/- Rows that are marked and grown: how they lie in memory. No function in sight. -/
import Derived.Test.YtbmbfifempkhgaaEmitMakesZ1
import Derived.Test.YtbmbfifempkhgaaProg
import Derived.Deep.QuietTactic
import Derived.BigQuiet
import Derived.WalkKit
import Derived.Maps.Own
import Derived.Laws.ResultCell
import Derived.Laws.Rows
import Derived.Maps.OwnOps
import Derived.Maps.Views
import Derived.Maps.OwnSet
import Derived.Deep.DeepMust
namespace Go.Proofs.Ytbmbfifempkhgaa
open Go.RowKit
section
variable {w w' w1 w2 : World} {o o' : Col} {C : Nat → Prop} {c e sz off n m k : Nat} {u u' v v' v0 : Value}
def View (w : World) (v : Value) (m sz off : Nat) (u : Value) : Prop := ∃ ao cap, v = .slice ao m cap ∧ m ≤ cap ∧ (0 < m → ∃ g p, ao = some ⟨g, p, none⟩ ∧ g < w.heap.size ∧ ∀ k, k < m → w.cell? ⟨g, p + k * sz + off, none⟩ = some u)
theorem View.below (h : View w v m sz off u) (hb : Below w.heap.size w w') : View w' v m sz off u := by
 obtain ⟨ao, cap, h1, h2, h3⟩ := h
 refine ⟨ao, cap, h1, h2, fun hp => ?_⟩
 obtain ⟨g, p, h4, h5, h6⟩ := h3 hp
 exact ⟨g, p, h4, Nat.lt_of_lt_of_le h5 hb.size, fun k hk => cell_later hb (h6 k hk)⟩
def ViewC (w : World) (o : Col) (c : Nat) (v : Value) (m sz off : Nat) (u : Value) : Prop := ∃ ao cap, v = .slice ao m cap ∧ m ≤ cap ∧ (0 < m → ∃ g, ao = some ⟨g, 0, none⟩ ∧ g < w.heap.size ∧ o g = c ∧ ∀ k, k < m → w.cell? ⟨g, k * sz + off, none⟩ = some u)
theorem ViewC.view (h : ViewC w o c v m sz off u) : View w v m sz off u := by
 obtain ⟨ao, cap, h1, h2, h3⟩ := h
 refine ⟨ao, cap, h1, h2, fun hp => ?_⟩
 obtain ⟨g, h4, h5, _, h6⟩ := h3 hp
 exact ⟨g, 0, h4, h5, fun k hk => by rw [Nat.zero_add]; exact h6 k hk⟩
theorem ViewC.turn (h : ViewC w o c v m sz off u) (T : Turn o o' C w w') (hc : ¬ C c) : ViewC w' o' c v m sz off u := by
 obtain ⟨ao, cap, h1, h2, h3⟩ := h
 refine ⟨ao, cap, h1, h2, fun hp => ?_⟩
 obtain ⟨g, h4, h5, h6, h7⟩ := h3 hp
 exact ⟨g, h4, Nat.lt_of_lt_of_le h5 T.size, (T.same g h5).trans h6, fun k hk => T.cell (h7 k hk) (by show ¬ C (o g); rw [h6]; exact hc)⟩
def RowK (w : World) (o : Col) (c e sz off : Nat) (v : Value) (n m : Nat) (u : Value) : Prop := ∃ xs, Own w o c e sz v n xs ∧ ∀ k, k < m → xs[k * sz + off]? = some u
theorem RowK.turn (h : RowK w o c e sz off v n m u) (T : Turn o o' C w w') (hc : ¬ C c) : RowK w' o' c e sz off v n m u := by
 obtain ⟨xs, h1, h2⟩ := h
 exact ⟨xs, h1.turn T hc, h2⟩
theorem RowK.start {xs : List Value} (h : Own w o c e sz v n xs) : RowK w o c e sz off v n 0 u := ⟨xs, h, fun k hk => by omega⟩
theorem RowK.slice (h : RowK w o c e sz off v n m u) : ∃ ao cap, v = .slice ao n cap := by
 obtain ⟨xs, h1, _⟩ := h
 exact h1.slice
theorem RowK.at {ao : Option Addr} {l cap : Nat} (h : RowK w o c e sz off (.slice ao l cap) n m u) (hn : 0 < n) (hs : 0 < sz) : l = n ∧ n ≤ cap ∧ ∃ g, ao = some ⟨g, 0, none⟩ ∧ o g = c ∧ g < w.heap.size ∧ (∀ j, j < n * sz → ∃ x, w.cell? ⟨g, j, none⟩ = some x) ∧ ∀ j, w.frozen? ⟨g, j, none⟩ = false := by
 obtain ⟨xs, h1, _⟩ := h
 have hl := h1.1.1
 have hp : 0 < xs.length := by rw [hl]; exact Nat.mul_pos hn hs
 obtain ⟨h2, h3, g, cap', rfl, h4, h5, h6⟩ := owns_cell h1.1 hp
 refine ⟨h2, h3, g, rfl, h1.2 g rfl, h6, fun j hj => ?_, h5⟩
 exact ⟨xs[j]'(by rw [hl]; exact hj), h4 j _ (by rw [List.getElem?_eq_getElem])⟩
theorem RowK.done (h : RowK w o c e sz off v n n u) (_ : off < sz) : ViewC w o c v n sz off u := by
 obtain ⟨xs, h1, h2⟩ := h
 obtain ⟨ao, cap, rfl⟩ := h1.slice
 have hl := h1.1.1
 rcases h1.1.2 with ⟨e0, h0⟩ | ⟨g, cap', cur, e0, _, hg, hnc, _⟩
 ·
  cases e0
  exact ⟨none, 0, rfl, Nat.le_refl _, fun hp => by omega⟩
 ·
  cases e0
  refine ⟨_, _, rfl, hnc, fun _ => ⟨g, rfl, block_lt hg, h1.2 g rfl, fun k hk => ?_⟩⟩
  have := h1.1.cells (g := g) rfl _ _ (h2 k hk)
  rwa [Addr.add_lit, Nat.zero_add] at this
theorem RowK.put {g l cap j : Nat} {x : Value} (h : RowK w o c e sz off (.slice (some ⟨g, 0, none⟩) l cap) n m u) (hj : ∀ k, k < m → k * sz + off ≠ j) : RowK (w.setCell ⟨g, j, none⟩ x) o c e sz off (.slice (some ⟨g, 0, none⟩) l cap) n m u ∧ Turn o o (fun y => y = c) w (w.setCell ⟨g, j, none⟩ x) := by
 obtain ⟨xs, h1, h2⟩ := h
 have hln : l = n := by
  obtain ⟨_, _, e1⟩ := h1.slice
  cases e1; rfl
 subst hln
 have hg := h1.2 g rfl
 refine ⟨⟨xs.set j x, ⟨(h1.1.stored j x).1, h1.2⟩, fun k hk => ?_⟩, ⟨(Mods.refl (fun k => o k = c) w).setCell (p := ⟨g, j, none⟩) (fun _ => hg) _, fun _ _ => rfl⟩⟩
 rw [List.getElem?_set_ne (Ne.symm (hj k hk))]
 exact h2 k hk
theorem RowK.next {g l cap : Nat} (h : RowK w o c e sz off (.slice (some ⟨g, 0, none⟩) l cap) n m u) (hm : m < n) (ho : off < sz) : RowK (w.setCell ⟨g, m * sz + off, none⟩ u) o c e sz off (.slice (some ⟨g, 0, none⟩) l cap) n (m + 1) u ∧ Turn o o (fun y => y = c) w (w.setCell ⟨g, m * sz + off, none⟩ u) := by
 have hs : 0 < sz := by omega
 have hlt : m * sz + off < n * sz := by
  have : (m + 1) * sz ≤ n * sz := Nat.mul_le_mul_right _ hm
  rw [Nat.add_mul] at this
  omega
 have hne : ∀ k, k < m → k * sz + off ≠ m * sz + off := fun k hk he => by
  have : k * sz < m * sz := Nat.mul_lt_mul_of_pos_right hk hs
  omega
 obtain ⟨xs, h1, h2⟩ := h
 have hln : l = n := by
  obtain ⟨_, _, e1⟩ := h1.slice
  cases e1; rfl
 subst hln
 have hg := h1.2 g rfl
 refine ⟨⟨xs.set (m * sz + off) u, ⟨(h1.1.stored _ u).1, h1.2⟩, fun k hk => ?_⟩, ⟨(Mods.refl (fun k => o k = c) w).setCell (p := ⟨g, m * sz + off, none⟩) (fun _ => hg) _, fun _ _ => rfl⟩⟩
 by_cases e0 : k = m
 ·
  subst e0
  rw [List.getElem?_set_self (by rw [h1.1.1]; exact hlt)]
 ·
  rw [List.getElem?_set_ne (Ne.symm (hne k (by omega)))]
  exact h2 k (by omega)
def RowG (w : World) (o : Col) (c e sz off : Nat) (v : Value) (n k : Nat) (u u' : Value) : Prop := ∃ xs, Own w o c e sz v (n + k) xs ∧ (∀ i, i < n → xs[i * sz + off]? = some u) ∧ ∀ i, i < k → xs[(n + i) * sz + off]? = some u'
theorem RowG.turn (h : RowG w o c e sz off v n k u u') (T : Turn o o' C w w') (hc : ¬ C c) : RowG w' o' c e sz off v n k u u' := by
 obtain ⟨xs, h1, h2, h3⟩ := h
 exact ⟨xs, h1.turn T hc, h2, h3⟩
theorem RowK.grow (h : RowK w o c e sz off v n n u) : RowG w o c e sz off v n 0 u u' := by
 obtain ⟨xs, h1, h2⟩ := h
 exact ⟨xs, h1, h2, fun i hi => by omega⟩
theorem RowG.slice (h : RowG w o c e sz off v n k u u') : ∃ ao cap, v = .slice ao (n + k) cap := by
 obtain ⟨xs, h1, _⟩ := h
 exact h1.slice
theorem RowG.tail {ao : Option Addr} {l cap : Nat} (h : RowG w o c e sz off (.slice ao l cap) n k u u') (hk : 0 < k) (hs : 0 < sz) : l = n + k ∧ n + k ≤ cap ∧ ∃ g, ao = some ⟨g, 0, none⟩ ∧ View w (.slice (some ⟨g, n * sz, none⟩) k (cap - n)) k sz off u' := by
 obtain ⟨xs, h1, _, h3⟩ := h
 have hp : 0 < xs.length := by rw [h1.1.1]; exact Nat.mul_pos (by omega) hs
 obtain ⟨h4, h5, g, _, rfl, h6, _, h7⟩ := owns_cell h1.1 hp
 refine ⟨h4, h5, g, rfl, _, _, rfl, by omega, fun _ => ⟨g, n * sz, rfl, h7, fun i hi => ?_⟩⟩
 have := h6 _ _ (h3 i hi)
 rwa [Nat.add_mul] at this
theorem grow_step {xs news : List Value} {tmp : Obj} (h1 : Own w o c e sz v (n + k) xs) (h2 : ∀ i, i < n → xs[i * sz + off]? = some u) (h3 : ∀ i, i < k → xs[(n + i) * sz + off]? = some u') (hv : ViewC w o c v0 n sz off u) (hl : news.length = sz) (hu : news[off]? = some u')
  (k1 : w2.ownsRow 0 e sz v' (n + k + 1) (xs ++ news)) (k2 : (w.alloc tmp).grownBy w2 v.ownBlock) (k4 : v'.ownBlock = v.ownBlock ∨ v'.ownBlock = some (w.alloc tmp).heap.size ∧ (w.alloc tmp).grownBy w2 none) :
  RowG w2 (ext o w.heap.size c) c e sz off v' n (k + 1) u u' ∧ ViewC w2 (ext o w.heap.size c) c v0 n sz off u ∧ Turn o (ext o w.heap.size c) (fun y => y = c) w w2 := by
 have T : Turn o (ext o w.heap.size c) (fun y => y = c) w w2 := Turn.of_mods o c (((Mods.refl (fun b => v.ownBlock = some b) w).alloc tmp).grown k2 (fun b hb _ => hb)) (fun b _ hb => h1.2 b hb)
 have hxl := h1.1.1
 refine ⟨⟨xs ++ news, ⟨k1, fun b hb => ?_⟩, fun i hi => ?_, fun i hi => ?_⟩, ?_, T⟩
 ·
  rcases k4 with k4 | ⟨k4, _⟩
  ·
   rw [k4] at hb
   exact (ext_old (h1.1.lt b hb).2).trans (h1.2 b hb)
  ·
   rw [k4] at hb
   have := Option.some.inj hb
   simp at this
   exact ext_new (by omega)
 ·
  rw [List.getElem?_append_left (List.getElem?_eq_some_iff.1 (h2 i hi)).1]
  exact h2 i hi
 ·
  by_cases e0 : i < k
  ·
   rw [List.getElem?_append_left (List.getElem?_eq_some_iff.1 (h3 i e0)).1]
   exact h3 i e0
  ·
   obtain rfl : i = k := by omega
   rw [List.getElem?_append_right (by rw [hxl]; omega), hxl, Nat.add_sub_cancel_left]
   exact hu
 ·
  obtain ⟨ao, cap, e1, e2, e3⟩ := hv
  refine ⟨ao, cap, e1, e2, fun hp0 => ?_⟩
  obtain ⟨g, h4, h5, h6, h7⟩ := e3 hp0
  have hsz : g < (w.alloc tmp).heap.size := by simp; omega
  refine ⟨g, h4, Nat.lt_of_lt_of_le hsz k2.size, (ext_old h5).trans h6, fun i hi => ?_⟩
  by_cases hg : v.ownBlock = some g
  ·
   rcases k4 with k4 | ⟨_, k4⟩
   ·
    obtain ⟨s', c', rfl⟩ := owns_slice k1
    have hxk := (List.getElem?_eq_some_iff.1 (h2 i hi)).1
    obtain ⟨_, _, g', _, e', hcl, _⟩ := owns_cell k1 (by simp; omega)
    subst e'
    have : g' = g := Option.some.inj (k4.trans hg)
    subst this
    exact hcl _ _ (by rw [List.getElem?_append_left hxk]; exact h2 i hi)
   ·
    exact (World.cell?_of_block (w := w.alloc tmp) (k4.block g hsz (by simp))).trans (ca (h7 i hi))
  ·
   exact (World.cell?_of_block (w := w.alloc tmp) (k2.block g hsz (fun e => hg e.symm))).trans (ca (h7 i hi))
end
end Go.Proofs.Ytbmbfifempkhgaa

/- Small lemmas of this seat. No function in sight. -/
namespace Go.Proofs.Ytbmbfifempkhgaa
open Go.RowKit
theorem below_alloc (w : World) (x : Obj) : Below w.heap.size w (w.alloc x) := (Below.refl _ _).alloc (Nat.le_refl _) _
theorem Kept.of_below {B : Nat} {o : Col} {w0 w w' : World} (h : Kept B o w0 w) (c : Nat) (hb : Below w.heap.size w w') : Kept B (ext o w.heap.size c) w0 w' := h.turn (Turn.of_below o c hb) (fun h => h)
theorem Kept.drewN {B : Nat} {o : Col} {w0 w : World} (h : Kept B o w0 w) (m : Nat) : Kept B o w0 (w.drewN m) := h.turn (Turn.of_quiet o ⟨m, rfl⟩) (fun h => h)
theorem below_app {w w2 : World} {N e sz : Nat} {tmp : Obj} {v : Value} {n : Nat} {xs : List Value} (hi : w.ownsRow N e sz v n xs) (hg : (w.alloc tmp).grownBy w2 v.ownBlock) (hb : N ≤ w.heap.size) : Below N w w2 :=
 (((Mods.refl (fun k => v.ownBlock = some k) w).alloc tmp).grown hg (fun k hk _ => hk)).below hb fun k hk e => by have := (hi.lt k e).1; omega
theorem Has.drewN {w : World} {v : Value} {vs : List Value} (h : Has w v vs) (m : Nat) : Has (w.drewN m) v vs := Vals.drewN h m
def Tells (v : Value) (w : World) (e : Ending) (w' : World) : Prop := e = .returned v ∧ Below w.heap.size w w'
def SameW (v : Value) (w : World) (e : Ending) (w' : World) : Prop := e = .returned v ∧ w = w'
def Hush (v : Value) (w : World) (e : Ending) (w' : World) : Prop := e = .returned v ∧ ∃ m, w' = w.drewN m
theorem Hush.tells {v : Value} {w : World} {e : Ending} {w' : World} (h : Hush v w e w') : Tells v w e w' := by
 obtain ⟨rfl, m, rfl⟩ := h
 exact ⟨rfl, below_dr (Below.refl _ _)⟩
theorem SameW.tells {v : Value} {w : World} {e : Ending} {w' : World} (h : SameW v w e w') : Tells v w e w' := by
 obtain ⟨rfl, rfl⟩ := h
 exact ⟨rfl, Below.refl _ _⟩
end Go.Proofs.Ytbmbfifempkhgaa

/- What is wrong with a nest: as plain functions. No program in sight. -/
namespace Go.Proofs.Ytbmbfifempkhgaa
def nestE : Nest → Nat → Nat → Int × Nat
 | .nil, _, n => (0, n)
 | .cons t nd b r, d, n =>
  if 2048 ≤ n then (5, n)
  else if !b.isNil && decide (16 ≤ d) then (161, n)
  else if t < 1 then (160, n)
  else if !b.isNil && decide (nd ≠ 0) then (162, n)
  else if b.isNil && (decide (nd < 0) || decide (32 ≤ nd)) then (100, n)
  else if b.isNil then nestE r d (n + 1)
  else if (nestE b (d + 1) n).1 ≠ 0 then nestE b (d + 1) n else nestE r d (nestE b (d + 1) n).2
def oneE (t nd : Int) (b : Nest) (d n : Nat) : Int × Nat :=
 if 2048 ≤ n then (5, n)
 else if !b.isNil && decide (16 ≤ d) then (161, n)
 else if t < 1 then (160, n)
 else if !b.isNil && decide (nd ≠ 0) then (162, n)
 else if b.isNil && (decide (nd < 0) || decide (32 ≤ nd)) then (100, n)
 else if b.isNil then (0, n + 1)
 else nestE b (d + 1) n
theorem nestE_cons (t nd : Int) (b r : Nest) (d n : Nat) : nestE (.cons t nd b r) d n = if (oneE t nd b d n).1 ≠ 0 then oneE t nd b d n else nestE r d (oneE t nd b d n).2 := by
 unfold oneE
 rw [nestE]
 by_cases h1 : 2048 ≤ n
 ·
  rw [if_pos h1, if_pos h1]; simp
 rw [if_neg h1, if_neg h1]
 by_cases h2 : (!b.isNil && decide (16 ≤ d)) = true
 ·
  rw [if_pos h2, if_pos h2]; simp
 rw [if_neg h2, if_neg h2]
 by_cases h3 : t < 1
 ·
  rw [if_pos h3, if_pos h3]; simp
 rw [if_neg h3, if_neg h3]
 by_cases h4 : (!b.isNil && decide (nd ≠ 0)) = true
 ·
  rw [if_pos h4, if_pos h4]; simp
 rw [if_neg h4, if_neg h4]
 by_cases h5 : (b.isNil && (decide (nd < 0) || decide (32 ≤ nd))) = true
 ·
  rw [if_pos h5, if_pos h5]; simp
 rw [if_neg h5, if_neg h5]
 by_cases h6 : b.isNil = true
 ·
  rw [if_pos h6, if_pos h6]; simp
 rw [if_neg h6, if_neg h6]
def totalP : Nest → Int → Int
 | .nil, s => s
 | .cons t _ b r, s =>
  let n : Int := if b.isNil then 1 else totalP b 0
  if 2048 < t ∨ 2048 < n then 2049 else if 2048 < s + n * t then 2049 else totalP r (s + n * t)
def nestCheckE (l : Nest) : Int := if (nestE l 0 0).1 ≠ 0 then (nestE l 0 0).1 else if 2048 < totalP l 0 then 5 else 0
def Nest.drop : Nest → Nat → Nest
 | l, 0 => l
 | .nil, _ + 1 => .nil
 | .cons _ _ _ r, k + 1 => r.drop k
theorem drop_zero : ∀ l : Nest, l.drop 0 = l
 | .nil => rfl
 | .cons _ _ _ _ => rfl
theorem drop_items : ∀ (l : Nest) (k : Nat) (h : k < l.items.length), l.drop k = .cons (l.items[k]).1 (l.items[k]).2.1 (l.items[k]).2.2 (l.drop (k + 1))
 | .nil, k, h => by simp [Nest.items] at h
 | .cons t nd b r, 0, h => by simp [Nest.drop, Nest.items]
 | .cons t nd b r, k + 1, h => by
  have h' : k < r.items.length := by simpa [Nest.items] using h
  have := drop_items r k h'
  simpa [Nest.drop, Nest.items] using this
theorem drop_end : ∀ (l : Nest), l.drop l.items.length = .nil
 | .nil => rfl
 | .cons t nd b r => by simp [Nest.drop, Nest.items, drop_end r]
theorem isNil_len : ∀ (l : Nest), l.isNil = decide (l.items.length = 0)
 | .nil => rfl
 | .cons _ _ _ _ => by simp [Nest.isNil, Nest.items]
def NSized : Nest → Prop
 | .nil => True
 | .cons _ _ b r => NSized b ∧ NSized r ∧ r.items.length + 1 ≤ 17600000000000
theorem nsized_len : ∀ {l : Nest}, NSized l → l.items.length ≤ 17600000000000
 | .nil, _ => by simp [Nest.items]
 | .cons _ _ _ _, h => by simp only [Nest.items, List.length_cons]; exact h.2.2
theorem nsized_at : ∀ {l : Nest}, NSized l → ∀ x ∈ l.items, NSized x.2.2
 | .nil, _, x, hx => by simp [Nest.items] at hx
 | .cons _ _ _ _, h, x, hx => by
  simp only [Nest.items, List.mem_cons] at hx
  rcases hx with rfl | hx
  ·
   exact h.1
  ·
   exact nsized_at h.2.1 x hx
theorem nestE_le : ∀ (l : Nest) (d n : Nat), n ≤ 2048 → (nestE l d n).2 ≤ 2048
 | .nil, _, n, h => h
 | .cons t nd b r, d, n, h => by
  have hone : (oneE t nd b d n).2 ≤ 2048 := by
   unfold oneE
   by_cases h1 : 2048 ≤ n
   ·
    rw [if_pos h1]; exact h
   rw [if_neg h1]
   split
   ·
    exact h
   split
   ·
    exact h
   split
   ·
    exact h
   split
   ·
    exact h
   split
   ·
    show n + 1 ≤ 2048; omega
   ·
    exact nestE_le b (d + 1) n h
  rw [nestE_cons]
  split
  ·
   exact hone
  ·
   exact nestE_le r d _ hone
theorem oneE_le (t nd : Int) (b : Nest) (d n : Nat) (h : n ≤ 2048) : (oneE t nd b d n).2 ≤ 2048 := by
 unfold oneE
 by_cases h1 : 2048 ≤ n
 ·
  rw [if_pos h1]; exact h
 rw [if_neg h1]
 split
 ·
  exact h
 split
 ·
  exact h
 split
 ·
  exact h
 split
 ·
  exact h
 split
 ·
  show n + 1 ≤ 2048; omega
 ·
  exact nestE_le b (d + 1) n h
end Go.Proofs.Ytbmbfifempkhgaa

/- nest's checker: one. -/
namespace Go.Proofs.Ytbmbfifempkhgaa
open Go.RowKit
def NRet (w : World) (o : Col) (K : Nat) (r : Int × Nat) (e : Ending) (w' : World) : Prop := e = .returned (.int .i64 r.1) ∧ ∃ o', Turn o o' (fun x => x = 1) w w' ∧ Blk w' o' 1 K 145 #[.int .i64 r.2]
def RowOk (D : Nat) : Prop := ∀ (w0 w : World) (o : Col) (K : Nat) (v : Value) (l : Nest) (dep n : Nat), HasNestD D w0 v l → NSized l → Kept w0.heap.size o w0 w → Blk w o 1 K 145 #[.int .i64 n] → n ≤ 2048 → dep ≤ 16 →
 Calls Try.prog 77 #[.pointer (some ⟨K, 0, none⟩), v, .int .i64 dep] w (NRet w o K (nestE l dep n))
set_option maxRecDepth 100000 in
set_option maxHeartbeats 1000000 in
theorem none_of {D : Nat} (hrow : RowOk D) (w0 w : World) (o : Col) (K : Nat) (v : Value) (t nd : Int) (b : Nest) (dep n : Nat) (hv : HasNestD D w0 v b) (hl : NSized b) (hk : Kept w0.heap.size o w0 w) (hb : Blk w o 1 K 145 #[.int .i64 n]) (hn : n ≤ 2048) (hd : dep ≤ 16) :
  Calls Try.prog 101 #[.pointer (some ⟨K, 0, none⟩), .agg #[.int .i64 t, .int .i64 nd, v], .int .i64 dep] w (NRet w o K (oneE t nd b dep n)) := by
 obtain ⟨ao, cap, rfl⟩ := nestD_slice D hv
 have hbX := below_alloc w (.cells #[.int .i64 t, .int .i64 nd, .slice ao b.items.length cap] 51)
 have hX := heap_alloc_new w (.cells #[.int .i64 t, .int .i64 nd, .slice ao b.items.length cap] 51)
 have hK1 := hb.turn (Turn.of_below o 7 hbX) (fun h => h)
 have hnil := isNil_len b
 have HT := Lib.hid ((Turn.of_below o 7 hbX).mono (D := fun x => x = 1) (fun _ h => h.elim))
 have HKe := Lib.hid (hk.of_below 7 hbX)
 have HK1 := Lib.hid hK1
 have HV := Lib.hid hv
 have HROW := Lib.hid hrow
 have HL := Lib.hid hl
 have x0 := cells_row _ _ hX 0 _ rfl
 have x1 := cells_row _ _ hX 1 _ rfl
 have x2 := cells_row _ _ hX 2 _ rfl
 have k0 := hK1.cell 0 _ rfl
 have kf := hK1.frozen 0
 obtain ⟨r, hr⟩ : ∃ r, oneE t nd b dep n = r := ⟨_, rfl⟩
 rw [hr]
 unfold oneE at hr
 have hrow1 := Lib.hid (fun o' (h1 : Kept w0.heap.size o' w0 (w.alloc (.cells #[.int .i64 t, .int .i64 nd, .slice ao b.items.length cap] 51))) h2 h3 => HROW.out w0 _ o' K (.slice ao b.items.length cap) b (dep + 1) n hv hl h1 h2 hn h3)
 clear hbX hX hb hK1 hk hv hrow hl HV HL
 generalize hm : b.items.length = m at *
 have hni : (n : Int) ≤ 2048 := by omega
 by_cases h1 : 2048 ≤ n
 ·
  have h1i : (2048 : Int) ≤ n := by omega
  rw [if_pos h1] at hr
  subst hr
  go_enter Try.func101, Try.ntmps101
  go_wp2
  go_ret
  exact ⟨rfl, _, HT.out, HK1.out⟩
 have h1i : ¬ (2048 : Int) ≤ n := by omega
 rw [if_neg h1] at hr
 by_cases hz : m = 0
 ·
  -- a leaf
  subst hz
  rw [hnil] at hr
  simp only [decide_true, Bool.not_true, Bool.false_and, Bool.true_and] at hr
  rw [if_neg (by simp)] at hr
  by_cases h3 : t < 1
  ·
   rw [if_pos h3] at hr
   subst hr
   go_enter Try.func101, Try.ntmps101
   go_wp2
   go_ret
   exact ⟨rfl, _, HT.out, HK1.out⟩
  rw [if_neg h3, if_neg (by simp)] at hr
  by_cases h5 : nd < 0
  ·
   have : (decide (nd < 0) || decide (32 ≤ nd)) = true := by simp [h5]
   rw [if_pos this] at hr
   subst hr
   go_enter Try.func101, Try.ntmps101
   go_wp2
   go_ret
   exact ⟨rfl, _, HT.out, HK1.out⟩
  by_cases h6 : 32 ≤ nd
  ·
   have : (decide (nd < 0) || decide (32 ≤ nd)) = true := by simp [h6]
   rw [if_pos this] at hr
   subst hr
   go_enter Try.func101, Try.ntmps101
   go_wp2
   go_ret
   exact ⟨rfl, _, HT.out, HK1.out⟩
  have : (decide (nd < 0) || decide (32 ≤ nd)) = false := by simp; omega
  rw [this, if_neg (by simp), if_pos (by simp)] at hr
  subst hr
  have HSET := Lib.hid (HK1.out.set 0 (.int .i64 ((n : Int) + 1)))
  go_enter Try.func101, Try.ntmps101
  go_wp2
  go_ret
  exact ⟨rfl, _, HT.out.trans HSET.out.2 (fun x e => e), HSET.out.1⟩
 ·
  -- a body
  have hzi : ((m : Int) == 0) = false := by rw [beq_eq_false_iff_ne]; omega
  rw [hnil, decide_eq_false hz] at hr
  simp only [Bool.not_false, Bool.true_and, Bool.false_and] at hr
  by_cases h2 : 16 ≤ dep
  ·
   have h2i : (16 : Int) ≤ dep := by omega
   rw [if_pos (by simpa using h2)] at hr
   subst hr
   go_enter Try.func101, Try.ntmps101
   go_wp2
   go_ret
   exact ⟨rfl, _, HT.out, HK1.out⟩
  have h2i : ¬ (16 : Int) ≤ dep := by omega
  rw [if_neg (by simpa using h2)] at hr
  by_cases h3 : t < 1
  ·
   rw [if_pos h3] at hr
   subst hr
   go_enter Try.func101, Try.ntmps101
   go_wp2
   go_ret
   exact ⟨rfl, _, HT.out, HK1.out⟩
  rw [if_neg h3] at hr
  by_cases h4 : nd = 0
  ·
   rw [if_neg (by simpa using h4), if_neg (by simp), if_neg (by simp)] at hr
   subst hr
   subst h4
   go_enter Try.func101, Try.ntmps101
   go_wp2_with fail
   have hc : (((dep + 1 : Nat)) : Int) = (dep : Int) + 1 := by omega
   have hcall := hrow1.out _ HKe.out HK1.out (by omega)
   rw [hc] at hcall
   refine hcall.mono ?_
   rintro e w4 ⟨rfl, o4, T4, hK4⟩
   have HT4 := Lib.hid (HT.out.trans T4 (fun _ h => h))
   have HK4 := Lib.hid hK4
   clear T4 hK4 hcall
   go_wp2
   go_ret
   exact ⟨rfl, _, HT4.out, HK4.out⟩
  ·
   have h4i : (nd == 0) = false := by simpa using h4
   rw [if_pos (by simpa using h4)] at hr
   subst hr
   go_enter Try.func101, Try.ntmps101
   go_wp2
   go_ret
   exact ⟨rfl, _, HT.out, HK1.out⟩
end Go.Proofs.Ytbmbfifempkhgaa

/- nest's checker: row. -/
namespace Go.Proofs.Ytbmbfifempkhgaa
open Go.RowKit
set_option maxRecDepth 100000 in
theorem nrow_zero : RowOk 0 := by
 intro w0 w o K v l dep n hv hs hk hb hn hd
 obtain ⟨rfl, ao, cap, rfl⟩ := hv
 have HT := Lib.hid (Turn.refl o (fun x => x = 1) w)
 have HB := Lib.hid hb
 clear hk hb hs
 go_enter Try.func77, Try.ntmps77
 go_wp2_with fail
 go_loopw [12] (fun i wr => i = .int .i64 0 ∧ wr = w) (fun _ _ => 0)
 case atStart => exact ⟨rfl, rfl⟩
 case round =>
  obtain ⟨rfl, rfl⟩ := hrel
  go_wp2
  go_ret
  exact ⟨rfl, _, HT.out, HB.out⟩
set_option maxRecDepth 100000 in
set_option maxHeartbeats 1000000 in
theorem nrow_succ {D : Nat} (hrow : RowOk D) : RowOk (D + 1) := by
 intro w0 w o K v l dep n hv hs hk hb hn hd
 have hv' : Recs w0 3 (fun w x cs => ∃ y, cs = [.int .i64 x.1, .int .i64 x.2.1, y] ∧ HasNestD D w y x.2.2) v l.items := hv
 obtain ⟨ao, cap, rfl⟩ := hv'.slice
 obtain ⟨r, hr⟩ : ∃ r, nestE l dep n = r := ⟨_, rfl⟩
 rw [hr]
 have HE := Lib.hid (show nestE (l.drop 0) dep n = r by rw [drop_zero]; exact hr)
 have HV := Lib.hid hv'
 have HS := Lib.hid hs
 have HL := Lib.hid (nsized_len hs)
 have HROW := Lib.hid hrow
 have HT0 := Lib.hid (Turn.refl o (fun x => x = 1) w)
 have HK0 := Lib.hid hk
 have HB0 := Lib.hid hb
 have hdi : (dep : Int) ≤ 16 := by omega
 clear hv hv' hs hk hb hrow hr
 go_enter Try.func77, Try.ntmps77
 go_wp2_with fail
 go_loopw [12] (fun i wr => ∃ (j : Nat) (q : Col) (m : Nat), j ≤ l.items.length ∧ i = .int .i64 j ∧ Kept w0.heap.size q w0 wr ∧ Turn o q (fun x => x = 1) w wr ∧ Blk wr q 1 K 145 #[.int .i64 m] ∧ m ≤ 2048 ∧ nestE (l.drop j) dep m = r) (fun i _ => l.items.length - (intOf i).toNat)
 case atStart => exact ⟨0, o, n, Nat.zero_le _, rfl, HK0.out, HT0.out, HB0.out, hn, HE.out⟩
 case round =>
  clear HK0 HT0 HB0 HE
  obtain ⟨j, q, m, hj, rfl, hK, hT, hB, hm, hE⟩ := hrel
  have HK := Lib.hid hK
  have HT := Lib.hid hT
  have HB := Lib.hid hB
  have HE := Lib.hid hE
  clear hK hT hB hE
  by_cases hlt : j < l.items.length
  ·
   have hlti : (j : Int) < l.items.length := by omega
   obtain ⟨b0, off, rfl, hcap, hb0, hrec⟩ := HV.out.at (by omega)
   obtain ⟨cs, hcs, hPR, hcl⟩ := hrec j hlt
   obtain ⟨y, rfl, hy⟩ := hPR
   have c0 := cell_later HK.out.below (hcl 0 (by omega))
   have c1 := cell_later HK.out.below (hcl 1 (by omega))
   have c2 := cell_later HK.out.below (hcl 2 (by omega))
   simp at c0 c1 c2
   have hcapi : (l.items.length : Int) ≤ cap := by omega
   have hEc := HE.out
   rw [drop_items l j hlt, nestE_cons] at hEc
   have HEC := Lib.hid hEc
   have HY := Lib.hid hy
   have HSb := Lib.hid (nsized_at HS.out _ (List.getElem_mem hlt))
   obtain ⟨ya, yc, hys⟩ := nestD_slice D hy
   subst hys
   clear hcl hcs hrec hEc hy HE
   generalize (l.items[j]).1 = t at *
   generalize (l.items[j]).2.1 = nd at *
   generalize (l.items[j]).2.2 = b at *
   have hbX := below_alloc wr (.cells #[.int .i64 t, .int .i64 nd, .slice ya b.items.length yc] 51)
   have HK2 := Lib.hid (HK.out.of_below 8 hbX)
   have HT2 := Lib.hid (HT.out.trans ((Turn.of_below q 8 hbX).mono (D := fun x => x = 1) (fun _ h => h.elim)) (fun _ h => h))
   have HB2 := Lib.hid (HB.out.turn (Turn.of_below q 8 hbX) (fun h => h))
   clear hbX HK HT HB
   go_wp2_with fail
   refine (none_of HROW.out w0 _ _ K _ t nd b dep m HY.out HSb.out HK2.out HB2.out hm hd).mono ?_
   rintro e w4 ⟨rfl, o4, T4, hB4⟩
   have HK4 := Lib.hid (HK2.out.turn T4 (by decide))
   have HT4 := Lib.hid (HT2.out.trans T4 (fun _ h => h))
   have HB4 := Lib.hid hB4
   have HLE := Lib.hid (oneE_le t nd b dep m hm)
   clear T4 hB4 HK2 HT2 HB2 c0 c1 c2
   obtain ⟨x, hx⟩ : ∃ x, oneE t nd b dep m = x := ⟨_, rfl⟩
   rw [hx] at HEC HB4 HLE ⊢
   obtain ⟨x1, x2⟩ := x
   clear hx
   by_cases h0 : x1 = 0
   ·
    subst h0
    rw [if_neg (by simp)] at HEC
    have hll := HL.out
    go_wp2
    go_roundw
    case rel => exact ⟨j + 1, o4, x2, hlt, by go_num, HK4.out, HT4.out, HB4.out, HLE.out, HEC.out⟩
    case measure => simp [intOf]; omega
   ·
    rw [if_pos (by simpa using h0)] at HEC
    have e := HEC.out
    subst e
    go_wp2
    go_ret
    exact ⟨rfl, _, HT4.out, HB4.out⟩
  ·
   obtain rfl : j = l.items.length := by omega
   have e := HE.out
   rw [drop_end] at e
   subst e
   go_wp2
   go_ret
   exact ⟨rfl, _, HT.out, HB.out⟩
theorem nrow_any : ∀ D, RowOk D
 | 0 => nrow_zero
 | D + 1 => nrow_succ (nrow_any D)
end Go.Proofs.Ytbmbfifempkhgaa

/- nest's total, and Check. -/
namespace Go.Proofs.Ytbmbfifempkhgaa
open Go.RowKit
def TimesOk : Nest → Prop
 | .nil => True
 | .cons t _ b r => 1 ≤ t ∧ TimesOk b ∧ TimesOk r
theorem times_of : ∀ (l : Nest) (d n : Nat), (nestE l d n).1 = 0 → TimesOk l
 | .nil, _, _, _ => trivial
 | .cons t nd b r, d, n, h => by
  rw [nestE_cons] at h
  by_cases h0 : (oneE t nd b d n).1 = 0
  ·
   rw [if_neg (by simpa using h0)] at h
   have ih := times_of r d _ h
   unfold oneE at h0
   split at h0
   ·
    cases h0
   split at h0
   ·
    cases h0
   split at h0
   ·
    cases h0
   split at h0
   ·
    cases h0
   split at h0
   ·
    cases h0
   split at h0
   ·
    rename_i hn
    have hb : TimesOk b := by cases b with | nil => trivial | cons _ _ _ _ => cases hn
    exact ⟨by omega, hb, ih⟩
   ·
    exact ⟨by omega, times_of b (d + 1) n h0, ih⟩
  ·
   rw [if_pos (by simpa using h0)] at h
   exact absurd h h0
theorem times_at : ∀ {l : Nest}, TimesOk l → ∀ x ∈ l.items, 1 ≤ x.1 ∧ TimesOk x.2.2
 | .nil, _, x, hx => by simp [Nest.items] at hx
 | .cons _ _ _ _, h, x, hx => by
  simp only [Nest.items, List.mem_cons] at hx
  rcases hx with rfl | hx
  ·
   exact ⟨h.1, h.2.1⟩
  ·
   exact times_at h.2.2 x hx
theorem prod_b {n t : Int} (h1 : 0 ≤ n) (h2 : n ≤ 2048) (h3 : 1 ≤ t) (h4 : t ≤ 2048) : 0 ≤ n * t ∧ n * t ≤ 4194304 := by
 have := Int.mul_nonneg h1 (show 0 ≤ t by omega)
 have h5 : n * t ≤ 2048 * 2048 := Int.mul_le_mul h2 h4 (by omega) (by omega)
 omega
theorem total_b : ∀ (l : Nest) (s : Int), TimesOk l → 0 ≤ s → s ≤ 2048 → 0 ≤ totalP l s ∧ totalP l s ≤ 2049
 | .nil, s, _, h1, h2 => by simp only [totalP]; omega
 | .cons t _ b r, s, h, h1, h2 => by
  have hn : 0 ≤ (if b.isNil then (1 : Int) else totalP b 0) ∧ (if b.isNil then (1 : Int) else totalP b 0) ≤ 2049 := by
   split
   ·
    omega
   ·
    exact total_b b 0 h.2.1 (by omega) (by omega)
  simp only [totalP]
  generalize (if b.isNil then (1 : Int) else totalP b 0) = n at *
  split
  ·
   omega
  ·
   rename_i h3
   have hp := prod_b hn.1 (by omega) h.1 (by omega : t ≤ 2048)
   split
   ·
    omega
   ·
    exact total_b r _ h.2.2 (by omega) (by omega)
theorem totalP_cons (t nd : Int) (b r : Nest) (s n : Int) (hn : (if b.isNil then (1 : Int) else totalP b 0) = n) : totalP (.cons t nd b r) s = if 2048 < t ∨ 2048 < n then 2049 else if 2048 < s + n * t then 2049 else totalP r (s + n * t) := by
 rw [totalP, hn]
def TotalOk (D : Nat) : Prop := ∀ (w : World) (v : Value) (l : Nest), HasNestD D w v l → NSized l → TimesOk l → Calls Try.prog 70 #[v] w (Tells (.int .i64 (totalP l 0)) w)
set_option maxRecDepth 100000 in
theorem ntotal_zero : TotalOk 0 := by
 intro w v l hv hs ht
 obtain ⟨rfl, ao, cap, rfl⟩ := hv
 clear hs ht
 go_enter Try.func70, Try.ntmps70
 go_wp2_with fail
 go_loopw [3, 9] (fun s i wr => i = .int .i64 0 ∧ s = .int .i64 0 ∧ wr = w) (fun _ _ _ => 0)
 case atStart => exact ⟨rfl, rfl, rfl⟩
 case round =>
  obtain ⟨rfl, rfl, rfl⟩ := hrel
  go_wp2
  go_ret
  exact ⟨rfl, Below.refl _ _⟩
set_option maxRecDepth 100000 in
set_option maxHeartbeats 1000000 in
theorem ntotal_succ {D : Nat} (htot : TotalOk D) : TotalOk (D + 1) := by
 intro w v l hv hs ht
 have hv' : Recs w 3 (fun w x cs => ∃ y, cs = [.int .i64 x.1, .int .i64 x.2.1, y] ∧ HasNestD D w y x.2.2) v l.items := hv
 obtain ⟨ao, cap, rfl⟩ := hv'.slice
 obtain ⟨r, hr⟩ : ∃ r, totalP l 0 = r := ⟨_, rfl⟩
 rw [hr]
 have HE := Lib.hid (show totalP (l.drop 0) 0 = r by rw [drop_zero]; exact hr)
 have HV := Lib.hid hv'
 have HS := Lib.hid hs
 have HTM := Lib.hid ht
 have HL := Lib.hid (nsized_len hs)
 have HTOT := Lib.hid htot
 clear hv hv' hs ht htot hr
 go_enter Try.func70, Try.ntmps70
 go_wp2_with fail
 go_loopw [3, 9] (fun sv i wr => ∃ (j : Nat) (s : Int), j ≤ l.items.length ∧ i = .int .i64 j ∧ sv = .int .i64 s ∧ 0 ≤ s ∧ s ≤ 2048 ∧ Below w.heap.size w wr ∧ totalP (l.drop j) s = r) (fun _ i _ => l.items.length - (intOf i).toNat)
 case atStart => exact ⟨0, 0, Nat.zero_le _, rfl, rfl, by omega, by omega, Below.refl _ _, HE.out⟩
 case round =>
  clear HE
  obtain ⟨j, s, hj, rfl, rfl, hs0, hs1, hb, hE⟩ := hrel
  have HB := Lib.hid hb
  have HE := Lib.hid hE
  clear hb hE
  by_cases hlt : j < l.items.length
  ·
   have hlti : (j : Int) < l.items.length := by omega
   obtain ⟨b0, off, rfl, hcap, hb0, hrec⟩ := HV.out.at (by omega)
   obtain ⟨cs, hcs, hPR, hcl⟩ := hrec j hlt
   obtain ⟨y, rfl, hy⟩ := hPR
   have c0 := cell_later HB.out (hcl 0 (by omega))
   have c1 := cell_later HB.out (hcl 1 (by omega))
   have c2 := cell_later HB.out (hcl 2 (by omega))
   simp at c0 c1 c2
   have hcapi : (l.items.length : Int) ≤ cap := by omega
   have hEc := HE.out
   rw [drop_items l j hlt] at hEc
   have HEC := Lib.hid hEc
   have HY := Lib.hid hy
   have HSb := Lib.hid (nsized_at HS.out _ (List.getElem_mem hlt))
   have hta := times_at HTM.out _ (List.getElem_mem hlt)
   obtain ⟨ya, yc, hys⟩ := nestD_slice D hy
   subst hys
   clear hcl hcs hrec hEc hy HE
   generalize (l.items[j]).1 = t at *
   generalize (l.items[j]).2.1 = nd at *
   generalize (l.items[j]).2.2 = b at *
   obtain ⟨ht1, htb⟩ := hta
   have HTB := Lib.hid htb
   have hbX := below_alloc wr (.cells #[.int .i64 t, .int .i64 nd, .slice ya b.items.length yc] 51)
   have HBX := Lib.hid (HB.out.trans (hbX.mono HB.out.size))
   have hX := heap_alloc_new wr (.cells #[.int .i64 t, .int .i64 nd, .slice ya b.items.length yc] 51)
   have x0 := cells_row _ _ hX 0 _ rfl
   have x2 := cells_row _ _ hX 2 _ rfl
   have hnil := isNil_len b
   generalize hm : b.items.length = m at *
   by_cases hz : m = 0
   ·
    subst hz
    have HN1 := Lib.hid (show (if b.isNil then (1 : Int) else totalP b 0) = 1 by rw [hnil]; rfl)
    clear hbX hX HTB htb
    by_cases h1 : 2048 < t
    ·
     have e : r = 2049 := by rw [← HEC.out, totalP_cons t nd b _ s 1 HN1.out, if_pos (.inl h1)]
     subst e
     go_wp2
     go_ret
     exact ⟨rfl, HBX.out⟩
    have hr2 := HEC.out
    rw [totalP_cons t nd b _ s 1 HN1.out, if_neg (by omega), Int.one_mul] at hr2
    have HR2 := Lib.hid hr2
    clear hr2
    by_cases h3 : 2048 < s + t
    ·
     have e : r = 2049 := by rw [← HR2.out, if_pos h3]
     subst e
     go_wp2
     go_ret
     exact ⟨rfl, HBX.out⟩
    ·
     have HR3 := Lib.hid (show totalP (l.drop (j + 1)) (s + t) = r by rw [← HR2.out, if_neg h3])
     have hll := HL.out
     go_wp2
     go_roundw
     case rel => exact ⟨j + 1, s + t, hlt, by go_num, rfl, by omega, by omega, HBX.out, HR3.out⟩
     case measure => simp [intOf]; omega
   ·
    have hzi : (0 : Int) < m := by omega
    have HN1 := Lib.hid (show (if b.isNil then (1 : Int) else totalP b 0) = totalP b 0 by rw [hnil, decide_eq_false hz]; rfl)
    obtain ⟨tn0, tn1⟩ := total_b b 0 HTB.out (by omega) (by omega)
    go_wp2_with fail
    refine (HTOT.out _ _ b (nestD_below D HY.out HBX.out) HSb.out HTB.out).mono ?_
    rintro e w4 ⟨rfl, hb4⟩
    have HB4 := Lib.hid (HBX.out.trans (hb4.mono HBX.out.size))
    have hX4 := block_mods hX (Mods.of_below hb4 (fun _ => False)) (fun h => h)
    have x0 := cells_row _ _ hX4 0 _ rfl
    clear hbX hX hX4 hb4 HTB htb x2
    obtain ⟨n, hne⟩ : ∃ n, totalP b 0 = n := ⟨_, rfl⟩
    have HN2 := Lib.hid (HN1.out.trans hne)
    rw [hne] at tn0 tn1 ⊢
    clear hne HN1
    by_cases h1 : 2048 < t
    ·
     have e : r = 2049 := by rw [← HEC.out, totalP_cons t nd b _ s n HN2.out, if_pos (.inl h1)]
     subst e
     go_wp2
     go_ret
     exact ⟨rfl, HB4.out⟩
    by_cases h2 : 2048 < n
    ·
     have e : r = 2049 := by rw [← HEC.out, totalP_cons t nd b _ s n HN2.out, if_pos (.inr h2)]
     subst e
     go_wp2
     go_ret
     exact ⟨rfl, HB4.out⟩
    have hp := prod_b (n := n) (t := t) (by omega) (by omega) ht1 (by omega)
    have hr2 := HEC.out
    rw [totalP_cons t nd b _ s n HN2.out, if_neg (by omega)] at hr2
    obtain ⟨p, hpe⟩ : ∃ p, n * t = p := ⟨_, rfl⟩
    rw [hpe] at hp hr2
    have hwm : wrap64 (n * t) = p := by rw [hpe]; exact IntWalk.wrap64_in _ (by omega)
    have HR2 := Lib.hid hr2
    clear hpe hr2
    by_cases h3 : 2048 < s + p
    ·
     have e : r = 2049 := by rw [← HR2.out, if_pos h3]
     subst e
     go_wp2
     go_ret
     exact ⟨rfl, HB4.out⟩
    ·
     have HR3 := Lib.hid (show totalP (l.drop (j + 1)) (s + p) = r by rw [← HR2.out, if_neg h3])
     have hll := HL.out
     go_wp2
     go_roundw
     case rel => exact ⟨j + 1, s + p, hlt, by go_num, rfl, by omega, by omega, HB4.out, HR3.out⟩
     case measure => simp [intOf]; omega
  ·
   obtain rfl : j = l.items.length := by omega
   have e := HE.out
   rw [drop_end, totalP] at e
   subst e
   go_wp2
   go_ret
   exact ⟨rfl, HB.out⟩
theorem ntotal_any : ∀ D, TotalOk D
 | 0 => ntotal_zero
 | D + 1 => ntotal_succ (ntotal_any D)
end Go.Proofs.Ytbmbfifempkhgaa

/- emit's strange. -/
namespace Go.Proofs.Ytbmbfifempkhgaa
open Go.RowKit
def strangeP : Nest → Int → Bool
 | .nil, _ => false
 | .cons _ nd b r, a => (b.isNil && decide (a ≤ nd)) || strangeP b a || strangeP r a
def StrangeOk (D : Nat) : Prop := ∀ (w : World) (v : Value) (l : Nest) (a : Int), HasNestD D w v l → NSized l → Calls Try.prog 41 #[v, .int .i64 a] w (Tells (.bool (strangeP l a)) w)
set_option maxRecDepth 100000 in
theorem strange_zero : StrangeOk 0 := by
 intro w v l a hv hs
 obtain ⟨rfl, ao, cap, rfl⟩ := hv
 clear hs
 go_enter Try.func41, Try.ntmps41
 go_wp2_with fail
 go_loopw [9] (fun i wr => i = .int .i64 0 ∧ wr = w) (fun _ _ => 0)
 case atStart => exact ⟨rfl, rfl⟩
 case round =>
  obtain ⟨rfl, rfl⟩ := hrel
  go_wp2
  go_ret
  exact ⟨rfl, Below.refl _ _⟩
set_option maxRecDepth 100000 in
set_option maxHeartbeats 1000000 in
theorem strange_succ {D : Nat} (hstr : StrangeOk D) : StrangeOk (D + 1) := by
 intro w v l a hv hs
 have hv' : Recs w 3 (fun w x cs => ∃ y, cs = [.int .i64 x.1, .int .i64 x.2.1, y] ∧ HasNestD D w y x.2.2) v l.items := hv
 obtain ⟨ao, cap, rfl⟩ := hv'.slice
 obtain ⟨r, hr⟩ : ∃ r, strangeP l a = r := ⟨_, rfl⟩
 rw [hr]
 have HE := Lib.hid (show strangeP (l.drop 0) a = r by rw [drop_zero]; exact hr)
 have HV := Lib.hid hv'
 have HS := Lib.hid hs
 have HL := Lib.hid (nsized_len hs)
 have HSTR := Lib.hid hstr
 clear hv hv' hs hstr hr
 go_enter Try.func41, Try.ntmps41
 go_wp2_with fail
 go_loopw [9] (fun i wr => ∃ (j : Nat), j ≤ l.items.length ∧ i = .int .i64 j ∧ Below w.heap.size w wr ∧ strangeP (l.drop j) a = r) (fun i _ => l.items.length - (intOf i).toNat)
 case atStart => exact ⟨0, Nat.zero_le _, rfl, Below.refl _ _, HE.out⟩
 case round =>
  clear HE
  obtain ⟨j, hj, rfl, hb, hE⟩ := hrel
  have HB := Lib.hid hb
  have HE := Lib.hid hE
  clear hb hE
  by_cases hlt : j < l.items.length
  ·
   have hlti : (j : Int) < l.items.length := by omega
   obtain ⟨b0, off, rfl, hcap, hb0, hrec⟩ := HV.out.at (by omega)
   obtain ⟨cs, hcs, hPR, hcl⟩ := hrec j hlt
   obtain ⟨y, rfl, hy⟩ := hPR
   have c0 := cell_later HB.out (hcl 0 (by omega))
   have c1 := cell_later HB.out (hcl 1 (by omega))
   have c2 := cell_later HB.out (hcl 2 (by omega))
   simp at c0 c1 c2
   have hcapi : (l.items.length : Int) ≤ cap := by omega
   have hEc := HE.out
   rw [drop_items l j hlt] at hEc
   have HEC := Lib.hid hEc
   have HY := Lib.hid hy
   have HSb := Lib.hid (nsized_at HS.out _ (List.getElem_mem hlt))
   obtain ⟨ya, yc, hys⟩ := nestD_slice D hy
   subst hys
   clear hcl hcs hrec hEc hy HE
   generalize (l.items[j]).1 = t at *
   generalize (l.items[j]).2.1 = nd at *
   generalize (l.items[j]).2.2 = b at *
   have hbX := below_alloc wr (.cells #[.int .i64 t, .int .i64 nd, .slice ya b.items.length yc] 51)
   have HBX := Lib.hid (HB.out.trans (hbX.mono HB.out.size))
   have hX := heap_alloc_new wr (.cells #[.int .i64 t, .int .i64 nd, .slice ya b.items.length yc] 51)
   have x1 := cells_row _ _ hX 1 _ rfl
   have x2 := cells_row _ _ hX 2 _ rfl
   have hnil := isNil_len b
   generalize hm : b.items.length = m at *
   clear hbX hX
   by_cases hz : m = 0
   ·
    subst hz
    have HNL := Lib.hid (show b.isNil = true by rw [hnil]; rfl)
    clear hnil
    by_cases h1 : a ≤ nd
    ·
     have e : r = true := by rw [← HEC.out, strangeP]; simp [HNL.out, h1]
     subst e
     go_wp2
     go_ret
     exact ⟨rfl, HBX.out⟩
    ·
     have HN1 := Lib.hid (decide_eq_false h1)
     go_wp2_with fail
     refine (HSTR.out _ _ b a (nestD_below D HY.out HBX.out) HSb.out).mono ?_
     rintro e w4 ⟨rfl, hb4⟩
     have HB4 := Lib.hid (HBX.out.trans (hb4.mono HBX.out.size))
     clear hb4
     obtain ⟨sb, hsb⟩ : ∃ x, strangeP b a = x := ⟨_, rfl⟩
     rw [hsb]
     have HSB := Lib.hid hsb
     clear hsb
     cases sb with
     | true =>
      have e : r = true := by rw [← HEC.out, strangeP]; simp [HSB.out]
      subst e
      go_wp2
      go_ret
      exact ⟨rfl, HB4.out⟩
     | false =>
      have HR3 := Lib.hid (show strangeP (l.drop (j + 1)) a = r by rw [← HEC.out, strangeP, HSB.out]; simp only [HNL.out, HN1.out, Bool.and_false, Bool.false_or, Bool.or_false])
      have hll := HL.out
      go_wp2
      go_roundw
      case rel => exact ⟨j + 1, hlt, by go_num, HB4.out, HR3.out⟩
      case measure => simp [intOf]; omega
   ·
    have hzi : ((m : Int) == 0) = false := by rw [beq_eq_false_iff_ne]; omega
    have HNL := Lib.hid (show b.isNil = false by rw [hnil, decide_eq_false hz])
    clear hnil
    go_wp2_with fail
    refine (HSTR.out _ _ b a (nestD_below D HY.out HBX.out) HSb.out).mono ?_
    rintro e w4 ⟨rfl, hb4⟩
    have HB4 := Lib.hid (HBX.out.trans (hb4.mono HBX.out.size))
    clear hb4
    obtain ⟨sb, hsb⟩ : ∃ x, strangeP b a = x := ⟨_, rfl⟩
    rw [hsb]
    have HSB := Lib.hid hsb
    clear hsb
    cases sb with
    | true =>
     have e : r = true := by rw [← HEC.out, strangeP]; simp [HSB.out]
     subst e
     go_wp2
     go_ret
     exact ⟨rfl, HB4.out⟩
    | false =>
     have HR3 := Lib.hid (show strangeP (l.drop (j + 1)) a = r by rw [← HEC.out, strangeP, HSB.out]; simp only [HNL.out, Bool.false_and, Bool.false_or, Bool.or_false])
     have hll := HL.out
     go_wp2
     go_roundw
     case rel => exact ⟨j + 1, hlt, by go_num, HB4.out, HR3.out⟩
     case measure => simp [intOf]; omega
  ·
   obtain rfl : j = l.items.length := by omega
   have e := HE.out
   rw [drop_end, strangeP] at e
   subst e
   go_wp2
   go_ret
   exact ⟨rfl, HB.out⟩
theorem strange_any : ∀ D, StrangeOk D
 | 0 => strange_zero
 | D + 1 => strange_succ (strange_any D)
end Go.Proofs.Ytbmbfifempkhgaa

/- Two lists compared. -/
namespace Go.Proofs.Ytbmbfifempkhgaa
open Go.RowKit
def Quiet (v : Value) (w : World) (e : Ending) (w' : World) : Prop := e = .returned v ∧ ∃ m, w' = w.drewN m
theorem ints_no {l l2 : List Int} {k : Nat} (_hk : k < l.length) (_hk2 : k < l2.length) (h : ¬ l[k]?.getD 0 = l2[k]?.getD 0) : decide (l = l2) = false := decide_eq_false fun e => h (by rw [e])
theorem ints_yes {l l2 : List Int} (hl : l.length = l2.length) (h : ∀ k, k < l.length → l[k]?.getD 0 = l2[k]?.getD 0) : decide (l = l2) = true := by
 refine decide_eq_true (List.ext_getElem hl fun k h1 h2 => ?_)
 have := h k h1
 simpa [h1, h2] using this
set_option maxHeartbeats 1000000 in
theorem sameints_some (w : World) (b off c b' off' c' : Nat) (l l2 : List Int) (hl2 : l2.length = l.length) (hl : l.length ≤ 4611686018427387904) (h1 : ∀ k, k < l.length → w.cell? ⟨b, off + k, none⟩ = some (iv (l[k]?.getD 0))) (h2 : ∀ k, k < l.length → w.cell? ⟨b', off' + k, none⟩ = some (iv (l2[k]?.getD 0))) :
  Calls Try.prog 31 #[.slice (some ⟨b, off, none⟩) l.length c, .slice (some ⟨b', off', none⟩) l.length c'] w (Quiet (.bool (decide (l = l2))) w) := by
 have H1 := Lib.hid h1
 have H2 := Lib.hid h2
 have HL := Lib.hid hl2
 clear h1 h2 hl2
 go_enter Try.func31, Try.ntmps31
 go_wp2
 go_loopw [5] (fun i wr => ∃ k : Nat, k ≤ l.length ∧ i = .int .i64 k ∧ (∀ j, j < k → l[j]?.getD 0 = l2[j]?.getD 0) ∧ ∃ m, wr = w.drewN m) (fun i _ => l.length - (intOf i).toNat)
 case atStart => exact ⟨0, Nat.zero_le _, rfl, fun j hj => by omega, 0, rfl⟩
 case round =>
  obtain ⟨k, hk, rfl, hall, m, rfl⟩ := hrel
  have HA := Lib.hid hall
  clear hall
  by_cases hlt : k < l.length
  ·
   have c1 := H1.out k hlt
   have c2 := H2.out k hlt
   have hlti : (k : Int) < l.length := by omega
   have HNO := Lib.hid (fun h => ints_no (l2 := l2) hlt (by have := HL.out; omega) h)
   have HST := Lib.hid (fun (h : l[k]?.getD 0 = l2[k]?.getD 0) j (hj : j < k + 1) => (by
    by_cases hkj : j = k
    ·
     rw [hkj]; exact h
    ·
     exact HA.out j (by omega) : l[j]?.getD 0 = l2[j]?.getD 0))
   generalize l[k]?.getD 0 = x at *
   generalize l2[k]?.getD 0 = y at *
   by_cases hq : x = y
   ·
    have HQ := Lib.hid (HST.out hq)
    clear HST
    subst hq
    go_wp2
    go_quiet (fail)
    go_wp2
    go_roundw
    case rel => exact ⟨k + 1, by omega, by go_num, HQ.out, _, rfl⟩
    case measure => simp [intOf]; omega
   ·
    go_wp2
    go_quiet (fail)
    go_wp2
    go_ret
    rw [HNO.out hq]
    exact ⟨rfl, m + _, (World.drewN_drewN _ _ _)⟩
  ·
   obtain rfl : k = l.length := by omega
   have HX := Lib.hid (ints_yes HL.out.symm HA.out)
   go_wp2
   go_ret
   rw [HX.out]
   exact ⟨rfl, _, rfl⟩
set_option maxHeartbeats 400000 in
theorem sameints_empty (w : World) (a a' : Option Addr) (c c' : Nat) :
  Calls Try.prog 31 #[.slice a 0 c, .slice a' 0 c'] w (Quiet (.bool true) w) := by
 go_enter Try.func31, Try.ntmps31
 go_wp2
 go_loopw [5] (fun i wr => i = .int .i64 0 ∧ wr = w) (fun _ _ => 0)
 case atStart => exact ⟨rfl, rfl⟩
 case round =>
  obtain ⟨rfl, rfl⟩ := hrel
  go_wp2
  go_ret
  exact ⟨rfl, 0, rfl⟩
theorem sameints_len (w : World) (a a' : Option Addr) (n n' c c' : Nat) (h : ¬ n = n') :
  Calls Try.prog 31 #[.slice a n c, .slice a' n' c'] w (Quiet (.bool false) w) := by
 have hi : ¬ (n : Int) = n' := by omega
 go_enter Try.func31, Try.ntmps31
 go_wp2
 go_ret
 exact ⟨rfl, 0, rfl⟩
theorem sameints_any {o o2 : Col} {c c2 : Nat} {w : World} {v v' : Value} {l l2 : List Int} (h : Ints w o c v l) (h' : Ints w o2 c2 v' l2) (hl : l.length ≤ 4611686018427387904) :
  Calls Try.prog 31 #[v, v'] w (Quiet (.bool (decide (l = l2))) w) := by
 obtain ⟨a, cp, rfl⟩ := h.slice
 obtain ⟨a', cp', rfl⟩ := h'.slice
 by_cases hq : l.length = l2.length
 ·
  by_cases hp : 0 < l.length
  ·
   obtain ⟨b, off, rfl, -, -, -, -, h1⟩ := h.at hp
   obtain ⟨b', off', rfl, -, -, -, -, h2⟩ := h'.at (by omega)
   rw [← hq]
   exact sameints_some w b off _ b' off' _ l l2 hq.symm hl h1 (fun k hk => h2 k (by omega))
  ·
   obtain rfl : l = [] := List.eq_nil_of_length_eq_zero (by omega)
   obtain rfl : l2 = [] := List.eq_nil_of_length_eq_zero (by simpa using hq.symm)
   exact sameints_empty w _ _ _ _
 ·
  rw [show decide (l = l2) = false from decide_eq_false fun e => hq (by rw [e])]
  exact sameints_len w _ _ _ _ _ _ hq
theorem sameints_yes {o o2 : Col} {c c2 : Nat} {w : World} {v v' : Value} {l : List Int} (h : Ints w o c v l) (h' : Ints w o2 c2 v' l) (hl : l.length ≤ 4611686018427387904) :
  Calls Try.prog 31 #[v, v'] w (Quiet (.bool true) w) := by
 have := sameints_any h h' hl
 rwa [decide_eq_true rfl] at this
end Go.Proofs.Ytbmbfifempkhgaa

/- Rows of plain records; a slice of fewer records. No function in sight. -/
namespace Go.Proofs.Ytbmbfifempkhgaa
open Go.RowKit
def flatV {α : Type} (hd : α → List Value) (l : List α) : List Value := l.flatMap hd
theorem flatV_len {α : Type} {hd : α → List Value} {sz : Nat} (hsz : ∀ a, (hd a).length = sz) : ∀ l : List α, (flatV hd l).length = l.length * sz
 | [] => by simp [flatV]
 | x :: l => by
  have ih := flatV_len hsz l
  have := hsz x
  simp only [flatV, List.flatMap_cons, List.length_append, List.length_cons, Nat.add_mul] at ih ⊢
  rw [ih]
  omega
theorem flatV_app {α : Type} (hd : α → List Value) (l m : List α) : flatV hd (l ++ m) = flatV hd l ++ flatV hd m := by simp [flatV]
theorem flatV_get {α : Type} {hd : α → List Value} {sz : Nat} (hsz : ∀ a, (hd a).length = sz) : ∀ (l : List α) (k i : Nat) (hk : k < l.length), i < sz → (flatV hd l)[k * sz + i]? = (hd l[k])[i]?
 | [], k, i, hk, hi => by simp at hk
 | x :: l, 0, i, hk, hi => by
  rw [Nat.zero_mul, Nat.zero_add]
  show (hd x ++ flatV hd l)[i]? = _
  have := hsz x
  rw [List.getElem?_append_left (by omega)]
  rfl
 | x :: l, k + 1, i, hk, hi => by
  have ih := flatV_get hsz l k i (by simpa using hk) hi
  have hl := hsz x
  show (hd x ++ flatV hd l)[(k + 1) * sz + i]? = _
  rw [List.getElem?_append_right (by rw [hl, Nat.add_mul]; omega), hl, show (k + 1) * sz + i - sz = k * sz + i by rw [Nat.add_mul]; omega, ih]
  rfl
def FlatR {α : Type} (hd : α → List Value) (_ : World) (a : α) (cs : List Value) : Prop := cs = hd a
section
variable {α : Type} {hd : α → List Value} {w w' : World} {o : Col} {c sz e : Nat} {l : List α}
theorem Recs.news (hsz : ∀ a, (hd a).length = sz) (h0 : 0 < sz) {ao : Option Addr} {n cap : Nat} (h : Recs w sz (FlatR hd) (.slice ao n cap) l) : (ao = none → n = 0) ∧ ∀ ad, ao = some ad → ∀ j u, (flatV hd l)[j]? = some u → w.cell? (ad.add j) = some u := by
 rcases h with ⟨rfl, ao', cap', e⟩ | ⟨hp, b, off, cap', e, hl, hb, hcl⟩
 ·
  cases e
  exact ⟨fun _ => rfl, fun _ _ j u hu => by simp [flatV] at hu⟩
 ·
  cases e
  refine ⟨(fun h => by cases h), fun ad had j u hu => ?_⟩
  obtain rfl := Option.some.inj had
  rw [Addr.add_lit]
  have hj := (List.getElem?_eq_some_iff.1 hu).1
  rw [flatV_len hsz] at hj
  have hk : j / sz < l.length := Nat.div_lt_of_lt_mul (by rw [Nat.mul_comm]; exact hj)
  have hm : j % sz < sz := Nat.mod_lt _ h0
  have hjj : j / sz * sz + j % sz = j := by rw [Nat.mul_comm]; exact Nat.div_add_mod j sz
  obtain ⟨cs, h1, h2, h3⟩ := hcl (j / sz) hk
  have h4 := h3 (j % sz) hm
  rw [Nat.add_assoc, hjj] at h4
  rw [h4, show cs = hd l[j / sz] from h2]
  have h5 := flatV_get hsz l (j / sz) (j % sz) hk hm
  rw [hjj, hu] at h5
  rw [← h5]
  rfl
theorem Own.flat (hsz : ∀ a, (hd a).length = sz) {v : Value} (h : Own w o c e sz v l.length (flatV hd l)) : Recs w sz (FlatR hd) v l := by
 rcases h.1.2 with ⟨rfl, h0⟩ | ⟨G, cap, cur, rfl, _, hg, hnc, _⟩
 ·
  rw [List.eq_nil_of_length_eq_zero h0]
  exact .inl ⟨rfl, none, 0, rfl⟩
 ·
  by_cases hp : 0 < l.length
  ·
   refine .inr ⟨hp, G, 0, cap, rfl, hnc, block_lt hg, fun k hk => ⟨hd l[k], hsz _, rfl, fun i hi => ?_⟩⟩
   have hg2 := flatV_get hsz l k i hk hi
   have hlen : i < (hd l[k]).length := by rw [hsz]; exact hi
   rw [List.getElem?_eq_getElem hlen] at hg2 ⊢
   have := h.1.cells (g := G) rfl _ _ hg2
   rw [Addr.add_lit] at this
   rw [Nat.add_assoc]
   exact this
  ·
   rw [List.eq_nil_of_length_eq_zero (by omega : l.length = 0)]
   exact .inl ⟨rfl, some ⟨G, 0, none⟩, cap, rfl⟩
end
theorem Recs.front {α : Type} {w : World} {sz : Nat} {R : World → α → List Value → Prop} {ao : Option Addr} {n cap : Nat} {l m : List α} (h : Recs w sz R (.slice ao n cap) (l ++ m)) : Recs w sz R (.slice ao l.length cap) l := by
 by_cases hp : 0 < l.length
 ·
  obtain ⟨b, off, rfl, hc, hb, hcl⟩ := h.at (by simp; omega)
  refine .inr ⟨hp, b, off, cap, rfl, ?_, hb, fun k hk => ?_⟩
  ·
   simp at hc; omega
  ·
   obtain ⟨cs, h1, h2, h3⟩ := hcl k (by simp; omega)
   rw [List.getElem_append_left hk] at h2
   exact ⟨cs, h1, h2, h3⟩
 ·
  rw [List.eq_nil_of_length_eq_zero (by omega : l.length = 0)]
  exact .inl ⟨rfl, ao, cap, rfl⟩
def portHd (p : GPort) : List Value := [.string p.name, .int .i64 p.actor, .int .i64 p.port]
def regionHd (r : GRegion) : List Value := [.int .i64 r.base, .int .i64 r.size]
def actorHd (a : GActor) : List Value := [.string a.name, .int .u8 a.tag]
def edgeHd (e : GEdge) : List Value := [.int .i64 e.src, .int .i64 e.sport, .int .i64 e.dst, .int .i64 e.dport]
theorem recs_mono {α : Type} {w : World} {sz : Nat} {R S : World → α → List Value → Prop} {v : Value} {l : List α} (h : Recs w sz R v l) (hRS : ∀ a cs, R w a cs → S w a cs) : Recs w sz S v l := by
 rcases h with h | ⟨hp, b, off, cap, e, hc, hb, hcl⟩
 ·
  exact .inl h
 ·
  refine .inr ⟨hp, b, off, cap, e, hc, hb, fun k hk => ?_⟩
  obtain ⟨cs, h1, h2, h3⟩ := hcl k hk
  exact ⟨cs, h1, hRS _ _ h2, h3⟩
end Go.Proofs.Ytbmbfifempkhgaa

/- The same: lists of records, graphs, programs are the same as themselves. -/
namespace Go.Proofs.Ytbmbfifempkhgaa
open Go.RowKit
theorem row_recs {w : World} {v : Value} {l : List GOp} (h : HasRow w v l) : Recs w 3 (FlatR opV) v l := by
 obtain ⟨ao, cap, rfl, h2, h3, h4⟩ := h
 by_cases hp : 0 < l.length
 ·
  obtain ⟨-, -, b, off, rfl, hcl⟩ := HasRow.at (w := w) (ao := ao) (cap := cap) (l := l) ⟨ao, cap, rfl, h2, h3, h4⟩ hp
  have hb := World.block_lt_of_cell? _ _ (hcl 0 hp).1
  refine .inr ⟨hp, b, off, cap, rfl, h3.1, hb, fun k hk => ⟨opV l[k], rfl, rfl, fun i hi => ?_⟩⟩
  match i, hi with
  | 0, _ => exact (hcl k hk).1
  | 1, _ => exact (hcl k hk).2.1
  | 2, _ => exact (hcl k hk).2.2
 ·
  rw [List.eq_nil_of_length_eq_zero (by omega : l.length = 0)]
  exact .inl ⟨rfl, ao, cap, rfl⟩
theorem sameports_yes (w : World) (v v' : Value) (l : List GPort) (h : Recs w 3 (FlatR portHd) v l) (h' : Recs w 3 (FlatR portHd) v' l) (hl : l.length ≤ 4611686018427387904) : Calls Try.prog 85 #[v, v'] w (Quiet (.bool true) w) := by
 obtain ⟨a, cp, rfl⟩ := h.slice
 obtain ⟨a', cp', rfl⟩ := h'.slice
 have HV := Lib.hid h
 have HV2 := Lib.hid h'
 clear h h'
 go_enter Try.func85, Try.ntmps85
 go_wp2
 go_loopw [5] (fun i wr => ∃ k : Nat, k ≤ l.length ∧ i = .int .i64 k ∧ ∃ m, wr = w.drewN m) (fun i _ => l.length - (intOf i).toNat)
 case atStart => exact ⟨0, Nat.zero_le _, rfl, 0, rfl⟩
 case round =>
  obtain ⟨k, hk, rfl, m, rfl⟩ := hrel
  by_cases hlt : k < l.length
  ·
   obtain ⟨b, off, rfl, hcap, -, hrec⟩ := HV.out.at (by omega)
   obtain ⟨cs, -, hR, hcl⟩ := hrec k hlt
   obtain rfl := hR
   obtain ⟨b', off', rfl, hcap', -, hrec'⟩ := HV2.out.at (by omega)
   obtain ⟨cs, -, hR, hcl'⟩ := hrec' k hlt
   obtain rfl := hR
   (have c0 := hcl 0 (by omega); have c1 := hcl 1 (by omega); have c2 := hcl 2 (by omega); have d0 := hcl' 0 (by omega); have d1 := hcl' 1 (by omega); have d2 := hcl' 2 (by omega); simp [portHd] at c0 c1 c2 d0 d1 d2)
   have hlti : (k : Int) < l.length := by omega
   have hci : (l.length : Int) ≤ cp := by omega
   have hci' : (l.length : Int) ≤ cp' := by omega
   clear hrec hrec' hcl hcl' hcap hcap'
   (generalize l[k].name = x0 at *; generalize l[k].actor = x1 at *; generalize l[k].port = x2 at *)
   go_wp2
   go_quiet (fail)
   go_wp2
   go_roundw
   case rel => exact ⟨k + 1, by omega, by go_num, _, rfl⟩
   case measure => simp [intOf]; omega
  ·
   obtain rfl : k = l.length := by omega
   go_wp2
   go_ret
   exact ⟨rfl, _, rfl⟩
theorem sameregions_yes (w : World) (v v' : Value) (l : List GRegion) (h : Recs w 2 (FlatR regionHd) v l) (h' : Recs w 2 (FlatR regionHd) v' l) (hl : l.length ≤ 4611686018427387904) : Calls Try.prog 56 #[v, v'] w (Quiet (.bool true) w) := by
 obtain ⟨a, cp, rfl⟩ := h.slice
 obtain ⟨a', cp', rfl⟩ := h'.slice
 have HV := Lib.hid h
 have HV2 := Lib.hid h'
 clear h h'
 go_enter Try.func56, Try.ntmps56
 go_wp2
 go_loopw [5] (fun i wr => ∃ k : Nat, k ≤ l.length ∧ i = .int .i64 k ∧ ∃ m, wr = w.drewN m) (fun i _ => l.length - (intOf i).toNat)
 case atStart => exact ⟨0, Nat.zero_le _, rfl, 0, rfl⟩
 case round =>
  obtain ⟨k, hk, rfl, m, rfl⟩ := hrel
  by_cases hlt : k < l.length
  ·
   obtain ⟨b, off, rfl, hcap, -, hrec⟩ := HV.out.at (by omega)
   obtain ⟨cs, -, hR, hcl⟩ := hrec k hlt
   obtain rfl := hR
   obtain ⟨b', off', rfl, hcap', -, hrec'⟩ := HV2.out.at (by omega)
   obtain ⟨cs, -, hR, hcl'⟩ := hrec' k hlt
   obtain rfl := hR
   (have c0 := hcl 0 (by omega); have c1 := hcl 1 (by omega); have d0 := hcl' 0 (by omega); have d1 := hcl' 1 (by omega); simp [regionHd] at c0 c1 d0 d1)
   have hlti : (k : Int) < l.length := by omega
   have hci : (l.length : Int) ≤ cp := by omega
   have hci' : (l.length : Int) ≤ cp' := by omega
   clear hrec hrec' hcl hcl' hcap hcap'
   (generalize l[k].base = x0 at *; generalize l[k].size = x1 at *)
   go_wp2
   go_quiet (fail)
   go_wp2
   go_roundw
   case rel => exact ⟨k + 1, by omega, by go_num, _, rfl⟩
   case measure => simp [intOf]; omega
  ·
   obtain rfl : k = l.length := by omega
   go_wp2
   go_ret
   exact ⟨rfl, _, rfl⟩
theorem sameops_yes (w : World) (v v' : Value) (l : List GOp) (h : Recs w 3 (FlatR opV) v l) (h' : Recs w 3 (FlatR opV) v' l) (hl : l.length ≤ 4611686018427387904) : Calls Try.prog 53 #[v, v'] w (Quiet (.bool true) w) := by
 obtain ⟨a, cp, rfl⟩ := h.slice
 obtain ⟨a', cp', rfl⟩ := h'.slice
 have HV := Lib.hid h
 have HV2 := Lib.hid h'
 clear h h'
 go_enter Try.func53, Try.ntmps53
 go_wp2
 go_loopw [5] (fun i wr => ∃ k : Nat, k ≤ l.length ∧ i = .int .i64 k ∧ ∃ m, wr = w.drewN m) (fun i _ => l.length - (intOf i).toNat)
 case atStart => exact ⟨0, Nat.zero_le _, rfl, 0, rfl⟩
 case round =>
  obtain ⟨k, hk, rfl, m, rfl⟩ := hrel
  by_cases hlt : k < l.length
  ·
   obtain ⟨b, off, rfl, hcap, -, hrec⟩ := HV.out.at (by omega)
   obtain ⟨cs, -, hR, hcl⟩ := hrec k hlt
   obtain rfl := hR
   obtain ⟨b', off', rfl, hcap', -, hrec'⟩ := HV2.out.at (by omega)
   obtain ⟨cs, -, hR, hcl'⟩ := hrec' k hlt
   obtain rfl := hR
   (have c0 := hcl 0 (by omega); have c1 := hcl 1 (by omega); have c2 := hcl 2 (by omega); have d0 := hcl' 0 (by omega); have d1 := hcl' 1 (by omega); have d2 := hcl' 2 (by omega); simp [opV] at c0 c1 c2 d0 d1 d2)
   have hlti : (k : Int) < l.length := by omega
   have hci : (l.length : Int) ≤ cp := by omega
   have hci' : (l.length : Int) ≤ cp' := by omega
   clear hrec hrec' hcl hcl' hcap hcap'
   (generalize l[k].kind = x0 at *; generalize l[k].a = x1 at *; generalize l[k].b = x2 at *)
   go_wp2
   go_quiet (fail)
   go_wp2
   go_roundw
   case rel => exact ⟨k + 1, by omega, by go_num, _, rfl⟩
   case measure => simp [intOf]; omega
  ·
   obtain rfl : k = l.length := by omega
   go_wp2
   go_ret
   exact ⟨rfl, _, rfl⟩
end Go.Proofs.Ytbmbfifempkhgaa

/- SameProgram: a program is the same as itself. -/
namespace Go.Proofs.Ytbmbfifempkhgaa
open Go.RowKit
def Yes (w : World) (e : Ending) (w' : World) : Prop := e = .returned (.bool true) ∧ Below w.heap.size w w'
theorem Quiet.yes {w w' : World} {e : Ending} (h : Quiet (.bool true) w e w') : Yes w e w' := by
 obtain ⟨rfl, m, rfl⟩ := h
 exact ⟨rfl, below_dr (Below.refl _ _)⟩
theorem Below.then {w w1 w2 : World} (h : Below w.heap.size w w1) (b : Below w1.heap.size w1 w2) : Below w.heap.size w w2 := h.trans (b.mono h.size)
set_option maxRecDepth 100000 in
set_option maxHeartbeats 4000000 in
theorem sameprog_yes (w : World) (v v' : Value) (P : GProg) (h : HasProg w v P) (h' : HasProg w v' P) (hps : ∀ x ∈ P.parts, x.params.length ≤ 4611686018427387904) (hls : ∀ x ∈ P.lines, x.start.length ≤ 4611686018427387904) (hpl : P.parts.length ≤ 4611686018427387904) (hll : P.lines.length ≤ 4611686018427387904) (hol : P.ops.length ≤ 4611686018427387904) : Calls Try.prog 15 #[v, v'] w (Yes w) := by
 obtain ⟨vp, vl, vo, rfl, rp, rl, ro⟩ := h
 obtain ⟨vp', vl', vo', rfl, rp', rl', ro'⟩ := h'
 obtain ⟨ap, cp, rfl⟩ := rp.slice
 obtain ⟨al, cl, rfl⟩ := rl.slice
 obtain ⟨ap', cp', rfl⟩ := rp'.slice
 obtain ⟨al', cl', rfl⟩ := rl'.slice
 have ro := row_recs ro
 have ro' := row_recs ro'
 have HPS := Lib.hid hps
 have HLS := Lib.hid hls
 have HOL := Lib.hid hol
 clear hps hls hol
 have hb1 := below_alloc w (.cells #[.int .i64 P.memory, .int .i64 P.counters, .int .i64 P.ins, .int .i64 P.outs, .slice ap P.parts.length cp, .slice al P.lines.length cl, vo] 39)
 have hA := heap_alloc_new w (.cells #[.int .i64 P.memory, .int .i64 P.counters, .int .i64 P.ins, .int .i64 P.outs, .slice ap P.parts.length cp, .slice al P.lines.length cl, vo] 39)
 generalize hW1 : w.alloc (.cells #[.int .i64 P.memory, .int .i64 P.counters, .int .i64 P.ins, .int .i64 P.outs, .slice ap P.parts.length cp, .slice al P.lines.length cl, vo] 39) = W1 at *
 have hs1 : W1.heap.size = w.heap.size + 1 := by rw [← hW1]; simp
 have hb2 := below_alloc W1 (.cells #[.int .i64 P.memory, .int .i64 P.counters, .int .i64 P.ins, .int .i64 P.outs, .slice ap' P.parts.length cp', .slice al' P.lines.length cl', vo'] 39)
 have hB := heap_alloc_new W1 (.cells #[.int .i64 P.memory, .int .i64 P.counters, .int .i64 P.ins, .int .i64 P.outs, .slice ap' P.parts.length cp', .slice al' P.lines.length cl', vo'] 39)
 have hA2 := block_alloc hA (.cells #[.int .i64 P.memory, .int .i64 P.counters, .int .i64 P.ins, .int .i64 P.outs, .slice ap' P.parts.length cp', .slice al' P.lines.length cl', vo'] 39)
 generalize hW2 : W1.alloc (.cells #[.int .i64 P.memory, .int .i64 P.counters, .int .i64 P.ins, .int .i64 P.outs, .slice ap' P.parts.length cp', .slice al' P.lines.length cl', vo'] 39) = W2 at *
 have HB2 := Lib.hid (Below.then hb1 hb2)
 have HRP := Lib.hid (rp.below (tail_steady _ _) HB2.out)
 have HRL := Lib.hid (rl.below (tail_steady _ _) HB2.out)
 have HRO := Lib.hid (ro.below (fun _ _ _ _ _ h => h) HB2.out)
 have HRP' := Lib.hid (rp'.below (tail_steady _ _) HB2.out)
 have HRL' := Lib.hid (rl'.below (tail_steady _ _) HB2.out)
 have HRO' := Lib.hid (ro'.below (fun _ _ _ _ _ h => h) HB2.out)
 clear hb1 hb2 rp rl ro rp' rl' ro' hA
 rw [hs1] at hB
 have y0 := cells_row _ _ hA2 0 _ rfl
 have y1 := cells_row _ _ hA2 1 _ rfl
 have y2 := cells_row _ _ hA2 2 _ rfl
 have y3 := cells_row _ _ hA2 3 _ rfl
 have y4 := cells_row _ _ hA2 4 _ rfl
 have y5 := cells_row _ _ hA2 5 _ rfl
 have y6 := cells_row _ _ hA2 6 _ rfl
 have z0 := cells_row _ _ hB 0 _ rfl
 have z1 := cells_row _ _ hB 1 _ rfl
 have z2 := cells_row _ _ hB 2 _ rfl
 have z3 := cells_row _ _ hB 3 _ rfl
 have z4 := cells_row _ _ hB 4 _ rfl
 have z5 := cells_row _ _ hB 5 _ rfl
 have z6 := cells_row _ _ hB 6 _ rfl
 clear hA2 hB
 simp only [List.getElem_toArray, List.getElem_cons_succ, List.getElem_cons_zero] at y0 y1 y2 y3 y4 y5 y6 z0 z1 z2 z3 z4 z5 z6
 generalize P.memory = p0 at *
 generalize P.counters = p1 at *
 generalize P.ins = p2 at *
 generalize P.outs = p3 at *
 go_enter Try.func15, Try.ntmps15
 go_wp2_with fail
 have HY4 := Lib.hid y4
 have HY5 := Lib.hid y5
 have HY6 := Lib.hid y6
 have HZ4 := Lib.hid z4
 have HZ5 := Lib.hid z5
 have HZ6 := Lib.hid z6
 clear hW1 hW2 y0 y1 y2 y3 y4 y5 y6 z0 z1 z2 z3 z4 z5 z6
 obtain ⟨n, hn⟩ : ∃ x, P.parts.length = x := ⟨_, rfl⟩
 obtain ⟨m, hm⟩ : ∃ x, P.lines.length = x := ⟨_, rfl⟩
 have HN := Lib.hid hn
 have HM := Lib.hid hm
 rw [hn] at HY4 HZ4 hpl
 rw [hm] at HY5 HZ5 hll
 rw [hn] at HRP HRP'
 rw [hm] at HRL HRL'
 clear hn hm
 go_loopw [5] (fun i wr => ∃ j : Nat, j ≤ n ∧ i = .int .i64 j ∧ Below W2.heap.size W2 wr) (fun i _ => n - (intOf i).toNat)
 case atStart => exact ⟨0, Nat.zero_le _, rfl, Below.refl _ _⟩
 case round =>
  obtain ⟨j, hj, rfl, hB⟩ := hrel
  have HB := Lib.hid hB
  clear hB
  have y4 := cell_later HB.out HY4.out
  by_cases hlt : j < n
  ·
   have z4 := cell_later HB.out HZ4.out
   have hjn : j < P.parts.length := by have := HN.out; omega
   obtain ⟨b, off, rfl, hcap, -, hrec⟩ := HRP.out.at (by omega)
   obtain ⟨cs, -, ⟨x, rfl, hx⟩, hcl⟩ := hrec j hjn
   obtain ⟨b', off', rfl, hcap', -, hrec'⟩ := HRP'.out.at (by omega)
   obtain ⟨cs, -, ⟨x', rfl, hx'⟩, hcl'⟩ := hrec' j hjn
   have c0 := cell_later HB.out (hcl 0 (by omega))
   have c1 := cell_later HB.out (hcl 1 (by omega))
   have d0 := cell_later HB.out (hcl' 0 (by omega))
   have d1 := cell_later HB.out (hcl' 1 (by omega))
   simp [partHd] at c0 c1 d0 d1
   rw [HN.out] at hcap hcap'
   have hci : (n : Int) ≤ cp := by omega
   have hci' : (n : Int) ≤ cp' := by omega
   have hlti : (j : Int) < n := by omega
   have HX := Lib.hid (hx.below HB.out)
   have HX' := Lib.hid (hx'.below HB.out)
   have HST := Lib.hid (HPS.out _ (List.getElem_mem hjn))
   clear hx hx' hcl hcl' hrec hrec' hcap hcap'
   generalize P.parts[j].tag = tg at *
   generalize P.parts[j].params = st at *
   clear hjn
   go_wp2_with fail
   refine wp_region_soft (fun w' => Below wr.heap.size wr w' ∧ w'.cell? ⟨w.heap.size, 4, none⟩ = some (.slice (some ⟨b, off, none⟩) n cp) ∧ w'.cell? ⟨w.heap.size + 1, 4, none⟩ = some (.slice (some ⟨b', off', none⟩) n cp') ∧ w'.cell? ⟨b, off + j * 2, none⟩ = some (.int .u8 tg) ∧ w'.cell? ⟨b, off + j * 2 + 1, none⟩ = some x ∧ w'.cell? ⟨b', off' + j * 2, none⟩ = some (.int .u8 tg) ∧ w'.cell? ⟨b', off' + j * 2 + 1, none⟩ = some x') [0, 1, 2, 3, 4, 5, 6, 7, 8, 9, 10, 11, 12, 13, 14, 15, 16, 17, 18, 19, 20, 21, 22, 23, 24, 25, 26, 27, 28] [] (by kernel_rfl) (by kernel_rfl) rfl ⟨below_dr (n := 1) (Below.refl _ _), y4, z4, c0, c1, d0, d1⟩ ?_
   simp only [pickOps, List.flatMap_cons, List.flatMap_nil, List.drop_succ_cons, List.drop_zero, List.take_succ_cons, List.take_zero, List.cons_append, List.nil_append, List.append_nil]
   repeat (first
    | (refine wpHead_skip (by rfl) ?_; (try simp only [Act.put, List.setIfInBounds_toArray, List.set_cons_zero, List.set_cons_succ]))
    | (refine wpHead_val ?_ (by rfl) ?_ ?_; rotate_left; (intro wz hz; (try dsimp only at hz); (first | (go_simp; done) | (go_simp; with_reducible rfl))); (try simp only [Act.put, List.setIfInBounds_toArray, List.set_cons_zero, List.set_cons_succ])))
   refine wpHead_call (.bool true) 31 #[x, x'] (by rfl) (fun wz => by go_simp) (fun wz hz => ?_) ?_
   ·
    obtain ⟨hz1, hz2⟩ := hz
    refine (sameints_yes (o := fun _ => 0) (c := 0) (o2 := fun _ => 0) (c2 := 0) (HX.out.below hz1) (HX'.out.below hz1) HST.out).mono ?_
    rintro e wy ⟨rfl, m, rfl⟩
    exact ⟨rfl, below_dr hz1, hz2⟩
   simp only [Act.put, List.setIfInBounds_toArray, List.set_cons_zero, List.set_cons_succ]
   repeat (first
    | (refine wpHead_skip (by rfl) ?_; (try simp only [Act.put, List.setIfInBounds_toArray, List.set_cons_zero, List.set_cons_succ]))
    | (refine wpHead_val ?_ (by rfl) ?_ ?_; rotate_left; (intro wz hz; (try dsimp only at hz); (first | (go_simp; done) | (go_simp; with_reducible rfl))); (try simp only [Act.put, List.setIfInBounds_toArray, List.set_cons_zero, List.set_cons_succ])))
   refine wpHead_nil ?_
   intro w' hS
   have HS9 := Lib.hid (Below.then HB.out hS.1)
   clear hS
   go_wp2
   go_roundw
   case rel => exact ⟨j + 1, hlt, by go_num, HS9.out⟩
   case measure => simp [intOf]; omega
  ·
   obtain rfl : n = j := by omega
   clear hj hlt
   go_wp2_with fail
   go_loopw [6] (fun i wl => ∃ j : Nat, j ≤ m ∧ i = .int .i64 j ∧ Below W2.heap.size W2 wl) (fun i _ => m - (intOf i).toNat)
   case atStart => exact ⟨0, Nat.zero_le _, rfl, HB.out⟩
   case round =>
    clear HB y4
    obtain ⟨j, hj, rfl, hB⟩ := hrel
    have HB := Lib.hid hB
    clear hB
    have y5 := cell_later HB.out HY5.out
    by_cases hlt : j < m
    ·
     have z5 := cell_later HB.out HZ5.out
     have hjn : j < P.lines.length := by have := HM.out; omega
     obtain ⟨b, off, rfl, hcap, -, hrec⟩ := HRL.out.at (by omega)
     obtain ⟨cs, -, ⟨x, rfl, hx⟩, hcl⟩ := hrec j hjn
     obtain ⟨b', off', rfl, hcap', -, hrec'⟩ := HRL'.out.at (by omega)
     obtain ⟨cs, -, ⟨x', rfl, hx'⟩, hcl'⟩ := hrec' j hjn
     have c0 := cell_later HB.out (hcl 0 (by omega))
     have c1 := cell_later HB.out (hcl 1 (by omega))
     have c2 := cell_later HB.out (hcl 2 (by omega))
     have d0 := cell_later HB.out (hcl' 0 (by omega))
     have d1 := cell_later HB.out (hcl' 1 (by omega))
     have d2 := cell_later HB.out (hcl' 2 (by omega))
     simp [lineHd] at c0 c1 c2 d0 d1 d2
     rw [HM.out] at hcap hcap'
     have hci : (m : Int) ≤ cl := by omega
     have hci' : (m : Int) ≤ cl' := by omega
     have hlti : (j : Int) < m := by omega
     have HX := Lib.hid (hx.below HB.out)
     have HX' := Lib.hid (hx'.below HB.out)
     have HST := Lib.hid (HLS.out _ (List.getElem_mem hjn))
     clear hx hx' hcl hcl' hrec hrec' hcap hcap'
     generalize P.lines[j].base = t1 at *
     generalize P.lines[j].size = t2 at *
     generalize P.lines[j].start = st at *
     clear hjn
     go_wp2_with fail
     refine wp_region_soft (fun w' => Below wr.heap.size wr w' ∧ w'.cell? ⟨w.heap.size, 5, none⟩ = some (.slice (some ⟨b, off, none⟩) m cl) ∧ w'.cell? ⟨w.heap.size + 1, 5, none⟩ = some (.slice (some ⟨b', off', none⟩) m cl') ∧ w'.cell? ⟨b, off + j * 3, none⟩ = some (.int .i64 t1) ∧ w'.cell? ⟨b, off + j * 3 + 1, none⟩ = some (.int .i64 t2) ∧ w'.cell? ⟨b, off + j * 3 + 2, none⟩ = some x ∧ w'.cell? ⟨b', off' + j * 3, none⟩ = some (.int .i64 t1) ∧ w'.cell? ⟨b', off' + j * 3 + 1, none⟩ = some (.int .i64 t2) ∧ w'.cell? ⟨b', off' + j * 3 + 2, none⟩ = some x') [0, 1, 2, 3, 4, 5, 6, 7, 8, 9, 10, 11, 12, 13, 14, 15, 16, 17, 18, 19, 20, 21, 22, 23, 24, 25, 26, 27, 28] [] (by kernel_rfl) (by kernel_rfl) rfl ⟨below_dr (n := 1) (Below.refl _ _), y5, z5, c0, c1, c2, d0, d1, d2⟩ ?_
     simp only [pickOps, List.flatMap_cons, List.flatMap_nil, List.drop_succ_cons, List.drop_zero, List.take_succ_cons, List.take_zero, List.cons_append, List.nil_append, List.append_nil]
     repeat (first
      | (refine wpHead_skip (by rfl) ?_; (try simp only [Act.put, List.setIfInBounds_toArray, List.set_cons_zero, List.set_cons_succ]))
      | (refine wpHead_val ?_ (by rfl) ?_ ?_; rotate_left; (intro wz hz; (try dsimp only at hz); (first | (go_simp; done) | (go_simp; with_reducible rfl))); (try simp only [Act.put, List.setIfInBounds_toArray, List.set_cons_zero, List.set_cons_succ])))
     refine wpHead_call (.bool true) 31 #[x, x'] (by rfl) (fun wz => by go_simp) (fun wz hz => ?_) ?_
     ·
      obtain ⟨hz1, hz2⟩ := hz
      refine (sameints_yes (o := fun _ => 0) (c := 0) (o2 := fun _ => 0) (c2 := 0) (HX.out.below hz1) (HX'.out.below hz1) HST.out).mono ?_
      rintro e wy ⟨rfl, m, rfl⟩
      exact ⟨rfl, below_dr hz1, hz2⟩
     simp only [Act.put, List.setIfInBounds_toArray, List.set_cons_zero, List.set_cons_succ]
     repeat (first
      | (refine wpHead_skip (by rfl) ?_; (try simp only [Act.put, List.setIfInBounds_toArray, List.set_cons_zero, List.set_cons_succ]))
      | (refine wpHead_val ?_ (by rfl) ?_ ?_; rotate_left; (intro wz hz; (try dsimp only at hz); (first | (go_simp; done) | (go_simp; with_reducible rfl))); (try simp only [Act.put, List.setIfInBounds_toArray, List.set_cons_zero, List.set_cons_succ])))
     refine wpHead_nil ?_
     intro w' hS
     have HS9 := Lib.hid (Below.then HB.out hS.1)
     clear hS
     go_wp2
     go_roundw
     case rel => exact ⟨j + 1, hlt, by go_num, HS9.out⟩
     case measure => simp [intOf]; omega
    ·
     obtain rfl : m = j := by omega
     clear hj hlt
     have y6 := cell_later HB.out HY6.out
     have z6 := cell_later HB.out HZ6.out
     go_wp2_with fail
     refine (sameops_yes _ vo vo' P.ops (HRO.out.below (fun _ _ _ _ _ h => h) HB.out) (HRO'.out.below (fun _ _ _ _ _ h => h) HB.out) HOL.out).mono ?_
     rintro e wy ⟨rfl, mm, rfl⟩
     go_wp2
     go_ret
     exact ⟨rfl, below_dr (Below.then HB2.out HB.out)⟩
end Go.Proofs.Ytbmbfifempkhgaa

/- written: each place holds the mark. -/
namespace Go.Proofs.Ytbmbfifempkhgaa
open Go.RowKit
set_option maxRecDepth 100000 in
set_option maxHeartbeats 2000000 in
theorem written_yes (w : World) (a b c d N : Int) (vp vl vo : Value) (n m k : Nat) (hP : View w vp n 2 0 (.int .u8 N)) (hL : View w vl m 3 0 (.int .i64 N)) (hO : View w vo k 3 1 (.int .i64 N)) (hN0 : 0 ≤ N) (hN1 : N < 256) (hn : n ≤ 2000000) (hm : m ≤ 2000000) (hk : k ≤ 2000000) : Calls Try.prog 61 #[.agg #[.int .i64 a, .int .i64 b, .int .i64 c, .int .i64 d, vp, vl, vo], .int .i64 N] w (Yes w) := by
 have hb1 := below_alloc w (.cells #[.int .i64 a, .int .i64 b, .int .i64 c, .int .i64 d, vp, vl, vo] 39)
 have hA := heap_alloc_new w (.cells #[.int .i64 a, .int .i64 b, .int .i64 c, .int .i64 d, vp, vl, vo] 39)
 obtain ⟨ap, cp, rfl, hcp, gP⟩ := hP.below hb1
 obtain ⟨al, cl, rfl, hcl, gL⟩ := hL.below hb1
 obtain ⟨ao, co, rfl, hco, gO⟩ := hO.below hb1
 generalize hW1 : w.alloc (.cells #[.int .i64 a, .int .i64 b, .int .i64 c, .int .i64 d, .slice ap n cp, .slice al m cl, .slice ao k co] 39) = W1 at *
 have y4 := cells_row _ _ hA 4 _ rfl
 have y5 := cells_row _ _ hA 5 _ rfl
 have y6 := cells_row _ _ hA 6 _ rfl
 simp only [List.getElem_toArray, List.getElem_cons_succ, List.getElem_cons_zero] at y4 y5 y6
 have HP := Lib.hid gP
 have HL := Lib.hid gL
 have HO := Lib.hid gO
 have HB1 := Lib.hid hb1
 have HY4 := Lib.hid y4
 have HY5 := Lib.hid y5
 have HY6 := Lib.hid y6
 clear hP hL hO gP gL gO hb1 hA y4 y5 y6
 go_enter Try.func61, Try.ntmps61
 go_wp2_with fail
 clear hW1
 go_loopw [5] (fun i wr => ∃ j : Nat, j ≤ n ∧ i = .int .i64 j ∧ Below W1.heap.size W1 wr) (fun i _ => n - (intOf i).toNat)
 case atStart => exact ⟨0, Nat.zero_le _, rfl, Below.refl _ _⟩
 case round =>
  obtain ⟨i, hi, rfl, hB⟩ := hrel
  have HB := Lib.hid hB
  clear hB
  have y := cell_later HB.out HY4.out
  by_cases hlt : i < n
  ·
   obtain ⟨g, p, rfl, -, hc⟩ := HP.out (by omega)
   have c0 := cell_later HB.out (hc i hlt)
   simp only [Nat.add_zero] at c0
   have hlti : (i : Int) < n := by omega
   have hci : (n : Int) ≤ cp := by omega
   clear hc
   go_wp2
   go_roundw
   case rel => exact ⟨i + 1, hlt, by go_num, HB.out⟩
   case measure => simp [intOf]; omega
  ·
   obtain rfl : n = i := by omega
   clear hi hlt
   go_wp2_with fail
   go_loopw [6] (fun i wl => ∃ j : Nat, j ≤ m ∧ i = .int .i64 j ∧ Below W1.heap.size W1 wl) (fun i _ => m - (intOf i).toNat)
   case atStart => exact ⟨0, Nat.zero_le _, rfl, HB.out⟩
   case round =>
    clear HB y
    obtain ⟨i, hi, rfl, hB⟩ := hrel
    have HB := Lib.hid hB
    clear hB
    have y := cell_later HB.out HY5.out
    by_cases hlt : i < m
    ·
     obtain ⟨g, p, rfl, -, hc⟩ := HL.out (by omega)
     have c0 := cell_later HB.out (hc i hlt)
     simp only [Nat.add_zero] at c0
     have hlti : (i : Int) < m := by omega
     have hci : (m : Int) ≤ cl := by omega
     clear hc
     go_wp2
     go_roundw
     case rel => exact ⟨i + 1, hlt, by go_num, HB.out⟩
     case measure => simp [intOf]; omega
    ·
     obtain rfl : m = i := by omega
     clear hi hlt
     go_wp2_with fail
     go_loopw [7] (fun i wl => ∃ j : Nat, j ≤ k ∧ i = .int .i64 j ∧ Below W1.heap.size W1 wl) (fun i _ => k - (intOf i).toNat)
     case atStart => exact ⟨0, Nat.zero_le _, rfl, HB.out⟩
     case round =>
      clear HB y
      obtain ⟨i, hi, rfl, hB⟩ := hrel
      have HB := Lib.hid hB
      clear hB
      have y := cell_later HB.out HY6.out
      by_cases hlt : i < k
      ·
       obtain ⟨g, p, rfl, -, hc⟩ := HO.out (by omega)
       have c0 := cell_later HB.out (hc i hlt)
       have hlti : (i : Int) < k := by omega
       have hci : (k : Int) ≤ co := by omega
       clear hc
       go_wp2
       go_roundw
       case rel => exact ⟨i + 1, hlt, by go_num, HB.out⟩
       case measure => simp [intOf]; omega
      ·
       obtain rfl : k = i := by omega
       clear hi hlt
       go_wp2
       go_ret
       exact ⟨rfl, Below.then HB1.out HB.out⟩
end Go.Proofs.Ytbmbfifempkhgaa

/- writeProgram: marks in all places. -/
namespace Go.Proofs.Ytbmbfifempkhgaa
open Go.RowKit
def WroteRet (w : World) (o : Col) (c1 c2 c3 : Nat) (vp vl vo : Value) (n m k : Nat) (N : Int) (e : Ending) (w' : World) : Prop := e = .returned (.tuple #[]) ∧ ∃ o', Turn o o' (fun x => x = c1 ∨ x = c2 ∨ x = c3) w w' ∧ RowK w' o' c1 108 2 0 vp n n (.int .u8 N) ∧ RowK w' o' c2 87 3 0 vl m m (.int .i64 N) ∧ RowK w' o' c3 61 3 1 vo k k (.int .i64 N)
set_option maxRecDepth 100000 in
set_option maxHeartbeats 4000000 in
theorem writeprog_any (w : World) (o : Col) (c1 c2 c3 : Nat) (h12 : c1 ≠ c2) (h13 : c1 ≠ c3) (h23 : c2 ≠ c3) (a b c d N : Int) (vp vl vo : Value) (n m k : Nat) (xs1 xs2 xs3 : List Value) (hP : Own w o c1 108 2 vp n xs1) (hL : Own w o c2 87 3 vl m xs2) (hO : Own w o c3 61 3 vo k xs3) (hN0 : 0 ≤ N) (hN1 : N < 256) (hn : n ≤ 2000000) (hm : m ≤ 2000000) (hk : k ≤ 2000000) : Calls Try.prog 59 #[.agg #[.int .i64 a, .int .i64 b, .int .i64 c, .int .i64 d, vp, vl, vo], .int .i64 N] w (WroteRet w o c1 c2 c3 vp vl vo n m k N) := by
 obtain ⟨ap, cp, rfl⟩ := hP.slice
 obtain ⟨al, cl, rfl⟩ := hL.slice
 obtain ⟨ao, co, rfl⟩ := hO.slice
 have hb1 := below_alloc w (.cells #[.int .i64 a, .int .i64 b, .int .i64 c, .int .i64 d, .slice ap n cp, .slice al m cl, .slice ao k co] 39)
 have T1 := Turn.of_below o (c1 + c2 + c3 + 1) hb1
 have hA : Blk _ (ext o w.heap.size (c1 + c2 + c3 + 1)) (c1 + c2 + c3 + 1) _ _ _ := ⟨heap_alloc_new w (.cells #[.int .i64 a, .int .i64 b, .int .i64 c, .int .i64 d, .slice ap n cp, .slice al m cl, .slice ao k co] 39), ext_new (Nat.le_refl _)⟩
 generalize hW1 : w.alloc (.cells #[.int .i64 a, .int .i64 b, .int .i64 c, .int .i64 d, .slice ap n cp, .slice al m cl, .slice ao k co] 39) = W1 at *
 generalize ext o w.heap.size (c1 + c2 + c3 + 1) = o1 at *
 have HT1 := Lib.hid T1
 have HP : Hid (RowK W1 o1 c1 108 2 0 (.slice ap n cp) n 0 (.int .u8 N)) := Lib.hid (RowK.start (hP.turn T1 (fun h => h)))
 have HL : Hid (RowK W1 o1 c2 87 3 0 (.slice al m cl) m 0 (.int .i64 N)) := Lib.hid (RowK.start (hL.turn T1 (fun h => h)))
 have HO : Hid (RowK W1 o1 c3 61 3 1 (.slice ao k co) k 0 (.int .i64 N)) := Lib.hid (RowK.start (hO.turn T1 (fun h => h)))
 have HA := Lib.hid hA
 have H12 := Lib.hid h12
 have H13 := Lib.hid h13
 have H23 := Lib.hid h23
 have y4 := hA.cell 4 _ rfl
 simp only [List.getElem_toArray, List.getElem_cons_succ, List.getElem_cons_zero] at y4
 clear hb1 T1 hP hL hO hA h12 h13 h23
 go_enter Try.func59, Try.ntmps59
 go_wp2_with fail
 clear hW1 y4
 go_loopw [4] (fun i wr => ∃ j : Nat, j ≤ n ∧ i = .int .i64 j ∧ Turn o1 o1 (fun x => x = c1) W1 wr ∧ RowK wr o1 c1 108 2 0 (.slice ap n cp) n j (.int .u8 N)) (fun i _ => n - (intOf i).toNat)
 case atStart => exact ⟨0, Nat.zero_le _, rfl, Turn.refl _ _ _, HP.out⟩
 case round =>
  clear HP
  obtain ⟨j, hj, rfl, hT, hR⟩ := hrel
  have HT := Lib.hid hT
  have HR := Lib.hid hR
  have y := (HA.out.turn hT (by omega)).cell 4 _ rfl
  simp only [List.getElem_toArray, List.getElem_cons_succ, List.getElem_cons_zero] at y
  clear hT hR
  by_cases hlt : j < n
  ·
   obtain ⟨-, hcp, g, rfl, -, -, hcl, hfr⟩ := HR.out.at (by omega) (by decide)
   obtain ⟨x0, e0⟩ := hcl (j * 2) (by omega)
   obtain ⟨x1, e1⟩ := hcl (j * 2 + 1) (by omega)
   have f0 := hfr (j * 2)
   have f1 := hfr (j * 2 + 1)
   have hlti : (j : Int) < n := by omega
   have hcpi : (n : Int) ≤ cp := by omega
   have HS := Lib.hid (HR.out.next hlt (by decide))
   clear hcl hfr HR hcp
   go_wp2
   go_roundw
   case rel =>
    obtain ⟨S1, S2⟩ := HS.out
    rw [Nat.add_zero] at S1 S2
    obtain ⟨S3, S4⟩ := S1.put (j := j * 2 + 1) (x := .slice none 0 0) (fun k hk => by omega)
    exact ⟨j + 1, hlt, by go_num, (HT.out.trans S2 (fun _ h => h)).trans S4 (fun _ h => h), S3⟩
   case measure => simp [intOf]; omega
  ·
   obtain rfl : n = j := by omega
   clear hj hlt
   go_wp2_with fail
   go_loopw [5] (fun i wl => ∃ j : Nat, j ≤ m ∧ i = .int .i64 j ∧ Turn o1 o1 (fun x => x = c1 ∨ x = c2) W1 wl ∧ RowK wl o1 c1 108 2 0 (.slice ap n cp) n n (.int .u8 N) ∧ RowK wl o1 c2 87 3 0 (.slice al m cl) m j (.int .i64 N)) (fun i _ => m - (intOf i).toNat)
   case atStart => exact ⟨0, Nat.zero_le _, rfl, HT.out.mono (fun _ h => .inl h), HR.out, HL.out.turn HT.out (fun e => H12.out e.symm)⟩
   case round =>
    clear HT HR HL y
    obtain ⟨j, hj, rfl, hT, hP, hR⟩ := hrel
    have HT := Lib.hid hT
    have HP := Lib.hid hP
    have HR := Lib.hid hR
    have y := (HA.out.turn hT (by omega)).cell 5 _ rfl
    simp only [List.getElem_toArray, List.getElem_cons_succ, List.getElem_cons_zero] at y
    clear hT hR hP
    by_cases hlt : j < m
    ·
     obtain ⟨-, hcp, g, rfl, -, -, hcl, hfr⟩ := HR.out.at (by omega) (by decide)
     obtain ⟨x0, e0⟩ := hcl (j * 3) (by omega)
     obtain ⟨x1, e1⟩ := hcl (j * 3 + 1) (by omega)
     obtain ⟨x2, e2⟩ := hcl (j * 3 + 2) (by omega)
     have f0 := hfr (j * 3)
     have f1 := hfr (j * 3 + 1)
     have f2 := hfr (j * 3 + 2)
     have hlti : (j : Int) < m := by omega
     have hcpi : (m : Int) ≤ cl := by omega
     have HS := Lib.hid (HR.out.next hlt (by decide))
     clear hcl hfr HR hcp
     go_wp2
     go_roundw
     case rel =>
      obtain ⟨S1, S2⟩ := HS.out
      rw [Nat.add_zero] at S1 S2
      obtain ⟨S3, S4⟩ := S1.put (j := j * 3 + 1) (x := .int .i64 0) (fun k hk => by omega)
      obtain ⟨S5, S6⟩ := S3.put (j := j * 3 + 2) (x := .slice none 0 0) (fun k hk => by omega)
      have T := (S2.trans S4 (fun _ h => h)).trans S6 (fun _ h => h)
      exact ⟨j + 1, hlt, by go_num, HT.out.trans T (fun _ h => .inr h), HP.out.turn T H12.out, S5⟩
     case measure => simp [intOf]; omega
    ·
     obtain rfl : m = j := by omega
     clear hj hlt
     go_wp2_with fail
     go_loopw [6] (fun i wl => ∃ j : Nat, j ≤ k ∧ i = .int .i64 j ∧ Turn o1 o1 (fun x => x = c1 ∨ x = c2 ∨ x = c3) W1 wl ∧ RowK wl o1 c1 108 2 0 (.slice ap n cp) n n (.int .u8 N) ∧ RowK wl o1 c2 87 3 0 (.slice al m cl) m m (.int .i64 N) ∧ RowK wl o1 c3 61 3 1 (.slice ao k co) k j (.int .i64 N)) (fun i _ => k - (intOf i).toNat)
     case atStart => exact ⟨0, Nat.zero_le _, rfl, HT.out.mono (fun _ h => h.elim .inl (fun h => .inr (.inl h))), HP.out, HR.out, HO.out.turn HT.out (fun e => e.elim (fun e => H13.out e.symm) (fun e => H23.out e.symm))⟩
     case round =>
      clear HT HR HP HO y
      obtain ⟨j, hj, rfl, hT, hP, hL, hR⟩ := hrel
      have HT := Lib.hid hT
      have HP := Lib.hid hP
      have HL := Lib.hid hL
      have HR := Lib.hid hR
      have y := (HA.out.turn hT (by omega)).cell 6 _ rfl
      simp only [List.getElem_toArray, List.getElem_cons_succ, List.getElem_cons_zero] at y
      clear hT hR hP hL
      by_cases hlt : j < k
      ·
       obtain ⟨-, hcp, g, rfl, -, -, hcl, hfr⟩ := HR.out.at (by omega) (by decide)
       obtain ⟨x0, e0⟩ := hcl (j * 3) (by omega)
       obtain ⟨x1, e1⟩ := hcl (j * 3 + 1) (by omega)
       obtain ⟨x2, e2⟩ := hcl (j * 3 + 2) (by omega)
       have f0 := hfr (j * 3)
       have f1 := hfr (j * 3 + 1)
       have f2 := hfr (j * 3 + 2)
       have hlti : (j : Int) < k := by omega
       have hcpi : (k : Int) ≤ co := by omega
       have HS := Lib.hid (HR.out.put (j := j * 3) (x := .int .u8 0) (fun k hk => by omega))
       clear hcl hfr HR hcp
       go_wp2
       go_roundw
       case rel =>
        obtain ⟨S1, S2⟩ := HS.out
        obtain ⟨S3, S4⟩ := S1.next hlt (by decide)
        obtain ⟨S5, S6⟩ := S3.put (j := j * 3 + 2) (x := .int .i64 0) (fun k hk => by omega)
        have T := (S2.trans S4 (fun _ h => h)).trans S6 (fun _ h => h)
        exact ⟨j + 1, hlt, by go_num, HT.out.trans T (fun _ h => .inr (.inr h)), HP.out.turn T H13.out, HL.out.turn T H23.out, S5⟩
       case measure => simp [intOf]; omega
      ·
       obtain rfl : k = j := by omega
       clear hj hlt
       go_wp2
       go_end0
       exact ⟨rfl, o1, (HT1.out.mono (fun _ h => h.elim)).trans HT.out (fun _ h => h), HP.out, HL.out, HR.out⟩
end Go.Proofs.Ytbmbfifempkhgaa

/- An actor as plain data: what may be its parameters, its rates, what it keeps, what a firing gives. No program in sight. -/
namespace Go.Proofs.Ytbmbfifempkhgaa
def hd (ps : List Int) : Int := ps[0]?.getD 0
def hd1 (ps : List Int) : Int := ps[1]?.getD 0
def pairP (ps : List Int) : Prop := ps.length = 2 ∧ (1 ≤ hd ps ∧ hd ps ≤ 16) ∧ (1 ≤ hd1 ps ∧ hd1 ps ≤ 64) ∧ hd ps * hd1 ps ≤ 64
def oneP (ps : List Int) (m : Int) : Prop := ps.length = 1 ∧ 1 ≤ hd ps ∧ hd ps ≤ m
def goodP (t : Int) (ps : List Int) : Prop :=
 (t = 1 ∧ 1 ≤ ps.length ∧ ps.length ≤ 16) ∨ (t = 2 ∧ oneP ps 64) ∨ (t = 3 ∧ oneP ps 64) ∨ (t = 4 ∧ pairP ps) ∨ (t = 5 ∧ pairP ps) ∨ (t = 6 ∧ oneP ps 16) ∨ (t = 7 ∧ ps.length = 0) ∨ (t = 8 ∧ ps.length = 0) ∨ (t = 9 ∧ oneP ps 16) ∨ (t = 10 ∧ ps.length = 2) ∨ (t = 11 ∧ oneP ps 64)
def insP (t : Int) (ps : List Int) : List Int :=
 if t = 3 ∨ t = 11 then [hd ps] else if t = 4 then List.replicate (hd ps).toNat (hd1 ps) else if t = 5 then [hd ps * hd1 ps] else if t = 6 then List.replicate (hd ps).toNat 1 else if t = 7 then [1, 1] else if t = 10 then [] else [1]
def outsP (t : Int) (ps : List Int) : List Int :=
 if t = 2 then [hd ps] else if t = 4 then [hd ps * hd1 ps] else if t = 5 then List.replicate (hd ps).toNat (hd1 ps) else if t = 9 then List.replicate (hd ps).toNat 1 else if t = 11 then [] else [1]
instance (ps : List Int) : Decidable (pairP ps) := by unfold pairP; infer_instance
instance (ps : List Int) (m : Int) : Decidable (oneP ps m) := by unfold oneP; infer_instance
instance (t : Int) (ps : List Int) : Decidable (goodP t ps) := by unfold goodP; infer_instance
theorem goodP_cases {t : Int} {ps : List Int} (h : goodP t ps) : t = 1 ∨ t = 2 ∨ t = 3 ∨ t = 4 ∨ t = 5 ∨ t = 6 ∨ t = 7 ∨ t = 8 ∨ t = 9 ∨ t = 10 ∨ t = 11 := by
 rcases h with h | h | h | h | h | h | h | h | h | h | h <;> omega
end Go.Proofs.Ytbmbfifempkhgaa

/- What is wrong with a graph: as plain functions. No program in sight. -/
namespace Go.Proofs.Ytbmbfifempkhgaa
open Go.RowKit
instance : DecidableEq ByteArray := fun a b => decidable_of_iff (a.data = b.data) (ByteArray.ext_iff).symm
def byteP (s : ByteArray) (i : Nat) : Int := if h : i < s.size then ((s[i]'h).toNat : Int) else 0
def letterP (b : Int) : Bool := decide (97 ≤ b) && decide (b ≤ 122)
def digitP (b : Int) : Bool := decide (48 ≤ b) && decide (b ≤ 57)
def insideP (b : Int) : Bool := letterP b || digitP b || decide (b = 95)
def nameP (s : ByteArray) : Bool := letterP (byteP s 0) && (List.range s.size).all (fun i => insideP (byteP s i)) && decide (s.size ≤ 16)
def nameE (seen : List ByteArray) (s : ByteArray) : Int := if nameP s then (if seen.any (fun x => decide (x = s)) then 83 else 0) else 82
def side1 (side : List (List Bool)) (a : Int) : List Bool := side[a.toNat]?.getD []
def takeE (side : List (List Bool)) (a p : Int) : Int :=
 if a < 0 ∨ (side.length : Int) ≤ a then 84
 else if p < 0 ∨ ((side1 side a).length : Int) ≤ p then 85
 else if (side1 side a)[p.toNat]?.getD false then 86 else 0
def takeS (side : List (List Bool)) (a p : Int) : List (List Bool) := side.set a.toNat ((side1 side a).set p.toNat true)
structure Chk where
 seen : List ByteArray
 ins : List (List Bool)
 outs : List (List Bool)
def actorE (seen : List ByteArray) (a : GActor) : Int := if nameE seen a.name ≠ 0 then nameE seen a.name else if goodP a.tag a.params then 0 else errP a.tag
def actorC (c : Chk) (a : GActor) : Chk := ⟨c.seen ++ [a.name], c.ins ++ [List.replicate (insP a.tag a.params).length false], c.outs ++ [List.replicate (outsP a.tag a.params).length false]⟩
def actorsE : Chk → List GActor → Int
 | _, [] => 0
 | c, a :: r => if actorE c.seen a ≠ 0 then actorE c.seen a else actorsE (actorC c a) r
def actorsC (c : Chk) (l : List GActor) : Chk := l.foldl actorC c
def edgeE (c : Chk) (e : GEdge) : Int := if takeE c.outs e.src e.sport ≠ 0 then takeE c.outs e.src e.sport else if takeE c.ins e.dst e.dport ≠ 0 then takeE c.ins e.dst e.dport else if 256 < e.start.length then 88 else 0
def edgeC (c : Chk) (e : GEdge) : Chk := ⟨c.seen, takeS c.ins e.dst e.dport, takeS c.outs e.src e.sport⟩
def edgesE : Chk → List GEdge → Int
 | _, [] => 0
 | c, e :: r => if edgeE c e ≠ 0 then edgeE c e else edgesE (edgeC c e) r
def edgesC (c : Chk) (l : List GEdge) : Chk := l.foldl edgeC c
def portE (seen : List ByteArray) (side : List (List Bool)) (p : GPort) : Int := if nameE seen p.name ≠ 0 then nameE seen p.name else takeE side p.actor p.port
def portsE : List ByteArray → List (List Bool) → List GPort → Int
 | _, _, [] => 0
 | seen, side, p :: r => if portE seen side p ≠ 0 then portE seen side p else portsE (seen ++ [p.name]) (takeS side p.actor p.port) r
def portsS (side : List (List Bool)) (l : List GPort) : List (List Bool) := l.foldl (fun s p => takeS s p.actor p.port) side
def portsN (seen : List ByteArray) (l : List GPort) : List ByteArray := seen ++ l.map GPort.name
def headE (g : GGraph) : Int :=
 if !nameP g.name then 82 else if g.actors.length = 0 then 80 else if 32 < g.actors.length then 81 else if 96 < g.edges.length then 81 else if 16 < g.ins.length then 81 else if 16 < g.outs.length then 81 else 0
def openE (ins outs : List (List Bool)) : Int := if (ins.all fun s => s.all id) && (outs.all fun s => s.all id) then 0 else 87
def chk0 : Chk := ⟨[], [], []⟩
def chk1 (g : GGraph) : Chk := actorsC chk0 g.actors
def chk2 (g : GGraph) : Chk := edgesC (chk1 g) g.edges
def checkE (g : GGraph) : Int :=
 if headE g ≠ 0 then headE g
 else if actorsE chk0 g.actors ≠ 0 then actorsE chk0 g.actors
 else if edgesE (chk1 g) g.edges ≠ 0 then edgesE (chk1 g) g.edges
 else if portsE (chk2 g).seen (chk2 g).ins g.ins ≠ 0 then portsE (chk2 g).seen (chk2 g).ins g.ins
 else if portsE (portsN (chk2 g).seen g.ins) (chk2 g).outs g.outs ≠ 0 then portsE (portsN (chk2 g).seen g.ins) (chk2 g).outs g.outs
 else openE (portsS (chk2 g).ins g.ins) (portsS (chk2 g).outs g.outs)
end Go.Proofs.Ytbmbfifempkhgaa

/- The graph's checker in memory. No function in sight. -/
namespace Go.Proofs.Ytbmbfifempkhgaa
open Go.RowKit
open Go.Maps (Keyed IsMap Tidy)
def SeenAt (D : DataW Unit) (seen : List ByteArray) : Prop := IsMap D ∧ ∀ s : ByteArray, D.atKey (.string s.data.toList) (.lit (.int .i64 0)) = .lit (.int .i64 (if seen.any (fun x => decide (x = s)) then 1 else 0))
theorem smap_law : Keyed Try.prog 9 := Maps.string_keyed Try.underlying9
theorem int_zero (w : World) : (zeroValue 3).run Try.prog w = .ok (.int .i64 0) w := by kernel_rfl
theorem seen_start : SeenAt (.map []) [] := ⟨Maps.isMap_empty, fun _ => rfl⟩
theorem seen_next {D : DataW Unit} {seen : List ByteArray} (h : SeenAt D seen) (s : ByteArray) : SeenAt (D.put (.string s.data.toList) (.lit (.int .i64 1))) (seen ++ [s]) := by
 refine ⟨h.1.put _ _, fun t => ?_⟩
 by_cases e : s = t
 ·
  subst e
  rw [Maps.atKey_put_same h.1 (by trivial)]
  simp
 ·
  rw [Maps.atKey_put_other (fun e' => e (ByteArray.ext (Array.toList_inj.1 (by injection e' with e'; exact e'.symm)))), h.2 t]
  have : decide (s = t) = false := decide_eq_false e
  rw [List.any_append, List.any_cons, List.any_nil, this, Bool.or_false, Bool.or_false]
theorem map_turn {w w' : World} {o o' : Col} {C : Nat → Prop} {B n : Nat} {D : DataW Unit} (h : w.ownsMap Try.prog 9 (plainElem Try.prog 3) B n D) (T : Turn o o' C w w') (hc : ¬ C (o B)) : w'.ownsMap Try.prog 9 (plainElem Try.prog 3) B n D ∧ o' B = o B := by
 obtain ⟨es, clock, hb, r⟩ := h
 obtain ⟨h1, h2⟩ := T.block hb hc
 exact ⟨⟨es, clock, h1, r⟩, h2⟩
def bvs (l : List Bool) : List Value := l.map Value.bool
structure Side (w : World) (o : Col) (c d : Nat) (v : Value) (side : List (List Bool)) (gs : List Nat) : Prop where
 len : gs.length = side.length
 own : Own w o c 192 1 v side.length ((List.range side.length).map fun k => .slice (some ⟨gs[k]?.getD 0, 0, none⟩) (side[k]?.getD []).length (side[k]?.getD []).length)
 rows : ∀ k, k < side.length → Blk w o d (gs[k]?.getD 0) 4 (bvs (side[k]?.getD [])).toArray
 apart : ∀ i j, i < j → j < side.length → gs[i]?.getD 0 ≠ gs[j]?.getD 0
theorem Side.nil (w : World) (o : Col) (c d : Nat) : Side w o c d (.slice none 0 0) [] [] :=
 ⟨rfl, Own.nil _ _ _ _ _, fun k hk => by simp at hk, fun i j h hj => by simp at hj⟩
theorem Side.turn {w w' : World} {o o' : Col} {C : Nat → Prop} {c d : Nat} {v : Value} {side : List (List Bool)} {gs : List Nat} (h : Side w o c d v side gs) (T : Turn o o' C w w') (hc : ¬ C c) (hd : ¬ C d) : Side w' o' c d v side gs :=
 ⟨h.len, h.own.turn T hc, fun k hk => (h.rows k hk).turn T hd, h.apart⟩
def ChkC (x : Nat) : Prop := 1 ≤ x ∧ x ≤ 6
structure ChkV where
 name : ByteArray
 va : Value
 ve : Value
 vi : Value
 vo : Value
 vI : Value
 vO : Value
structure ChkAt (w : World) (o : Col) (C B : Nat) (X : ChkV) (k : Chk) : Prop where
 st : ∃ D n gI gO, Blk w o 1 C 179 #[.string X.name, X.va, X.ve, X.vi, X.vo, .map (some B), X.vI, X.vO] ∧ w.ownsMap Try.prog 9 (plainElem Try.prog 3) B n D ∧ o B = 2 ∧ SeenAt D k.seen ∧ n ≤ k.seen.length ∧ Side w o 3 4 X.vI k.ins gI ∧ Side w o 5 6 X.vO k.outs gO
theorem ChkAt.turn {w w' : World} {o o' : Col} {Cs : Nat → Prop} {C B : Nat} {X : ChkV} {k : Chk} (h : ChkAt w o C B X k) (T : Turn o o' Cs w w') (hc : ∀ x, ChkC x → ¬ Cs x) : ChkAt w' o' C B X k := by
 obtain ⟨D, n, gI, gO, h1, h2, h3, h4, h5, h6, h7⟩ := h.st
 obtain ⟨m1, m2⟩ := map_turn h2 T (by rw [h3]; exact hc 2 (by unfold ChkC; omega))
 exact ⟨D, n, gI, gO, h1.turn T (hc 1 (by unfold ChkC; omega)), m1, m2.trans h3, h4, h5, h6.turn T (hc 3 (by unfold ChkC; omega)) (hc 4 (by unfold ChkC; omega)), h7.turn T (hc 5 (by unfold ChkC; omega)) (hc 6 (by unfold ChkC; omega))⟩
theorem ChkAt.cells {w : World} {o : Col} {C B : Nat} {X : ChkV} {k : Chk} (h : ChkAt w o C B X k) :
  w.cell? ⟨C, 0, none⟩ = some (.string X.name) ∧ w.cell? ⟨C, 1, none⟩ = some X.va ∧ w.cell? ⟨C, 2, none⟩ = some X.ve ∧ w.cell? ⟨C, 3, none⟩ = some X.vi ∧ w.cell? ⟨C, 4, none⟩ = some X.vo ∧ w.cell? ⟨C, 5, none⟩ = some (.map (some B)) ∧ w.cell? ⟨C, 6, none⟩ = some X.vI ∧ w.cell? ⟨C, 7, none⟩ = some X.vO := by
 obtain ⟨D, n, gI, gO, h1, _⟩ := h.st
 exact ⟨h1.cell 0 _ rfl, h1.cell 1 _ rfl, h1.cell 2 _ rfl, h1.cell 3 _ rfl, h1.cell 4 _ rfl, h1.cell 5 _ rfl, h1.cell 6 _ rfl, h1.cell 7 _ rfl⟩
theorem ChkAt.froz {w : World} {o : Col} {C B : Nat} {X : ChkV} {k : Chk} (h : ChkAt w o C B X k) (i : Nat) : w.frozen? ⟨C, i, none⟩ = false := by
 obtain ⟨D, n, gI, gO, h1, _⟩ := h.st
 exact h1.frozen i
theorem ChkAt.drewN {w : World} {o : Col} {C B : Nat} {X : ChkV} {k : Chk} (h : ChkAt w o C B X k) (m : Nat) : ChkAt (w.drewN m) o C B X k := h.turn (Turn.of_quiet o ⟨m, rfl⟩) (fun _ _ h => h)
theorem ChkAt.below {w w' : World} {o : Col} {C B : Nat} {X : ChkV} {k : Chk} (h : ChkAt w o C B X k) (c : Nat) (hb : Below w.heap.size w w') : ChkAt w' (ext o w.heap.size c) C B X k := h.turn (Turn.of_below o c hb) (fun _ _ h => h)
theorem ChkAt.ins {w : World} {o : Col} {C B : Nat} {X : ChkV} {k : Chk} (h : ChkAt w o C B X k) : ∃ gI, Side w o 3 4 X.vI k.ins gI := by
 obtain ⟨D, n, gI, gO, h1, h2, h3, h4, h5, h6, h7⟩ := h.st
 exact ⟨gI, h6⟩
theorem ChkAt.outs {w : World} {o : Col} {C B : Nat} {X : ChkV} {k : Chk} (h : ChkAt w o C B X k) : ∃ gO, Side w o 5 6 X.vO k.outs gO := by
 obtain ⟨D, n, gI, gO, h1, h2, h3, h4, h5, h6, h7⟩ := h.st
 exact ⟨gO, h7⟩
theorem ChkAt.tookI {w w' : World} {o : Col} {C B : Nat} {X : ChkV} {k : Chk} {ins : List (List Bool)} (h : ChkAt w o C B X k) (T : Turn o o (fun x => x = 4) w w') {gI : List Nat} (hs : Side w' o 3 4 X.vI ins gI) : ChkAt w' o C B X ⟨k.seen, ins, k.outs⟩ := by
 obtain ⟨D, n, gI', gO, h1, h2, h3, h4, h5, h6, h7⟩ := h.st
 obtain ⟨m1, m2⟩ := map_turn h2 T (by rw [h3]; decide)
 exact ⟨D, n, gI, gO, h1.turn T (by decide), m1, m2.trans h3, h4, h5, hs, h7.turn T (by decide) (by decide)⟩
theorem ChkAt.tookO {w w' : World} {o : Col} {C B : Nat} {X : ChkV} {k : Chk} {outs : List (List Bool)} (h : ChkAt w o C B X k) (T : Turn o o (fun x => x = 6) w w') {gO : List Nat} (hs : Side w' o 5 6 X.vO outs gO) : ChkAt w' o C B X ⟨k.seen, k.ins, outs⟩ := by
 obtain ⟨D, n, gI, gO', h1, h2, h3, h4, h5, h6, h7⟩ := h.st
 obtain ⟨m1, m2⟩ := map_turn h2 T (by rw [h3]; decide)
 exact ⟨D, n, gI, gO, h1.turn T (by decide), m1, m2.trans h3, h4, h5, h6.turn T (by decide) (by decide), hs⟩
theorem results_tmp_row {P : Program} {fn : Func} {p u : Tmp} {ty : TypeId} (h : fn.results = #[.tmp u, .cell p ty]) (tmps : Array Value) (w : World) (g : Nat) (t : TypeId) (cs : Array Value) (fr : Nat × Nat) (d : TypeDesc)
  (hp : tmps.getD p undef = .pointer (some ⟨g, 0, none⟩)) (hg : w.heap[g]? = some (.cells cs t fr))
  (hu : P.underlying ty = some d) (hd : (match d with | .struct _ | .array _ _ => true | _ => false) = true) (hi : (P.info? ty).map (·.size) = some cs.size) :
  (results fn tmps).run P w = .ok (.tuple #[tmps.getD u undef, .agg cs]) w := by
 have hp' : tmps[p]?.getD undef = .pointer (some ⟨g, 0, none⟩) := by simpa using hp
 simp [results, h, hp', asAddr, Result.andThen, run_loadVar_row w g t ty cs fr d hg hu hd hi]
end Go.Proofs.Ytbmbfifempkhgaa

/- The checker's take. -/
namespace Go.Proofs.Ytbmbfifempkhgaa
open Go.RowKit
theorem bvs_get {l : List Bool} {k : Nat} (h : k < l.length) : (bvs l)[k]? = some (.bool (l[k]?.getD false)) := by simp [bvs, h]
theorem bvs_set (l : List Bool) (k : Nat) (b : Bool) : (bvs l).toArray.setIfInBounds k (.bool b) = (bvs (l.set k b)).toArray := by simp [bvs, List.map_set]
theorem Side.row {w : World} {o : Col} {c d : Nat} {ao : Option Addr} {n cap : Nat} {side : List (List Bool)} {gs : List Nat} (h : Side w o c d (.slice ao n cap) side gs) {a : Nat} (ha : a < side.length) :
  n = side.length ∧ n ≤ cap ∧ ∃ g, ao = some ⟨g, 0, none⟩ ∧ w.cell? ⟨g, a, none⟩ = some (.slice (some ⟨gs[a]?.getD 0, 0, none⟩) (side[a]?.getD []).length (side[a]?.getD []).length) := by
 obtain ⟨h1, h2, g, _, h4, h5, _, _⟩ := owns_cell h.own.1 (by simp; omega)
 exact ⟨h1, by omega, g, h4, h5 a _ (by simp [ha])⟩
theorem Side.take {w : World} {o : Col} {c d : Nat} {v : Value} {side : List (List Bool)} {gs : List Nat} (h : Side w o c d v side gs) (hcd : c ≠ d) {a p : Nat} (ha : a < side.length) :
  Turn o o (fun x => x = d) w (w.setCell ⟨gs[a]?.getD 0, p, none⟩ (.bool true)) ∧ Side (w.setCell ⟨gs[a]?.getD 0, p, none⟩ (.bool true)) o c d v (side.set a ((side[a]?.getD []).set p true)) gs := by
 have hb := h.rows a ha
 obtain ⟨s1, T⟩ := hb.set p (.bool true)
 rw [bvs_set] at s1
 refine ⟨T, ⟨by rw [List.length_set]; exact h.len, ?_, fun k hk => ?_, fun i j hij hj => h.apart i j hij (by simpa using hj)⟩⟩
 ·
  have h1 := h.own.turn T (fun e => hcd e)
  rw [List.length_set]
  have e : ((List.range side.length).map fun k => Value.slice (some ⟨gs[k]?.getD 0, 0, none⟩) ((side.set a ((side[a]?.getD []).set p true))[k]?.getD []).length ((side.set a ((side[a]?.getD []).set p true))[k]?.getD []).length) = (List.range side.length).map fun k => .slice (some ⟨gs[k]?.getD 0, 0, none⟩) (side[k]?.getD []).length (side[k]?.getD []).length := by
   refine List.map_congr_left fun k _ => ?_
   have e2 : ((side.set a ((side[a]?.getD []).set p true))[k]?.getD []).length = (side[k]?.getD []).length := by
    by_cases e : a = k
    ·
     subst e
     simp [ha]
    ·
     rw [List.getElem?_set_ne e]
   rw [e2]
  rw [e]
  exact h1
 ·
  rw [List.length_set] at hk
  by_cases e : a = k
  ·
   subst e
   rw [List.getElem?_set_self ha]
   exact s1
  ·
   rw [List.getElem?_set_ne e]
   have hr := h.rows k hk
   have hne : gs[k]?.getD 0 ≠ gs[a]?.getD 0 := by
    rcases Nat.lt_or_gt_of_ne e with h1 | h1
    ·
     exact (h.apart a k h1 hk).symm
    ·
     exact h.apart k a h1 ha
   exact ⟨block_setCell_ne hr.1 hne _, hr.2⟩
theorem side1_nat (side : List (List Bool)) (a : Nat) : side1 side (a : Int) = side[a]?.getD [] := by simp [side1]
set_option maxRecDepth 100000 in
set_option maxHeartbeats 1000000 in
theorem gtake_any (w : World) (o : Col) (c d : Nat) (v : Value) (side : List (List Bool)) (gs : List Nat) (a p : Int) (hcd : c ≠ d) (h : Side w o c d v side gs) :
  Calls Try.prog 112 #[v, .int .i64 a, .int .i64 p] w fun e w' => e = .returned (.int .i64 (takeE side a p)) ∧ Turn o o (fun x => x = d) w w' ∧ (takeE side a p = 0 → Side w' o c d v (takeS side a p) gs) := by
 obtain ⟨ao, cap, rfl⟩ := h.own.slice
 obtain ⟨N, hN⟩ : ∃ N, takeE side a p = N := ⟨_, rfl⟩
 rw [hN]
 have HN := Lib.hid hN
 have HS := Lib.hid h
 clear hN h
 have hT0 := Lib.hid (Turn.refl o (fun x => x = d) w)
 by_cases h1 : a < 0
 ·
  have e : N = 84 := by rw [← HN.out, takeE, if_pos (.inl h1)]
  subst e
  go_enter Try.func112, Try.ntmps112
  go_wp2
  go_ret
  exact ⟨rfl, by first | exact ⟨hT0.out, fun h => by cases h⟩ | exact hT0.out⟩
 obtain ⟨n, rfl⟩ : ∃ n : Nat, a = n := ⟨a.toNat, by omega⟩
 by_cases h2 : side.length ≤ n
 ·
  have h2i : (side.length : Int) ≤ n := by omega
  have e : N = 84 := by rw [← HN.out, takeE, if_pos (.inr h2i)]
  subst e
  go_enter Try.func112, Try.ntmps112
  go_wp2
  go_ret
  exact ⟨rfl, by first | exact ⟨hT0.out, fun h => by cases h⟩ | exact hT0.out⟩
 have hlt : n < side.length := by omega
 have hlti : (n : Int) < side.length := by omega
 obtain ⟨_, hcap, g, rfl, hc⟩ := HS.out.row hlt
 have hcapi : (side.length : Int) ≤ cap := by omega
 have hE : N = if p < 0 ∨ ((side[n]?.getD []).length : Int) ≤ p then 85 else if (side[n]?.getD [])[p.toNat]?.getD false then 86 else 0 := by
  rw [← HN.out, takeE, if_neg (by omega), side1_nat]
 have HE := Lib.hid hE
 obtain ⟨row, hrow⟩ : ∃ row, side[n]?.getD [] = row := ⟨_, rfl⟩
 rw [hrow] at HE hc
 have hblk := HS.out.rows n hlt
 rw [hrow] at hblk
 have HR := Lib.hid hrow
 clear hE hrow
 by_cases h3 : p < 0
 ·
  have e : N = 85 := by rw [HE.out, if_pos (.inl h3)]
  subst e
  go_enter Try.func112, Try.ntmps112
  go_wp2
  go_ret
  exact ⟨rfl, by first | exact ⟨hT0.out, fun h => by cases h⟩ | exact hT0.out⟩
 obtain ⟨q, rfl⟩ : ∃ q : Nat, p = q := ⟨p.toNat, by omega⟩
 by_cases h4 : row.length ≤ q
 ·
  have h4i : (row.length : Int) ≤ q := by omega
  have e : N = 85 := by rw [HE.out, if_pos (.inr h4i)]
  subst e
  go_enter Try.func112, Try.ntmps112
  go_wp2
  go_ret
  exact ⟨rfl, by first | exact ⟨hT0.out, fun h => by cases h⟩ | exact hT0.out⟩
 have h4i : (q : Int) < row.length := by omega
 have hq := hblk.cell q (.bool (row[q]?.getD false)) (by rw [List.getElem?_toArray]; exact bvs_get (by omega))
 have hfz := hblk.frozen q
 have hE2 : N = if row[q]?.getD false then 86 else 0 := by rw [HE.out, if_neg (by omega)]; rfl
 have HE2 := Lib.hid hE2
 clear hE2 hblk HE
 obtain ⟨b, hb⟩ : ∃ b, row[q]?.getD false = b := ⟨_, rfl⟩
 rw [hb] at hq HE2
 clear hb
 cases b with
 | true =>
  have e : N = 86 := HE2.out
  subst e
  go_enter Try.func112, Try.ntmps112
  go_wp2
  go_ret
  exact ⟨rfl, by first | exact ⟨hT0.out, fun h => by cases h⟩ | exact hT0.out⟩
 | false =>
  have e : N = 0 := HE2.out
  subst e
  obtain ⟨t1, t2⟩ := HS.out.take hcd (a := n) (p := q) hlt
  have T1 := Lib.hid t1
  have T2 : Hid (Side (w.setCell ⟨gs[n]?.getD 0, q, none⟩ (.bool true)) o c d (.slice (some ⟨g, 0, none⟩) side.length cap) (takeS side (n : Int) (q : Int)) gs) := Lib.hid (by simpa [takeS, side1_nat] using t2)
  clear t1 t2
  go_enter Try.func112, Try.ntmps112
  go_wp2
  go_ret
  exact ⟨rfl, T1.out, by first | exact T2.out | exact fun _ => T2.out⟩
end Go.Proofs.Ytbmbfifempkhgaa

/- Operations, rows of rows of operations in memory. No function in sight. -/
namespace Go.Proofs.Ytbmbfifempkhgaa
open Go.RowKit
theorem info_Op : (Try.prog.info? 61).map (fun i => (i.zero, i.size, i.bytes)) = some (some opZ, 3, 24) := by kernel_rfl
theorem info_Ops : (Try.prog.info? 37).map (fun i => (i.zero, i.size, i.bytes)) = some (some (.slice none 0 0), 1, 24) := by kernel_rfl
structure OpM (w : World) (o : Col) (c d : Nat) (v : Value) (m : List (List GOp)) (vs : List Value) : Prop where
 len : vs.length = m.length
 own : Own w o c 37 1 v m.length vs
 rows : ∀ k, k < m.length → Own w o d 61 3 (vs[k]?.getD undef) (m[k]?.getD []).length (opsV (m[k]?.getD []))
 apart : ∀ i j B, i < j → j < m.length → (vs[i]?.getD undef).ownBlock = some B → (vs[j]?.getD undef).ownBlock ≠ some B
section
variable {w w1 w' : World} {o o1 o' : Col} {C : Nat → Prop} {c d : Nat} {v : Value} {m : List (List GOp)} {vs : List Value}
theorem OpM.turn (h : OpM w o c d v m vs) (T : Turn o o' C w w') (hc : ¬ C c) (hd : ¬ C d) : OpM w' o' c d v m vs :=
 ⟨h.len, h.own.turn T hc, fun k hk => (h.rows k hk).turn T hd, h.apart⟩
theorem OpM.row {ao : Option Addr} {n cap : Nat} (h : OpM w o c d (.slice ao n cap) m vs) {a : Nat} (ha : a < m.length) :
  n = m.length ∧ n ≤ cap ∧ ∃ g, ao = some ⟨g, 0, none⟩ ∧ w.cell? ⟨g, a, none⟩ = some (vs[a]?.getD undef) ∧ w.frozen? ⟨g, a, none⟩ = false := by
 obtain ⟨h1, h2, g, _, h4, h5, h6, _⟩ := owns_cell h.own.1 (by have := h.len; omega)
 refine ⟨h1, by omega, g, h4, ?_, h6 a⟩
 have hl := h.len
 rw [h5 a vs[a] (by simp [show a < vs.length by omega])]
 simp [show a < vs.length by omega]
theorem OpM.apart' (h : OpM w o c d v m vs) {i j B : Nat} (hij : i ≠ j) (hi : i < m.length) (hj : j < m.length) (hB : (vs[i]?.getD undef).ownBlock = some B) : (vs[j]?.getD undef).ownBlock ≠ some B := by
 rcases Nat.lt_or_gt_of_ne hij with hlt | hlt
 ·
  exact h.apart i j B hlt hj hB
 ·
  exact fun e => h.apart j i B hlt hi e hB
theorem OpM.cell (h : OpM w o c d v m vs) (hcd : c ≠ d) {a G n' cap' i : Nat} (ha : a < m.length) (hG : vs[a]?.getD undef = .slice (some ⟨G, 0, none⟩) n' cap') {l' : List GOp} {u : Value} (hl : l'.length = (m[a]?.getD []).length) (hu : (opsV (m[a]?.getD [])).set i u = opsV l') :
  OpM (w.setCell ⟨G, i, none⟩ u) o c d v (m.set a l') vs ∧ Turn o o (fun x => x = d) w (w.setCell ⟨G, i, none⟩ u) := by
 have hr := h.rows a ha
 rw [hG] at hr
 have hoG : o G = d := hr.2 G rfl
 have T : Turn o o (fun x => x = d) w (w.setCell ⟨G, i, none⟩ u) := ⟨(Mods.refl (fun k => o k = d) w).setCell (p := ⟨G, i, none⟩) (fun _ => hoG) u, fun _ _ => rfl⟩
 have hn : n' = (m[a]?.getD []).length := by
  rcases hr.1.2 with ⟨e, _⟩ | ⟨_, _, _, e, _⟩
  ·
   cases e
  ·
   cases e; rfl
 refine ⟨⟨by rw [List.length_set]; exact h.len, ?_, fun k hk => ?_, fun i j B hij hj => h.apart i j B hij (by simpa using hj)⟩, T⟩
 ·
  rw [List.length_set]; exact h.own.turn T (fun e => hcd e)
 ·
  rw [List.length_set] at hk
  by_cases e : a = k
  ·
   subst e
   rw [List.getElem?_set_self ha, Option.getD_some, hG]
   have hr1 := hr.1
   subst hn
   have hs := (hr1.stored i u).1
   rw [hu, ← hl] at hs
   rw [← hl]
   exact ⟨hs, hr.2⟩
  ·
   rw [List.getElem?_set_ne e]
   have hk2 := h.rows k hk
   exact ⟨ownsRow_setCell_other hk2.1 (fun e2 => h.apart' e ha hk (by rw [hG]; rfl) e2) u, hk2.2⟩
theorem OpM.lay {g n cap a : Nat} {l' : List GOp} {v' : Value} {F : Nat → Prop} (h : OpM w o c d (.slice (some ⟨g, 0, none⟩) n cap) m vs) (hcd : c ≠ d) (ha : a < m.length) (hm : Mods F w w1) (hF : ∀ k, k < w.heap.size → F k → (vs[a]?.getD undef).ownBlock = some k)
  (ho : ∀ k, k < w.heap.size → o1 k = o k) (hv : Own w1 o1 d 61 3 v' l'.length (opsV l')) (hb : v'.ownBlock = (vs[a]?.getD undef).ownBlock ∨ ∀ k, v'.ownBlock = some k → w.heap.size ≤ k) :
  OpM (w1.setCell ⟨g, a, none⟩ v') o1 c d (.slice (some ⟨g, 0, none⟩) n cap) (m.set a l') (vs.set a v') ∧ Turn o o1 (fun x => x = c ∨ x = d) w (w1.setCell ⟨g, a, none⟩ v') := by
 have hgw : g < w.heap.size := (h.own.1.lt g rfl).2
 have hgc : o g = c := h.own.2 g rfl
 have T : Turn o o1 (fun x => x = c ∨ x = d) w (w1.setCell ⟨g, a, none⟩ v') :=
  ⟨(hm.mono (G := fun k => o k = c ∨ o k = d) (fun k hk f => .inr ((h.rows a ha).2 k (hF k hk f)))).setCell (p := ⟨g, a, none⟩) (fun _ => .inl hgc) v', ho⟩
 have hrow : ∀ k, k < m.length → ∀ B, (vs[k]?.getD undef).ownBlock = some B → B < w.heap.size ∧ o B = d := fun k hk B hB => ⟨((h.rows k hk).1.lt B hB).2, (h.rows k hk).2 B hB⟩
 have hgF : ¬ F g := fun f => by
  have := (hrow a ha g (hF g hgw f)).2
  omega
 have hnew : ∀ k, k < m.length → k ≠ a → ∀ B, (vs[k]?.getD undef).ownBlock = some B → v'.ownBlock ≠ some B := fun k hk hka B hB e => by
  rcases hb with hb | hb
  ·
   rw [hb] at e
   exact h.apart' hka hk ha hB e
  ·
   have := hb B e
   have := (hrow k hk B hB).1
   omega
 have hvg : v'.ownBlock ≠ some g := fun e => by
  rcases hb with hb | hb
  ·
   rw [hb] at e
   have := (hrow a ha g e).2
   omega
  ·
   have := hb g e; omega
 have hl := h.len
 have hown1 : w1.ownsRow 0 37 1 (.slice (some ⟨g, 0, none⟩) n cap) m.length vs := owns_kept h.own.1 hm (fun k hk f => by have e : g = k := Option.some.inj hk; subst e; exact hgF f)
 have hn : n = m.length := by
  rcases h.own.1.2 with ⟨e, _⟩ | ⟨_, _, _, e, _⟩
  ·
   cases e
  ·
   cases e; rfl
 subst hn
 refine ⟨⟨by simp [hl], ?_, fun k hk => ?_, fun i j B hij hj hB => ?_⟩, T⟩
 ·
  rw [List.length_set]
  exact ⟨(hown1.stored a v').1, fun k hk => by have e : g = k := Option.some.inj hk; subst e; exact (ho g hgw).trans hgc⟩
 ·
  rw [List.length_set] at hk
  by_cases e : a = k
  ·
   subst e
   rw [List.getElem?_set_self ha, List.getElem?_set_self (by omega), Option.getD_some, Option.getD_some]
   exact ⟨ownsRow_setCell_other hv.1 hvg v', hv.2⟩
  ·
   rw [List.getElem?_set_ne e, List.getElem?_set_ne e]
   have hk2 := h.rows k hk
   refine ⟨ownsRow_setCell_other (owns_kept hk2.1 hm fun B hB f => ?_) (fun e2 => ?_) v', fun B hB => (ho B (hrow k hk B hB).1).trans (hk2.2 B hB)⟩
   ·
    exact h.apart' (fun e' => e e'.symm) hk ha hB (hF B (hrow k hk B hB).1 f)
   ·
    have := (hrow k hk g e2).2
    omega
 ·
  rw [List.length_set] at hj
  by_cases hai : a = i
  ·
   subst hai
   rw [List.getElem?_set_self (by omega), Option.getD_some] at hB
   rw [List.getElem?_set_ne (by omega)]
   intro e
   exact hnew j hj (by omega) B e hB
  ·
   rw [List.getElem?_set_ne hai] at hB
   by_cases haj : a = j
   ·
    subst haj
    rw [List.getElem?_set_self (by omega), Option.getD_some]
    exact hnew i (by omega) (by omega) B hB
   ·
    rw [List.getElem?_set_ne haj]
    exact h.apart i j B hij hj hB
end
end Go.Proofs.Ytbmbfifempkhgaa

/- The writer's put, head, back. -/
namespace Go.Proofs.Ytbmbfifempkhgaa
open Go.RowKit
def MkC (x : Nat) : Prop := x = 1 ∨ x = 2
structure MkAt (w : World) (o : Col) (M : Nat) (vo : Value) (ops : List GOp) (op cnt : Int) (vf : Value) : Prop where
 blk : Blk w o 1 M 104 #[vo, .int .i64 op, .int .i64 cnt, vf]
 own : Own w o 2 61 3 vo ops.length (opsV ops)
theorem MkAt.turn {w w' : World} {o o' : Col} {C : Nat → Prop} {M : Nat} {vo vf : Value} {ops : List GOp} {op cnt : Int} (h : MkAt w o M vo ops op cnt vf) (T : Turn o o' C w w') (h1 : ¬ C 1) (h2 : ¬ C 2) : MkAt w' o' M vo ops op cnt vf := ⟨h.blk.turn T h1, h.own.turn T h2⟩
theorem MkAt.drewN {w : World} {o : Col} {M : Nat} {vo vf : Value} {ops : List GOp} {op cnt : Int} (h : MkAt w o M vo ops op cnt vf) (m : Nat) : MkAt (w.drewN m) o M vo ops op cnt vf := ⟨h.blk, h.own⟩
theorem MkAt.setN {w : World} {o : Col} {M : Nat} {vo vf : Value} {ops : List GOp} {op cnt : Int} (h : MkAt w o M vo ops op cnt vf) (x : Int) : MkAt (w.setCell ⟨M, 1, none⟩ (.int .i64 x)) o M vo ops x cnt vf ∧ Turn o o MkC w (w.setCell ⟨M, 1, none⟩ (.int .i64 x)) := by
 obtain ⟨b, T⟩ := h.blk.set 1 (.int .i64 x)
 exact ⟨⟨b, h.own.turn T (by decide)⟩, T.mono (fun x e => .inl e)⟩
theorem MkAt.setC {w : World} {o : Col} {M : Nat} {vo vf : Value} {ops : List GOp} {op cnt : Int} (h : MkAt w o M vo ops op cnt vf) (x : Int) : MkAt (w.setCell ⟨M, 2, none⟩ (.int .i64 x)) o M vo ops op x vf ∧ Turn o o MkC w (w.setCell ⟨M, 2, none⟩ (.int .i64 x)) := by
 obtain ⟨b, T⟩ := h.blk.set 2 (.int .i64 x)
 exact ⟨⟨b, h.own.turn T (by decide)⟩, T.mono (fun x e => .inl e)⟩
theorem MkAt.grow {w w2 : World} {o : Col} {M : Nat} {vo vf v' : Value} {ops news : List GOp} {op cnt : Int} (h : MkAt w o M vo ops op cnt vf) (k1 : w2.ownsRow 0 61 3 v' (ops.length + news.length) (opsV ops ++ opsV news)) (k2 : Mods (fun b => vo.ownBlock = some b) w w2)
  (k4 : v'.ownBlock = vo.ownBlock ∨ ∀ b, v'.ownBlock = some b → w.heap.size ≤ b) :
  w2.cell? ⟨M, 0, none⟩ = some vo ∧ w2.frozen? ⟨M, 0, none⟩ = false ∧ Turn o (ext o w.heap.size 2) MkC w (w2.setCell ⟨M, 0, none⟩ v') ∧ MkAt (w2.setCell ⟨M, 0, none⟩ v') (ext o w.heap.size 2) M v' (ops ++ news) op cnt vf := by
 have T : Turn o (ext o w.heap.size 2) (fun x => x = 2) w w2 := Turn.of_mods o 2 k2 (fun b _ hb => h.own.2 b hb)
 have b2 := h.blk.turn T (by decide)
 obtain ⟨b3, T3⟩ := b2.set 0 v'
 have hM := h.blk.lt
 have hMc : o M = 1 := h.blk.2
 have hvM : v'.ownBlock ≠ some M := fun e => by
  rcases k4 with k4 | k4
  ·
   rw [k4] at e
   have := h.own.2 M e
   omega
  ·
   have := k4 M e; omega
 refine ⟨b2.cell 0 _ rfl, b2.frozen 0, (T.mono (D := MkC) (fun x e => .inr e)).trans T3 (fun x e => .inl e), b3, ?_, fun b hb => ?_⟩
 ·
  rw [List.length_append, opsV_app]
  exact ownsRow_setCell_other k1 hvM v'
 ·
  rcases k4 with k4 | k4
  ·
   rw [k4] at hb
   exact (ext_old (h.own.1.lt b hb).2).trans (h.own.2 b hb)
  ·
   exact ext_new (k4 b hb)
def MkRet (v : Value) (w : World) (o : Col) (M : Nat) (ops : List GOp) (op cnt : Int) (vf : Value) (e : Ending) (w' : World) : Prop := e = .returned v ∧ ∃ o' vo', Turn o o' MkC w w' ∧ MkAt w' o' M vo' ops op cnt vf
set_option maxRecDepth 100000 in
set_option maxHeartbeats 1000000 in
theorem put_any (w : World) (o : Col) (M : Nat) (vo vf : Value) (ops : List GOp) (op cnt kd a b : Int) (h : MkAt w o M vo ops op cnt vf) (hl : ops.length ≤ 100000000000) :
  Calls Try.prog 45 #[.pointer (some ⟨M, 0, none⟩), .int .u8 kd, .int .i64 a, .int .i64 b] w (MkRet (.tuple #[]) w o M (ops ++ [⟨kd, a, b⟩]) op cnt vf) := by
 obtain ⟨i0, hi, hz0, hz1, hz2⟩ := info_parts info_Op
 obtain ⟨sa, sc, rfl⟩ := h.own.slice
 have q0 := h.blk.cell 0 _ rfl
 have HH := Lib.hid h
 clear h
 go_enter Try.func45, Try.ntmps45
 go_wp2_with (at_builtin; refine stop_here ?_)
 refine go_on ?_
 refine wpList_app rfl _ _ 37 rfl 0 61 i0 _ 3 24 Try.underlying37 hi hz0 hz1 hz2 rfl (.slice sa ops.length sc) ops.length _ rfl (HH.out.own.1.alloc (.cells #[.int .u8 kd, .int .i64 a, .int .i64 b] 61)) (some ⟨w.heap.size, 0, none⟩) 1 1 [.int .u8 kd, .int .i64 a, .int .i64 b] rfl rfl (fun h => by cases h) (news_alloc w [.int .u8 kd, .int .i64 a, .int .i64 b] 61) (by simp [Value.oneCell']) (by unfold maxLen; omega) (grow_ok (by omega)) (Nat.zero_le _) ?_
 intro v5 w5 k1 k20 _ k4
 have hm : Mods (fun b => (Value.slice sa ops.length sc).ownBlock = some b) w w5 := ((Mods.refl _ w).alloc _).grown k20 (fun b hb _ => hb)
 obtain ⟨z0, zf, T, N⟩ := HH.out.grow (news := [⟨kd, a, b⟩]) (v' := v5) (w2 := w5) k1 hm (k4.imp id (fun k4 b hb => by rw [k4] at hb; have := Option.some.inj hb; simp at this; omega))
 obtain ⟨s5, c5, rfl⟩ := owns_slice k1
 have HT := Lib.hid T
 have HN := Lib.hid N
 clear T N k1 k20 k4 hm q0
 go_wp2
 go_end0
 exact ⟨rfl, _, _, HT.out, HN.out⟩
set_option maxRecDepth 100000 in
set_option maxHeartbeats 1000000 in
theorem head_any (w : World) (o : Col) (M : Nat) (vo vf : Value) (ops : List GOp) (op cnt : Nat) (t : Int) (h : MkAt w o M vo ops op cnt vf) (hl : ops.length ≤ 10000000000) (ho : op ≤ 1000000) (_hc : cnt ≤ 1000000) :
  Calls Try.prog 79 #[.pointer (some ⟨M, 0, none⟩), .int .i64 t] w (MkRet (.int .i64 ((ops.length + 1 : Nat) : Int)) w o M (ops ++ [⟨1, op, t⟩]) ((op + 1 : Nat) : Int) ((max cnt (op + 1) : Nat) : Int) vf) := by
 have q1 := h.blk.cell 1 _ rfl
 have HH := Lib.hid h
 have hl1 : ops.length ≤ 100000000000 := by omega
 clear h
 go_enter Try.func79, Try.ntmps79
 go_wp2_with fail
 refine (put_any w o M vo vf ops op cnt 1 op t HH.out hl1).mono ?_
 rintro e w2 ⟨rfl, o2, vo2, T2, h2⟩
 obtain ⟨s2, c2, rfl⟩ := h2.own.slice
 have p1 := h2.blk.cell 1 _ rfl
 have f1 := h2.blk.frozen 1
 have p2 := h2.blk.cell 2 _ rfl
 have f2 := h2.blk.frozen 2
 have hw : IntKind.i64.wrap ((op : Int) + 1) = (op : Int) + 1 := IntWalk.i64_in _ (by omega)
 obtain ⟨n3, T3⟩ := h2.setN ((op : Int) + 1)
 have HT2 := Lib.hid T2
 have HT3 := Lib.hid T3
 have HN3 := Lib.hid n3
 have m1 := n3.blk.cell 1 _ rfl
 have m2 := n3.blk.cell 2 _ rfl
 clear T2 T3 n3 q1 h2
 by_cases hx : op + 1 ≤ cnt
 ·
  have hxi : (op : Int) + 1 ≤ cnt := by omega
  obtain ⟨n4, T4⟩ := HN3.out.setC ((cnt : Int))
  have HT4 := Lib.hid T4
  have HN4 := Lib.hid n4
  have y0 := n4.blk.cell 0 _ rfl
  clear T4 n4
  go_wp2_with fail
  refine wp_region_lex (fun w' => w'.cell? ⟨M, 1, none⟩ = some (.int .i64 ((op : Int) + 1)) ∧ w'.cell? ⟨M, 2, none⟩ = some (.int .i64 cnt)) [0, 1, 2, 3, 4, 5, 6, 7, 8, 9, 10, 11] [12] (by kernel_rfl) (by kernel_rfl) rfl (fun _ _ hx h => ⟨hx.cell h.1, hx.cell h.2⟩) ⟨m1, m2⟩ ?_
  intro Q' hQ'
  simp only [pickOps, List.flatMap_cons, List.flatMap_nil, List.drop_succ_cons, List.drop_zero, List.take_succ_cons, List.take_zero, List.cons_append, List.nil_append, List.append_nil]
  repeat (first
   | (refine wpReads_skip (by rfl) ?_; (try simp only [Act.put, List.setIfInBounds_toArray, List.set_cons_zero, List.set_cons_succ]))
   | (refine wpReads_cons ?_ (by rfl) (by rfl) ?_ ?_; rotate_left; (intro wz hz; (try dsimp only at hz); go_simp; try with_reducible rfl); (try simp only [Act.put, List.setIfInBounds_toArray, List.set_cons_zero, List.set_cons_succ]))
   | (refine wpReads_any ?_ (by rfl) ?_ ?_; rotate_left; (intro wz; go_simp; try with_reducible rfl); (try simp only [Act.put, List.setIfInBounds_toArray, List.set_cons_zero, List.set_cons_succ])))
  refine wpReads_nil ?_
  go_wp2
  go_ret
  exact ⟨congrArg Ending.returned (congrArg (Value.int .i64) (by simp)), o2, _, (HT2.out.trans HT3.out (fun _ h => h)).trans HT4.out.drew (fun _ h => h), by first | exact HN4.out.drewN 1 | (rw [show ((op + 1 : Nat) : Int) = (op : Int) + 1 by omega, show ((max cnt (op + 1) : Nat) : Int) = (cnt : Int) by omega]; exact HN4.out.drewN 1)⟩
 ·
  have hxi : (cnt : Int) < op + 1 := by omega
  obtain ⟨n4, T4⟩ := HN3.out.setC ((op : Int) + 1)
  have HT4 := Lib.hid T4
  have HN4 := Lib.hid n4
  have y0 := n4.blk.cell 0 _ rfl
  clear T4 n4
  go_wp2_with fail
  refine wp_region_lex (fun w' => w'.cell? ⟨M, 1, none⟩ = some (.int .i64 ((op : Int) + 1)) ∧ w'.cell? ⟨M, 2, none⟩ = some (.int .i64 cnt)) [0, 1, 2, 3, 4, 5, 6, 7, 8, 9, 10, 11] [12] (by kernel_rfl) (by kernel_rfl) rfl (fun _ _ hx h => ⟨hx.cell h.1, hx.cell h.2⟩) ⟨m1, m2⟩ ?_
  intro Q' hQ'
  simp only [pickOps, List.flatMap_cons, List.flatMap_nil, List.drop_succ_cons, List.drop_zero, List.take_succ_cons, List.take_zero, List.cons_append, List.nil_append, List.append_nil]
  repeat (first
   | (refine wpReads_skip (by rfl) ?_; (try simp only [Act.put, List.setIfInBounds_toArray, List.set_cons_zero, List.set_cons_succ]))
   | (refine wpReads_cons ?_ (by rfl) (by rfl) ?_ ?_; rotate_left; (intro wz hz; (try dsimp only at hz); go_simp; try with_reducible rfl); (try simp only [Act.put, List.setIfInBounds_toArray, List.set_cons_zero, List.set_cons_succ]))
   | (refine wpReads_any ?_ (by rfl) ?_ ?_; rotate_left; (intro wz; go_simp; try with_reducible rfl); (try simp only [Act.put, List.setIfInBounds_toArray, List.set_cons_zero, List.set_cons_succ])))
  refine wpReads_nil ?_
  go_wp2
  go_ret
  exact ⟨congrArg Ending.returned (congrArg (Value.int .i64) (by simp)), o2, _, (HT2.out.trans HT3.out (fun _ h => h)).trans HT4.out.drew (fun _ h => h), by first | exact HN4.out.drewN 1 | (rw [show ((op + 1 : Nat) : Int) = (op : Int) + 1 by omega, show ((max cnt (op + 1) : Nat) : Int) = (op : Int) + 1 by omega]; exact HN4.out.drewN 1)⟩
set_option maxRecDepth 100000 in
theorem back_any (w : World) (o : Col) (M : Nat) (vo vf : Value) (ops : List GOp) (op : Nat) (cnt t : Int) (h : MkAt w o M vo ops ((op + 1 : Nat) : Int) cnt vf) (hl : ops.length ≤ 10000000000) (ho : op ≤ 1000000) :
  Calls Try.prog 80 #[.pointer (some ⟨M, 0, none⟩), .int .i64 t] w (MkRet (.tuple #[]) w o M (ops ++ [⟨2, op, t⟩]) op cnt vf) := by
 have hi : ((op + 1 : Nat) : Int) = (op : Int) + 1 := by omega
 rw [hi] at h
 clear hi
 have q1 := h.blk.cell 1 _ rfl
 have f1 := h.blk.frozen 1
 have hw : IntKind.i64.wrap ((op : Int) + 1 - 1) = (op : Int) := by rw [IntWalk.i64_in _ (by omega)]; omega
 obtain ⟨n3, T3⟩ := h.setN (op : Int)
 have p1 := n3.blk.cell 1 _ rfl
 have HT3 := Lib.hid T3
 have HN3 := Lib.hid n3
 have hl1 : ops.length ≤ 100000000000 := by omega
 clear h T3 n3
 go_enter Try.func80, Try.ntmps80
 go_wp2_with fail
 refine (put_any _ o M vo vf ops op cnt 2 op t HN3.out hl1).mono ?_
 rintro e w2 ⟨rfl, o2, vo2, T2, h2⟩
 have HT := Lib.hid (HT3.out.trans T2 (fun _ h => h))
 have HN := Lib.hid h2
 clear T2 h2
 go_wp2
 go_end0
 exact ⟨rfl, _, _, HT.out, HN.out⟩
end Go.Proofs.Ytbmbfifempkhgaa

/- emit's own. -/
namespace Go.Proofs.Ytbmbfifempkhgaa
open Go.RowKit
def OwnRet (w : World) (l : List Int) (e : Ending) (w' : World) : Prop := ∃ v, e = .returned v ∧ w'.ownsRow w.heap.size 3 1 v l.length (ivs l) ∧ Below w.heap.size w w'
set_option maxRecDepth 100000 in
theorem eown_any {o : Col} {c : Nat} (w : World) (ao : Option Addr) (n cap : Nat) (l : List Int) (h : Ints w o c (.slice ao n cap) l) (hn : l.length ≤ 17600000000000) : Calls Try.prog 46 #[.slice ao n cap] w (OwnRet w l) := by
 obtain ⟨i0, hi, hz0, hz1, hz2⟩ := info_parts info_int
 obtain rfl := h.len
 have hnews := h.news
 go_enter Try.func46, Try.ntmps46
 go_wp2_with (at_builtin; refine stop_here ?_)
 refine go_on ?_
 refine wpList_app rfl _ _ 52 rfl w.heap.size 3 i0 _ 1 8 Try.underlying52 hi hz0 hz1 hz2 rfl (.slice none 0 0) 0 [] rfl (World.ownsRow_nil w w.heap.size 3 1) ao l.length cap (ivs l) rfl (by simp) hnews.1 (by simpa using hnews.2) (ivs_one l) (by unfold maxLen; omega) (grow_ok (by omega)) (Nat.le_refl _) ?_
 intro v5 w5 k1 k20 _ _
 have hb : Below w.heap.size w w5 := below_mods ((Mods.refl _ w).grown k20 (fun b hb _ => by simp [Value.ownBlock] at hb))
 have k3 : w5.ownsRow w.heap.size 3 1 v5 l.length (ivs l) := by simpa using k1
 obtain ⟨s5, c5, rfl⟩ := owns_slice k3
 clear k1 k20 hnews h
 go_wp2
 go_ret
 exact ⟨_, rfl, k3, hb⟩
end Go.Proofs.Ytbmbfifempkhgaa

/- The closure of firings: an operation gets its kind and what it is on. -/
namespace Go.Proofs.Ytbmbfifempkhgaa
open Go.RowKit
def rowM (m : List (List GOp)) (a : Nat) : List GOp := m[a]?.getD []
def bAt (l : List GOp) (k : Nat) : Int := match l[k]? with | some x => x.b | none => 0
def putL (l : List GOp) (k : Nat) (kd x : Int) : List GOp := l.set k ⟨kd, x, bAt l k⟩
def putM (m : List (List GOp)) (a k : Nat) (kd x : Int) : List (List GOp) := m.set a (putL (rowM m a) k kd x)
theorem putL_len (l : List GOp) (k : Nat) (kd x : Int) : (putL l k kd x).length = l.length := by simp [putL]
theorem putM_len (m : List (List GOp)) (a k : Nat) (kd x : Int) : (putM m a k kd x).length = m.length := by simp [putM]
theorem putM_row (m : List (List GOp)) (a k : Nat) (kd x : Int) (i : Nat) : (rowM (putM m a k kd x) i).length = (rowM m i).length := by
 unfold putM rowM
 by_cases e : a = i
 ·
  subst e
  by_cases h : a < m.length
  ·
   rw [List.getElem?_set_self h, Option.getD_some, putL_len]
  ·
   rw [List.getElem?_eq_none (by simpa using Nat.le_of_not_lt h), List.getElem?_eq_none (by omega)]
 ·
  rw [List.getElem?_set_ne e]
theorem opsV_setK : ∀ (l : List GOp) (k : Nat) (h : k < l.length) (kd : Int), (opsV l).set (k * 3) (.int .u8 kd) = opsV (l.set k ⟨kd, l[k].a, l[k].b⟩)
 | [], k, h, _ => by simp at h
 | x :: l, 0, _, b => rfl
 | x :: l, k + 1, h, b => by
  have ih := opsV_setK l k (by simpa using h) b
  rw [opsV_cons, show (k + 1) * 3 = k * 3 + 1 + 1 + 1 by omega]
  simp only [List.set_cons_succ, ih, List.getElem_cons_succ, opsV_cons]
def OnRet (w : World) (o : Col) (c d : Nat) (v : Value) (m : List (List GOp)) (vs : List Value) (e : Ending) (w' : World) : Prop := e = .returned (.tuple #[]) ∧ Turn o o (fun x => x = d) w w' ∧ OpM w' o c d v m vs
theorem OpM.slot {w : World} {o : Col} {c d : Nat} {v : Value} {m : List (List GOp)} {vs : List Value} (h : OpM w o c d v m vs) {a : Nat} (ha : a < m.length) {k : Nat} (hk : k < (rowM m a).length) :
  ∃ G cap, vs[a]?.getD undef = .slice (some ⟨G, 0, none⟩) (rowM m a).length cap ∧ (rowM m a).length ≤ cap ∧ (∀ i, w.frozen? ⟨G, i, none⟩ = false) ∧ w.cell? ⟨G, k * 3, none⟩ = some (.int .u8 (rowM m a)[k].kind) ∧ w.cell? ⟨G, k * 3 + 1, none⟩ = some (.int .i64 (rowM m a)[k].a) ∧ w.cell? ⟨G, k * 3 + 2, none⟩ = some (.int .i64 (rowM m a)[k].b) := by
 have hr := (h.rows a ha).1
 rcases hr.2 with ⟨_, h0⟩ | ⟨G, cap, cur, e, _, hg, hc, _⟩
 ·
  rw [rowM] at hk; omega
 ·
  rw [e] at hr
  obtain ⟨g1, g2, g3⟩ := opsV_get (rowM m a) k hk
  refine ⟨G, cap, e, hc, fun i => frozen_of_block hg i, ?_, ?_, ?_⟩
  ·
   have := hr.cells (g := G) rfl _ _ g1
   rwa [Addr.add_lit, Nat.zero_add] at this
  ·
   have := hr.cells (g := G) rfl _ _ g2
   rwa [Addr.add_lit, Nat.zero_add] at this
  ·
   have := hr.cells (g := G) rfl _ _ g3
   rwa [Addr.add_lit, Nat.zero_add] at this
theorem OpM.on {w : World} {o : Col} {c d : Nat} {v : Value} {m : List (List GOp)} {vs : List Value} (h : OpM w o c d v m vs) (hcd : c ≠ d) {a : Nat} (ha : a < m.length) {k : Nat} (hk : k < (rowM m a).length) {G n' cap : Nat} (hG : vs[a]?.getD undef = .slice (some ⟨G, 0, none⟩) n' cap) (kd x : Int) :
  Turn o o (fun x => x = d) w ((w.setCell ⟨G, k * 3, none⟩ (.int .u8 kd)).setCell ⟨G, k * 3 + 1, none⟩ (.int .i64 x)) ∧ OpM ((w.setCell ⟨G, k * 3, none⟩ (.int .u8 kd)).setCell ⟨G, k * 3 + 1, none⟩ (.int .i64 x)) o c d v (putM m a k kd x) vs := by
 have hb : (rowM m a)[k].b = bAt (rowM m a) k := by simp [bAt, hk]
 have e1 : (opsV (rowM m a)).set (k * 3) (.int .u8 kd) = opsV ((rowM m a).set k ⟨kd, (rowM m a)[k].a, (rowM m a)[k].b⟩) := opsV_setK _ _ hk kd
 obtain ⟨p1, T1⟩ := h.cell hcd (l' := (rowM m a).set k ⟨kd, (rowM m a)[k].a, (rowM m a)[k].b⟩) (u := .int .u8 kd) (i := k * 3) ha hG (by simp [rowM]) e1
 have ha2 : a < (m.set a ((rowM m a).set k ⟨kd, (rowM m a)[k].a, (rowM m a)[k].b⟩)).length := by simpa using ha
 have er : (m.set a ((rowM m a).set k ⟨kd, (rowM m a)[k].a, (rowM m a)[k].b⟩))[a]?.getD [] = (rowM m a).set k ⟨kd, (rowM m a)[k].a, (rowM m a)[k].b⟩ := by rw [List.getElem?_set_self ha]; rfl
 obtain ⟨p2, T2⟩ := p1.cell hcd (l' := putL (rowM m a) k kd x) (u := .int .i64 x) (i := k * 3 + 1) ha2 hG (by rw [er]; simp [putL]) (by
  rw [er, ← e1, opsV_setKA _ _ hk, putL, hb])
 refine ⟨T1.trans T2 (fun _ h => h), ?_⟩
 rw [List.set_set] at p2
 exact p2
set_option maxRecDepth 100000 in
theorem on_any (w : World) (o : Col) (c d : Nat) (v : Value) (m : List (List GOp)) (vs : List Value) (h : OpM w o c d v m vs) (hcd : c ≠ d) (a k : Nat) (ha : a < m.length) (hk : k < (rowM m a).length) (G n' cap : Nat) (hG : vs[a]?.getD undef = .slice (some ⟨G, 0, none⟩) n' cap) (kd x : Int) :
  Calls Try.prog 78 #[.pointer (some ⟨G, k * 3, none⟩), .int .u8 kd, .int .i64 x] w (OnRet w o c d v (putM m a k kd x) vs) := by
 obtain ⟨G', cap', e, _, hf, c0, c1, _⟩ := h.slot ha hk
 rw [hG] at e
 cases e
 have f0 := hf (k * 3)
 have f1 := hf (k * 3 + 1)
 obtain ⟨T, N⟩ := h.on hcd ha hk hG kd x
 have HT := Lib.hid T
 have HN := Lib.hid N
 clear T N h hG hf
 go_enter Try.func78, Try.ntmps78
 go_wp2
 go_end0
 exact ⟨rfl, HT.out, HN.out⟩
end Go.Proofs.Ytbmbfifempkhgaa

/- What the maker's row writes, plainly; rows of operations in memory. No function in sight. -/
namespace Go.Proofs.Ytbmbfifempkhgaa
open Go.RowKit
def RowR (w : World) (l : List GOp) (cs : List Value) : Prop := ∃ y, cs = [y] ∧ HasRow w y l
def HasM (w : World) (v : Value) (m : List (List GOp)) : Prop := Recs w 1 RowR v m
theorem OpM.has {w : World} {o : Col} {c d : Nat} {v : Value} {m : List (List GOp)} {vs : List Value} (h : OpM w o c d v m vs) : HasM w v m := by
 have hl := h.len
 rcases h.own.1.2 with ⟨rfl, h0⟩ | ⟨G, cap, cur, rfl, _, hg, hnc, _⟩
 ·
  exact .inl ⟨List.eq_nil_of_length_eq_zero h0, none, 0, rfl⟩
 ·
  by_cases hp : 0 < m.length
  ·
   refine .inr ⟨hp, G, 0, cap, rfl, hnc, block_lt hg, fun k hk => ⟨[vs[k]?.getD undef], rfl, ⟨_, rfl, ?_⟩, fun i hi => ?_⟩⟩
   ·
    have := h.rows k hk
    rw [List.getElem?_eq_getElem hk, Option.getD_some] at this
    exact this.row
   ·
    obtain rfl : i = 0 := by omega
    have := h.own.1.cells (g := G) rfl k vs[k] (by simp [show k < vs.length by omega])
    rw [Addr.add_lit] at this
    simpa [show k < vs.length by omega] using this
  ·
   exact .inl ⟨List.eq_nil_of_length_eq_zero (by omega), some ⟨G, 0, none⟩, cap, by rw [show m.length = 0 by omega]⟩
def openP (op : Nat) (t : Int) (s : List GOp × Nat) : List GOp × Nat := (s.1 ++ [⟨1, op, t⟩], max s.2 (op + 1))
def closeP (op to : Nat) (s : List GOp × Nat) : List GOp × Nat := (s.1 ++ [⟨2, op, to⟩], s.2)
def leafP (F : List (List GOp)) (nd : Int) (s : List GOp × Nat) : List GOp × Nat := (s.1 ++ rowM F nd.toNat, s.2)
def rowP (F : List (List GOp)) : Nest → Nat → List GOp × Nat → List GOp × Nat
 | .nil, _, s => s
 | .cons t nd b r, op, s => rowP F r op (if 1 < t then closeP op (s.1.length + 1) (if b.isNil then leafP F nd (openP op t s) else rowP F b (op + 1) (openP op t s)) else if b.isNil then leafP F nd s else rowP F b op s)
def costN : Nest → Nat
 | .nil => 0
 | .cons _ _ b r => 35 + costN b + costN r
def depthN : Nest → Nat
 | .nil => 0
 | .cons _ _ b r => max (depthN b + 1) (depthN r)
def LeafOk (n : Nat) : Nest → Prop
 | .nil => True
 | .cons _ nd b r => (b.isNil = true → 0 ≤ nd ∧ nd < n) ∧ LeafOk n b ∧ LeafOk n r
theorem rowP_len {F : List (List GOp)} (hF : ∀ k, (rowM F k).length ≤ 33) : ∀ (l : Nest) (op : Nat) (s : List GOp × Nat), (rowP F l op s).1.length ≤ s.1.length + costN l
 | .nil, _, s => by simp [rowP, costN]
 | .cons t nd b r, op, s => by
  rw [rowP]
  refine Nat.le_trans (rowP_len hF r op _) ?_
  rw [costN]
  have hl := hF nd.toNat
  have h1 := rowP_len hF b (op + 1) (openP op t s)
  have h2 := rowP_len hF b op s
  have h3 : (openP op t s).1.length = s.1.length + 1 := by simp [openP]
  split <;> split <;> (try simp only [closeP, leafP, List.length_append, List.length_cons, List.length_nil]) <;> omega
theorem rowP_cnt {F : List (List GOp)} : ∀ (l : Nest) (op : Nat) (s : List GOp × Nat), (rowP F l op s).2 ≤ max s.2 (op + depthN l)
 | .nil, _, s => by rw [rowP]; omega
 | .cons t nd b r, op, s => by
  rw [rowP]
  refine Nat.le_trans (rowP_cnt r op _) ?_
  rw [depthN]
  have h1 := rowP_cnt (F := F) b (op + 1) (openP op t s)
  have h2 := rowP_cnt (F := F) b op s
  have h3 : (openP op t s).2 = max s.2 (op + 1) := rfl
  split <;> split <;> (try simp only [closeP, leafP]) <;> omega
theorem leafOk_drop {n : Nat} : ∀ (l : Nest) (k : Nat), LeafOk n l → LeafOk n (l.drop k)
 | _, 0, h => by rw [drop_zero]; exact h
 | .nil, _ + 1, h => h
 | .cons _ _ _ r, k + 1, h => by rw [Nest.drop]; exact leafOk_drop r k h.2.2
def stepP (F : List (List GOp)) (t nd : Int) (b : Nest) (op : Nat) (s : List GOp × Nat) : List GOp × Nat := if 1 < t then closeP op (s.1.length + 1) (if b.isNil then leafP F nd (openP op t s) else rowP F b (op + 1) (openP op t s)) else if b.isNil then leafP F nd s else rowP F b op s
theorem rowP_cons {F : List (List GOp)} {t nd : Int} {b r : Nest} {op : Nat} {s : List GOp × Nat} : rowP F (.cons t nd b r) op s = rowP F r op (stepP F t nd b op s) := by rw [rowP, stepP]
theorem stepP_len {F : List (List GOp)} (hF : ∀ k, (rowM F k).length ≤ 33) (t nd : Int) (b : Nest) (op : Nat) (s : List GOp × Nat) : (stepP F t nd b op s).1.length ≤ s.1.length + (35 + costN b) := by
 have := rowP_len hF (.cons t nd b .nil) op s
 rw [rowP_cons, rowP, costN, costN] at this
 omega
theorem stepP_cnt {F : List (List GOp)} (t nd : Int) (b : Nest) (op : Nat) (s : List GOp × Nat) : (stepP F t nd b op s).2 ≤ max s.2 (op + (depthN b + 1)) := by
 have := rowP_cnt (F := F) (.cons t nd b .nil) op s
 rw [rowP_cons, rowP, depthN, depthN] at this
 omega
def leafN : Nest → Nat
 | .nil => 0
 | .cons _ _ b r => (if b.isNil then 1 else leafN b) + leafN r
theorem leafN_pos : ∀ (b : Nest), b.isNil = false → 1 ≤ leafN b
 | .nil, h => by cases h
 | .cons _ _ b r, _ => by
  rw [leafN]
  by_cases h : b.isNil = true
  ·
   rw [if_pos h]; omega
  ·
   rw [if_neg h]
   have := leafN_pos b (by simpa using h)
   omega
theorem nestE_count : ∀ (l : Nest) (d n : Nat), d ≤ 16 → (nestE l d n).1 = 0 → (nestE l d n).2 = n + leafN l ∧ costN l ≤ 35 * (leafN l * (17 - d)) ∧ d + depthN l ≤ 17 ∧ LeafOk 32 l
 | .nil, d, n, hd, h => by simp [nestE, leafN, costN, depthN, LeafOk]; omega
 | .cons t nd b r, d, n, hd, h => by
  rw [nestE_cons] at h ⊢
  by_cases h0 : (oneE t nd b d n).1 = 0
  ·
   rw [if_neg (by simpa using h0)] at h ⊢
   have ih := nestE_count r d _ hd h
   unfold oneE at h0 ih
   by_cases h1 : 2048 ≤ n
   ·
    rw [if_pos h1] at h0; cases h0
   rw [if_neg h1] at h0 ih
   by_cases h2 : (!b.isNil && decide (16 ≤ d)) = true
   ·
    rw [if_pos h2] at h0; cases h0
   rw [if_neg h2] at h0 ih
   by_cases h3 : t < 1
   ·
    rw [if_pos h3] at h0; cases h0
   rw [if_neg h3] at h0 ih
   by_cases h4 : (!b.isNil && decide (nd ≠ 0)) = true
   ·
    rw [if_pos h4] at h0; cases h0
   rw [if_neg h4] at h0 ih
   by_cases h5 : (b.isNil && (decide (nd < 0) || decide (32 ≤ nd))) = true
   ·
    rw [if_pos h5] at h0; cases h0
   rw [if_neg h5] at h0 ih
   by_cases h6 : b.isNil = true
   ·
    rw [if_pos h6] at h0 ih
    have hb : b = .nil := by cases b with | nil => rfl | cons _ _ _ _ => cases h6
    subst hb
    simp only [Nest.isNil, Bool.true_and, Bool.or_eq_true, decide_eq_true_eq] at h5
    have e : oneE t nd .nil d n = (0, n + 1) := by
     unfold oneE
     rw [if_neg h1, if_neg h2, if_neg h3, if_neg h4, if_neg (by simpa [Nest.isNil] using h5), if_pos h6]
    rw [e]
    obtain ⟨i1, i2, i3, i4⟩ := ih
    simp only [leafN, costN, depthN, LeafOk, Nest.isNil, if_true]
    dsimp only at i1
    refine ⟨by omega, ?_, by omega, ⟨fun _ => by omega, trivial, i4⟩⟩
    rw [Nat.add_mul]
    omega
   ·
    rw [if_neg h6] at h0 ih
    have e : oneE t nd b d n = nestE b (d + 1) n := by
     unfold oneE
     rw [if_neg h1, if_neg h2, if_neg h3, if_neg h4, if_neg h5, if_neg h6]
    rw [e]
    have hb : b.isNil = false := by simpa using h6
    rw [hb] at h2
    have hd2 : d + 1 ≤ 16 := by simp at h2; omega
    obtain ⟨k1, k2, k3, k4⟩ := nestE_count b (d + 1) n hd2 h0
    obtain ⟨i1, i2, i3, i4⟩ := ih
    have hp := leafN_pos b hb
    refine ⟨by simp only [leafN, hb]; simp; omega, ?_, by simp only [depthN]; omega, ⟨fun h => (by rw [hb] at h; cases h), k4, i4⟩⟩
    simp only [leafN, costN, hb]
    rw [show 17 - d = (17 - (d + 1)) + 1 by omega, Nat.mul_add] at i2 ⊢
    simp only [Bool.false_eq_true, if_false]
    rw [Nat.add_mul]
    omega
  ·
   rw [if_pos (by simpa using h0)] at h
   exact absurd h h0
end Go.Proofs.Ytbmbfifempkhgaa

/- Names: the walk of lex.Name. -/
namespace Go.Proofs.Ytbmbfifempkhgaa
open Go.RowKit
theorem letter_any (w : World) (b : Int) : Calls Try.prog 122 #[.int .u8 b] w (SameW (.bool (letterP b)) w) := by
 unfold letterP
 by_cases h1 : 97 ≤ b
 ·
  rw [decide_eq_true h1, Bool.true_and]
  go_enter Try.func122, Try.ntmps122
  go_wp2
  go_ret
  exact ⟨rfl, rfl⟩
 ·
  rw [decide_eq_false h1, Bool.false_and]
  go_enter Try.func122, Try.ntmps122
  go_wp2
  go_ret
  exact ⟨rfl, rfl⟩
theorem digit_any (w : World) (b : Int) : Calls Try.prog 130 #[.int .u8 b] w (SameW (.bool (digitP b)) w) := by
 unfold digitP
 by_cases h1 : 48 ≤ b
 ·
  rw [decide_eq_true h1, Bool.true_and]
  go_enter Try.func130, Try.ntmps130
  go_wp2
  go_ret
  exact ⟨rfl, rfl⟩
 ·
  rw [decide_eq_false h1, Bool.false_and]
  go_enter Try.func130, Try.ntmps130
  go_wp2
  go_ret
  exact ⟨rfl, rfl⟩
theorem inside_any (w : World) (b : Int) : Calls Try.prog 125 #[.int .u8 b] w (SameW (.bool (insideP b)) w) := by
 unfold insideP
 obtain ⟨x, hx⟩ : ∃ x, letterP b = x := ⟨_, rfl⟩
 obtain ⟨y, hy⟩ : ∃ x, digitP b = x := ⟨_, rfl⟩
 rw [hx, hy]
 have HX := Lib.hid hx
 have HY := Lib.hid hy
 clear hx hy
 cases x
 ·
  cases y
  ·
   go_enter Try.func125, Try.ntmps125
   go_wp2_with fail
   refine (letter_any w b).mono ?_
   rintro e _ ⟨rfl, rfl⟩
   rw [HX.out]
   go_wp2_with fail
   refine (digit_any w b).mono ?_
   rintro e _ ⟨rfl, rfl⟩
   rw [HY.out]
   go_wp2
   go_ret
   exact ⟨by simp; rfl, rfl⟩
  ·
   go_enter Try.func125, Try.ntmps125
   go_wp2_with fail
   refine (letter_any w b).mono ?_
   rintro e _ ⟨rfl, rfl⟩
   rw [HX.out]
   go_wp2_with fail
   refine (digit_any w b).mono ?_
   rintro e _ ⟨rfl, rfl⟩
   rw [HY.out]
   go_wp2
   go_ret
   exact ⟨rfl, rfl⟩
 ·
  go_enter Try.func125, Try.ntmps125
  go_wp2_with fail
  refine (letter_any w b).mono ?_
  rintro e _ ⟨rfl, rfl⟩
  rw [HX.out]
  go_wp2
  go_ret
  exact ⟨by simp, rfl⟩
def Cur (w : World) (c : Nat) (s : ByteArray) (k : Nat) : Prop := w.heap[c]? = some (.cells #[.string s, .int .i64 k] 202 (0, 0))
theorem more_any (w : World) (c : Nat) (s : ByteArray) (k : Nat) (h : Cur w c s k) : Calls Try.prog 129 #[.pointer (some ⟨c, 0, none⟩)] w fun e w' => e = .returned (.bool (decide (k < s.size))) ∧ ∃ m, w' = w.drewN m := by
 have q0 := cells_row w _ h 0 _ rfl
 have q1 := cells_row w _ h 1 _ rfl
 by_cases hk : k < s.size
 ·
  have hki : (k : Int) < s.size := by omega
  rw [decide_eq_true hk]
  go_enter Try.func129, Try.ntmps129
  go_wp2
  go_quiet (fail)
  go_wp2
  go_ret
  exact ⟨rfl, _, rfl⟩
 ·
  have hki : ¬ (k : Int) < s.size := by omega
  rw [decide_eq_false hk]
  go_enter Try.func129, Try.ntmps129
  go_wp2
  go_quiet (fail)
  go_wp2
  go_ret
  exact ⟨rfl, _, rfl⟩
theorem peek_any (w : World) (c : Nat) (s : ByteArray) (h : Cur w c s 0) : Calls Try.prog 123 #[.pointer (some ⟨c, 0, none⟩), .int .i64 0] w fun e w' => e = .returned (.int .u8 (byteP s 0)) ∧ ∃ m, w' = w.drewN m := by
 have q0 := cells_row w _ h 0 _ rfl
 have q1 := cells_row w _ h 1 _ rfl
 unfold byteP
 by_cases hk : 0 < s.size
 ·
  have hki : (0 : Int) < s.size := by omega
  have hse : ¬ s = ByteArray.empty := fun e => by rw [e] at hk; exact absurd hk (by decide)
  rw [dif_pos hk]
  go_enter Try.func123, Try.ntmps123
  go_wp2
  go_quiet (fail)
  go_wp2
  go_quiet (fail)
  go_wp2
  go_ret
  exact ⟨rfl, _, World.drewN_drewN _ _ _⟩
 ·
  obtain rfl : s = ByteArray.empty := ByteArray.ext (Array.eq_empty_of_size_eq_zero (by have : s.data.size = s.size := rfl; omega))
  rw [dif_neg hk]
  clear hk
  go_enter Try.func123, Try.ntmps123
  go_wp2
  go_quiet (fail)
  go_wp2
  go_ret
  exact ⟨rfl, _, rfl⟩
end Go.Proofs.Ytbmbfifempkhgaa

/- Names: the walk of the cursor's while. -/
namespace Go.Proofs.Ytbmbfifempkhgaa
open Go.RowKit
theorem Cur.drewN {w : World} {c : Nat} {s : ByteArray} {k : Nat} (h : Cur w c s k) (m : Nat) : Cur (w.drewN m) c s k := h
def Stand (w wr : World) (c : Nat) (s : ByteArray) (k : Nat) : Prop := Cur wr c s k ∧ k ≤ s.size ∧ (∀ i, i < k → insideP (byteP s i) = true) ∧ Mods (fun b => b = c) w wr
theorem stand_next {s : ByteArray} {k : Nat} (h : ∀ i, i < k → insideP (byteP s i) = true) (hx : insideP (byteP s k) = true) : ∀ i, i < k + 1 → insideP (byteP s i) = true := fun i hi => by
 by_cases e : i = k
 ·
  rw [e]; exact hx
 ·
  exact h i (by omega)
theorem meas_next {n k : Nat} (h : k < n) : n - (((k + 1 : Nat) : Int)).toNat < n - ((k : Int)).toNat := by omega
set_option maxHeartbeats 1000000 in
theorem while_any (w : World) (c : Nat) (s : ByteArray) (hs : s.size ≤ 4611686018427387904) (h : Cur w c s 0) : Calls Try.prog 124 #[.pointer (some ⟨c, 0, none⟩), .func (.func 125) #[] #[]] w fun e w' =>
  ∃ m, e = .returned (.string (s.extract 0 m)) ∧ m ≤ s.size ∧ (∀ i, i < m → insideP (byteP s i) = true) ∧ (m < s.size → insideP (byteP s m) = false) ∧ Mods (fun b => b = c) w w' := by
 have q0 := cells_row w _ h 0 _ rfl
 have q1 := cells_row w _ h 1 _ rfl
 have HC := Lib.hid h
 have HS := Lib.hid hs
 clear h hs
 go_enter Try.func124, Try.ntmps124
 go_wp2_with fail
 clear q0 q1
 go_loopw [24] (fun _ wr => ∃ k, Stand w wr c s k) (fun _ wr => s.size - (match wr.cell? ⟨c, 1, none⟩ with | some (.int _ k) => k.toNat | _ => 0))
 case atStart => exact ⟨0, HC.out, Nat.zero_le _, fun i hi => absurd hi (by omega), Mods.refl _ _⟩
 case round =>
  obtain ⟨k, hcur, hk, hin, hmod⟩ := hrel
  have HCu := Lib.hid hcur
  have HIN := Lib.hid hin
  have HM := Lib.hid hmod
  have q0 := cells_row wr _ hcur 0 _ rfl
  have q1 := cells_row wr _ hcur 1 _ rfl
  have f1 := frozen_of_block hcur 1
  clear hcur hin hmod
  by_cases hlt : k < s.size
  ·
   have hlti : (k : Int) < s.size := by omega
   have hbt : byteP s k = ((s[k]'hlt).toNat : Int) := dif_pos hlt
   obtain ⟨x, hx⟩ : ∃ x, insideP (byteP s k) = x := ⟨_, rfl⟩
   have HX := Lib.hid hx
   have HBT := Lib.hid hbt
   have hsz := HS.out
   clear hx hbt
   go_wp2_with fail
   refine wp_region_soft (fun w' => Cur w' c s k ∧ ∃ m, w' = wr.drewN m) [0, 1, 2, 3, 4, 5, 6, 7, 8, 9, 10, 11, 12, 13, 14] [] (by kernel_rfl) (by kernel_rfl) rfl ⟨HCu.out, 1, rfl⟩ ?_
   simp only [pickOps, List.flatMap_cons, List.flatMap_nil, List.drop_succ_cons, List.drop_zero, List.take_succ_cons, List.take_zero, List.cons_append, List.nil_append, List.append_nil]
   repeat (first
    | (refine wpHead_skip (by rfl) ?_; (try simp only [Act.put, List.setIfInBounds_toArray, List.set_cons_zero, List.set_cons_succ]))
    | (refine wpHead_val ?_ (by rfl) ?_ ?_; rotate_left; (intro wz hz; (try dsimp only at hz); (first | (go_simp; done) | (go_simp; with_reducible rfl))); (try simp only [Act.put, List.setIfInBounds_toArray, List.set_cons_zero, List.set_cons_succ])))
   refine wpHead_call (.bool true) 129 #[.pointer (some ⟨c, 0, none⟩)] (by rfl) (fun wz => by go_simp) (fun wz hz => ?_) ?_
   ·
    obtain ⟨hc, m0, rfl⟩ := hz
    refine (more_any _ c s k hc).mono ?_
    rintro e wy ⟨rfl, m, rfl⟩
    exact ⟨by rw [decide_eq_true hlt], hc, m0 + m, World.drewN_drewN _ _ _⟩
   simp only [Act.put, List.setIfInBounds_toArray, List.set_cons_zero, List.set_cons_succ]
   repeat (first
    | (refine wpHead_skip (by rfl) ?_; (try simp only [Act.put, List.setIfInBounds_toArray, List.set_cons_zero, List.set_cons_succ]))
    | (refine wpHead_val ?_ (by rfl) ?_ ?_; rotate_left; (intro wz hz; have q0 := cells_row wz _ hz.1 0 _ rfl; have q1 := cells_row wz _ hz.1 1 _ rfl; (first | (go_simp; done) | (go_simp; with_reducible rfl))); (try simp only [Act.put, List.setIfInBounds_toArray, List.set_cons_zero, List.set_cons_succ])))
   refine wpHead_call (.bool x) 125 #[.int .u8 ((s[k]'hlt).toNat : Int)] (by rfl) (fun wz => by go_simp) (fun wz hz => ?_) ?_
   ·
    refine (inside_any _ _).mono ?_
    rintro e wy ⟨rfl, rfl⟩
    exact ⟨by rw [← HBT.out, HX.out], hz⟩
   simp only [Act.put, List.setIfInBounds_toArray, List.set_cons_zero, List.set_cons_succ]
   cases x with
   | true =>
    repeat (first
     | (refine wpHead_skip (by rfl) ?_; (try simp only [Act.put, List.setIfInBounds_toArray, List.set_cons_zero, List.set_cons_succ]))
     | (refine wpHead_val ?_ (by rfl) ?_ ?_; rotate_left; (intro wz hz; (try dsimp only at hz); (first | (go_simp; done) | (go_simp; with_reducible rfl))); (try simp only [Act.put, List.setIfInBounds_toArray, List.set_cons_zero, List.set_cons_succ])))
    refine wpHead_nil ?_
    intro w' hS
    obtain ⟨hc2, m0, rfl⟩ := hS
    have HC2 := Lib.hid hc2
    have q0 := cells_row _ _ hc2 0 _ rfl
    have q1 := cells_row _ _ hc2 1 _ rfl
    have f1 := frozen_of_block hc2 1
    clear hc2
    go_wp2
    have hc3 : Cur ((wr.drewN m0).setCell ⟨c, 1, none⟩ (.int .i64 ((k : Int) + 1))) c s (k + 1) := block_setCell HC2.out 1 (.int .i64 ((k : Int) + 1))
    have q1' := cells_row _ _ hc3 1 _ rfl
    have HC3 := Lib.hid hc3
    clear hc3
    go_roundw
    case rel => exact ⟨k + 1, HC3.out, hlt, stand_next HIN.out HX.out, (HM.out.drewN m0).setCell (p := ⟨c, 1, none⟩) (fun _ => rfl) _⟩
    case measure =>
     have e1 := cells_row _ _ HCu.out 1 _ rfl
     rw [q1', e1]
     exact meas_next hlt
   | false =>
    repeat (first
     | (refine wpHead_skip (by rfl) ?_; (try simp only [Act.put, List.setIfInBounds_toArray, List.set_cons_zero, List.set_cons_succ]))
     | (refine wpHead_val ?_ (by rfl) ?_ ?_; rotate_left; (intro wz hz; (try dsimp only at hz); (first | (go_simp; done) | (go_simp; with_reducible rfl))); (try simp only [Act.put, List.setIfInBounds_toArray, List.set_cons_zero, List.set_cons_succ])))
    refine wpHead_nil ?_
    intro w' hS
    obtain ⟨hc2, m0, rfl⟩ := hS
    have q0 := cells_row _ _ hc2 0 _ rfl
    have q1 := cells_row _ _ hc2 1 _ rfl
    go_wp2
    go_quiet (fail)
    go_wp2
    go_ret
    exact ⟨k, by first | rfl | simp, hk, HIN.out, fun _ => HX.out, ((HM.out.drewN m0).drewN _)⟩
  ·
   obtain rfl : k = s.size := by omega
   go_wp2_with fail
   refine wp_region_soft (fun w' => Cur w' c s s.size ∧ ∃ m, w' = wr.drewN m) [0, 1, 2, 3, 4, 5, 6, 7, 8, 9, 10, 11, 12, 13, 14] [] (by kernel_rfl) (by kernel_rfl) rfl ⟨HCu.out, 1, rfl⟩ ?_
   simp only [pickOps, List.flatMap_cons, List.flatMap_nil, List.drop_succ_cons, List.drop_zero, List.take_succ_cons, List.take_zero, List.cons_append, List.nil_append, List.append_nil]
   repeat (first
    | (refine wpHead_skip (by rfl) ?_; (try simp only [Act.put, List.setIfInBounds_toArray, List.set_cons_zero, List.set_cons_succ]))
    | (refine wpHead_val ?_ (by rfl) ?_ ?_; rotate_left; (intro wz hz; (try dsimp only at hz); (first | (go_simp; done) | (go_simp; with_reducible rfl))); (try simp only [Act.put, List.setIfInBounds_toArray, List.set_cons_zero, List.set_cons_succ])))
   refine wpHead_call (.bool false) 129 #[.pointer (some ⟨c, 0, none⟩)] (by rfl) (fun wz => by go_simp) (fun wz hz => ?_) ?_
   ·
    obtain ⟨hc, m0, rfl⟩ := hz
    refine (more_any _ c s s.size hc).mono ?_
    rintro e wy ⟨rfl, m, rfl⟩
    exact ⟨by rw [decide_eq_false (Nat.lt_irrefl _)], hc, m0 + m, World.drewN_drewN _ _ _⟩
   simp only [Act.put, List.setIfInBounds_toArray, List.set_cons_zero, List.set_cons_succ]
   repeat (first
    | (refine wpHead_skip (by rfl) ?_; (try simp only [Act.put, List.setIfInBounds_toArray, List.set_cons_zero, List.set_cons_succ]))
    | (refine wpHead_val ?_ (by rfl) ?_ ?_; rotate_left; (intro wz hz; (try dsimp only at hz); (first | (go_simp; done) | (go_simp; with_reducible rfl))); (try simp only [Act.put, List.setIfInBounds_toArray, List.set_cons_zero, List.set_cons_succ])))
   refine wpHead_nil ?_
   intro w' hS
   obtain ⟨hc2, m0, rfl⟩ := hS
   have q0 := cells_row _ _ hc2 0 _ rfl
   have q1 := cells_row _ _ hc2 1 _ rfl
   go_wp2
   go_quiet (fail)
   go_wp2
   go_ret
   exact ⟨s.size, by first | rfl | simp, Nat.le_refl _, HIN.out, fun h => absurd h (Nat.lt_irrefl _), ((HM.out.drewN m0).drewN _)⟩
end Go.Proofs.Ytbmbfifempkhgaa

/- Names: lex.Name, whole. -/
namespace Go.Proofs.Ytbmbfifempkhgaa
open Go.RowKit
theorem all_inside {s : ByteArray} (h : ∀ i, i < s.size → insideP (byteP s i) = true) : (List.range s.size).all (fun i => insideP (byteP s i)) = true := by
 rw [List.all_eq_true]
 exact fun i hi => h i (List.mem_range.1 hi)
theorem not_inside {s : ByteArray} {m : Nat} (hm : m < s.size) (h : insideP (byteP s m) = false) : (List.range s.size).all (fun i => insideP (byteP s i)) = false := by
 rw [List.all_eq_false]
 exact ⟨m, List.mem_range.2 hm, by rw [h]; simp⟩
theorem cur_new (w : World) (s : ByteArray) : Cur (w.alloc (.cells #[.string s, .int .i64 0] 202)) w.heap.size s 0 := heap_alloc_new w _
theorem below_cur {w w1 w2 : World} (h : w.heap.size < w1.heap.size) (hb : Below w.heap.size w w1) (hm : Mods (fun b => b = w.heap.size) w1 w2) : Below w.heap.size w w2 := hb.trans (hm.below (by omega) (fun k hk e => by omega))
set_option maxHeartbeats 1000000 in
theorem name_any (w : World) (s : ByteArray) (hs : s.size ≤ 4611686018427387904) : Calls Try.prog 110 #[.string s] w fun e w' => e = .returned (.bool (nameP s)) ∧ Below w.heap.size w w' := by
 obtain ⟨N, hN⟩ : ∃ N, nameP s = N := ⟨_, rfl⟩
 rw [hN]
 have HN := Lib.hid hN
 have HS := Lib.hid hs
 clear hN hs
 go_enter Try.func110, Try.ntmps110
 go_wp2_with fail
 have hC := cur_new w s
 have hb1 := (below_alloc w (.cells #[.string s, .int .i64 0] 202))
 refine (peek_any _ _ s hC).mono ?_
 rintro e w1 ⟨rfl, m1, rfl⟩
 go_wp2_with fail
 refine (letter_any _ _).mono ?_
 rintro e _ ⟨rfl, rfl⟩
 obtain ⟨x, hx⟩ : ∃ x, letterP (byteP s 0) = x := ⟨_, rfl⟩
 rw [hx]
 have HX := Lib.hid hx
 clear hx
 cases x with
 | false =>
  have e : N = false := by rw [← HN.out, nameP, HX.out]; rfl
  subst e
  go_wp2
  go_ret
  exact ⟨rfl, below_dr hb1⟩
 | true =>
  go_wp2_with fail
  refine (while_any _ _ s HS.out (hC.drewN _)).mono ?_
  rintro e w2 ⟨m, rfl, hm, hin, hout, hmod⟩
  have hb2 : Below w.heap.size w w2 := below_cur (by simp) (below_dr (n := m1) hb1) hmod
  have HB2 := Lib.hid hb2
  have hlen : (s.extract 0 m).size = m := by rw [ByteArray.size_extract]; omega
  clear hb2 hmod hb1 hC
  by_cases hms : m < s.size
  ·
   have e : N = false := by rw [← HN.out, nameP, not_inside hms (hout hms)]; simp
   subst e
   have hmi : ¬ (m : Int) = s.size := by omega
   clear hin hout
   go_wp2
   go_ret
   exact ⟨by simp, HB2.out⟩
  ·
   obtain rfl : m = s.size := by omega
   have hall := all_inside hin
   have hself : s.extract 0 s.size = s := by simp
   rw [hself]
   clear hin hout hself hlen
   by_cases h16 : s.size ≤ 16
   ·
    have e : N = true := by rw [← HN.out, nameP, HX.out, hall, decide_eq_true h16]; rfl
    subst e
    have h16i : (s.size : Int) ≤ 16 := by omega
    clear hall
    go_wp2
    go_ret
    exact ⟨by simp, HB2.out⟩
   ·
    have e : N = false := by rw [← HN.out, nameP, HX.out, hall, decide_eq_false h16]; rfl
    subst e
    have h16i : ¬ (s.size : Int) ≤ 16 := by omega
    clear hall
    go_wp2
    go_ret
    exact ⟨by simp; exact h16i, HB2.out⟩
end Go.Proofs.Ytbmbfifempkhgaa
