/- The graph's checker in memory. No function in sight. -/
import Derived.Test.YtbmbfifempkhgaaProg
import Derived.Test.YtbmbfifempkhgaaSmall
import Derived.Test.YtbmbfifempkhgaaGLaw
import Derived.Maps.Own
import Derived.Laws.ResultCell
import Derived.Laws.Rows
import Derived.Maps.OwnOps
import Derived.Maps.Views
import Derived.Maps.OwnSet
namespace Go.Proofs.Ytbmbfifempkhgaa
open Go.RowKit
open Go.Maps (Keyed IsMap Tidy)

/-- the names seen: the map's entry at each is 1, and 0 elsewhere -/
def SeenAt (D : DataW Unit) (seen : List ByteArray) : Prop := IsMap D ∧ ∀ s : ByteArray, D.atKey (.string s.data.toList) (.lit (.int .i64 0)) = .lit (.int .i64 (if seen.any (fun x => decide (x = s)) then 1 else 0))

theorem smap_law : Keyed Try.prog 9 := Maps.string_keyed Try.underlying9
theorem int_zero (w : World) : (zeroValue 3).run Try.prog w = .ok (.int .i64 0) w := by kernel_rfl

theorem seen_start : SeenAt (.map []) [] := ⟨Maps.isMap_empty, fun _ => rfl⟩
theorem seen_next {D : DataW Unit} {seen : List ByteArray} (h : SeenAt D seen) (s : ByteArray) : SeenAt (D.put (.string s.data.toList) (.lit (.int .i64 1))) (seen ++ [s]) := by
  refine ⟨h.1.put _ _, fun t => ?_⟩
  by_cases e : s = t
  · subst e
    rw [Maps.atKey_put_same h.1 (by trivial)]
    simp
  · rw [Maps.atKey_put_other (fun e' => e (ByteArray.ext (Array.toList_inj.1 (by injection e' with e'; exact e'.symm)))), h.2 t]
    have : decide (s = t) = false := decide_eq_false e
    rw [List.any_append, List.any_cons, List.any_nil, this, Bool.or_false, Bool.or_false]

theorem map_turn {w w' : World} {o o' : Col} {C : Nat → Prop} {B n : Nat} {D : DataW Unit} (h : w.ownsMap Try.prog 9 (plainElem Try.prog 3) B n D) (T : Turn o o' C w w') (hc : ¬ C (o B)) : w'.ownsMap Try.prog 9 (plainElem Try.prog 3) B n D ∧ o' B = o B := by
  obtain ⟨es, clock, hb, r⟩ := h
  obtain ⟨h1, h2⟩ := T.block hb hc
  exact ⟨⟨es, clock, h1, r⟩, h2⟩

def bvs (l : List Bool) : List Value := l.map Value.bool
/-- rows of bools, each in a block of its own -/
structure Side (w : World) (o : Col) (c d : Nat) (v : Value) (side : List (List Bool)) (gs : List Nat) : Prop where
  len : gs.length = side.length
  own : Own w o c 192 1 v side.length ((List.range side.length).map fun k => .slice (some ⟨gs[k]?.getD 0, 0, none⟩) (side[k]?.getD []).length (side[k]?.getD []).length)
  rows : ∀ k, k < side.length → Blk w o d (gs[k]?.getD 0) 4 (bvs (side[k]?.getD [])).toArray
  apart : ∀ i j, i < j → j < side.length → gs[i]?.getD 0 ≠ gs[j]?.getD 0

theorem Side.nil (w : World) (o : Col) (c d : Nat) : Side w o c d (.slice none 0 0) [] [] :=
  ⟨rfl, Own.nil _ _ _ _ _, fun k hk => by simp at hk, fun i j h hj => by simp at hj⟩
theorem Side.turn {w w' : World} {o o' : Col} {C : Nat → Prop} {c d : Nat} {v : Value} {side : List (List Bool)} {gs : List Nat} (h : Side w o c d v side gs) (T : Turn o o' C w w') (hc : ¬ C c) (hd : ¬ C d) : Side w' o' c d v side gs :=
  ⟨h.len, h.own.turn T hc, fun k hk => (h.rows k hk).turn T hd, h.apart⟩

/-- the colours of what a checker owns -/
def ChkC (x : Nat) : Prop := 1 ≤ x ∧ x ≤ 6

/-- the cells of a checker: the graph's, its sides' -/
structure ChkV where
  name : ByteArray
  va : Value
  ve : Value
  vi : Value
  vo : Value
  vI : Value
  vO : Value
/-- a checker: its block, its map, its sides -/
structure ChkAt (w : World) (o : Col) (C B : Nat) (X : ChkV) (k : Chk) : Prop where
  st : ∃ D n gI gO, Blk w o 1 C 179 #[.string X.name, X.va, X.ve, X.vi, X.vo, .map (some B), X.vI, X.vO] ∧ w.ownsMap Try.prog 9 (plainElem Try.prog 3) B n D ∧ o B = 2 ∧ SeenAt D k.seen ∧ n ≤ k.seen.length ∧ Side w o 3 4 X.vI k.ins gI ∧ Side w o 5 6 X.vO k.outs gO

theorem ChkAt.turn {w w' : World} {o o' : Col} {Cs : Nat → Prop} {C B : Nat} {X : ChkV} {k : Chk} (h : ChkAt w o C B X k) (T : Turn o o' Cs w w') (hc : ∀ x, ChkC x → ¬ Cs x) : ChkAt w' o' C B X k := by
  obtain ⟨D, n, gI, gO, h1, h2, h3, h4, h5, h6, h7⟩ := h.st
  obtain ⟨m1, m2⟩ := map_turn h2 T (by rw [h3]; exact hc 2 (by unfold ChkC; omega))
  exact ⟨D, n, gI, gO, h1.turn T (hc 1 (by unfold ChkC; omega)), m1, m2.trans h3, h4, h5, h6.turn T (hc 3 (by unfold ChkC; omega)) (hc 4 (by unfold ChkC; omega)), h7.turn T (hc 5 (by unfold ChkC; omega)) (hc 6 (by unfold ChkC; omega))⟩
theorem ChkAt.cells {w : World} {o : Col} {C B : Nat} {X : ChkV} {k : Chk} (h : ChkAt w o C B X k) :
    w.cell? ⟨C, 0, none⟩ = some (.string X.name) ∧ w.cell? ⟨C, 1, none⟩ = some X.va ∧ w.cell? ⟨C, 2, none⟩ = some X.ve ∧ w.cell? ⟨C, 3, none⟩ = some X.vi ∧ w.cell? ⟨C, 4, none⟩ = some X.vo ∧ w.cell? ⟨C, 5, none⟩ = some (.map (some B)) ∧ w.cell? ⟨C, 6, none⟩ = some X.vI ∧ w.cell? ⟨C, 7, none⟩ = some X.vO := by
  obtain ⟨D, n, gI, gO, h1, _⟩ := h.st
  exact ⟨h1.cell 0 _ rfl, h1.cell 1 _ rfl, h1.cell 2 _ rfl, h1.cell 3 _ rfl, h1.cell 4 _ rfl, h1.cell 5 _ rfl, h1.cell 6 _ rfl, h1.cell 7 _ rfl⟩
theorem ChkAt.froz {w : World} {o : Col} {C B : Nat} {X : ChkV} {k : Chk} (h : ChkAt w o C B X k) (i : Nat) : w.frozen? ⟨C, i, none⟩ = false := by
  obtain ⟨D, n, gI, gO, h1, _⟩ := h.st
  exact h1.frozen i
theorem ChkAt.drewN {w : World} {o : Col} {C B : Nat} {X : ChkV} {k : Chk} (h : ChkAt w o C B X k) (m : Nat) : ChkAt (w.drewN m) o C B X k := h.turn (Turn.of_quiet o ⟨m, rfl⟩) (fun _ _ h => h)
theorem ChkAt.below {w w' : World} {o : Col} {C B : Nat} {X : ChkV} {k : Chk} (h : ChkAt w o C B X k) (c : Nat) (hb : Below w.heap.size w w') : ChkAt w' (ext o w.heap.size c) C B X k := h.turn (Turn.of_below o c hb) (fun _ _ h => h)
theorem ChkAt.ins {w : World} {o : Col} {C B : Nat} {X : ChkV} {k : Chk} (h : ChkAt w o C B X k) : ∃ gI, Side w o 3 4 X.vI k.ins gI := by
  obtain ⟨D, n, gI, gO, h1, h2, h3, h4, h5, h6, h7⟩ := h.st
  exact ⟨gI, h6⟩
theorem ChkAt.outs {w : World} {o : Col} {C B : Nat} {X : ChkV} {k : Chk} (h : ChkAt w o C B X k) : ∃ gO, Side w o 5 6 X.vO k.outs gO := by
  obtain ⟨D, n, gI, gO, h1, h2, h3, h4, h5, h6, h7⟩ := h.st
  exact ⟨gO, h7⟩
/-- a place of a side is taken -/
theorem ChkAt.tookI {w w' : World} {o : Col} {C B : Nat} {X : ChkV} {k : Chk} {ins : List (List Bool)} (h : ChkAt w o C B X k) (T : Turn o o (fun x => x = 4) w w') {gI : List Nat} (hs : Side w' o 3 4 X.vI ins gI) : ChkAt w' o C B X ⟨k.seen, ins, k.outs⟩ := by
  obtain ⟨D, n, gI', gO, h1, h2, h3, h4, h5, h6, h7⟩ := h.st
  obtain ⟨m1, m2⟩ := map_turn h2 T (by rw [h3]; decide)
  exact ⟨D, n, gI, gO, h1.turn T (by decide), m1, m2.trans h3, h4, h5, hs, h7.turn T (by decide) (by decide)⟩
theorem ChkAt.tookO {w w' : World} {o : Col} {C B : Nat} {X : ChkV} {k : Chk} {outs : List (List Bool)} (h : ChkAt w o C B X k) (T : Turn o o (fun x => x = 6) w w') {gO : List Nat} (hs : Side w' o 5 6 X.vO outs gO) : ChkAt w' o C B X ⟨k.seen, k.ins, outs⟩ := by
  obtain ⟨D, n, gI, gO', h1, h2, h3, h4, h5, h6, h7⟩ := h.st
  obtain ⟨m1, m2⟩ := map_turn h2 T (by rw [h3]; decide)
  exact ⟨D, n, gI, gO, h1.turn T (by decide), m1, m2.trans h3, h4, h5, h6.turn T (by decide) (by decide), hs⟩

theorem results_tmp_row {P : Program} {fn : Func} {p u : Tmp} {ty : TypeId} (h : fn.results = #[.tmp u, .cell p ty]) (tmps : Array Value) (w : World) (g : Nat) (t : TypeId) (cs : Array Value) (fr : Nat × Nat) (d : TypeDesc)
    (hp : tmps.getD p undef = .pointer (some ⟨g, 0, none⟩)) (hg : w.heap[g]? = some (.cells cs t fr))
    (hu : P.underlying ty = some d) (hd : (match d with | .struct _ | .array _ _ => true | _ => false) = true) (hi : (P.info? ty).map (·.size) = some cs.size) :
    (results fn tmps).run P w = .ok (.tuple #[tmps.getD u undef, .agg cs]) w := by
  have hp' : tmps[p]?.getD undef = .pointer (some ⟨g, 0, none⟩) := by simpa using hp
  simp [results, h, hp', asAddr, Sem.run_bind, Result.andThen, run_loadVar_row w g t ty cs fr d hg hu hd hi]
end Go.Proofs.Ytbmbfifempkhgaa
