/- What came in, said plainly for a walk: a script of calls, each a number and a slice of slices of ints. No program in sight. -/
import Derived.Test.YtknmiiajeafjpaaInRows
namespace Go.Proofs.Ytknmiiajeafjpaa
open Go.ChangeShapes Go.WideShapes Go.ChangeAt Go.RowKit Go.Deep

theorem open_in_rows_cells {P : Program} {H : Type} {enc : TypeId × Value → H} {W : World} {t s e : TypeId} {x : Value} {fuel : Nat} {y : DataW H × List MemPlace} (ht : P.underlying t = some (.slice s)) (hs : P.underlying s = some (.slice e)) (he : P.underlying e = some (.int .i64)) (hce : P.cellsOf e = 1) (hcs : P.cellsOf s = 1)
    (h : DataW.trod enc P W 0 (fun _ => true) true fuel t [x] = some y) : ∃ xss, LL W x xss ∧ (∀ l ∈ xss, ∀ x ∈ l, -9223372036854775808 ≤ x ∧ x ≤ 9223372036854775807) := by
  have hx : ∃ a len cap, x = .slice a len cap := by
    rcases open_slice ht h with ⟨hc, _⟩ | ⟨a, len, cap, _, _, _, _, hc, _⟩
    · exact ⟨_, _, _, List.head_eq_of_cons_eq hc⟩
    · exact ⟨_, _, _, List.head_eq_of_cons_eq hc⟩
  obtain ⟨a, len, cap, rfl⟩ := hx
  obtain ⟨xss, h1, h2, _⟩ := open_in_rows (d := y.1) (p := y.2) ht hs he hce hcs ⟨_, _, _, rfl⟩ ⟨fuel, by simpa [Value.cells] using h⟩
  exact ⟨xss, h1, h2⟩

/-- a script of calls, each its kind and its lists -/
def HasActs (w : World) (v : Value) (l : List (Int × List (List Int))) : Prop :=
  (l = [] ∧ ∃ ao cap, v = .slice ao 0 cap) ∨ (0 < l.length ∧ ∃ b off cap, v = .slice (some ⟨b, off, none⟩) l.length cap ∧ b < w.heap.size ∧ ∀ k, k < l.length → w.cell? ⟨b, off + k * 2, none⟩ = some (.int .i64 (l[k]?.getD (0, [])).1) ∧
    ∃ x, w.cell? ⟨b, off + k * 2 + 1, none⟩ = some x ∧ LL w x (l[k]?.getD (0, [])).2 ∧ ∀ r ∈ (l[k]?.getD (0, [])).2, ∀ z ∈ r, -9223372036854775808 ≤ z ∧ z ≤ 9223372036854775807)

theorem open_in_acts {P : Program} {H : Type} {enc : TypeId × Value → H} {W : World} {t e ts s i : TypeId} {f0 f1 : Field} {v : Value} {d : DataW H} {p : List MemPlace} (ht : P.underlying t = some (.slice e)) (he : P.underlying e = some (.struct #[f0, f1]))
    (h0 : P.underlying f0.type = some (.int .i64)) (h1 : f1.type = ts) (hts : P.underlying ts = some (.slice s)) (hs : P.underlying s = some (.slice i)) (hi : P.underlying i = some (.int .i64)) (hci : P.cellsOf i = 1) (hcs : P.cellsOf s = 1)
    (o0 : f0.offset = 0) (o1 : f1.offset = 1) (c0 : P.cellsOf f0.type = 1) (c1 : P.cellsOf ts = 1) (hc : P.cellsOf e = 2)
    (hv : ∃ a len cap, v = .slice a len cap) (h : DataW.Trod enc P W 0 (fun _ => true) true t v d p) : ∃ os, HasActs W v os ∧ DLen d os.length := by
  obtain ⟨a1, len1, cap1, rfl⟩ := hv
  obtain ⟨fuel, hf⟩ := h
  rcases open_slice ht hf with ⟨hcs', hx⟩ | ⟨a, len, cap, m, n, D, Pl, hcs', _, hl, hm, hmm, hx, hel⟩
  · simp [Value.cells] at hcs'
    obtain ⟨rfl, rfl, rfl⟩ := hcs'
    exact ⟨[], .inl ⟨rfl, none, 0, rfl⟩, .inl ⟨congrArg Prod.fst hx, rfl⟩⟩
  · simp [Value.cells] at hcs'
    obtain ⟨rfl, rfl, rfl⟩ := hcs'
    simp at hmm
    have each : ∀ j, j < len1 → ∃ q : Int × List (List Int), W.cell? (a.add (j * 2)) = some (.int .i64 q.1) ∧ ∃ x, W.cell? ((a.add (j * 2)).add 1) = some x ∧ LL W x q.2 ∧ ∀ r ∈ q.2, ∀ z ∈ r, -9223372036854775808 ≤ z ∧ z ≤ 9223372036854775807 := by
      intro j hj
      obtain ⟨cs', hcells, htr⟩ := hel j (by omega)
      rw [hc] at hcells
      obtain ⟨y0, y1, n', _, hlen, ht0, ht1⟩ := trod_struct2 he htr
      obtain ⟨_, hll, hev⟩ := World.cells?_some hcells
      obtain ⟨z0, e0, _, _⟩ := DataW.trod_int h0 ht0
      rw [o0, c0] at e0
      rw [o1, h1, c1] at ht1
      match cs', hll with
      | [x0, x1], _ =>
        simp at e0 ht1
        subst e0
        obtain ⟨xss, r1, r2⟩ := open_in_rows_cells hts hs hi hci hcs ht1
        have g0 := hev 0 (by omega)
        have g1 := hev 1 (by omega)
        have : (a.add (j * 2)).add 0 = a.add (j * 2) := by cases a; simp [Addr.add]
        rw [this] at g0
        exact ⟨(z0, xss), by simpa using g0, x1, by simpa using g1, r1, r2⟩
    obtain ⟨Q, hQ⟩ := choose_lt (α := Int × List (List Int)) (p := fun j q => W.cell? (a.add (j * 2)) = some (.int .i64 q.1) ∧ ∃ x, W.cell? ((a.add (j * 2)).add 1) = some x ∧ LL W x q.2 ∧ ∀ r ∈ q.2, ∀ z ∈ r, -9223372036854775808 ≤ z ∧ z ≤ 9223372036854775807) each
    refine ⟨(List.range len1).map Q, ?_, .inr ⟨_, _, congrArg Prod.fst hx, by simp⟩⟩
    by_cases hp : 0 < len1
    · right
      have hsp : a.spot = none := by
        have := World.cell?_spot (hQ 0 hp).1
        simpa [Addr.add] using this
      obtain ⟨b, off, spot⟩ := a
      simp at hsp
      subst hsp
      refine ⟨by simpa using hp, b, off, cap1, by simp, ?_, fun k hk => ?_⟩
      · have := World.block_lt_of_cell? _ _ (hQ 0 hp).1
        simpa [Addr.add] using this
      · have hk' : k < len1 := by simpa using hk
        have := hQ k hk'
        simp only [Addr.add_lit] at this
        simpa [hk'] using this
    · obtain rfl : len1 = 0 := by omega
      exact .inl ⟨rfl, some a, cap1, rfl⟩
end Go.Proofs.Ytknmiiajeafjpaa
