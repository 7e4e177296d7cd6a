/- What came in, said plainly for a walk: a slice of slices of ints. No program in sight. -/
import Derived.Test.YtknmiiajeafjpaaIn
namespace Go.Proofs.Ytknmiiajeafjpaa
open Go.ChangeShapes Go.WideShapes Go.ChangeAt Go.RowKit Go.Deep

theorem open_in_ints_cells {P : Program} {H : Type} {enc : TypeId × Value → H} {W : World} {t e : TypeId} {x : Value} {fuel : Nat} {y : DataW H × List MemPlace} (ht : P.underlying t = some (.slice e)) (he : P.underlying e = some (.int .i64)) (hc : P.cellsOf e = 1)
    (h : DataW.trod enc P W 0 (fun _ => true) true fuel t [x] = some y) : ∃ zs, InInts W x zs ∧ DLen y.1 zs.length := by
  have hx : ∃ a len cap, x = .slice a len cap := by
    rcases open_ints ht he hc h with ⟨hcs, _⟩ | ⟨a, len, cap, zs, hcs, _⟩
    · exact ⟨_, _, _, List.head_eq_of_cons_eq hcs⟩
    · exact ⟨_, _, _, List.head_eq_of_cons_eq hcs⟩
  obtain ⟨a, len, cap, rfl⟩ := hx
  exact open_in_ints (d := y.1) (p := y.2) ht he hc ⟨_, _, _, rfl⟩ ⟨fuel, by simpa [Value.cells] using h⟩

theorem open_in_rows {P : Program} {H : Type} {enc : TypeId × Value → H} {W : World} {t s e : TypeId} {v : Value} {d : DataW H} {p : List MemPlace} (ht : P.underlying t = some (.slice s)) (hs : P.underlying s = some (.slice e)) (he : P.underlying e = some (.int .i64)) (hce : P.cellsOf e = 1) (hcs : P.cellsOf s = 1)
    (hv : ∃ a len cap, v = .slice a len cap) (h : DataW.Trod enc P W 0 (fun _ => true) true t v d p) : ∃ xss, LL W v xss ∧ (∀ l ∈ xss, ∀ x ∈ l, -9223372036854775808 ≤ x ∧ x ≤ 9223372036854775807) ∧ DLen d xss.length := by
  obtain ⟨a1, len1, cap1, rfl⟩ := hv
  obtain ⟨fuel, hf⟩ := h
  rcases open_slice ht hf with ⟨hc, hx⟩ | ⟨a, len, cap, m, n, D, Pl, hc, _, hl, hm, hmm, hx, hel⟩
  · simp [Value.cells] at hc
    obtain ⟨rfl, rfl, rfl⟩ := hc
    exact ⟨[], ⟨[], rfl, .inl ⟨rfl, none, 0, rfl⟩, fun k hk => by simp at hk⟩, by simp, .inl ⟨congrArg Prod.fst hx, rfl⟩⟩
  · simp [Value.cells] at hc
    obtain ⟨rfl, rfl, rfl⟩ := hc
    simp at hmm
    have each : ∀ i, i < len1 → ∃ q : Value × List Int, W.cell? (a.add i) = some q.1 ∧ InInts W q.1 q.2 := by
      intro i hi
      obtain ⟨cs', hcells, htr⟩ := hel i (by omega)
      rw [hcs] at hcells
      simp only [Nat.mul_one] at hcells
      obtain ⟨_, hll, hev⟩ := World.cells?_some hcells
      match cs', hll with
      | [x0], _ =>
        obtain ⟨zs, hz, _⟩ := open_in_ints_cells hs he hce htr
        have g0 := hev 0 (by omega)
        have e0 : (a.add i).add 0 = a.add i := by cases a; simp [Addr.add]
        rw [e0] at g0
        exact ⟨(x0, zs), by simpa using g0, hz⟩
    obtain ⟨Q, hQ⟩ := choose_lt (α := Value × List Int) (p := fun i q => W.cell? (a.add i) = some q.1 ∧ InInts W q.1 q.2) each
    refine ⟨(List.range len1).map fun i => (Q i).2, ⟨(List.range len1).map fun i => (Q i).1, by simp, ?_, fun k hk => ?_⟩, fun l hl x hx => ?_, .inr ⟨_, _, congrArg Prod.fst hx, by simp⟩⟩
    · by_cases hp : 0 < len1
      · have hsp : a.spot = none := by
          have := World.cell?_spot (hQ 0 hp).1
          simpa [Addr.add] using this
        obtain ⟨b, off, spot⟩ := a
        simp at hsp
        subst hsp
        refine .inr ⟨by simpa using hp, b, off, cap1, by simp, by simp; omega, ?_, rfl, fun k hk => ?_⟩
        · have := World.block_lt_of_cell? _ _ (hQ 0 hp).1
          simpa [Addr.add] using this
        · have hk' : k < len1 := by simpa using hk
          have := (hQ k hk').1
          simp only [Addr.add_lit] at this
          simpa [hk'] using this
      · obtain rfl : len1 = 0 := by omega
        exact .inl ⟨rfl, some a, cap1, rfl⟩
    · have hk' : k < len1 := by simpa using hk
      have := (hQ k hk').2.has
      simpa [hk'] using this
    · simp only [List.mem_map, List.mem_range] at hl
      obtain ⟨i, hi, rfl⟩ := hl
      exact (hQ i hi).2.fits x hx
end Go.Proofs.Ytknmiiajeafjpaa
