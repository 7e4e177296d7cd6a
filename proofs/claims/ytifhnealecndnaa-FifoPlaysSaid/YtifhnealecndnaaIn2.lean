/- What came in, said plainly for a walk: a script of calls (a slice of structs of two ints); how long a slice may be. No program in sight. -/
import Derived.Test.YtifhnealecndnaaW11
import Derived.Deep.Slices
import Derived.SizedLaws
namespace Go.Proofs.Ytifhnealecndnaa
open Go.ChangeShapes Go.WideShapes Go.ChangeAt Go.RowKit Go.Deep

/-- the reading of a slice of n elements -/
def DLen {H : Type} (d : DataW H) (n : Nat) : Prop := (d = .nil ∧ n = 0) ∨ ∃ el sp, d = .slice el sp ∧ el.length = n

theorem DLen.bulk {H : Type} {d : DataW H} {n : Nat} (h : DLen d n) : n + 1 ≤ Rows.uptoBulk d := by
  rcases h with ⟨rfl, rfl⟩ | ⟨el, sp, rfl, rfl⟩
  · simp [Rows.uptoBulk]
  · have := bulks.slice_le el sp; omega

theorem DLen.reach {H : Type} {P : Program} {ts : List TypeId} {ds : List (DataW H)} {d : DataW H} {n j : Nat} {t e : TypeId} (h : DLen d n) (hs : (DataW.weightsEach P ts ds).all (· ≤ reachBytes) = true) (ht : ts[j]? = some t) (hd : ds[j]? = some d) (hu : P.underlying t = some (.slice e)) : n * P.bytesOf e ≤ 140737488351232 := by
  rcases h with ⟨rfl, rfl⟩ | ⟨el, sp, rfl, rfl⟩
  · omega
  · have := sized_slice hs ht hd hu
    have h1 : el.length * P.bytesOf e ≤ (el.length + sp.length) * P.bytesOf e := Nat.mul_le_mul_right _ (by omega)
    have h2 : reachBytes = 140737488351232 := rfl
    omega

theorem open_ints_len {P : Program} {H : Type} {enc : TypeId × Value → H} {W : World} {t e : TypeId} {v : Value} {d : DataW H} {p : List MemPlace} (ht : P.underlying t = some (.slice e)) (he : P.underlying e = some (.int .i64)) (hc : P.cellsOf e = 1)
    (hv : ∃ a len cap, v = .slice a len cap) (h : DataW.Trod enc P W 0 (fun _ => true) true t v d p) : ∃ zs, InInts W v zs ∧ DLen d zs.length := by
  obtain ⟨zs, hi, _⟩ := open_in_ints ht he hc hv h
  refine ⟨zs, hi, ?_⟩
  obtain ⟨ao, cap, rfl, h1, h2, h3, h4, h5⟩ := hi
  obtain ⟨fuel, hf⟩ := h
  rcases open_ints ht he hc hf with ⟨hcs, hx⟩ | ⟨x, l, c, zs', hcs, _, hl, hm, hz, hx, hcell, hwz⟩
  · simp [Value.cells] at hcs
    exact .inl ⟨congrArg Prod.fst hx, by simp [hcs.2.1]⟩
  · simp [Value.cells] at hcs
    simp at hz
    exact .inr ⟨_, _, congrArg Prod.fst hx, by simp [lits]; omega⟩

theorem open_in_ops {P : Program} {H : Type} {enc : TypeId × Value → H} {W : World} {t e : TypeId} {f0 f1 : Field} {v : Value} {d : DataW H} {p : List MemPlace} (ht : P.underlying t = some (.slice e)) (he : P.underlying e = some (.struct #[f0, f1]))
    (h0 : P.underlying f0.type = some (.int .i64)) (h1 : P.underlying f1.type = some (.int .i64)) (o0 : f0.offset = 0) (o1 : f1.offset = 1) (c0 : P.cellsOf f0.type = 1) (c1 : P.cellsOf f1.type = 1) (hc : P.cellsOf e = 2)
    (hv : ∃ a len cap, v = .slice a len cap) (h : DataW.Trod enc P W 0 (fun _ => true) true t v d p) : ∃ os, HasOps W v os ∧ DLen d os.length := by
  obtain ⟨a1, len1, cap1, rfl⟩ := hv
  obtain ⟨fuel, hf⟩ := h
  rcases open_slice ht hf with ⟨hcs, hx⟩ | ⟨a, len, cap, m, n, D, Pl, hcs, _, hl, hm, hmm, hx, hel⟩
  · simp [Value.cells] at hcs
    obtain ⟨rfl, rfl, rfl⟩ := hcs
    exact ⟨[], .inl ⟨rfl, none, 0, rfl⟩, .inl ⟨congrArg Prod.fst hx, rfl⟩⟩
  · simp [Value.cells] at hcs
    obtain ⟨rfl, rfl, rfl⟩ := hcs
    simp at hmm
    have each : ∀ i, i < len1 → ∃ q : Int × Int, W.cell? (a.add (i * 2)) = some (.int .i64 q.1) ∧ W.cell? ((a.add (i * 2)).add 1) = some (.int .i64 q.2) := by
      intro i hi
      obtain ⟨cs', hcells, htr⟩ := hel i (by omega)
      rw [hc] at hcells
      obtain ⟨y0, y1, n', _, hlen, ht0, ht1⟩ := trod_struct2 he htr
      obtain ⟨_, hll, hev⟩ := World.cells?_some hcells
      obtain ⟨z0, e0, _, _⟩ := DataW.trod_int h0 ht0
      obtain ⟨z1, e1, _, _⟩ := DataW.trod_int h1 ht1
      rw [o0, c0] at e0
      rw [o1, c1] at e1
      match cs', hll with
      | [x0, x1], _ =>
        simp at e0 e1
        subst e0 e1
        have g0 := hev 0 (by omega)
        have g1 := hev 1 (by omega)
        refine ⟨(z0, z1), ?_, ?_⟩
        · have : (a.add (i * 2)).add 0 = a.add (i * 2) := by cases a; simp [Addr.add]
          rw [this] at g0
          simpa using g0
        · simpa using g1
    obtain ⟨Q, hQ⟩ := choose_lt (α := Int × Int) (p := fun i q => W.cell? (a.add (i * 2)) = some (.int .i64 q.1) ∧ W.cell? ((a.add (i * 2)).add 1) = some (.int .i64 q.2)) each
    refine ⟨(List.range len1).map Q, ?_, .inr ⟨_, _, congrArg Prod.fst hx, by simp⟩⟩
    by_cases hp : 0 < len1
    · right
      have hsp : a.spot = none := by
        have := (hQ 0 hp).1
        have := World.cell?_spot this
        simpa [Addr.add] using this
      obtain ⟨b, off, spot⟩ := a
      simp at hsp
      subst hsp
      refine ⟨by simpa using hp, b, off, cap1, by simp, ?_, fun k hk => ?_⟩
      · have := World.block_lt_of_cell? _ _ (hQ 0 hp).1
        simpa [Addr.add] using this
      · have hk' : k < len1 := by simpa using hk
        have := hQ k hk'
        simp only [Addr.add_lit] at this
        simpa [hk'] using this
    · obtain rfl : len1 = 0 := by omega
      exact .inl ⟨rfl, some a, cap1, rfl⟩

theorem HasOps.below {w w' : World} {v : Value} {l : List (Int × Int)} (h : HasOps w v l) (hb : Below w.heap.size w w') : HasOps w' v l := by
  rcases h with h | ⟨hp, b, off, cap, rfl, hlt, hc⟩
  · exact .inl h
  · exact .inr ⟨hp, b, off, cap, rfl, Nat.lt_of_lt_of_le hlt hb.size, fun k hk => ⟨cell_later hb (hc k hk).1, cell_later hb (hc k hk).2⟩⟩

end Go.Proofs.Ytifhnealecndnaa
