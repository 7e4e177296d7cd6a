/- What came in, said plainly for a walk: a script of calls, and its sizes. No program in sight. -/
import Derived.Test.YtknmiiajeafjpaaInActs
import Derived.Test.YtknmiiajeafjpaaInBoth
namespace Go.Proofs.Ytknmiiajeafjpaa
open Go.ChangeShapes Go.WideShapes Go.ChangeAt Go.RowKit Go.Deep

theorem open_acts_sized {P : Program} {H : Type} {enc : TypeId × Value → H} {W : World} {t e ts s i : TypeId} {f0 f1 : Field} {v : Value} {d : DataW H} {p : List MemPlace} (ht : P.underlying t = some (.slice e)) (he : P.underlying e = some (.struct #[f0, f1]))
    (h0 : P.underlying f0.type = some (.int .i64)) (h1 : f1.type = ts) (hts : P.underlying ts = some (.slice s)) (hs : P.underlying s = some (.slice i)) (hi : P.underlying i = some (.int .i64)) (hci : P.cellsOf i = 1) (hcs : P.cellsOf s = 1)
    (o0 : f0.offset = 0) (o1 : f1.offset = 1) (c0 : P.cellsOf f0.type = 1) (c1 : P.cellsOf ts = 1) (hc : P.cellsOf e = 2)
    (hv : ∃ a len cap, v = .slice a len cap) (h : DataW.Trod enc P W 0 (fun _ => true) true t v d p) : ∃ os, HasActs W v os ∧ (Light P t d → os.length * P.bytesOf e ≤ reachBytes ∧ ∀ k, k < os.length → ((os[k]?.getD (0, [])).2.length * P.bytesOf s ≤ reachBytes ∧ ∀ l ∈ (os[k]?.getD (0, [])).2, l.length * P.bytesOf i ≤ reachBytes)) := by
  obtain ⟨a1, len1, cap1, rfl⟩ := hv
  obtain ⟨fuel, hf⟩ := h
  rcases open_slice ht hf with ⟨hcs', hx⟩ | ⟨a, len, cap, m, n, D, Pl, hcs', _, hl, hm, hmm, hx, hel⟩
  · simp [Value.cells] at hcs'
    obtain ⟨rfl, rfl, rfl⟩ := hcs'
    exact ⟨[], .inl ⟨rfl, none, 0, rfl⟩, fun _ => ⟨by simp, fun k hk => by simp at hk⟩⟩
  · simp [Value.cells] at hcs'
    obtain ⟨rfl, rfl, rfl⟩ := hcs'
    simp at hmm
    have each : ∀ j, j < len1 → ∃ q : Int × List (List Int), W.cell? (a.add (j * 2)) = some (.int .i64 q.1) ∧ ∃ x, W.cell? ((a.add (j * 2)).add 1) = some x ∧ LL W x q.2 ∧ (∀ r ∈ q.2, ∀ z ∈ r, -9223372036854775808 ≤ z ∧ z ≤ 9223372036854775807) ∧ (Light P e (D j) → q.2.length * P.bytesOf s ≤ reachBytes ∧ ∀ l ∈ q.2, l.length * P.bytesOf i ≤ reachBytes) := by
      intro j hj
      obtain ⟨cs', hcells, htr⟩ := hel j (by omega)
      rw [hc] at hcells
      obtain ⟨y0, y1, n', hDe, hlen, ht0, ht1⟩ := trod_struct2 he htr
      have hDj : D j = .agg [y0.1, y1.1] := congrArg Prod.fst hDe
      obtain ⟨_, hll, hev⟩ := World.cells?_some hcells
      obtain ⟨z0, e0, _, _⟩ := DataW.trod_int h0 ht0
      rw [o0, c0] at e0
      rw [o1, h1, c1] at ht1
      match cs', hll with
      | [x0, x1], _ =>
        simp at e0 ht1
        subst e0
        have hx1 : ∃ a len cap, x1 = .slice a len cap := by
          rcases open_slice hts ht1 with ⟨hc, _⟩ | ⟨a, len, cap, _, _, _, _, hc, _⟩
          · exact ⟨_, _, _, List.head_eq_of_cons_eq hc⟩
          · exact ⟨_, _, _, List.head_eq_of_cons_eq hc⟩
        obtain ⟨ax, lx, cx, rfl⟩ := hx1
        obtain ⟨xss, r1, r2, r3⟩ := open_rows_sized (d := y1.1) (p := y1.2) hts hs hi hci hcs ⟨_, _, _, rfl⟩ ⟨n', by simpa [Value.cells] using ht1⟩
        have g0 := hev 0 (by omega)
        have g1 := hev 1 (by omega)
        have : (a.add (j * 2)).add 0 = a.add (j * 2) := by cases a; simp [Addr.add]
        rw [this] at g0
        refine ⟨(z0, xss), by simpa using g0, _, by simpa using g1, r1, r2, fun hL => r3 fun x hx => hL x ?_⟩
        rw [hDj]
        simp only [DataW.weights, he]
        simp [DataW.weightsEach, h1, hx]
    obtain ⟨Q, hQ⟩ := choose_lt (α := Int × List (List Int)) (p := fun j q => W.cell? (a.add (j * 2)) = some (.int .i64 q.1) ∧ ∃ x, W.cell? ((a.add (j * 2)).add 1) = some x ∧ LL W x q.2 ∧ (∀ r ∈ q.2, ∀ z ∈ r, -9223372036854775808 ≤ z ∧ z ≤ 9223372036854775807) ∧ (Light P e (D j) → q.2.length * P.bytesOf s ≤ reachBytes ∧ ∀ l ∈ q.2, l.length * P.bytesOf i ≤ reachBytes)) each
    have hd : d = _ := congrArg Prod.fst hx
    refine ⟨(List.range len1).map Q, ?_, fun hL => ⟨hL.len (n := ((List.range len1).map Q).length) (.inr ⟨_, _, hd, by simp⟩) ht, fun k hk => ?_⟩⟩
    rotate_left
    · have hk' : k < len1 := by simpa using hk
      obtain ⟨_, x, _, _, _, hq⟩ := hQ k hk'
      have hLk : Light P e (D k) := fun x hx => hL x (by
        rw [hd]
        simp only [DataW.weights, ht]
        exact List.mem_cons_of_mem _ (List.mem_append_left _ (weights_mem_all (List.mem_map.2 ⟨k, List.mem_range.2 hk', rfl⟩) hx)))
      have := hq hLk
      simpa [hk'] using this
    by_cases hp : 0 < len1
    · right
      have hsp : a.spot = none := by
        have := World.cell?_spot (hQ 0 hp).1
        simpa [Addr.add] using this
      obtain ⟨b, off, spot⟩ := a
      simp at hsp
      subst hsp
      refine ⟨by simpa using hp, b, off, cap1, by simp, ?_, fun k hk => ?_⟩
      · have := World.block_lt_of_cell? _ _ (hQ 0 hp).1
        simpa [Addr.add] using this
      · have hk' : k < len1 := by simpa using hk
        obtain ⟨e1, x, e2, e3, e4, _⟩ := hQ k hk'
        simp only [Addr.add_lit] at e1 e2
        refine ⟨by simpa [hk'] using e1, x, e2, ?_, ?_⟩
        · simpa [hk'] using e3
        · simpa [hk'] using e4
    · obtain rfl : len1 = 0 := by omega
      exact .inl ⟨rfl, some a, cap1, rfl⟩
end Go.Proofs.Ytknmiiajeafjpaa
