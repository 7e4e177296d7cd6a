/- What came in, said plainly for a walk: slices of slices of ints and their sizes; two of them in a struct. No program in sight. -/
import Derived.Test.YtknmiiajeafjpaaInRows
namespace Go.Proofs.Ytknmiiajeafjpaa
open Go.ChangeShapes Go.WideShapes Go.ChangeAt Go.RowKit Go.Deep

theorem weights_mem_all {H : Type} {P : Program} {e : TypeId} {d : DataW H} {x : Nat} : ∀ {l : List (DataW H)}, d ∈ l → x ∈ d.weights P e → x ∈ DataW.weightsAll P e l
  | [], h, _ => by cases h
  | a :: l, h, hx => by
    simp only [DataW.weightsAll, List.mem_append]
    rcases List.mem_cons.1 h with rfl | h
    · exact .inl hx
    · exact .inr (weights_mem_all h hx)

/-- all that it weighs is within reach -/
def Light {H : Type} (P : Program) (t : TypeId) (d : DataW H) : Prop := ∀ x ∈ d.weights P t, x ≤ reachBytes

theorem Light.len {H : Type} {P : Program} {t e : TypeId} {d : DataW H} {n : Nat} (h : Light P t d) (hd : DLen d n) (hu : P.underlying t = some (.slice e)) : n * P.bytesOf e ≤ reachBytes := by
  rcases hd with ⟨rfl, rfl⟩ | ⟨el, sp, rfl, rfl⟩
  · simp
  · have := h ((el.length + sp.length) * P.bytesOf e) (by simp [DataW.weights, hu])
    exact Nat.le_trans (Nat.mul_le_mul_right _ (by omega)) this

theorem open_rows_sized {P : Program} {H : Type} {enc : TypeId × Value → H} {W : World} {t s e : TypeId} {v : Value} {d : DataW H} {p : List MemPlace} (ht : P.underlying t = some (.slice s)) (hs : P.underlying s = some (.slice e)) (he : P.underlying e = some (.int .i64)) (hce : P.cellsOf e = 1) (hcs : P.cellsOf s = 1)
    (hv : ∃ a len cap, v = .slice a len cap) (h : DataW.Trod enc P W 0 (fun _ => true) true t v d p) : ∃ xss, LL W v xss ∧ (∀ l ∈ xss, ∀ x ∈ l, -9223372036854775808 ≤ x ∧ x ≤ 9223372036854775807) ∧ (Light P t d → xss.length * P.bytesOf s ≤ reachBytes ∧ ∀ l ∈ xss, l.length * P.bytesOf e ≤ reachBytes) := by
  obtain ⟨a1, len1, cap1, rfl⟩ := hv
  obtain ⟨fuel, hf⟩ := h
  rcases open_slice ht hf with ⟨hc, hx⟩ | ⟨a, len, cap, m, n, D, Pl, hc, _, hl, hm, hmm, hx, hel⟩
  · simp [Value.cells] at hc
    obtain ⟨rfl, rfl, rfl⟩ := hc
    exact ⟨[], ⟨[], rfl, .inl ⟨rfl, none, 0, rfl⟩, fun k hk => by simp at hk⟩, by simp, fun _ => ⟨by simp, by simp⟩⟩
  · simp [Value.cells] at hc
    obtain ⟨rfl, rfl, rfl⟩ := hc
    simp at hmm
    have each : ∀ i, i < len1 → ∃ q : Value × List Int, W.cell? (a.add i) = some q.1 ∧ InInts W q.1 q.2 ∧ DLen (D i) q.2.length := by
      intro i hi
      obtain ⟨cs', hcells, htr⟩ := hel i (by omega)
      rw [hcs] at hcells
      simp only [Nat.mul_one] at hcells
      obtain ⟨_, hll, hev⟩ := World.cells?_some hcells
      match cs', hll with
      | [x0], _ =>
        obtain ⟨zs, hz, hdl⟩ := open_in_ints_cells hs he hce htr
        have g0 := hev 0 (by omega)
        have e0 : (a.add i).add 0 = a.add i := by cases a; simp [Addr.add]
        rw [e0] at g0
        exact ⟨(x0, zs), by simpa using g0, hz, hdl⟩
    obtain ⟨Q, hQ⟩ := choose_lt (α := Value × List Int) (p := fun i q => W.cell? (a.add i) = some q.1 ∧ InInts W q.1 q.2 ∧ DLen (D i) q.2.length) each
    have hd : d = _ := congrArg Prod.fst hx
    refine ⟨(List.range len1).map fun i => (Q i).2, ⟨(List.range len1).map fun i => (Q i).1, by simp, ?_, fun k hk => ?_⟩, fun l hl x hx => ?_, fun hL => ⟨?_, fun l hl => ?_⟩⟩
    · by_cases hp : 0 < len1
      · have hsp : a.spot = none := by
          have := World.cell?_spot (hQ 0 hp).1
          simpa [Addr.add] using this
        obtain ⟨b, off, spot⟩ := a
        simp at hsp
        subst hsp
        refine .inr ⟨by simpa using hp, b, off, cap1, by simp, by simp; omega, ?_, rfl, fun k hk => ?_⟩
        · have := World.block_lt_of_cell? _ _ (hQ 0 hp).1
          simpa [Addr.add] using this
        · have hk' : k < len1 := by simpa using hk
          have := (hQ k hk').1
          simp only [Addr.add_lit] at this
          simpa [hk'] using this
      · obtain rfl : len1 = 0 := by omega
        exact .inl ⟨rfl, some a, cap1, rfl⟩
    · have hk' : k < len1 := by simpa using hk
      have := (hQ k hk').2.1.has
      simpa [hk'] using this
    · simp only [List.mem_map, List.mem_range] at hl
      obtain ⟨i, hi, rfl⟩ := hl
      exact (hQ i hi).2.1.fits x hx
    · exact hL.len (n := ((List.range len1).map fun i => (Q i).2).length) (.inr ⟨_, _, hd, by simp⟩) ht
    · simp only [List.mem_map, List.mem_range] at hl
      obtain ⟨i, hi, rfl⟩ := hl
      have hLi : Light P s (D i) := fun x hx => hL x (by
        rw [hd]
        simp only [DataW.weights, ht]
        exact List.mem_cons_of_mem _ (List.mem_append_left _ (weights_mem_all (List.mem_map.2 ⟨i, List.mem_range.2 hi, rfl⟩) hx)))
      exact hLi.len (hQ i hi).2.2 hs

/-- two slices of slices of ints, in a struct -/
theorem open_in_both {P : Program} {H : Type} {enc : TypeId × Value → H} {W : World} {t ts s i : TypeId} {f0 f1 : Field} {v : Value} {d : DataW H} {p : List MemPlace} (ht : P.underlying t = some (.struct #[f0, f1])) (h0 : f0.type = ts) (h1 : f1.type = ts) (hts : P.underlying ts = some (.slice s)) (hs : P.underlying s = some (.slice i)) (hi : P.underlying i = some (.int .i64)) (hci : P.cellsOf i = 1) (hcs : P.cellsOf s = 1)
    (o0 : f0.offset = 0) (o1 : f1.offset = 1) (c1 : P.cellsOf ts = 1) (hc : P.cellsOf t = 2) (hv : ∃ cs, v = .agg cs ∧ cs.size = P.cellsOf t) (h : DataW.Trod enc P W 0 (fun _ => true) true t v d p) :
    ∃ x y xss yss, v = .agg #[x, y] ∧ LL W x xss ∧ LL W y yss ∧ (∀ l ∈ xss, ∀ z ∈ l, -9223372036854775808 ≤ z ∧ z ≤ 9223372036854775807) ∧ (∀ l ∈ yss, ∀ z ∈ l, -9223372036854775808 ≤ z ∧ z ≤ 9223372036854775807) ∧
      (Light P t d → (xss.length * P.bytesOf s ≤ reachBytes ∧ ∀ l ∈ xss, l.length * P.bytesOf i ≤ reachBytes) ∧ yss.length * P.bytesOf s ≤ reachBytes ∧ ∀ l ∈ yss, l.length * P.bytesOf i ≤ reachBytes) := by
  obtain ⟨cs, rfl, hsz⟩ := hv
  obtain ⟨fuel, hf⟩ := h
  rw [hc] at hsz
  obtain ⟨l⟩ := cs
  match l, hsz with
  | [x, y], _ =>
    obtain ⟨y0, y1, n, hxe, hlen, ht0, ht1⟩ := trod_struct2 ht hf
    rw [h0, o0, c1] at ht0
    rw [h1, o1, c1] at ht1
    have ht0' : DataW.trod enc P W 0 (fun _ => true) true n ts [x] = some y0 := by simpa [Value.cells] using ht0
    have ht1' : DataW.trod enc P W 0 (fun _ => true) true n ts [y] = some y1 := by simpa [Value.cells] using ht1
    have sl : ∀ (u : Value) (z : DataW H × List MemPlace), DataW.trod enc P W 0 (fun _ => true) true n ts [u] = some z → ∃ a len cap, u = .slice a len cap := fun u z hz => by
      rcases open_slice hts hz with ⟨hc, _⟩ | ⟨a, len, cap, _, _, _, _, hc, _⟩
      · exact ⟨_, _, _, List.head_eq_of_cons_eq hc⟩
      · exact ⟨_, _, _, List.head_eq_of_cons_eq hc⟩
    obtain ⟨ax, lx, cx, rfl⟩ := sl x y0 ht0'
    obtain ⟨ay, ly, cy, rfl⟩ := sl y y1 ht1'
    obtain ⟨xss, q1, q2, q3⟩ := open_rows_sized (d := y0.1) (p := y0.2) hts hs hi hci hcs ⟨_, _, _, rfl⟩ ⟨n, by simpa [Value.cells] using ht0'⟩
    obtain ⟨yss, r1, r2, r3⟩ := open_rows_sized (d := y1.1) (p := y1.2) hts hs hi hci hcs ⟨_, _, _, rfl⟩ ⟨n, by simpa [Value.cells] using ht1'⟩
    have hd : d = .agg [y0.1, y1.1] := congrArg Prod.fst hxe
    refine ⟨_, _, xss, yss, rfl, q1, r1, q2, r2, fun hL => ⟨q3 fun x hx => hL x ?_, r3 fun x hx => hL x ?_⟩⟩
    · rw [hd]
      simp only [DataW.weights, ht]
      simp [DataW.weightsEach, h0, hx]
    · rw [hd]
      simp only [DataW.weights, ht]
      simp [DataW.weightsEach, h1, hx]
end Go.Proofs.Ytknmiiajeafjpaa
