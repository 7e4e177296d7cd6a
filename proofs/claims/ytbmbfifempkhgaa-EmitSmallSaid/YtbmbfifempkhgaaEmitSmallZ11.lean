/- The law 'pianola EmitSmall' (said): for every input it returns true, and what it was handed reads as before. The frame: arguments opened, the walk called, arguments shut. -/
import Derived.Test.YtbmbfifempkhgaaEmitSmallZ10
import Derived.Test.YtbmbfifempkhgaaEmitSmallZ5
import Derived.Test.YtbmbfifempkhgaaRows
import Derived.WalkKit
import Derived.ProofKit
import Derived.OpenShut
import Derived.ShutString
import Derived.ChangeOld
import Derived.Below
import Derived.SizedLaws
/- What came in, said plainly for a walk: slices of slices of ints and their sizes; two of them in a struct. No program in sight. -/
namespace Go.Proofs.Ytbmbfifempkhgaa
open Go.ChangeShapes Go.WideShapes Go.ChangeAt Go.RowKit Go.Deep

theorem weights_mem_all {H : Type} {P : Program} {e : TypeId} {d : DataW H} {x : Nat} : ∀ {l : List (DataW H)}, d ∈ l → x ∈ d.weights P e → x ∈ DataW.weightsAll P e l
  | [], h, _ => by cases h
  | a :: l, h, hx => by
    simp only [DataW.weightsAll, List.mem_append]
    rcases List.mem_cons.1 h with rfl | h
    · exact .inl hx
    · exact .inr (weights_mem_all h hx)

/-- all that it weighs is within reach -/
def Light {H : Type} (P : Program) (t : TypeId) (d : DataW H) : Prop := ∀ x ∈ d.weights P t, x ≤ reachBytes

theorem Light.len {H : Type} {P : Program} {t e : TypeId} {d : DataW H} {n : Nat} (h : Light P t d) (hd : DLen d n) (hu : P.underlying t = some (.slice e)) : n * P.bytesOf e ≤ reachBytes := by
  rcases hd with ⟨rfl, rfl⟩ | ⟨el, sp, rfl, rfl⟩
  · simp
  · have := h ((el.length + sp.length) * P.bytesOf e) (by simp [DataW.weights, hu])
    exact Nat.le_trans (Nat.mul_le_mul_right _ (by omega)) this

theorem open_rows_sized {P : Program} {H : Type} {enc : TypeId × Value → H} {W : World} {t s e : TypeId} {v : Value} {d : DataW H} {p : List MemPlace} (ht : P.underlying t = some (.slice s)) (hs : P.underlying s = some (.slice e)) (he : P.underlying e = some (.int .i64)) (hce : P.cellsOf e = 1) (hcs : P.cellsOf s = 1)
    (hv : ∃ a len cap, v = .slice a len cap) (h : DataW.Trod enc P W 0 (fun _ => true) true t v d p) : ∃ xss, LL W v xss ∧ (∀ l ∈ xss, ∀ x ∈ l, -9223372036854775808 ≤ x ∧ x ≤ 9223372036854775807) ∧ (Light P t d → xss.length * P.bytesOf s ≤ reachBytes ∧ ∀ l ∈ xss, l.length * P.bytesOf e ≤ reachBytes) := by
  obtain ⟨a1, len1, cap1, rfl⟩ := hv
  obtain ⟨fuel, hf⟩ := h
  rcases open_slice ht hf with ⟨hc, hx⟩ | ⟨a, len, cap, m, n, D, Pl, hc, _, hl, hm, hmm, hx, hel⟩
  · simp [Value.cells] at hc
    obtain ⟨rfl, rfl, rfl⟩ := hc
    exact ⟨[], ⟨[], rfl, .inl ⟨rfl, none, 0, rfl⟩, fun k hk => by simp at hk⟩, by simp, fun _ => ⟨by simp, by simp⟩⟩
  · simp [Value.cells] at hc
    obtain ⟨rfl, rfl, rfl⟩ := hc
    simp at hmm
    have each : ∀ i, i < len1 → ∃ q : Value × List Int, W.cell? (a.add i) = some q.1 ∧ InInts W q.1 q.2 ∧ DLen (D i) q.2.length := by
      intro i hi
      obtain ⟨cs', hcells, htr⟩ := hel i (by omega)
      rw [hcs] at hcells
      simp only [Nat.mul_one] at hcells
      obtain ⟨_, hll, hev⟩ := World.cells?_some hcells
      match cs', hll with
      | [x0], _ =>
        obtain ⟨zs, hz, hdl⟩ := open_in_ints_cells hs he hce htr
        have g0 := hev 0 (by omega)
        have e0 : (a.add i).add 0 = a.add i := by cases a; simp [Addr.add]
        rw [e0] at g0
        exact ⟨(x0, zs), by simpa using g0, hz, hdl⟩
    obtain ⟨Q, hQ⟩ := choose_lt (α := Value × List Int) (p := fun i q => W.cell? (a.add i) = some q.1 ∧ InInts W q.1 q.2 ∧ DLen (D i) q.2.length) each
    have hd : d = _ := congrArg Prod.fst hx
    refine ⟨(List.range len1).map fun i => (Q i).2, ⟨(List.range len1).map fun i => (Q i).1, by simp, ?_, fun k hk => ?_⟩, fun l hl x hx => ?_, fun hL => ⟨?_, fun l hl => ?_⟩⟩
    · by_cases hp : 0 < len1
      · have hsp : a.spot = none := by
          have := World.cell?_spot (hQ 0 hp).1
          simpa [Addr.add] using this
        obtain ⟨b, off, spot⟩ := a
        simp at hsp
        subst hsp
        refine .inr ⟨by simpa using hp, b, off, cap1, by simp, by simp; omega, ?_, rfl, fun k hk => ?_⟩
        · have := World.block_lt_of_cell? _ _ (hQ 0 hp).1
          simpa [Addr.add] using this
        · have hk' : k < len1 := by simpa using hk
          have := (hQ k hk').1
          simp only [Addr.add_lit] at this
          simpa [hk'] using this
      · obtain rfl : len1 = 0 := by omega
        exact .inl ⟨rfl, some a, cap1, rfl⟩
    · have hk' : k < len1 := by simpa using hk
      have := (hQ k hk').2.1.has
      simpa [hk'] using this
    · simp only [List.mem_map, List.mem_range] at hl
      obtain ⟨i, hi, rfl⟩ := hl
      exact (hQ i hi).2.1.fits x hx
    · exact hL.len (n := ((List.range len1).map fun i => (Q i).2).length) (.inr ⟨_, _, hd, by simp⟩) ht
    · simp only [List.mem_map, List.mem_range] at hl
      obtain ⟨i, hi, rfl⟩ := hl
      have hLi : Light P s (D i) := fun x hx => hL x (by
        rw [hd]
        simp only [DataW.weights, ht]
        exact List.mem_cons_of_mem _ (List.mem_append_left _ (weights_mem_all (List.mem_map.2 ⟨i, List.mem_range.2 hi, rfl⟩) hx)))
      exact hLi.len (hQ i hi).2.2 hs

/-- two slices of slices of ints, in a struct -/
theorem open_in_both {P : Program} {H : Type} {enc : TypeId × Value → H} {W : World} {t ts s i : TypeId} {f0 f1 : Field} {v : Value} {d : DataW H} {p : List MemPlace} (ht : P.underlying t = some (.struct #[f0, f1])) (h0 : f0.type = ts) (h1 : f1.type = ts) (hts : P.underlying ts = some (.slice s)) (hs : P.underlying s = some (.slice i)) (hi : P.underlying i = some (.int .i64)) (hci : P.cellsOf i = 1) (hcs : P.cellsOf s = 1)
    (o0 : f0.offset = 0) (o1 : f1.offset = 1) (c1 : P.cellsOf ts = 1) (hc : P.cellsOf t = 2) (hv : ∃ cs, v = .agg cs ∧ cs.size = P.cellsOf t) (h : DataW.Trod enc P W 0 (fun _ => true) true t v d p) :
    ∃ x y xss yss, v = .agg #[x, y] ∧ LL W x xss ∧ LL W y yss ∧ (∀ l ∈ xss, ∀ z ∈ l, -9223372036854775808 ≤ z ∧ z ≤ 9223372036854775807) ∧ (∀ l ∈ yss, ∀ z ∈ l, -9223372036854775808 ≤ z ∧ z ≤ 9223372036854775807) ∧
      (Light P t d → (xss.length * P.bytesOf s ≤ reachBytes ∧ ∀ l ∈ xss, l.length * P.bytesOf i ≤ reachBytes) ∧ yss.length * P.bytesOf s ≤ reachBytes ∧ ∀ l ∈ yss, l.length * P.bytesOf i ≤ reachBytes) := by
  obtain ⟨cs, rfl, hsz⟩ := hv
  obtain ⟨fuel, hf⟩ := h
  rw [hc] at hsz
  obtain ⟨l⟩ := cs
  match l, hsz with
  | [x, y], _ =>
    obtain ⟨y0, y1, n, hxe, hlen, ht0, ht1⟩ := trod_struct2 ht hf
    rw [h0, o0, c1] at ht0
    rw [h1, o1, c1] at ht1
    have ht0' : DataW.trod enc P W 0 (fun _ => true) true n ts [x] = some y0 := by simpa [Value.cells] using ht0
    have ht1' : DataW.trod enc P W 0 (fun _ => true) true n ts [y] = some y1 := by simpa [Value.cells] using ht1
    have sl : ∀ (u : Value) (z : DataW H × List MemPlace), DataW.trod enc P W 0 (fun _ => true) true n ts [u] = some z → ∃ a len cap, u = .slice a len cap := fun u z hz => by
      rcases open_slice hts hz with ⟨hc, _⟩ | ⟨a, len, cap, _, _, _, _, hc, _⟩
      · exact ⟨_, _, _, List.head_eq_of_cons_eq hc⟩
      · exact ⟨_, _, _, List.head_eq_of_cons_eq hc⟩
    obtain ⟨ax, lx, cx, rfl⟩ := sl x y0 ht0'
    obtain ⟨ay, ly, cy, rfl⟩ := sl y y1 ht1'
    obtain ⟨xss, q1, q2, q3⟩ := open_rows_sized (d := y0.1) (p := y0.2) hts hs hi hci hcs ⟨_, _, _, rfl⟩ ⟨n, by simpa [Value.cells] using ht0'⟩
    obtain ⟨yss, r1, r2, r3⟩ := open_rows_sized (d := y1.1) (p := y1.2) hts hs hi hci hcs ⟨_, _, _, rfl⟩ ⟨n, by simpa [Value.cells] using ht1'⟩
    have hd : d = .agg [y0.1, y1.1] := congrArg Prod.fst hxe
    refine ⟨_, _, xss, yss, rfl, q1, r1, q2, r2, fun hL => ⟨q3 fun x hx => hL x ?_, r3 fun x hx => hL x ?_⟩⟩
    · rw [hd]
      simp only [DataW.weights, ht]
      simp [DataW.weightsEach, h0, hx]
    · rw [hd]
      simp only [DataW.weights, ht]
      simp [DataW.weightsEach, h1, hx]
end Go.Proofs.Ytbmbfifempkhgaa

/- What came in, said plainly for a walk: graphs and plans. No function in sight. -/
namespace Go.Proofs.Ytbmbfifempkhgaa
open Go.ChangeShapes Go.WideShapes Go.ChangeAt Go.RowKit Go.Deep

section
variable {H : Type} {enc : TypeId × Value → H} {W : World}

abbrev Trods (enc : TypeId × Value → H) (W : World) (fuel : Nat) (t : TypeId) (cs : List Value) (y : DataW H × List MemPlace) : Prop := DataW.trod enc Try.prog W 0 (fun _ => true) true fuel t cs = some y

theorem cell_string : Try.prog.cellsOf 9 = 1 := by kernel_rfl
theorem cell_int : Try.prog.cellsOf 3 = 1 := by kernel_rfl
theorem cell_tag : Try.prog.cellsOf 55 = 1 := by kernel_rfl
theorem cell_ints : Try.prog.cellsOf 52 = 1 := by kernel_rfl
theorem byte_int : Try.prog.bytesOf 3 = 8 := by kernel_rfl
theorem reach_val : reachBytes = 140737488351232 := rfl

/-- the parts of a record weigh no more than it -/
theorem light_part {t : TypeId} {fs : Array Field} {xs : List (DataW H × List MemPlace)} (ht : Try.prog.underlying t = some (.struct fs)) (hL : Light Try.prog t (.agg (xs.map (·.1)))) {i : Nat} {f : Field} {y : DataW H × List MemPlace} (hf : fs[i]? = some f) (hy : xs[i]? = some y) : Light Try.prog f.type y.1 := fun x hx => hL x (by
  simp only [DataW.weights, ht]
  have h1 : (fs.toList.map (·.type))[i]? = some f.type := by simp [hf]
  have h2 : (xs.map (·.1))[i]? = some y.1 := by simp [hy]
  exact DataW.weights_mem_each h1 h2 x hx)
theorem string_at {fuel : Nat} {x : Value} {y : DataW H × List MemPlace} (h : Trods enc W fuel 9 [x] y) : ∃ s : ByteArray, x = .string s ∧ (Light Try.prog 9 y.1 → s.size ≤ 4611686018427387904) := by
  obtain ⟨s, h1, h2, _⟩ := DataW.trod_string Try.underlying9 h
  refine ⟨s, by simpa using h1, fun hL => ?_⟩
  have := hL s.data.toList.length (by rw [h2]; simp [DataW.weights])
  have h3 := reach_val
  have h4 : s.data.toList.length = s.size := by simp
  omega
theorem int_at {fuel : Nat} {x : Value} {y : DataW H × List MemPlace} (h : Trods enc W fuel 3 [x] y) : ∃ n, x = .int .i64 n := by
  obtain ⟨n, h1, _⟩ := DataW.trod_int Try.underlying3 h
  exact ⟨n, by simpa using h1⟩
theorem ints_at' {fuel : Nat} {x : Value} {y : DataW H × List MemPlace} (h : Trods enc W fuel 52 [x] y) : ∃ l, Has W x (ivs l) ∧ (Light Try.prog 52 y.1 → l.length ≤ 17600000000000) := by
  obtain ⟨l, h1, h2⟩ := open_in_ints_cells Try.underlying52 Try.underlying3 cell_int h
  refine ⟨l, h1.has, fun hL => ?_⟩
  have := hL.len h2 Try.underlying52
  rw [byte_int] at this
  have h3 := reach_val
  omega

set_option maxRecDepth 100000 in
theorem el_actor {fuel : Nat} {cs : List Value} {y : DataW H × List MemPlace} (hl : cs.length = 3) (h : Trods enc W fuel 57 cs y) : ∃ a : GActor, ActorR W a cs ∧ (Light Try.prog 57 y.1 → a.name.size ≤ 4611686018427387904 ∧ a.params.length ≤ 17600000000000) := by
  obtain ⟨xs, n, _, rfl, _, hlen, hf⟩ := DataW.trod_struct Try.underlying57 h
  match cs, hl, xs, hlen with
  | [x0, x1, x2], _, [y0, y1, y2], _ =>
    have h0 : Trods enc W n 9 [x0] y0 := by simpa [cell_string] using hf 0 _ rfl
    have h1 : Trods enc W n 55 [x1] y1 := by simpa [cell_tag] using hf 1 _ rfl
    have h2 : Trods enc W n 52 [x2] y2 := by simpa [cell_ints] using hf 2 _ rfl
    obtain ⟨s, rfl, s2⟩ := string_at h0
    obtain ⟨tg, t1, _⟩ := DataW.trod_int Try.underlying55 h1
    obtain rfl : x1 = .int .u8 tg := by simpa using t1
    obtain ⟨l, l1, l2⟩ := ints_at' h2
    exact ⟨⟨s, tg, l⟩, ⟨x2, rfl, l1⟩, fun hL => ⟨s2 (light_part Try.underlying57 (xs := [y0, y1, y2]) hL (i := 0) rfl rfl), l2 (light_part Try.underlying57 (xs := [y0, y1, y2]) hL (i := 2) rfl rfl)⟩⟩
set_option maxRecDepth 100000 in
theorem el_edge {fuel : Nat} {cs : List Value} {y : DataW H × List MemPlace} (hl : cs.length = 5) (h : Trods enc W fuel 63 cs y) : ∃ a : GEdge, EdgeR W a cs ∧ (Light Try.prog 63 y.1 → a.start.length ≤ 17600000000000) := by
  obtain ⟨xs, n, _, rfl, _, hlen, hf⟩ := DataW.trod_struct Try.underlying63 h
  match cs, hl, xs, hlen with
  | [x0, x1, x2, x3, x4], _, [y0, y1, y2, y3, y4], _ =>
    have h0 : Trods enc W n 3 [x0] y0 := by simpa [cell_int] using hf 0 _ rfl
    have h1 : Trods enc W n 3 [x1] y1 := by simpa [cell_int] using hf 1 _ rfl
    have h2 : Trods enc W n 3 [x2] y2 := by simpa [cell_int] using hf 2 _ rfl
    have h3 : Trods enc W n 3 [x3] y3 := by simpa [cell_int] using hf 3 _ rfl
    have h4 : Trods enc W n 52 [x4] y4 := by simpa [cell_ints] using hf 4 _ rfl
    obtain ⟨n0, rfl⟩ := int_at h0
    obtain ⟨n1, rfl⟩ := int_at h1
    obtain ⟨n2, rfl⟩ := int_at h2
    obtain ⟨n3, rfl⟩ := int_at h3
    obtain ⟨l, l1, l2⟩ := ints_at' h4
    exact ⟨⟨n0, n1, n2, n3, l⟩, ⟨x4, rfl, l1⟩, fun hL => l2 (light_part Try.underlying63 (xs := [y0, y1, y2, y3, y4]) hL (i := 4) rfl rfl)⟩
set_option maxRecDepth 100000 in
theorem el_port {fuel : Nat} {cs : List Value} {y : DataW H × List MemPlace} (hl : cs.length = 3) (h : Trods enc W fuel 65 cs y) : ∃ a : GPort, PortR W a cs ∧ (Light Try.prog 65 y.1 → a.name.size ≤ 4611686018427387904) := by
  obtain ⟨xs, n, _, rfl, _, hlen, hf⟩ := DataW.trod_struct Try.underlying65 h
  match cs, hl, xs, hlen with
  | [x0, x1, x2], _, [y0, y1, y2], _ =>
    have h0 : Trods enc W n 9 [x0] y0 := by simpa [cell_string] using hf 0 _ rfl
    have h1 : Trods enc W n 3 [x1] y1 := by simpa [cell_int] using hf 1 _ rfl
    have h2 : Trods enc W n 3 [x2] y2 := by simpa [cell_int] using hf 2 _ rfl
    obtain ⟨s, rfl, s2⟩ := string_at h0
    obtain ⟨n1, rfl⟩ := int_at h1
    obtain ⟨n2, rfl⟩ := int_at h2
    exact ⟨⟨s, n1, n2⟩, rfl, fun hL => s2 (light_part Try.underlying65 (xs := [y0, y1, y2]) hL (i := 0) rfl rfl)⟩
set_option maxRecDepth 100000 in
theorem el_region {fuel : Nat} {cs : List Value} {y : DataW H × List MemPlace} (hl : cs.length = 2) (h : Trods enc W fuel 70 cs y) : ∃ a : GRegion, RegionR W a cs ∧ (Light Try.prog 70 y.1 → True) := by
  obtain ⟨xs, n, _, rfl, _, hlen, hf⟩ := DataW.trod_struct Try.underlying70 h
  match cs, hl, xs, hlen with
  | [x0, x1], _, [y0, y1], _ =>
    have h0 : Trods enc W n 3 [x0] y0 := by simpa [cell_int] using hf 0 _ rfl
    have h1 : Trods enc W n 3 [x1] y1 := by simpa [cell_int] using hf 1 _ rfl
    obtain ⟨n0, rfl⟩ := int_at h0
    obtain ⟨n1, rfl⟩ := int_at h1
    exact ⟨⟨n0, n1⟩, rfl, fun _ => trivial⟩

theorem list_get {cs : List Value} {n i : Nat} (hl : cs.length = n) (hi : i < n) : cs[i]? = some (cs[i]?.getD undef) := by
  rw [List.getElem?_eq_getElem (by omega)]; rfl
/-- a slice of records -/
theorem open_recs {α : Type} {R : World → α → List Value → Prop} {Z : α → Prop} {t e : TypeId} {sz : Nat} {fuel : Nat} {x : Value} {y : DataW H × List MemPlace} (ht : Try.prog.underlying t = some (.slice e)) (hc : Try.prog.cellsOf e = sz) (hsz : 0 < sz)
    (el : ∀ (fuel : Nat) (cs : List Value) (y : DataW H × List MemPlace), cs.length = sz → Trods enc W fuel e cs y → ∃ a : α, R W a cs ∧ (Light Try.prog e y.1 → Z a)) (h : Trods enc W fuel t [x] y) :
    ∃ l : List α, Recs W sz R x l ∧ (Light Try.prog t y.1 → l.length * Try.prog.bytesOf e ≤ reachBytes ∧ ∀ a ∈ l, Z a) := by
  rcases open_slice ht h with ⟨hcs', hx⟩ | ⟨a, len, cap, m, n, D, Pl, hcs', _, hl, hm, hmm, hx, hel⟩
  · obtain rfl : x = .slice none 0 0 := List.head_eq_of_cons_eq hcs'
    exact ⟨[], .inl ⟨rfl, _, _, rfl⟩, fun _ => ⟨by simp, by simp⟩⟩
  · obtain rfl := List.head_eq_of_cons_eq hcs'
    simp at hmm
    have each : ∀ j, j < len → ∃ q : α × List Value, q.2.length = sz ∧ R W q.1 q.2 ∧ (Light Try.prog e (D j) → Z q.1) ∧ ∀ i, i < sz → W.cell? ((a.add (j * sz)).add i) = some (q.2[i]?.getD undef) := by
      intro j hj
      obtain ⟨cs', hcells, htr⟩ := hel j (by omega)
      rw [hc] at hcells
      obtain ⟨_, hll, hev⟩ := World.cells?_some hcells
      obtain ⟨q, h1, h2⟩ := el _ _ _ hll htr
      exact ⟨(q, cs'), hll, h1, h2, fun i hi => (hev i hi).trans (list_get hll hi)⟩
    by_cases hp : 0 < len
    · haveI : Inhabited (α × List Value) := ⟨(each 0 hp).choose⟩
      obtain ⟨Q, hQ⟩ := choose_lt (α := α × List Value) (p := fun j q => q.2.length = sz ∧ R W q.1 q.2 ∧ (Light Try.prog e (D j) → Z q.1) ∧ ∀ i, i < sz → W.cell? ((a.add (j * sz)).add i) = some (q.2[i]?.getD undef)) each
      have hd : y.1 = _ := congrArg Prod.fst hx
      refine ⟨(List.range len).map fun j => (Q j).1, .inr ?_, fun hL => ⟨hL.len (n := ((List.range len).map fun j => (Q j).1).length) (.inr ⟨_, _, hd, by simp⟩) ht, fun z hz => ?_⟩⟩
      rotate_left
      · simp only [List.mem_map, List.mem_range] at hz
        obtain ⟨j, hj, rfl⟩ := hz
        exact (hQ j hj).2.2.1 fun x hx => hL x (by
          rw [hd]
          simp only [DataW.weights, ht]
          exact List.mem_cons_of_mem _ (List.mem_append_left _ (weights_mem_all (List.mem_map.2 ⟨j, List.mem_range.2 hj, rfl⟩) hx)))
      have hsp : a.spot = none := by
        have := World.cell?_spot ((hQ 0 hp).2.2.2 0 hsz)
        simpa [Addr.add] using this
      obtain ⟨b, off, spot⟩ := a
      simp at hsp
      subst hsp
      refine ⟨by simpa using hp, b, off, cap, by simp, by simp; omega, ?_, fun k hk => ?_⟩
      · have := World.block_lt_of_cell? _ _ ((hQ 0 hp).2.2.2 0 hsz)
        simpa [Addr.add] using this
      · have hk' : k < len := by simpa using hk
        obtain ⟨e1, e2, _, e4⟩ := hQ k hk'
        refine ⟨(Q k).2, e1, by simpa [hk'] using e2, fun i hi => ?_⟩
        have := e4 i hi
        simp only [Addr.add_lit] at this
        exact this
    · obtain rfl : len = 0 := by omega
      exact ⟨[], .inl ⟨rfl, some a, cap, rfl⟩, fun _ => ⟨by simp, by simp⟩⟩

theorem byte_actor : Try.prog.bytesOf 57 = 48 := by kernel_rfl
theorem byte_edge : Try.prog.bytesOf 63 = 56 := by kernel_rfl
theorem byte_port : Try.prog.bytesOf 65 = 32 := by kernel_rfl
theorem byte_region : Try.prog.bytesOf 70 = 16 := by kernel_rfl
theorem cell_rows : Try.prog.cellsOf 22 = 1 ∧ Try.prog.cellsOf 23 = 1 ∧ Try.prog.cellsOf 24 = 1 ∧ Try.prog.cellsOf 27 = 1 := ⟨by kernel_rfl, by kernel_rfl, by kernel_rfl, by kernel_rfl⟩

set_option maxRecDepth 100000 in
/-- a graph that came in -/
theorem open_graph {v : Value} {d : DataW H} {p : List MemPlace} (hv : ∃ cs, v = .agg cs ∧ cs.size = Try.prog.cellsOf 26) (h : DataW.Trod enc Try.prog W 0 (fun _ => true) true 26 v d p) : ∃ g, HasGraph W v g ∧ (Light Try.prog 26 d → GSized g ∧ Great g) := by
  obtain ⟨cs, rfl, hsz⟩ := hv
  obtain ⟨fuel, hf0⟩ := h
  rw [show Try.prog.cellsOf 26 = 5 by kernel_rfl] at hsz
  obtain ⟨xs, n, _, hx, _, hlen, hf⟩ := DataW.trod_struct Try.underlying26 hf0
  obtain ⟨l⟩ := cs
  match l, hsz, xs, hlen with
  | [x0, x1, x2, x3, x4], _, [y0, y1, y2, y3, y4], _ =>
    have h0 : Trods enc W n 9 [x0] y0 := by simpa [cell_string, Value.cells] using hf 0 _ rfl
    have h1 : Trods enc W n 22 [x1] y1 := by simpa [cell_rows.1, Value.cells] using hf 1 _ rfl
    have h2 : Trods enc W n 23 [x2] y2 := by simpa [cell_rows.2.1, Value.cells] using hf 2 _ rfl
    have h3 : Trods enc W n 24 [x3] y3 := by simpa [cell_rows.2.2.1, Value.cells] using hf 3 _ rfl
    have h4 : Trods enc W n 24 [x4] y4 := by simpa [cell_rows.2.2.1, Value.cells] using hf 4 _ rfl
    have hd : d = .agg ([y0, y1, y2, y3, y4].map (·.1)) := congrArg Prod.fst hx
    obtain ⟨s, rfl, s2⟩ := string_at h0
    obtain ⟨la, a1, a2⟩ := open_recs (sz := 3) Try.underlying22 (by kernel_rfl) (by decide) (fun fuel cs y => el_actor) h1
    obtain ⟨le, e1, e2⟩ := open_recs (sz := 5) Try.underlying23 (by kernel_rfl) (by decide) (fun fuel cs y => el_edge) h2
    obtain ⟨li, i1, i2⟩ := open_recs (sz := 3) Try.underlying24 (by kernel_rfl) (by decide) (fun fuel cs y => el_port) h3
    obtain ⟨lo, o1, o2⟩ := open_recs (sz := 3) Try.underlying24 (by kernel_rfl) (by decide) (fun fuel cs y => el_port) h4
    refine ⟨⟨s, la, le, li, lo⟩, ⟨_, _, _, _, rfl, a1, e1, i1, o1⟩, fun hL => ?_⟩
    rw [hd] at hL
    have s3 := s2 (light_part Try.underlying26 hL (i := 0) rfl rfl)
    have a3 := a2 (light_part Try.underlying26 hL (i := 1) rfl rfl)
    have e3 := e2 (light_part Try.underlying26 hL (i := 2) rfl rfl)
    have i3 := i2 (light_part Try.underlying26 hL (i := 3) rfl rfl)
    have o3 := o2 (light_part Try.underlying26 hL (i := 4) rfl rfl)
    rw [byte_actor, reach_val] at a3
    rw [byte_edge, reach_val] at e3
    rw [byte_port, reach_val] at i3 o3
    exact ⟨⟨s3, a3.2, i3.2, o3.2⟩, ⟨by have := a3.1; show la.length ≤ _; omega, by have := e3.1; show le.length ≤ _; omega, by have := i3.1; show li.length ≤ _; omega, by have := o3.1; show lo.length ≤ _; omega, fun a ha => (a3.2 a ha).2, e3.2⟩⟩

set_option maxRecDepth 100000 in
/-- a plan that came in -/
theorem open_plan {v : Value} {d : DataW H} {p : List MemPlace} (hv : ∃ cs, v = .agg cs ∧ cs.size = Try.prog.cellsOf 29) (h : DataW.Trod enc Try.prog W 0 (fun _ => true) true 29 v d p) : ∃ q, HasPlan W v q ∧ (Light Try.prog 29 d → q.regions.length ≤ 17600000000000) := by
  obtain ⟨cs, rfl, hsz⟩ := hv
  obtain ⟨fuel, hf0⟩ := h
  rw [show Try.prog.cellsOf 29 = 2 by kernel_rfl] at hsz
  obtain ⟨xs, n, _, hx, _, hlen, hf⟩ := DataW.trod_struct Try.underlying29 hf0
  obtain ⟨l⟩ := cs
  match l, hsz, xs, hlen with
  | [x0, x1], _, [y0, y1], _ =>
    have h0 : Trods enc W n 27 [x0] y0 := by simpa [cell_rows.2.2.2, Value.cells] using hf 0 _ rfl
    have h1 : Trods enc W n 3 [x1] y1 := by simpa [cell_int, Value.cells] using hf 1 _ rfl
    have hd : d = .agg ([y0, y1].map (·.1)) := congrArg Prod.fst hx
    obtain ⟨lr, r1, r2⟩ := open_recs (sz := 2) Try.underlying27 (by kernel_rfl) (by decide) (fun fuel cs y => el_region) h0
    obtain ⟨tot, rfl⟩ := int_at h1
    refine ⟨⟨lr, tot⟩, ⟨_, rfl, r1⟩, fun hL => ?_⟩
    rw [hd] at hL
    have r3 := r2 (light_part Try.underlying29 hL (i := 0) rfl rfl)
    rw [byte_region, reach_val] at r3
    have := r3.1
    show lr.length ≤ _
    omega
end
end Go.Proofs.Ytbmbfifempkhgaa

namespace Go.Proofs.Ytbmbfifempkhgaa.emitSmall
open Go.ChangeShapes Go.WideShapes Go.ChangeAt Go.RowKit
open Go.ChangeMaps (open_string shut_string)

theorem own : ownKnob Try.prog.godebug = none := by kernel_rfl
theorem laidOut : laidOutB Try.prog = true := by kernel_rfl

set_option maxRecDepth 100000 in
theorem contract (H : Type) (enc : TypeId × Value → H) (W : World) (base : Nat) (args : Array Value) (ds gs : List (DataW H)) (before : List MemPlace)
    (hval : ∀ (j : Nat) t v, Try.f6.params[j]? = some t → args[j]? = some v → Value.okWide Try.prog W .any base t v)
    (hW : DataW.Whole enc Try.prog Try.f6.params.toList Rows.emitSmallSpec.vars false W args.toList ds gs before) (hsz0 : (DataW.weightsEach Try.prog (Try.f6.params.toList ++ Rows.emitSmallSpec.plain.varTypes Try.prog) (ds ++ gs)).all (· ≤ reachBytes) = true) :
    Calls Try.prog 6 args W fun e W' => ∃ v, e = .returned v ∧ Rows.emitSmallSpec.post enc Try.prog Try.f6 false true false false W args v W' := by
  have hW' := hW
  obtain ⟨p, q, hA0, hV, rfl, hfz, hnd⟩ := hW
  have hA : DataW.TrodAll enc Try.prog W 0 (fun _ => true) true Try.f6.params.toList args.toList ds p := hA0
  rw [Try.params6] at hA hval
  obtain ⟨v0, vs0, d0, ds0, p0, q0, hargs, rfl, rfl, h0, r0⟩ := trodAll_cons hA
  obtain ⟨v1, vs1, d1, ds1, p1, q1, rfl, rfl, rfl, h1, r1⟩ := trodAll_cons r0
  obtain ⟨v2, vs2, d2, ds2, p2, q2, rfl, rfl, rfl, h2, r2⟩ := trodAll_cons r1
  obtain ⟨rfl, rfl, rfl⟩ := trodAll_nil r2
  obtain rfl : args = #[v0, v1, v2] := by cases args; simp_all
  obtain ⟨rfl, rfl⟩ := trodVars_none hV
  have hS : (DataW.weightsEach Try.prog [26, 29, 52] [d0, d1, d2]).all (· ≤ reachBytes) = true := hsz0
  have k0 := h0
  have lt0 : ∀ x ∈ p0, x.block < W.heap.size := by obtain ⟨m, hm⟩ := k0; exact DataW.trod_lt m _ _ _ hm
  have k1 := h1
  have lt1 : ∀ x ∈ p1, x.block < W.heap.size := by obtain ⟨m, hm⟩ := k1; exact DataW.trod_lt m _ _ _ hm
  have k2 := h2
  have lt2 : ∀ x ∈ p2, x.block < W.heap.size := by obtain ⟨m, hm⟩ := k2; exact DataW.trod_lt m _ _ _ hm
  have L0 : Light Try.prog 26 d0 := fun x hx => of_decide_eq_true (List.all_eq_true.1 hS _ (DataW.weights_mem_each (j := 0) rfl rfl x hx))
  obtain ⟨g0, i0, z0⟩ := open_graph (okWide_struct Try.underlying26 (hval 0 26 v0 rfl rfl)) h0
  have z0 := z0 L0
  have L1 : Light Try.prog 29 d1 := fun x hx => of_decide_eq_true (List.all_eq_true.1 hS _ (DataW.weights_mem_each (j := 1) rfl rfl x hx))
  obtain ⟨g1, i1, z1⟩ := open_plan (okWide_struct Try.underlying29 (hval 1 29 v1 rfl rfl)) h1
  have z1 := z1 L1
  obtain ⟨zs2, i2, l2⟩ := open_in_ints Try.underlying52 Try.underlying3 (by kernel_rfl) (okWide_slice Try.underlying52 (hval 2 52 v2 rfl rfl)) h2
  have z2 := l2.reach hS (j := 2) rfl rfl Try.underlying52
  rw [show Try.prog.bytesOf 3 = 8 by kernel_rfl] at z2
  clear hA0
  refine (small_all W v0 v1 v2 g0 g1 zs2 i0 i1 i2.has z0.1 z0.2 (by omega) z1).mono fun e W' ⟨he, bel⟩ => ?_
  subst he
  exact ⟨_, rfl, _, _, _, [], _, [], hW', trodAll_mk1 (shut_bool Try.underlying4 _), (trodAll_cons_mk (Below.trod laidOut (by kernel_rfl) (of_decide_eq_true (by kernel_rfl)) k0 bel lt0) (trodAll_cons_mk (Below.trod laidOut (by kernel_rfl) (of_decide_eq_true (by kernel_rfl)) k1 bel lt1) (trodAll_cons_mk (Below.trod laidOut (by kernel_rfl) (of_decide_eq_true (by kernel_rfl)) k2 bel lt2) trodAll_mk0))), rfl, bel.frame _, fun h => by cases h⟩

set_option maxRecDepth 100000 in
theorem lifted (os : Os) (started : os.Started) (H : Type) (enc : TypeId × Value → H) :
    ReturnsInHanded {} Try.checked os 6 .any (Rows.emitSmallSpec.pre6 enc Try.prog Try.f6 Rows.emitSmallRow.domain false) (Rows.emitSmallSpec.post enc Try.prog Try.f6 false true false false) := by
  refine returnsInHanded_of_change_sized (C := Try.checked) own started (by kernel_rfl) Try.func6
    (ChangeSpec.witness6 (enc := enc) (C := Try.checked) false ⟨#[], #[.agg #[.string ByteArray.empty, .slice none 0 0, .slice none 0 0, .slice none 0 0, .slice none 0 0], .agg #[.slice none 0 0, .int .i64 0], .slice none 0 0], []⟩ 8 (by kernel_rfl) (by kernel_rfl) (by kernel_rfl) (by kernel_rfl)) ?_
  intro W base args ds gs before hval hW _ hsz0 _
  exact contract H enc W base args ds gs before hval hW hsz0

theorem proved : Rows.EmitSmallSaid :=
  OpenClaim.holds_of_wide 6 Try.f6 rfl rfl rfl rfl rfl rfl rfl ⟨rfl, rfl, rfl, rfl, rfl⟩ rfl rfl rfl rfl rfl (by kernel_rfl) Try.func6 (by kernel_rfl)
    (of_decide_eq_true (by kernel_rfl)) (by unfold Func.isWrapper; first | (rw [if_pos (by decide +kernel)]; kernel_rfl) | (rw [if_neg (by decide +kernel)]; exact ⟨rfl, rfl⟩))
    (fun os started H enc _ => lifted os started H enc)
end Go.Proofs.Ytbmbfifempkhgaa.emitSmall
