/- Programs in memory; rows of records that end in a list. No function in sight. -/
import Derived.Test.YtbmbfifempkhgaaEMakeP
namespace Go.Proofs.Ytbmbfifempkhgaa
open Go.RowKit

/-- a record: its head's cells, then a list -/
def TailR {α : Type} (hd : α → List Value) (tl : α → List Int) (w : World) (a : α) (cs : List Value) : Prop := ∃ y, cs = hd a ++ [y] ∧ Has w y (ivs (tl a))
theorem tail_steady {α : Type} (hd : α → List Value) (tl : α → List Int) : Steady (TailR hd tl) := fun _ _ _ _ hb ⟨y, h1, h2⟩ => ⟨y, h1, h2.below hb⟩
def partHd (p : GPart) : List Value := [.int .u8 p.tag]
def lineHd (l : GLine) : List Value := [.int .i64 l.base, .int .i64 l.size]
/-- a program that can be read -/
def HasProg (w : World) (v : Value) (P : GProg) : Prop := ∃ vp vl vo, v = .agg #[.int .i64 P.memory, .int .i64 P.counters, .int .i64 P.ins, .int .i64 P.outs, vp, vl, vo] ∧ Recs w 2 (TailR partHd GPart.params) vp P.parts ∧ Recs w 3 (TailR lineHd GLine.start) vl P.lines ∧ HasRow w vo P.ops
theorem HasProg.below {w w' : World} {v : Value} {P : GProg} (h : HasProg w v P) (hb : Below w.heap.size w w') : HasProg w' v P := by
  obtain ⟨vp, vl, vo, h0, h1, h2, h3⟩ := h
  exact ⟨vp, vl, vo, h0, h1.below (tail_steady _ _) hb, h2.below (tail_steady _ _) hb, h3.below hb⟩
theorem hasProg_zero (w : World) : HasProg w (.agg #[.int .i64 0, .int .i64 0, .int .i64 0, .int .i64 0, .slice none 0 0, .slice none 0 0, .slice none 0 0]) .zero :=
  ⟨_, _, _, rfl, .inl ⟨rfl, _, _, rfl⟩, .inl ⟨rfl, _, _, rfl⟩, none, 0, rfl, fun _ => rfl, ⟨Nat.le_refl _, fun _ h => by cases h⟩, fun _ h => by cases h⟩

/-- the cells of records, their lists' slices among them -/
def tailV {α : Type} (hd : α → List Value) (ps : List (α × Value)) : List Value := ps.flatMap fun x => hd x.1 ++ [x.2]
theorem tailV_len {α : Type} {hd : α → List Value} {sz : Nat} (hsz : ∀ a, (hd a).length + 1 = sz) : ∀ ps : List (α × Value), (tailV hd ps).length = ps.length * sz
  | [] => by simp [tailV]
  | x :: ps => by
    have ih := tailV_len hsz ps
    have := hsz x.1
    simp only [tailV, List.flatMap_cons, List.length_append, List.length_cons, List.length_nil, Nat.add_mul] at ih ⊢
    rw [ih]
    omega
theorem tailV_snoc {α : Type} (hd : α → List Value) (ps : List (α × Value)) (a : α) (y : Value) : tailV hd (ps ++ [(a, y)]) = tailV hd ps ++ (hd a ++ [y]) := by simp [tailV]
theorem tailV_get {α : Type} {hd : α → List Value} {sz : Nat} (hsz : ∀ a, (hd a).length + 1 = sz) : ∀ (ps : List (α × Value)) (k i : Nat) (hk : k < ps.length), i < sz → (tailV hd ps)[k * sz + i]? = (hd (ps[k]).1 ++ [(ps[k]).2])[i]?
  | [], k, i, hk, hi => by simp at hk
  | x :: ps, 0, i, hk, hi => by
    rw [Nat.zero_mul, Nat.zero_add]
    show ((hd x.1 ++ [x.2]) ++ tailV hd ps)[i]? = _
    have := hsz x.1
    rw [List.getElem?_append_left (by simp; omega)]
    rfl
  | x :: ps, k + 1, i, hk, hi => by
    have ih := tailV_get hsz ps k i (by simpa using hk) hi
    have := hsz x.1
    show ((hd x.1 ++ [x.2]) ++ tailV hd ps)[(k + 1) * sz + i]? = _
    have hl : (hd x.1 ++ [x.2]).length = sz := by simp; omega
    rw [List.getElem?_append_right (by rw [hl, Nat.add_mul]; omega), hl, show (k + 1) * sz + i - sz = k * sz + i by rw [Nat.add_mul]; omega, ih]
    rfl

structure TailAt {α : Type} (hd : α → List Value) (tl : α → List Int) (w : World) (o : Col) (c d : Nat) (ty sz : Nat) (v : Value) (ps : List (α × Value)) : Prop where
  own : Own w o c ty sz v ps.length (tailV hd ps)
  ok : ∀ x ∈ ps, Ints w o d x.2 (tl x.1)

section
variable {α : Type} {hd : α → List Value} {tl : α → List Int} {w w' w2 : World} {o o' : Col} {C : Nat → Prop} {c d ty sz : Nat} {v : Value} {ps : List (α × Value)}

theorem TailAt.turn (h : TailAt hd tl w o c d ty sz v ps) (T : Turn o o' C w w') (hc : ¬ C c) (hdd : ¬ C d) : TailAt hd tl w' o' c d ty sz v ps := ⟨h.own.turn T hc, fun x hx => (h.ok x hx).turn T hdd⟩
theorem TailAt.nil : TailAt hd tl w o c d ty sz (.slice none 0 0) [] := ⟨Own.nil _ _ _ _ _, fun _ h => by cases h⟩
theorem TailAt.recs (hsz : ∀ a, (hd a).length + 1 = sz) (h : TailAt hd tl w o c d ty sz v ps) : Recs w sz (TailR hd tl) v (ps.map Prod.fst) := by
  rcases h.own.1.2 with ⟨rfl, h0⟩ | ⟨G, cap, cur, rfl, _, hg, hnc, _⟩
  · rw [List.eq_nil_of_length_eq_zero h0]
    exact .inl ⟨rfl, none, 0, rfl⟩
  · by_cases hp : 0 < ps.length
    · refine .inr ⟨by simpa using hp, G, 0, cap, by simp, by simpa using hnc, block_lt hg, fun k hk => ?_⟩
      have hk' : k < ps.length := by simpa using hk
      refine ⟨hd (ps[k]).1 ++ [(ps[k]).2], by simp [hsz], ⟨(ps[k]).2, by simp, by simpa using (h.ok _ (List.getElem_mem hk')).has⟩, fun i hi => ?_⟩
      have hg2 := tailV_get hsz ps k i hk' hi
      have hlen : i < (hd (ps[k]).1 ++ [(ps[k]).2]).length := by simp [hsz]; exact hi
      rw [List.getElem?_eq_getElem hlen] at hg2 ⊢
      have := h.own.1.cells (g := G) rfl _ _ hg2
      rw [Addr.add_lit] at this
      rw [Nat.add_assoc]
      exact this
    · rw [List.eq_nil_of_length_eq_zero (by omega : ps.length = 0)]
      exact .inl ⟨rfl, some ⟨G, 0, none⟩, cap, rfl⟩
/-- a record more; the slice lies in cell i of block B -/
theorem TailAt.grow {B i e : Nat} {t : TypeId} {cs : Array Value} {a : α} {y v' : Value} (h : TailAt hd tl w o c d ty sz v ps) (hB : Blk w o e B t cs) (hce : c ≠ e) (hde : d ≠ e) (hcd : c ≠ d) (hi : i < cs.size) (hy : Ints w o d y (tl a))
    (k1 : w2.ownsRow 0 ty sz v' (ps.length + 1) (tailV hd ps ++ (hd a ++ [y]))) (k2 : Mods (fun b => v.ownBlock = some b) w w2) (k4 : v'.ownBlock = v.ownBlock ∨ ∀ b, v'.ownBlock = some b → w.heap.size ≤ b) :
    w2.cell? ⟨B, i, none⟩ = some cs[i] ∧ w2.frozen? ⟨B, i, none⟩ = false ∧ Turn o (ext o w.heap.size c) (fun x => x = c ∨ x = e) w (w2.setCell ⟨B, i, none⟩ v') ∧ TailAt hd tl (w2.setCell ⟨B, i, none⟩ v') (ext o w.heap.size c) c d ty sz v' (ps ++ [(a, y)]) ∧ Blk (w2.setCell ⟨B, i, none⟩ v') (ext o w.heap.size c) e B t (cs.setIfInBounds i v') := by
  have T : Turn o (ext o w.heap.size c) (fun x => x = c) w w2 := Turn.of_mods o c k2 (fun b _ hb => h.own.2 b hb)
  have b2 := hB.turn T (fun e => hce e.symm)
  obtain ⟨b3, T3⟩ := b2.set i v'
  have hM := hB.lt
  have hMc : o B = e := hB.2
  have hvM : v'.ownBlock ≠ some B := fun e => by
    rcases k4 with k4 | k4
    · rw [k4] at e
      have := h.own.2 B e
      omega
    · have := k4 B e; omega
  refine ⟨b2.cell i _ (by simp [hi]), b2.frozen i, (T.mono (D := fun x => x = c ∨ x = e) (fun x e => .inl e)).trans T3 (fun x e => .inr e), ⟨⟨?_, fun b hb => ?_⟩, fun x hx => ?_⟩, b3⟩
  · rw [List.length_append, tailV_snoc]
    exact ownsRow_setCell_other k1 hvM v'
  · rcases k4 with k4 | k4
    · rw [k4] at hb
      exact (ext_old (h.own.1.lt b hb).2).trans (h.own.2 b hb)
    · exact ext_new (k4 b hb)
  · rcases List.mem_append.1 hx with hx | hx
    · exact ((h.ok x hx).turn T (fun e => hcd e.symm)).turn T3 (fun e => hde e)
    · obtain rfl : x = (a, y) := by simpa using hx
      exact (hy.turn T (fun e => hcd e.symm)).turn T3 (fun e => hde e)
end

theorem results_row_tmp {P : Program} {fn : Func} {p u : Tmp} {ty : TypeId} (h : fn.results = #[.cell p ty, .tmp u]) (tmps : Array Value) (w : World) (g : Nat) (t : TypeId) (cs : Array Value) (fr : Nat × Nat) (d : TypeDesc)
    (hp : tmps.getD p undef = .pointer (some ⟨g, 0, none⟩)) (hg : w.heap[g]? = some (.cells cs t fr))
    (hu : P.underlying ty = some d) (hd : (match d with | .struct _ | .array _ _ => true | _ => false) = true) (hi : (P.info? ty).map (·.size) = some cs.size) :
    (results fn tmps).run P w = .ok (.tuple #[.agg cs, tmps.getD u undef]) w := by
  have hp' : tmps[p]?.getD undef = .pointer (some ⟨g, 0, none⟩) := by simpa using hp
  simp [results, h, hp', asAddr, Sem.run_bind, Result.andThen, run_loadVar_row w g t ty cs fr d hg hu hd hi]

abbrev progZ : Array Value := #[.int .i64 0, .int .i64 0, .int .i64 0, .int .i64 0, .slice none 0 0, .slice none 0 0, .slice none 0 0]
/-- the seven cells of a program, stored one behind the other -/
abbrev setProg (w : World) (R : Nat) (a b c d x y z : Value) : World := ((((((w.setCell ⟨R, 0, none⟩ a).setCell ⟨R, 1, none⟩ b).setCell ⟨R, 2, none⟩ c).setCell ⟨R, 3, none⟩ d).setCell ⟨R, 4, none⟩ x).setCell ⟨R, 5, none⟩ y).setCell ⟨R, 6, none⟩ z
theorem prog_set {w : World} {R : Nat} {t : TypeId} (h : w.heap[R]? = some (.cells progZ t (0, 0))) (a b c d x y z : Value) : (setProg w R a b c d x y z).heap[R]? = some (.cells #[a, b, c, d, x, y, z] t (0, 0)) :=
  block_setCell (block_setCell (block_setCell (block_setCell (block_setCell (block_setCell (block_setCell h 0 a) 1 b) 2 c) 3 d) 4 x) 5 y) 6 z
theorem prog_below {w0 w : World} {R : Nat} (h : Below w0.heap.size w0 w) (hs : w0.heap.size ≤ w.heap.size) (hR : w0.heap.size ≤ R) (a b c d x y z : Value) : Below w0.heap.size w0 (setProg w R a b c d x y z) :=
  have m : Mods (fun k => w0.heap.size ≤ k) w (setProg w R a b c d x y z) :=
    ((((((Mods.refl _ w).setCell (p := ⟨R, 0, none⟩) (fun _ => hR) a).setCell (p := ⟨R, 1, none⟩) (fun _ => hR) b).setCell (p := ⟨R, 2, none⟩) (fun _ => hR) c).setCell (p := ⟨R, 3, none⟩) (fun _ => hR) d).setCell (p := ⟨R, 4, none⟩) (fun _ => hR) x).setCell (p := ⟨R, 5, none⟩) (fun _ => hR) y |>.setCell (p := ⟨R, 6, none⟩) (fun _ => hR) z
  h.trans (m.below hs (fun k hk f => by omega))
theorem prog_mods (w : World) (R : Nat) (a b c d x y z : Value) : Mods (fun k => k = R) w (setProg w R a b c d x y z) :=
  ((((((Mods.refl (fun k => k = R) w).setCell (p := ⟨R, 0, none⟩) (fun _ => rfl) a).setCell (p := ⟨R, 1, none⟩) (fun _ => rfl) b).setCell (p := ⟨R, 2, none⟩) (fun _ => rfl) c).setCell (p := ⟨R, 3, none⟩) (fun _ => rfl) d).setCell (p := ⟨R, 4, none⟩) (fun _ => rfl) x).setCell (p := ⟨R, 5, none⟩) (fun _ => rfl) y |>.setCell (p := ⟨R, 6, none⟩) (fun _ => rfl) z
theorem HasRow.mods {w w' : World} {F : Nat → Prop} {ao : Option Addr} {n cap : Nat} {l : List GOp} (h : HasRow w (.slice ao n cap) l) (m : Mods F w w') (hF : ∀ ad, ao = some ad → ¬ F ad.block) : HasRow w' (.slice ao n cap) l := by
  obtain ⟨ao', cap', e, h2, h3, h4⟩ := h
  cases e
  refine ⟨_, _, rfl, h2, h3, fun ad e j u hu => ?_⟩
  have := h4 ad e j u hu
  have hb := World.block_lt_of_cell? _ _ this
  refine (m.cell (p := ad.add j) hb ?_).trans this
  have e2 : (ad.add j).block = ad.block := by unfold Addr.add; split <;> rfl
  rw [e2]
  exact hF ad e
theorem fits_len {g : GGraph} {p : GPlan} (h : fitsP g p = true) : p.regions.length = g.edges.length := by
  unfold fitsP at h
  simp only [Bool.and_eq_true, decide_eq_true_eq] at h
  exact h.1.1.1
theorem linesP_succ {r : List GRegion} {l : List GEdge} {j : Nat} (h : j < r.length) (h2 : j < l.length) : (linesP r l).take (j + 1) = (linesP r l).take j ++ [⟨r[j].base, r[j].size, l[j].start⟩] := by
  rw [List.take_succ_eq_append_getElem (by simp [linesP]; omega)]
  simp [linesP]
end Go.Proofs.Ytbmbfifempkhgaa
