/- Two rows are made and laid in, in each order that may be drawn. No function in sight. -/
import Derived.Test.YtbmbfifempkhgaaEmitMakesZ3
import Derived.Test.YtbmbfifempkhgaaEmitMakesZ2
import Derived.Deep.Cut
import Derived.Deep.CutRange
import Derived.Test.YtbmbfifempkhgaaEmitMakesZ1
import Derived.Test.YtbmbfifempkhgaaEmitMakesZ4
namespace Go.Proofs.Ytbmbfifempkhgaa
open Go.RowKit
theorem OpM.spot {w : World} {o : Col} {c d g n cap a : Nat} {m : List (List GOp)} {vs : List Value} (h : OpM w o c d (.slice (some ⟨g, 0, none⟩) n cap) m vs) (ha : a < m.length) : (∃ x y z, w.cell? ⟨g, a, none⟩ = some (.slice x y z)) ∧ w.frozen? ⟨g, a, none⟩ = false := by
 obtain ⟨_, _, g', e, h1, h2⟩ := h.row ha
 cases e
 obtain ⟨x, z, e⟩ := (h.rows a ha).slice
 rw [e] at h1
 exact ⟨⟨x, _, z, h1⟩, h2⟩
def ColM (x : Nat) : Prop := 1 ≤ x ∧ x ≤ 4
def TwoM (w : World) (o : Col) (vI vO : Value) (mI mO : List (List GOp)) : Prop := ∃ vsI vsO, OpM w o 1 2 vI mI vsI ∧ OpM w o 3 4 vO mO vsO
theorem TwoM.turn {w w' : World} {o o' : Col} {C : Nat → Prop} {vI vO : Value} {mI mO : List (List GOp)} (h : TwoM w o vI vO mI mO) (T : Turn o o' C w w') (hC : ∀ x, ColM x → ¬ C x) : TwoM w' o' vI vO mI mO := by
 obtain ⟨a, b, h1, h2⟩ := h
 have c := fun x h1 h2 => hC x ⟨h1, h2⟩
 exact ⟨a, b, h1.turn T (c 1 (by omega) (by omega)) (c 2 (by omega) (by omega)), h2.turn T (c 3 (by omega) (by omega)) (c 4 (by omega) (by omega))⟩
abbrev opsC (n : Nat) : Obj := .cells (opsV (zeroL n)).toArray 61
section
variable {w : World} {o : Col} {gI gO nI capI nO capO j a b : Nat} {mI mO : List (List GOp)}
theorem makes_A (h : TwoM w o (.slice (some ⟨gI, 0, none⟩) nI capI) (.slice (some ⟨gO, 0, none⟩) nO capO) mI mO) (hI : j < mI.length) (hO : j < mO.length) (ha : a ≤ 1000) (hb : b ≤ 1000) (N : Nat) (hN : w.heap.size = N) :
  (∃ x y z, ((w.alloc (opsC a)).alloc (opsC b)).cell? ⟨gI, j, none⟩ = some (.slice x y z)) ∧ ((w.alloc (opsC a)).alloc (opsC b)).frozen? ⟨gI, j, none⟩ = false ∧ (∃ x y z, (((w.alloc (opsC a)).alloc (opsC b)).setCell ⟨gI, j, none⟩ (.slice (some ⟨N, 0, none⟩) a a)).cell? ⟨gO, j, none⟩ = some (.slice x y z)) ∧ (((w.alloc (opsC a)).alloc (opsC b)).setCell ⟨gI, j, none⟩ (.slice (some ⟨N, 0, none⟩) a a)).frozen? ⟨gO, j, none⟩ = false ∧
  ∃ o', Turn o o' ColM w ((((w.alloc (opsC a)).alloc (opsC b)).setCell ⟨gI, j, none⟩ (.slice (some ⟨N, 0, none⟩) a a)).setCell ⟨gO, j, none⟩ (.slice (some ⟨N + 1, 0, none⟩) b b)) ∧
   TwoM ((((w.alloc (opsC a)).alloc (opsC b)).setCell ⟨gI, j, none⟩ (.slice (some ⟨N, 0, none⟩) a a)).setCell ⟨gO, j, none⟩ (.slice (some ⟨N + 1, 0, none⟩) b b)) o' (.slice (some ⟨gI, 0, none⟩) nI capI) (.slice (some ⟨gO, 0, none⟩) nO capO) (mI.set j (zeroL a)) (mO.set j (zeroL b)) := by
 subst hN
 obtain ⟨vsI, vsO, h1, h2⟩ := h
 have T1 := Turn.of_below o 2 (below_alloc w (opsC a))
 have r1 := row_new w o 2 a ha
 have T2 := Turn.of_below (ext o w.heap.size 2) 4 (below_alloc (w.alloc (opsC a)) (opsC b))
 have r2 := row_new (w.alloc (opsC a)) (ext o w.heap.size 2) 4 b hb
 rw [World.size_alloc] at T2 r2
 have H1 := (h1.turn T1 (fun h => h) (fun h => h)).turn T2 (fun h => h) (fun h => h)
 obtain ⟨f1, f2⟩ := H1.spot hI
 obtain ⟨p1, T3⟩ := H1.lay2 (by decide) hI (r1.turn T2 (fun h => h)) (fun k hk B hB e => by
  have := h1.fresh hk hB
  have e2 := Option.some.inj e
  dsimp only at e2
  omega)
 have H2 := ((h2.turn T1 (fun h => h) (fun h => h)).turn T2 (fun h => h) (fun h => h)).turn T3 (by decide) (by decide)
 obtain ⟨f3, f4⟩ := H2.spot hO
 obtain ⟨p2, T4⟩ := H2.lay2 (by decide) hO (r2.turn T3 (by decide)) (fun k hk B hB e => by
  have := h2.fresh hk hB
  have e2 := Option.some.inj e
  dsimp only at e2
  omega)
 exact ⟨f1, f2, f3, f4, _, (((T1.mono (D := ColM) (fun _ h => h.elim)).trans T2 (fun _ h => h.elim)).trans T3 (fun x e => by subst e; unfold ColM; omega)).trans T4 (fun x e => by subst e; unfold ColM; omega), _, _, p1.turn T4 (by decide) (by decide), p2⟩
theorem makes_B (h : TwoM w o (.slice (some ⟨gI, 0, none⟩) nI capI) (.slice (some ⟨gO, 0, none⟩) nO capO) mI mO) (hI : j < mI.length) (hO : j < mO.length) (ha : a ≤ 1000) (hb : b ≤ 1000) (N : Nat) (hN : w.heap.size = N) :
  (∃ x y z, (w.alloc (opsC a)).cell? ⟨gI, j, none⟩ = some (.slice x y z)) ∧ (w.alloc (opsC a)).frozen? ⟨gI, j, none⟩ = false ∧ (∃ x y z, (((w.alloc (opsC a)).setCell ⟨gI, j, none⟩ (.slice (some ⟨N, 0, none⟩) a a)).alloc (opsC b)).cell? ⟨gO, j, none⟩ = some (.slice x y z)) ∧ (((w.alloc (opsC a)).setCell ⟨gI, j, none⟩ (.slice (some ⟨N, 0, none⟩) a a)).alloc (opsC b)).frozen? ⟨gO, j, none⟩ = false ∧
  ∃ o', Turn o o' ColM w ((((w.alloc (opsC a)).setCell ⟨gI, j, none⟩ (.slice (some ⟨N, 0, none⟩) a a)).alloc (opsC b)).setCell ⟨gO, j, none⟩ (.slice (some ⟨N + 1, 0, none⟩) b b)) ∧
   TwoM ((((w.alloc (opsC a)).setCell ⟨gI, j, none⟩ (.slice (some ⟨N, 0, none⟩) a a)).alloc (opsC b)).setCell ⟨gO, j, none⟩ (.slice (some ⟨N + 1, 0, none⟩) b b)) o' (.slice (some ⟨gI, 0, none⟩) nI capI) (.slice (some ⟨gO, 0, none⟩) nO capO) (mI.set j (zeroL a)) (mO.set j (zeroL b)) := by
 subst hN
 obtain ⟨vsI, vsO, h1, h2⟩ := h
 have T1 := Turn.of_below o 2 (below_alloc w (opsC a))
 have r1 := row_new w o 2 a ha
 have H1 := h1.turn T1 (fun h => h) (fun h => h)
 obtain ⟨f1, f2⟩ := H1.spot hI
 obtain ⟨p1, T3⟩ := H1.lay2 (by decide) hI r1 (fun k hk B hB e => by
  have := h1.fresh hk hB
  have e2 := Option.some.inj e
  dsimp only at e2
  omega)
 have hs : (((w.alloc (opsC a)).setCell ⟨gI, j, none⟩ (.slice (some ⟨w.heap.size, 0, none⟩) a a))).heap.size = w.heap.size + 1 := by simp [World.setCell]
 have T2 := Turn.of_below (ext o w.heap.size 2) 4 (below_alloc ((w.alloc (opsC a)).setCell ⟨gI, j, none⟩ (.slice (some ⟨w.heap.size, 0, none⟩) a a)) (opsC b))
 have r2 := row_new ((w.alloc (opsC a)).setCell ⟨gI, j, none⟩ (.slice (some ⟨w.heap.size, 0, none⟩) a a)) (ext o w.heap.size 2) 4 b hb
 rw [hs] at T2 r2
 have H2 := ((h2.turn T1 (fun h => h) (fun h => h)).turn T3 (by decide) (by decide)).turn T2 (fun h => h) (fun h => h)
 obtain ⟨f3, f4⟩ := H2.spot hO
 obtain ⟨p2, T4⟩ := H2.lay2 (by decide) hO r2 (fun k hk B hB e => by
  have := h2.fresh hk hB
  have e2 := Option.some.inj e
  dsimp only at e2
  omega)
 exact ⟨f1, f2, f3, f4, _, (((T1.mono (D := ColM) (fun _ h => h.elim)).trans T3 (fun x e => by subst e; unfold ColM; omega)).trans T2 (fun _ h => h.elim)).trans T4 (fun x e => by subst e; unfold ColM; omega), _, _, (p1.turn T2 (fun h => h) (fun h => h)).turn T4 (by decide) (by decide), p2⟩
theorem makes_C (h : TwoM w o (.slice (some ⟨gI, 0, none⟩) nI capI) (.slice (some ⟨gO, 0, none⟩) nO capO) mI mO) (hI : j < mI.length) (hO : j < mO.length) (ha : a ≤ 1000) (hb : b ≤ 1000) (N : Nat) (hN : w.heap.size = N) :
  (∃ x y z, ((w.alloc (opsC b)).alloc (opsC a)).cell? ⟨gI, j, none⟩ = some (.slice x y z)) ∧ ((w.alloc (opsC b)).alloc (opsC a)).frozen? ⟨gI, j, none⟩ = false ∧ (∃ x y z, (((w.alloc (opsC b)).alloc (opsC a)).setCell ⟨gI, j, none⟩ (.slice (some ⟨N + 1, 0, none⟩) a a)).cell? ⟨gO, j, none⟩ = some (.slice x y z)) ∧ (((w.alloc (opsC b)).alloc (opsC a)).setCell ⟨gI, j, none⟩ (.slice (some ⟨N + 1, 0, none⟩) a a)).frozen? ⟨gO, j, none⟩ = false ∧
  ∃ o', Turn o o' ColM w ((((w.alloc (opsC b)).alloc (opsC a)).setCell ⟨gI, j, none⟩ (.slice (some ⟨N + 1, 0, none⟩) a a)).setCell ⟨gO, j, none⟩ (.slice (some ⟨N, 0, none⟩) b b)) ∧
   TwoM ((((w.alloc (opsC b)).alloc (opsC a)).setCell ⟨gI, j, none⟩ (.slice (some ⟨N + 1, 0, none⟩) a a)).setCell ⟨gO, j, none⟩ (.slice (some ⟨N, 0, none⟩) b b)) o' (.slice (some ⟨gI, 0, none⟩) nI capI) (.slice (some ⟨gO, 0, none⟩) nO capO) (mI.set j (zeroL a)) (mO.set j (zeroL b)) := by
 subst hN
 obtain ⟨vsI, vsO, h1, h2⟩ := h
 have T1 := Turn.of_below o 4 (below_alloc w (opsC b))
 have r2 := row_new w o 4 b hb
 have T2 := Turn.of_below (ext o w.heap.size 4) 2 (below_alloc (w.alloc (opsC b)) (opsC a))
 have r1 := row_new (w.alloc (opsC b)) (ext o w.heap.size 4) 2 a ha
 rw [World.size_alloc] at T2 r1
 have H1 := (h1.turn T1 (fun h => h) (fun h => h)).turn T2 (fun h => h) (fun h => h)
 obtain ⟨f1, f2⟩ := H1.spot hI
 obtain ⟨p1, T3⟩ := H1.lay2 (by decide) hI r1 (fun k hk B hB e => by
  have := h1.fresh hk hB
  have e2 := Option.some.inj e
  dsimp only at e2
  omega)
 have H2 := ((h2.turn T1 (fun h => h) (fun h => h)).turn T2 (fun h => h) (fun h => h)).turn T3 (by decide) (by decide)
 obtain ⟨f3, f4⟩ := H2.spot hO
 obtain ⟨p2, T4⟩ := H2.lay2 (by decide) hO ((r2.turn T2 (fun h => h)).turn T3 (by decide)) (fun k hk B hB e => by
  have := h2.fresh hk hB
  have e2 := Option.some.inj e
  dsimp only at e2
  omega)
 exact ⟨f1, f2, f3, f4, _, (((T1.mono (D := ColM) (fun _ h => h.elim)).trans T2 (fun _ h => h.elim)).trans T3 (fun x e => by subst e; unfold ColM; omega)).trans T4 (fun x e => by subst e; unfold ColM; omega), _, _, p1.turn T4 (by decide) (by decide), p2⟩
end
end Go.Proofs.Ytbmbfifempkhgaa

/- The closure, over two matrices. -/
namespace Go.Proofs.Ytbmbfifempkhgaa
open Go.RowKit
def OnTwo (w : World) (o : Col) (vI vO : Value) (mI mO : List (List GOp)) (e : Ending) (w' : World) : Prop := e = .returned (.tuple #[]) ∧ Turn o o ColM w w' ∧ TwoM w' o vI vO mI mO
theorem on_O {w : World} {o : Col} {vI : Value} {gO n cap a k : Nat} {mI mO : List (List GOp)} (h : TwoM w o vI (.slice (some ⟨gO, 0, none⟩) n cap) mI mO) (ha : a < mO.length) (hk : k < (rowM mO a).length) :
  ∃ G LL cp, w.cell? ⟨gO, a, none⟩ = some (.slice (some ⟨G, 0, none⟩) LL cp) ∧ k < LL ∧ LL ≤ cp ∧ ∀ kd x, Calls Try.prog 78 #[.pointer (some ⟨G, k * 3, none⟩), .int .u8 kd, .int .i64 x] w.drew (OnTwo w.drew o vI (.slice (some ⟨gO, 0, none⟩) n cap) mI (putM mO a k kd x)) := by
 obtain ⟨vsI, vsO, h1, h2⟩ := h
 obtain ⟨G, cp, hG, hcp, _, _, _, _⟩ := h2.slot ha hk
 obtain ⟨-, -, gg, eg, r1, -⟩ := h2.row ha
 cases eg
 rw [hG] at r1
 refine ⟨G, _, cp, r1, hk, hcp, fun kd x => (on_any w.drew o 3 4 _ mO vsO (h2.turn (Turn.of_quiet o ⟨1, rfl⟩) (fun h => h) (fun h => h)) (by decide) a k ha hk G _ cp hG kd x).mono ?_⟩
 rintro e w' ⟨he, T, M⟩
 exact ⟨he, T.mono (fun x e => by subst e; unfold ColM; omega), vsI, vsO, (h1.turn (Turn.of_quiet o ⟨1, rfl⟩) (fun h => h) (fun h => h)).turn T (by decide) (by decide), M⟩
theorem on_I {w : World} {o : Col} {vO : Value} {gI n cap a k : Nat} {mI mO : List (List GOp)} (h : TwoM w o (.slice (some ⟨gI, 0, none⟩) n cap) vO mI mO) (ha : a < mI.length) (hk : k < (rowM mI a).length) :
  ∃ G LL cp, w.cell? ⟨gI, a, none⟩ = some (.slice (some ⟨G, 0, none⟩) LL cp) ∧ k < LL ∧ LL ≤ cp ∧ ∀ kd x, Calls Try.prog 78 #[.pointer (some ⟨G, k * 3, none⟩), .int .u8 kd, .int .i64 x] w.drew (OnTwo w.drew o (.slice (some ⟨gI, 0, none⟩) n cap) vO (putM mI a k kd x) mO) := by
 obtain ⟨vsI, vsO, h1, h2⟩ := h
 obtain ⟨G, cp, hG, hcp, _, _, _, _⟩ := h1.slot ha hk
 obtain ⟨-, -, gg, eg, r1, -⟩ := h1.row ha
 cases eg
 rw [hG] at r1
 refine ⟨G, _, cp, r1, hk, hcp, fun kd x => (on_any w.drew o 1 2 _ mI vsI (h1.turn (Turn.of_quiet o ⟨1, rfl⟩) (fun h => h) (fun h => h)) (by decide) a k ha hk G _ cp hG kd x).mono ?_⟩
 rintro e w' ⟨he, T, M⟩
 exact ⟨he, T.mono (fun x e => by subst e; unfold ColM; omega), vsI, vsO, M, (h2.turn (Turn.of_quiet o ⟨1, rfl⟩) (fun h => h) (fun h => h)).turn T (by decide) (by decide)⟩
theorem OpM.grow {w w2 : World} {o : Col} {c d g n cap a : Nat} {m : List (List GOp)} {vs : List Value} {v' : Value} {l news : List GOp} (h : OpM w o c d (.slice (some ⟨g, 0, none⟩) n cap) m vs) (hcd : c ≠ d) (ha : a < m.length) (hl : m[a]?.getD [] = l)
  (k1 : w2.ownsRow 0 61 3 v' (l.length + news.length) (opsV l ++ opsV news)) (k2 : Mods (fun b => (vs[a]?.getD undef).ownBlock = some b) w w2) (k4 : v'.ownBlock = (vs[a]?.getD undef).ownBlock ∨ ∀ b, v'.ownBlock = some b → w.heap.size ≤ b) :
  (∃ x y z, w2.cell? ⟨g, a, none⟩ = some (.slice x y z)) ∧ w2.frozen? ⟨g, a, none⟩ = false ∧ Turn o (ext o w.heap.size d) (fun x => x = c ∨ x = d) w (w2.setCell ⟨g, a, none⟩ v') ∧ OpM (w2.setCell ⟨g, a, none⟩ v') (ext o w.heap.size d) c d (.slice (some ⟨g, 0, none⟩) n cap) (m.set a (l ++ news)) (vs.set a v') := by
 have T : Turn o (ext o w.heap.size d) (fun x => x = d) w w2 := Turn.of_mods o d k2 (fun b _ hb => (h.rows a ha).2 b hb)
 have hown := h.own.turn T hcd
 obtain ⟨_, _, gg, eg, r1, _⟩ := h.row ha
 cases eg
 obtain ⟨sa, sc, hr⟩ := (h.rows a ha).slice
 have hl2 := h.len
 obtain ⟨-, -, gg, -, eg, -, h6, -⟩ := owns_cell hown.1 (by omega)
 cases eg
 obtain ⟨p, T2⟩ := h.lay (a := a) (l' := l ++ news) (v' := v') (w1 := w2) (o1 := ext o w.heap.size d) (F := fun b => (vs[a]?.getD undef).ownBlock = some b) hcd ha k2 (fun k _ hk => hk) (fun k hk => ext_old hk) ⟨by rw [List.length_append, opsV_app]; exact k1, fun b hb => by
  rcases k4 with k4 | k4
  ·
   rw [k4] at hb
   exact (ext_old ((h.rows a ha).1.lt b hb).2).trans ((h.rows a ha).2 b hb)
  ·
   exact ext_new (k4 b hb)⟩ k4
 refine ⟨?_, h6 a, T2, p⟩
 have hc : w2.cell? ⟨g, a, none⟩ = some (vs[a]?.getD undef) := T.cell r1 (by show ¬ o g = d; rw [h.own.2 g rfl]; exact hcd)
 rw [hr] at hc
 exact ⟨_, _, _, hc⟩
end Go.Proofs.Ytbmbfifempkhgaa

/- emit's firings. -/
namespace Go.Proofs.Ytbmbfifempkhgaa
open Go.RowKit
def FirRet (w : World) (g : GGraph) (e : Ending) (w' : World) : Prop := ∃ v vs o', e = .returned v ∧ Kept w.heap.size o' w w' ∧ OpM w' o' 1 2 v (firP g) vs
set_option maxRecDepth 100000 in
set_option maxHeartbeats 4000000 in
theorem firings_any (w : World) (vg : Value) (g : GGraph) (hg : HasGraph w vg g) (hok : FirOk g) : Calls Try.prog 43 #[vg] w (FirRet w g) := by
 obtain ⟨va, ve, vi, vo, rfl, ra, re, ri, ro⟩ := hg.shape
 obtain ⟨aa, ac, rfl⟩ := ra.slice
 obtain ⟨ae, ec, rfl⟩ := re.slice
 obtain ⟨ai, ic, rfl⟩ := ri.slice
 obtain ⟨ao, oc, rfl⟩ := ro.slice
 have RA := Lib.hid ra
 have RE := Lib.hid re
 have RI := Lib.hid ri
 have RO := Lib.hid ro
 have OK := Lib.hid hok
 have hn32 := hok.actors
 clear ra re ri ro hok hg
 obtain ⟨n, hn⟩ : ∃ n, g.actors.length = n := ⟨_, rfl⟩
 have HN := Lib.hid hn
 rw [hn] at hn32 ⊢
 clear hn
 have hb1 := below_alloc w (.cells #[.string g.name, .slice aa n ac, .slice ae g.edges.length ec, .slice ai g.ins.length ic, .slice ao g.outs.length oc] 26)
 have hG := heap_alloc_new w (.cells #[.string g.name, .slice aa n ac, .slice ae g.edges.length ec, .slice ai g.ins.length ic, .slice ao g.outs.length oc] 26)
 have HK1 := Lib.hid ((Kept.start w).of_below 5 hb1)
 have HG1 : Hid (Blk _ (ext (fun _ => 0) w.heap.size 5) 5 w.heap.size 26 _) := Lib.hid ⟨hG, ext_new (Nat.le_refl _)⟩
 clear hb1 hG
 generalize hW : w.alloc (.cells #[.string g.name, .slice aa n ac, .slice ae g.edges.length ec, .slice ai g.ins.length ic, .slice ao g.outs.length oc] 26) = W at *
 generalize ext (fun _ => 0) w.heap.size 5 = q0 at *
 have m1 := make_opss W n (by omega)
 have hI0 := opM_new W q0 1 2 n (by omega)
 have T1 := (Turn.of_below q0 1 (below_alloc W (.cells (Array.replicate n (.slice none 0 0)) 37)))
 generalize hW1 : W.alloc (.cells (Array.replicate n (.slice none 0 0)) 37) = W1 at *
 obtain ⟨gI, hgI⟩ : ∃ x, W.heap.size = x := ⟨_, rfl⟩
 rw [hgI] at m1 hI0 T1
 have HK2 := HK1.out.turn T1 (fun h => h)
 have HG2 := HG1.out.turn T1 (fun h => h)
 generalize ext q0 gI 1 = q1 at *
 have m2 := make_opss W1 n (by omega)
 have hO0 := opM_new W1 q1 3 4 n (by omega)
 have T2 := (Turn.of_below q1 3 (below_alloc W1 (.cells (Array.replicate n (.slice none 0 0)) 37)))
 generalize hW2 : W1.alloc (.cells (Array.replicate n (.slice none 0 0)) 37) = W2 at *
 obtain ⟨gO, hgO⟩ : ∃ x, W1.heap.size = x := ⟨_, rfl⟩
 rw [hgO] at m2 hO0 T2
 have HK3 := Lib.hid (HK2.turn T2 (fun h => h))
 have HG3 := Lib.hid (HG2.turn T2 (fun h => h))
 have HT3 : Hid (TwoM W2 _ _ _ _ _) := Lib.hid ⟨_, _, hI0.turn T2 (fun h => h) (fun h => h), hO0⟩
 generalize ext q1 gO 3 = q2 at *
 have y1 := HG1.out.cell 1 _ rfl
 have y2 := HG2.cell 1 _ rfl
 have y3 := HG3.out.cell 1 _ rfl
 clear HK1 HG1 hI0 T1 HK2 HG2 hO0 T2 hW1 hW2 hgI hgO
 go_enter Try.func43, Try.ntmps43
 go_wp2_with fail
 clear hW m1 m2 y1 y2 y3
 go_loopw [33] (fun i wr => ∃ (j : Nat) (q : Col), j ≤ n ∧ i = .int .i64 j ∧ Kept w.heap.size q w wr ∧ Blk wr q 5 w.heap.size 26 #[.string g.name, .slice aa n ac, .slice ae g.edges.length ec, .slice ai g.ins.length ic, .slice ao g.outs.length oc] ∧ TwoM wr q (.slice (some ⟨gI, 0, none⟩) n n) (.slice (some ⟨gO, 0, none⟩) n n) (rowJ (insF g) n j) (rowJ (outsF g) n j)) (fun i _ => n - (intOf i).toNat)
 case atStart => exact ⟨0, q2, Nat.zero_le _, rfl, HK3.out, HG3.out, HT3.out⟩
 case round =>
  clear HK3 HG3 HT3
  obtain ⟨j, q, hj, rfl, hK, hGr, hT⟩ := hrel
  have HK := Lib.hid hK
  have HG := Lib.hid hGr
  have HT := Lib.hid hT
  clear hK hGr hT
  by_cases hlt : j < n
  ·
   have hlti : (j : Int) < n := by omega
   have hlt2 : j < g.actors.length := by have := HN.out; omega
   obtain ⟨b0, off, rfl, hcap, hb0, hrec⟩ := RA.out.at (by omega)
   obtain ⟨cs, hcs, hPR, hcl⟩ := hrec j hlt2
   obtain ⟨xs, rfl, hst⟩ := hPR
   have c0 := cell_later HK.out.below (hcl 0 (by omega))
   have c1 := cell_later HK.out.below (hcl 1 (by omega))
   have c2 := cell_later HK.out.below (hcl 2 (by omega))
   simp at c0 c1 c2
   have hcapi : (n : Int) ≤ ac := by have := HN.out; omega
   have hst2 : Has w xs (ivs g.actors[j].params) := hst
   obtain ⟨sa, sc, hxs⟩ := Ints.slice hst2
   subst hxs
   have HST := Lib.hid hst2
   have HGD := Lib.hid (OK.out.good _ (List.getElem_mem hlt2))
   have HFI : Hid (insF g j = rateL (insP g.actors[j].tag g.actors[j].params)) := Lib.hid (by unfold insF; rw [List.getElem?_eq_getElem hlt2])
   have HFO : Hid (outsF g j = rateL (outsP g.actors[j].tag g.actors[j].params)) := Lib.hid (by unfold outsF; rw [List.getElem?_eq_getElem hlt2])
   clear hcl hcs hrec hst hst2
   generalize g.actors[j] = p at *
   have hbX := below_alloc wr (.cells #[.string p.name, .int .u8 p.tag, .slice sa p.params.length sc] 57)
   have hX := heap_alloc_new wr (.cells #[.string p.name, .int .u8 p.tag, .slice sa p.params.length sc] 57)
   have x1 := cells_row _ _ hX 1 _ rfl
   have x2 := cells_row _ _ hX 2 _ rfl
   have TX := Turn.of_below q 5 hbX
   have HK2 := Lib.hid (HK.out.turn TX (fun h => h))
   have HG2 := Lib.hid (HG.out.turn TX (fun h => h))
   have HT2 := Lib.hid (HT.out.turn TX (fun _ _ h => h))
   have HP2 : Hid (Has _ (.slice sa p.params.length sc) (ivs p.params)) := Lib.hid (HST.out.below HK2.out.below)
   clear hbX hX TX HK HG HT
   go_wp2_with fail
   refine (of_ok _ p.tag sa _ sc p.params HGD.out.1 HGD.out.2 HP2.out).mono ?_
   rintro e w5 ⟨vti, vto, rfl, p1, p2, hb5⟩
   obtain ⟨a1, c1', rfl⟩ := owns_slice p1
   obtain ⟨a2, c2', rfl⟩ := owns_slice p2
   have T5 := Turn.of_below (ext q wr.heap.size 5) 5 hb5
   have HK5 := Lib.hid (HK2.out.turn T5 (fun h => h))
   have HG5 := Lib.hid (HG2.out.turn T5 (fun h => h))
   have HT5 := Lib.hid (HT2.out.turn T5 (fun _ _ h => h))
   have HI5 : Hid (Ints w5 _ 5 _ (insP p.tag p.params)) := Lib.hid ((Own.made (ext q wr.heap.size 5) 5 p1).vals)
   have HO5 : Hid (Ints w5 _ 5 _ (outsP p.tag p.params)) := Lib.hid ((Own.made (ext q wr.heap.size 5) 5 p2).vals)
   have HSL := Lib.hid (shape_len HGD.out.1)
   clear p1 p2 hb5 T5 x1 x2 HK2 HG2 HT2 HP2
   generalize ext (ext q wr.heap.size 5) _ 5 = q5 at *
   obtain ⟨lI, hlI⟩ : ∃ x, insP p.tag p.params = x := ⟨_, rfl⟩
   obtain ⟨lO, hlO⟩ : ∃ x, outsP p.tag p.params = x := ⟨_, rfl⟩
   rw [hlI] at HI5 HFI HSL ⊢
   rw [hlO] at HO5 HFO HSL ⊢
   clear hlI hlO
   go_wp2_with fail
   go_cut [33] from 33 to 91 (fun i wx => i = .int .i64 j ∧ ∃ q7, Turn q5 q7 ColM w5 wx ∧ TwoM wx q7 (.slice (some ⟨gI, 0, none⟩) n n) (.slice (some ⟨gO, 0, none⟩) n n) ((rowJ (insF g) n j).set j (zeroL lI.length)) ((rowJ (outsF g) n j).set j (zeroL lO.length)))
   case first =>
    have h16 := HSL.out
    have mkI := fun w => make_ops w lI.length (by omega)
    have mkO := fun w => make_ops w lO.length (by omega)
    have HLI := Lib.hid (rowJ_len (insF g) n j)
    have HLO := Lib.hid (rowJ_len (outsF g) n j)
    refine wp_region_rest (fun _ => True) [0, 1, 2, 3, 4, 5, 7, 8] [6, 9, 10, 11, 12, 13] 6 (by kernel_rfl) (by kernel_rfl) rfl trivial ?_
    intro Q' hQ'
    simp only [pickOps, List.flatMap_cons, List.flatMap_nil, List.drop_succ_cons, List.drop_zero, List.take_succ_cons, List.take_zero, List.cons_append, List.nil_append, List.append_nil]
    repeat (first
     | (refine wpReads_skip (by rfl) ?_; (try simp only [Act.put, List.setIfInBounds_toArray, List.set_cons_zero, List.set_cons_succ]))
     | (refine wpReads_cons ?_ (by rfl) (by rfl) ?_ ?_; rotate_left; (intro wz hz; (try dsimp only at hz); go_simp; try with_reducible rfl); (try simp only [Act.put, List.setIfInBounds_toArray, List.set_cons_zero, List.set_cons_succ]))
     | (refine wpReads_any ?_ (by rfl) ?_ ?_; rotate_left; (intro wz; go_simp; try with_reducible rfl); (try simp only [Act.put, List.setIfInBounds_toArray, List.set_cons_zero, List.set_cons_succ])))
    refine wpReads_nil ?_
    refine wpAnyT_two (i := 6) (k := 9) (by kernel_rfl) ?_ ?_
    ·
     simp only [pickOps, List.flatMap_cons, List.flatMap_nil, List.drop_succ_cons, List.drop_zero, List.take_succ_cons, List.take_zero, List.cons_append, List.nil_append, List.append_nil]
     go_wp2
     refine ⟨fun _ _ => trivial, ?_⟩
     refine wpAnyT_two (i := 9) (k := 10) (by kernel_rfl) ?_ ?_
     ·
      simp only [pickOps, List.flatMap_cons, List.flatMap_nil, List.drop_succ_cons, List.drop_zero, List.take_succ_cons, List.take_zero, List.cons_append, List.nil_append, List.append_nil]
      go_wp2
      refine ⟨fun _ _ => trivial, ?_⟩
      obtain ⟨⟨x1, x2, x3, f1⟩, f2, ⟨y1, y2, y3, f3⟩, f4, q', T7, D7⟩ := makes_A (a := lI.length) (b := lO.length) HT5.out (by rw [HLI.out]; exact hlt) (by rw [HLO.out]; exact hlt) (by omega) (by omega) w5.heap.size rfl
      have HT7 := Lib.hid T7
      have HD7 := Lib.hid D7
      clear T7 D7
      refine wpAnyT_one (i := 10) (by kernel_rfl) ?_
      simp only [pickOps, List.flatMap_cons, List.flatMap_nil, List.drop_succ_cons, List.drop_zero, List.take_succ_cons, List.take_zero, List.cons_append, List.nil_append, List.append_nil]
      go_wp2
      refine ⟨fun _ _ => trivial, ?_⟩
      refine wpAnyT_one (i := 11) (by kernel_rfl) ?_
      simp only [pickOps, List.flatMap_cons, List.flatMap_nil, List.drop_succ_cons, List.drop_zero, List.take_succ_cons, List.take_zero, List.cons_append, List.nil_append, List.append_nil]
      go_wp2
      refine ⟨fun _ _ => trivial, ?_⟩
      refine wpAnyT_one (i := 12) (by kernel_rfl) ?_
      simp only [pickOps, List.flatMap_cons, List.flatMap_nil, List.drop_succ_cons, List.drop_zero, List.take_succ_cons, List.take_zero, List.cons_append, List.nil_append, List.append_nil]
      go_wp2
      refine ⟨fun _ _ => trivial, ?_⟩
      refine wpAnyT_one (i := 13) (by kernel_rfl) ?_
      simp only [pickOps, List.flatMap_cons, List.flatMap_nil, List.drop_succ_cons, List.drop_zero, List.take_succ_cons, List.take_zero, List.cons_append, List.nil_append, List.append_nil]
      go_wp2
      refine ⟨fun _ _ => trivial, ?_⟩
      refine ⟨by kernel_rfl, hQ' _ _ ?_⟩
      go_wp2
      go_meet
      case rel => exact ⟨rfl, q', HT7.out.drew, HD7.out.turn (Turn.of_quiet q' ⟨1, rfl⟩) (fun _ _ h => h)⟩
     ·
      simp only [pickOps, List.flatMap_cons, List.flatMap_nil, List.drop_succ_cons, List.drop_zero, List.take_succ_cons, List.take_zero, List.cons_append, List.nil_append, List.append_nil]
      go_wp2
      refine ⟨fun _ _ => trivial, ?_⟩
      refine wpAnyT_two (i := 9) (k := 11) (by kernel_rfl) ?_ ?_
      ·
       simp only [pickOps, List.flatMap_cons, List.flatMap_nil, List.drop_succ_cons, List.drop_zero, List.take_succ_cons, List.take_zero, List.cons_append, List.nil_append, List.append_nil]
       go_wp2
       refine ⟨fun _ _ => trivial, ?_⟩
       obtain ⟨⟨x1, x2, x3, f1⟩, f2, ⟨y1, y2, y3, f3⟩, f4, q', T7, D7⟩ := makes_A (a := lI.length) (b := lO.length) HT5.out (by rw [HLI.out]; exact hlt) (by rw [HLO.out]; exact hlt) (by omega) (by omega) w5.heap.size rfl
       have HT7 := Lib.hid T7
       have HD7 := Lib.hid D7
       clear T7 D7
       refine wpAnyT_one (i := 11) (by kernel_rfl) ?_
       simp only [pickOps, List.flatMap_cons, List.flatMap_nil, List.drop_succ_cons, List.drop_zero, List.take_succ_cons, List.take_zero, List.cons_append, List.nil_append, List.append_nil]
       go_wp2
       refine ⟨fun _ _ => trivial, ?_⟩
       refine wpAnyT_one (i := 12) (by kernel_rfl) ?_
       simp only [pickOps, List.flatMap_cons, List.flatMap_nil, List.drop_succ_cons, List.drop_zero, List.take_succ_cons, List.take_zero, List.cons_append, List.nil_append, List.append_nil]
       go_wp2
       refine ⟨fun _ _ => trivial, ?_⟩
       refine wpAnyT_one (i := 13) (by kernel_rfl) ?_
       simp only [pickOps, List.flatMap_cons, List.flatMap_nil, List.drop_succ_cons, List.drop_zero, List.take_succ_cons, List.take_zero, List.cons_append, List.nil_append, List.append_nil]
       go_wp2
       refine ⟨fun _ _ => trivial, ?_⟩
       refine ⟨by kernel_rfl, hQ' _ _ ?_⟩
       go_wp2
       go_meet
       case rel => exact ⟨rfl, q', HT7.out.drew, HD7.out.turn (Turn.of_quiet q' ⟨1, rfl⟩) (fun _ _ h => h)⟩
      ·
       obtain ⟨⟨x1, x2, x3, f1⟩, f2, ⟨y1, y2, y3, f3⟩, f4, q', T7, D7⟩ := makes_B (a := lI.length) (b := lO.length) HT5.out (by rw [HLI.out]; exact hlt) (by rw [HLO.out]; exact hlt) (by omega) (by omega) w5.heap.size rfl
       have HT7 := Lib.hid T7
       have HD7 := Lib.hid D7
       clear T7 D7
       simp only [pickOps, List.flatMap_cons, List.flatMap_nil, List.drop_succ_cons, List.drop_zero, List.take_succ_cons, List.take_zero, List.cons_append, List.nil_append, List.append_nil]
       go_wp2
       refine ⟨fun _ _ => trivial, ?_⟩
       refine wpAnyT_one (i := 9) (by kernel_rfl) ?_
       simp only [pickOps, List.flatMap_cons, List.flatMap_nil, List.drop_succ_cons, List.drop_zero, List.take_succ_cons, List.take_zero, List.cons_append, List.nil_append, List.append_nil]
       go_wp2
       refine ⟨fun _ _ => trivial, ?_⟩
       refine wpAnyT_one (i := 12) (by kernel_rfl) ?_
       simp only [pickOps, List.flatMap_cons, List.flatMap_nil, List.drop_succ_cons, List.drop_zero, List.take_succ_cons, List.take_zero, List.cons_append, List.nil_append, List.append_nil]
       go_wp2
       refine ⟨fun _ _ => trivial, ?_⟩
       refine wpAnyT_one (i := 13) (by kernel_rfl) ?_
       simp only [pickOps, List.flatMap_cons, List.flatMap_nil, List.drop_succ_cons, List.drop_zero, List.take_succ_cons, List.take_zero, List.cons_append, List.nil_append, List.append_nil]
       go_wp2
       refine ⟨fun _ _ => trivial, ?_⟩
       refine ⟨by kernel_rfl, hQ' _ _ ?_⟩
       go_wp2
       go_meet
       case rel => exact ⟨rfl, q', HT7.out.drew, HD7.out.turn (Turn.of_quiet q' ⟨1, rfl⟩) (fun _ _ h => h)⟩
    ·
     simp only [pickOps, List.flatMap_cons, List.flatMap_nil, List.drop_succ_cons, List.drop_zero, List.take_succ_cons, List.take_zero, List.cons_append, List.nil_append, List.append_nil]
     go_wp2
     refine ⟨fun _ _ => trivial, ?_⟩
     obtain ⟨⟨x1, x2, x3, f1⟩, f2, ⟨y1, y2, y3, f3⟩, f4, q', T7, D7⟩ := makes_C (a := lI.length) (b := lO.length) HT5.out (by rw [HLI.out]; exact hlt) (by rw [HLO.out]; exact hlt) (by omega) (by omega) w5.heap.size rfl
     have HT7 := Lib.hid T7
     have HD7 := Lib.hid D7
     clear T7 D7
     refine wpAnyT_one (i := 6) (by kernel_rfl) ?_
     simp only [pickOps, List.flatMap_cons, List.flatMap_nil, List.drop_succ_cons, List.drop_zero, List.take_succ_cons, List.take_zero, List.cons_append, List.nil_append, List.append_nil]
     go_wp2
     refine ⟨fun _ _ => trivial, ?_⟩
     refine wpAnyT_one (i := 10) (by kernel_rfl) ?_
     simp only [pickOps, List.flatMap_cons, List.flatMap_nil, List.drop_succ_cons, List.drop_zero, List.take_succ_cons, List.take_zero, List.cons_append, List.nil_append, List.append_nil]
     go_wp2
     refine ⟨fun _ _ => trivial, ?_⟩
     refine wpAnyT_one (i := 11) (by kernel_rfl) ?_
     simp only [pickOps, List.flatMap_cons, List.flatMap_nil, List.drop_succ_cons, List.drop_zero, List.take_succ_cons, List.take_zero, List.cons_append, List.nil_append, List.append_nil]
     go_wp2
     refine ⟨fun _ _ => trivial, ?_⟩
     refine wpAnyT_one (i := 12) (by kernel_rfl) ?_
     simp only [pickOps, List.flatMap_cons, List.flatMap_nil, List.drop_succ_cons, List.drop_zero, List.take_succ_cons, List.take_zero, List.cons_append, List.nil_append, List.append_nil]
     go_wp2
     refine ⟨fun _ _ => trivial, ?_⟩
     refine wpAnyT_one (i := 13) (by kernel_rfl) ?_
     simp only [pickOps, List.flatMap_cons, List.flatMap_nil, List.drop_succ_cons, List.drop_zero, List.take_succ_cons, List.take_zero, List.cons_append, List.nil_append, List.append_nil]
     go_wp2
     refine ⟨fun _ _ => trivial, ?_⟩
     refine ⟨by kernel_rfl, hQ' _ _ ?_⟩
     go_wp2
     go_meet
     case rel => exact ⟨rfl, q', HT7.out.drew, HD7.out.turn (Turn.of_quiet q' ⟨1, rfl⟩) (fun _ _ h => h)⟩
   case rest =>
    obtain ⟨rfl, q7, T7, D7⟩ := hcut
    have HK7 := Lib.hid (HK5.out.turn T7 (by unfold ColM; omega))
    have HG7 := Lib.hid (HG5.out.turn T7 (by unfold ColM; omega))
    have HI7 := Lib.hid (HI5.out.turn T7 (by unfold ColM; omega))
    have HO7 := Lib.hid (HO5.out.turn T7 (by unfold ColM; omega))
    obtain ⟨vsI, vsO, hI7, hO7⟩ := D7
    have HMI := Lib.hid hI7
    have HMO := Lib.hid hO7
    have h16 := HSL.out
    have HLI := Lib.hid (rowJ_len (insF g) n j)
    have HLO := Lib.hid (rowJ_len (outsF g) n j)
    clear T7 hI7 hO7 HK5 HG5 HT5 HI5 HO5 HSL
    go_wp2_with fail
    go_loopw [61] (fun i wl => ∃ (k : Nat), k ≤ lI.length ∧ i = .int .i64 k ∧ Turn q7 q7 (fun x => x = 2) wc wl ∧ OpM wl q7 1 2 (.slice (some ⟨gI, 0, none⟩) n n) ((rowJ (insF g) n j).set j (fillL lI k)) vsI) (fun i _ => lI.length - (intOf i).toNat)
    case atStart => exact ⟨0, Nat.zero_le _, rfl, Turn.refl _ _ _, by rw [fillL_zero]; exact HMI.out⟩
    case round =>
     obtain ⟨k, hk, rfl, hT, hM⟩ := hrel
     by_cases hkl : k < lI.length
     ·
      have hkli : (k : Int) < lI.length := by omega
      have hI8 := HI7.out.turn hT (by decide)
      obtain ⟨bI, oI, rfl, -, hcI, -, -, hcl⟩ := Ints.at hI8 (by omega)
      have z1 := hcl k hkl
      have hcIi : (lI.length : Int) ≤ c1' := by omega
      have hjm : j < ((rowJ (insF g) n j).set j (fillL lI k)).length := by rw [List.length_set, HLI.out]; exact hlt
      have er : rowM ((rowJ (insF g) n j).set j (fillL lI k)) j = fillL lI k := by unfold rowM; rw [List.getElem?_set_self (by rw [HLI.out]; exact hlt)]; rfl
      have hkr : k < (rowM ((rowJ (insF g) n j).set j (fillL lI k)) j).length := by rw [er, fillL_len _ _ hk]; exact hkl
      obtain ⟨G, cp, hG, hcp, hfz, s0, s1, s9⟩ := hM.slot hjm hkr
      obtain ⟨bb, s2⟩ : ∃ bb, wr.cell? ⟨G, k * 3 + 2, none⟩ = some (.int .i64 bb) := ⟨_, s9⟩
      obtain ⟨-, -, gg, eg, r1, -⟩ := hM.row hjm
      cases eg
      rw [hG] at r1
      rw [er, fillL_len _ _ hk] at hG hcp r1
      obtain ⟨M8, T8⟩ := hM.cell (by decide) hjm hG (l' := fillL lI (k + 1)) (u := iv (lI[k]?.getD 0)) (i := k * 3 + 2) (by rw [show ((rowJ (insF g) n j).set j (fillL lI k))[j]?.getD [] = fillL lI k from er, fillL_len _ _ hk, fillL_len _ _ hkl]) (by rw [show ((rowJ (insF g) n j).set j (fillL lI k))[j]?.getD [] = fillL lI k from er]; exact fillL_succ lI k hkl)
      rw [List.set_set] at M8
      obtain ⟨xk, hxk⟩ : ∃ x, lI[k]?.getD 0 = x := ⟨_, rfl⟩
      rw [hxk] at z1 M8 T8
      clear hxk
      have HM8 := Lib.hid M8
      have HT8 := Lib.hid (hT.trans T8 (fun _ h => h))
      have hcpi : (lI.length : Int) ≤ cp := by omega
      have f2 := hfz (k * 3 + 2)
      clear hT hM hI8 hcl er hG s0 s1 s9 M8 T8 hfz hkr hjm
      go_wp2
      go_roundw
      case rel => exact ⟨k + 1, hkl, by go_num, HT8.out, HM8.out⟩
      case measure => simp [intOf]; omega
     ·
      obtain rfl : k = lI.length := by omega
      have HM9 := Lib.hid hM
      have HK9 := Lib.hid (HK7.out.turn hT (by decide))
      have HG9 := Lib.hid (HG7.out.turn hT (by decide))
      have HO9 := Lib.hid (HO7.out.turn hT (by decide))
      have HMO9 := Lib.hid (HMO.out.turn hT (by decide) (by decide))
      clear hT hM HK7 HG7 HO7 HMO HI7 HMI hk hkl
      have hlOn := h16.2
      go_wp2_with fail
      clear HLI
      obtain ⟨w9, rfl⟩ : ∃ x, x = wr := ⟨_, rfl⟩
      go_loopw [77] (fun i wl => ∃ (k : Nat), k ≤ lO.length ∧ i = .int .i64 k ∧ Turn q7 q7 (fun x => x = 4) w9 wl ∧ OpM wl q7 3 4 (.slice (some ⟨gO, 0, none⟩) n n) ((rowJ (outsF g) n j).set j (fillL lO k)) vsO) (fun i _ => lO.length - (intOf i).toNat)
      case atStart => exact ⟨0, Nat.zero_le _, rfl, Turn.refl _ _ _, by rw [fillL_zero]; exact HMO9.out⟩
      case round =>
       obtain ⟨k, hk, rfl, hT, hM⟩ := hrel
       by_cases hkl : k < lO.length
       ·
        have hkli : (k : Int) < lO.length := by omega
        have hI8 := HO9.out.turn hT (by decide)
        obtain ⟨bI, oI, rfl, -, hcI, -, -, hcl⟩ := Ints.at hI8 (by omega)
        have z1 := hcl k hkl
        have hcIi : (lO.length : Int) ≤ c2' := by omega
        have hjm : j < ((rowJ (outsF g) n j).set j (fillL lO k)).length := by rw [List.length_set, HLO.out]; exact hlt
        have er : rowM ((rowJ (outsF g) n j).set j (fillL lO k)) j = fillL lO k := by unfold rowM; rw [List.getElem?_set_self (by rw [HLO.out]; exact hlt)]; rfl
        have hkr : k < (rowM ((rowJ (outsF g) n j).set j (fillL lO k)) j).length := by rw [er, fillL_len _ _ hk]; exact hkl
        obtain ⟨G, cp, hG, hcp, hfz, s0, s1, s9⟩ := hM.slot hjm hkr
        obtain ⟨bb, s2⟩ : ∃ bb, wr.cell? ⟨G, k * 3 + 2, none⟩ = some (.int .i64 bb) := ⟨_, s9⟩
        obtain ⟨-, -, gg, eg, r1, -⟩ := hM.row hjm
        cases eg
        rw [hG] at r1
        rw [er, fillL_len _ _ hk] at hG hcp r1
        obtain ⟨M8, T8⟩ := hM.cell (by decide) hjm hG (l' := fillL lO (k + 1)) (u := iv (lO[k]?.getD 0)) (i := k * 3 + 2) (by rw [show ((rowJ (outsF g) n j).set j (fillL lO k))[j]?.getD [] = fillL lO k from er, fillL_len _ _ hk, fillL_len _ _ hkl]) (by rw [show ((rowJ (outsF g) n j).set j (fillL lO k))[j]?.getD [] = fillL lO k from er]; exact fillL_succ lO k hkl)
        rw [List.set_set] at M8
        obtain ⟨xk, hxk⟩ : ∃ x, lO[k]?.getD 0 = x := ⟨_, rfl⟩
        rw [hxk] at z1 M8 T8
        clear hxk
        have HM8 := Lib.hid M8
        have HT8 := Lib.hid (hT.trans T8 (fun _ h => h))
        have hcpi : (lO.length : Int) ≤ cp := by omega
        have f2 := hfz (k * 3 + 2)
        clear hT hM hI8 hcl er hG s0 s1 s9 M8 T8 hfz hkr hjm
        go_wp2
        go_roundw
        case rel => exact ⟨k + 1, hkl, by go_num, HT8.out, HM8.out⟩
        case measure => simp [intOf]; omega
       ·
        obtain rfl : k = lO.length := by omega
        have HKa := Lib.hid (HK9.out.turn hT (by decide))
        have HGa := Lib.hid (HG9.out.turn hT (by decide))
        have hMI := HM9.out.turn hT (by decide) (by decide)
        rw [fillL_all, ← HFI.out] at hMI
        rw [fillL_all, ← HFO.out] at hM
        have HTa : Hid (TwoM wr q7 (.slice (some ⟨gI, 0, none⟩) n n) (.slice (some ⟨gO, 0, none⟩) n n) (rowJ (insF g) n (j + 1)) (rowJ (outsF g) n (j + 1))) := Lib.hid ⟨vsI, vsO, hMI, hM⟩
        clear hT hM hMI HK9 HG9 HM9 HO9 HMO9 hk hkl HFI HFO
        go_wp2
        go_roundw
        case rel => exact ⟨j + 1, q7, hlt, by go_num, HKa.out, HGa.out, HTa.out⟩
        case measure => simp [intOf]; omega
  ·
   obtain rfl : n = j := by omega
   clear hj hlt
   have y4 := HG.out.cell 2 _ rfl
   have HTM : Hid (TwoM wr q (.slice (some ⟨gI, 0, none⟩) n n) (.slice (some ⟨gO, 0, none⟩) n n) (putAll (eDst g) 3 (matI0 g) 0) (putAll (eSrc g) 6 (matO0 g) 0)) := Lib.hid (by rw [putAll, putAll, matI0, matO0, HN.out]; exact HT.out)
   clear HT
   go_wp2_with fail
   clear y4
   obtain ⟨E, hE⟩ : ∃ x, g.edges.length = x := ⟨_, rfl⟩
   have HE := Lib.hid hE
   rw [hE] at HG ⊢
   clear hE
   have hE96 : E ≤ 96 := by rw [← HE.out]; exact OK.out.edges
   go_loopw [95] (fun i wl => ∃ (j : Nat) (q : Col), j ≤ E ∧ i = .int .i64 j ∧ Kept w.heap.size q w wl ∧ Blk wl q 5 w.heap.size 26 #[.string g.name, .slice aa n ac, .slice ae E ec, .slice ai g.ins.length ic, .slice ao g.outs.length oc] ∧ TwoM wl q (.slice (some ⟨gI, 0, none⟩) n n) (.slice (some ⟨gO, 0, none⟩) n n) (putAll (eDst g) 3 (matI0 g) j) (putAll (eSrc g) 6 (matO0 g) j)) (fun i _ => E - (intOf i).toNat)
   case atStart => exact ⟨0, q, Nat.zero_le _, rfl, HK.out, HG.out, HTM.out⟩
   case round =>
    clear HK HG HTM
    obtain ⟨j, q, hj, rfl, hK, hGr, hT⟩ := hrel
    have HK := Lib.hid hK
    have HG := Lib.hid hGr
    have HT := Lib.hid hT
    clear hK hGr hT
    by_cases hlt : j < E
    ·
     have hlti : (j : Int) < E := by omega
     have hlt2 : j < g.edges.length := by rw [HE.out]; exact hlt
     obtain ⟨be, oe, rfl, hce, hbe, hrece⟩ := RE.out.at (by omega)
     obtain ⟨cse, hcse, hPE, hcle⟩ := hrece j hlt2
     obtain ⟨xs, rfl, hst⟩ := hPE
     have c0 := cell_later HK.out.below (hcle 0 (by omega))
     have c1 := cell_later HK.out.below (hcle 1 (by omega))
     have c2 := cell_later HK.out.below (hcle 2 (by omega))
     have c3 := cell_later HK.out.below (hcle 3 (by omega))
     have c4 := cell_later HK.out.below (hcle 4 (by omega))
     simp at c0 c1 c2 c3 c4
     have hcei : (E : Int) ≤ ec := by have := HE.out; omega
     obtain ⟨sa, sc, hxs⟩ := Ints.slice hst
     subst hxs
     have hS := OK.out.src _ (List.getElem_mem hlt2)
     have hD := OK.out.dst _ (List.getElem_mem hlt2)
     have e1 : eSrc g j = some (g.edges[j].src, g.edges[j].sport) := by unfold eSrc; rw [List.getElem?_eq_getElem hlt2]
     have e2 : eDst g j = some (g.edges[j].dst, g.edges[j].dport) := by unfold eDst; rw [List.getElem?_eq_getElem hlt2]
     clear hcle hcse hrece hst
     generalize g.edges[j] = p at *
     obtain ⟨s1, h1⟩ : ∃ k : Nat, p.src = k := ⟨p.src.toNat, by have := hS.1; omega⟩
     obtain ⟨s2, h2⟩ : ∃ k : Nat, p.sport = k := ⟨p.sport.toNat, by have := hS.2.2.1; omega⟩
     obtain ⟨d1, h3⟩ : ∃ k : Nat, p.dst = k := ⟨p.dst.toNat, by have := hD.1; omega⟩
     obtain ⟨d2, h4⟩ : ∃ k : Nat, p.dport = k := ⟨p.dport.toNat, by have := hD.2.2.1; omega⟩
     rw [h1] at c0 e1 hS
     rw [h2] at c1 e1 hS
     rw [h3] at c2 e2 hD
     rw [h4] at c3 e2 hD
     have hs1 : s1 < n := by have := hS.2.1; have := HN.out; omega
     have hd1 : d1 < n := by have := hD.2.1; have := HN.out; omega
     have hs2 : s2 < (rowM (putAll (eSrc g) 6 (matO0 g) j) s1).length := by
      rw [putAll_row, matO0_row g (by rw [HN.out]; exact hs1)]
      have := hS.2.2.2
      rw [Int.toNat_natCast] at this
      omega
     have hd2 : d2 < (rowM (putAll (eDst g) 3 (matI0 g) j) d1).length := by
      rw [putAll_row, matI0_row g (by rw [HN.out]; exact hd1)]
      have := hD.2.2.2
      rw [Int.toNat_natCast] at this
      omega
     have E1 := Lib.hid (putAll_succ (kd := 6) (m := matO0 g) e1)
     have E2 := Lib.hid (putAll_succ (kd := 3) (m := matI0 g) e2)
     clear hS hD e1 e2 h1 h2 h3 h4
     have hbX := below_alloc wr (.cells #[.int .i64 s1, .int .i64 s2, .int .i64 d1, .int .i64 d2, .slice sa p.start.length sc] 63)
     have hX := heap_alloc_new wr (.cells #[.int .i64 s1, .int .i64 s2, .int .i64 d1, .int .i64 d2, .slice sa p.start.length sc] 63)
     have hX : Blk _ (ext q wr.heap.size 5) 5 _ _ _ := ⟨hX, ext_new (Nat.le_refl _)⟩
     have TX := Turn.of_below q 5 hbX
     have HK2 := Lib.hid (HK.out.turn TX (fun h => h))
     have HG2 := Lib.hid (HG.out.turn TX (fun h => h))
     have HT2 := Lib.hid (HT.out.turn TX (fun _ _ h => h))
     have HX2 := Lib.hid hX
     have x0 := hX.cell 0 _ rfl
     have x1 := hX.cell 1 _ rfl
     clear hbX hX TX HK HG HT
     go_wp2_with fail
     obtain ⟨G, LL, cp, y1, hkk, hcp, hcall⟩ := on_O HT2.out (a := s1) (k := s2) (by rw [putAll_len, matO0_len, HN.out]; exact hs1) hs2
     have hkki : (s2 : Int) < LL := by omega
     have hcpi : (LL : Int) ≤ cp := by omega
     have hai : (s1 : Int) < n := by omega
     refine wp_region_lex (fun w' => w'.cell? ⟨wr.heap.size, 0, none⟩ = some (.int .i64 s1) ∧ w'.cell? ⟨wr.heap.size, 1, none⟩ = some (.int .i64 s2) ∧ w'.cell? ⟨gO, s1, none⟩ = some (.slice (some ⟨G, 0, none⟩) LL cp)) [0, 1, 2, 3, 4, 5, 6, 7, 8, 9] [10] (by kernel_rfl) (by kernel_rfl) rfl (fun _ _ hx h => ⟨hx.cell h.1, hx.cell h.2.1, hx.cell h.2.2⟩) ⟨x0, x1, y1⟩ ?_
     intro Q' hQ'
     simp only [pickOps, List.flatMap_cons, List.flatMap_nil, List.drop_succ_cons, List.drop_zero, List.take_succ_cons, List.take_zero, List.cons_append, List.nil_append, List.append_nil]
     repeat (first
      | (refine wpReads_skip (by rfl) ?_; (try simp only [Act.put, List.setIfInBounds_toArray, List.set_cons_zero, List.set_cons_succ]))
      | (refine wpReads_cons ?_ (by rfl) (by rfl) ?_ ?_; rotate_left; (intro wz hz; (try dsimp only at hz); go_simp; try with_reducible rfl); (try simp only [Act.put, List.setIfInBounds_toArray, List.set_cons_zero, List.set_cons_succ]))
      | (refine wpReads_any ?_ (by rfl) ?_ ?_; rotate_left; (intro wz; go_simp; try with_reducible rfl); (try simp only [Act.put, List.setIfInBounds_toArray, List.set_cons_zero, List.set_cons_succ])))
     refine wpReads_nil ?_
     go_wp2_with fail
     refine (hcall 6 j).mono ?_
     rintro e w5 ⟨rfl, T5, D5⟩
     have T6 := ((Turn.of_quiet (ext q wr.heap.size 5) ⟨1, rfl⟩).mono (D := ColM) (fun _ h => h.elim)).trans T5 (fun _ h => h)
     have HK5 := Lib.hid (HK2.out.turn T6 (by unfold ColM; omega))
     have HG5 := Lib.hid (HG2.out.turn T6 (by unfold ColM; omega))
     have HX5 := Lib.hid (HX2.out.turn T6 (by unfold ColM; omega))
     have HT5 := Lib.hid D5
     have x2 := HX5.out.cell 2 _ rfl
     have x3 := HX5.out.cell 3 _ rfl
     clear T5 D5 T6 HK2 HG2 HX2 HT2 x0 x1 y1 hcall hkk hkki hcp hcpi
     generalize ext q wr.heap.size 5 = q5 at *
     go_wp2_with fail
     obtain ⟨G, LL, cp, y1, hkk, hcp, hcall⟩ := on_I HT5.out (a := d1) (k := d2) (by rw [putAll_len, matI0_len, HN.out]; exact hd1) hd2
     have hkki : (d2 : Int) < LL := by omega
     have hcpi : (LL : Int) ≤ cp := by omega
     have hai : (d1 : Int) < n := by omega
     refine wp_region_lex (fun w' => w'.cell? ⟨wr.heap.size, 2, none⟩ = some (.int .i64 d1) ∧ w'.cell? ⟨wr.heap.size, 3, none⟩ = some (.int .i64 d2) ∧ w'.cell? ⟨gI, d1, none⟩ = some (.slice (some ⟨G, 0, none⟩) LL cp)) [0, 1, 2, 3, 4, 5, 6, 7, 8, 9] [10] (by kernel_rfl) (by kernel_rfl) rfl (fun _ _ hx h => ⟨hx.cell h.1, hx.cell h.2.1, hx.cell h.2.2⟩) ⟨x2, x3, y1⟩ ?_
     intro Q' hQ'
     simp only [pickOps, List.flatMap_cons, List.flatMap_nil, List.drop_succ_cons, List.drop_zero, List.take_succ_cons, List.take_zero, List.cons_append, List.nil_append, List.append_nil]
     repeat (first
      | (refine wpReads_skip (by rfl) ?_; (try simp only [Act.put, List.setIfInBounds_toArray, List.set_cons_zero, List.set_cons_succ]))
      | (refine wpReads_cons ?_ (by rfl) (by rfl) ?_ ?_; rotate_left; (intro wz hz; (try dsimp only at hz); go_simp; try with_reducible rfl); (try simp only [Act.put, List.setIfInBounds_toArray, List.set_cons_zero, List.set_cons_succ]))
      | (refine wpReads_any ?_ (by rfl) ?_ ?_; rotate_left; (intro wz; go_simp; try with_reducible rfl); (try simp only [Act.put, List.setIfInBounds_toArray, List.set_cons_zero, List.set_cons_succ])))
     refine wpReads_nil ?_
     go_wp2_with fail
     refine (hcall 3 j).mono ?_
     rintro e w5 ⟨rfl, T5, D5⟩
     have T6 := ((Turn.of_quiet q5 ⟨1, rfl⟩).mono (D := ColM) (fun _ h => h.elim)).trans T5 (fun _ h => h)
     have HK7 := Lib.hid (HK5.out.turn T6 (by unfold ColM; omega))
     have HG7 := Lib.hid (HG5.out.turn T6 (by unfold ColM; omega))
     have HT7 : Hid (TwoM w5 q5 (.slice (some ⟨gI, 0, none⟩) n n) (.slice (some ⟨gO, 0, none⟩) n n) (putAll (eDst g) 3 (matI0 g) (j + 1)) (putAll (eSrc g) 6 (matO0 g) (j + 1))) := Lib.hid (by rw [E1.out, E2.out, Int.toNat_natCast, Int.toNat_natCast, Int.toNat_natCast, Int.toNat_natCast]; exact D5)
     clear T5 D5 T6 HK5 HG5 HX5 HT5 x2 x3 y1 hcall hkk hkki hcp hcpi
     go_wp2
     go_roundw
     case rel => exact ⟨j + 1, q5, hlt, by go_num, HK7.out, HG7.out, HT7.out⟩
     case measure => simp [intOf]; omega
    ·
     obtain rfl : E = j := by omega
     clear hj hlt
     have y5 := HG.out.cell 3 _ rfl
     have HT3 : Hid (TwoM wr q (.slice (some ⟨gI, 0, none⟩) n n) (.slice (some ⟨gO, 0, none⟩) n n) (putAll (pAt g.ins) 4 (matI1 g) 0) (matO1 g)) := Lib.hid (by rw [putAll, matI1, matO1, HE.out]; exact HT.out)
     clear HT
     go_wp2_with fail
     clear y5
     obtain ⟨I, hI⟩ : ∃ x, g.ins.length = x := ⟨_, rfl⟩
     have HI := Lib.hid hI
     rw [hI] at HG ⊢
     clear hI
     have hIb : I ≤ 16 := by rw [← HI.out]; exact OK.out.ins
     go_loopw [126] (fun i wl => ∃ (j : Nat) (q : Col), j ≤ I ∧ i = .int .i64 j ∧ Kept w.heap.size q w wl ∧ Blk wl q 5 w.heap.size 26 #[.string g.name, .slice aa n ac, .slice ae E ec, .slice ai I ic, .slice ao g.outs.length oc] ∧ TwoM wl q (.slice (some ⟨gI, 0, none⟩) n n) (.slice (some ⟨gO, 0, none⟩) n n) (putAll (pAt g.ins) 4 (matI1 g) j) (matO1 g)) (fun i _ => I - (intOf i).toNat)
     case atStart => exact ⟨0, q, Nat.zero_le _, rfl, HK.out, HG.out, HT3.out⟩
     case round =>
      clear HK HG HT3
      obtain ⟨j, q, hj, rfl, hK, hGr, hT⟩ := hrel
      have HK := Lib.hid hK
      have HG := Lib.hid hGr
      have HT := Lib.hid hT
      clear hK hGr hT
      by_cases hlt : j < I
      ·
       have hlti : (j : Int) < I := by omega
       have hlt2 : j < g.ins.length := by rw [HI.out]; exact hlt
       obtain ⟨be, oe, rfl, hce, hbe, hrece⟩ := RI.out.at (by omega)
       obtain ⟨cse, hcse, hPE, hcle⟩ := hrece j hlt2
       obtain rfl := hPE
       have c0 := cell_later HK.out.below (hcle 0 (by omega))
       have c1 := cell_later HK.out.below (hcle 1 (by omega))
       have c2 := cell_later HK.out.below (hcle 2 (by omega))
       simp at c0 c1 c2
       have hcei : (I : Int) ≤ ic := by have := HI.out; omega
       have hS := OK.out.pin _ (List.getElem_mem hlt2)
       have e1 : pAt g.ins j = some (g.ins[j].actor, g.ins[j].port) := by unfold pAt; rw [List.getElem?_eq_getElem hlt2]
       clear hcle hcse hrece
       generalize g.ins[j] = p at *
       obtain ⟨s1, h1⟩ : ∃ k : Nat, p.actor = k := ⟨p.actor.toNat, by have := hS.1; omega⟩
       obtain ⟨s2, h2⟩ : ∃ k : Nat, p.port = k := ⟨p.port.toNat, by have := hS.2.2.1; omega⟩
       rw [h1] at c1 e1 hS
       rw [h2] at c2 e1 hS
       have hs1 : s1 < n := by have := hS.2.1; have := HN.out; omega
       have hs2 : s2 < (rowM (putAll (pAt g.ins) 4 (matI1 g) j) s1).length := by
        rw [putAll_row, matI1_row g (by rw [HN.out]; exact hs1)]
        have := hS.2.2.2
        rw [Int.toNat_natCast] at this
        omega
       have E1 := Lib.hid (putAll_succ (kd := 4) (m := matI1 g) e1)
       clear hS e1 h1 h2
       have hbX := below_alloc wr (.cells #[.string p.name, .int .i64 s1, .int .i64 s2] 65)
       have hX := heap_alloc_new wr (.cells #[.string p.name, .int .i64 s1, .int .i64 s2] 65)
       have hX : Blk _ (ext q wr.heap.size 5) 5 _ _ _ := ⟨hX, ext_new (Nat.le_refl _)⟩
       have TX := Turn.of_below q 5 hbX
       have HK2 := Lib.hid (HK.out.turn TX (fun h => h))
       have HG2 := Lib.hid (HG.out.turn TX (fun h => h))
       have HT2 := Lib.hid (HT.out.turn TX (fun _ _ h => h))
       have x1 := hX.cell 1 _ rfl
       have x2 := hX.cell 2 _ rfl
       clear hbX hX TX HK HG HT
       go_wp2_with fail
       obtain ⟨G, LL, cp, y1, hkk, hcp, hcall⟩ := on_I HT2.out (a := s1) (k := s2) (by rw [putAll_len, matI1_len, HN.out]; exact hs1) hs2
       have hkki : (s2 : Int) < LL := by omega
       have hcpi : (LL : Int) ≤ cp := by omega
       have hai : (s1 : Int) < n := by omega
       refine wp_region_lex (fun w' => w'.cell? ⟨wr.heap.size, 1, none⟩ = some (.int .i64 s1) ∧ w'.cell? ⟨wr.heap.size, 2, none⟩ = some (.int .i64 s2) ∧ w'.cell? ⟨gI, s1, none⟩ = some (.slice (some ⟨G, 0, none⟩) LL cp)) [0, 1, 2, 3, 4, 5, 6, 7, 8, 9] [10] (by kernel_rfl) (by kernel_rfl) rfl (fun _ _ hx h => ⟨hx.cell h.1, hx.cell h.2.1, hx.cell h.2.2⟩) ⟨x1, x2, y1⟩ ?_
       intro Q' hQ'
       simp only [pickOps, List.flatMap_cons, List.flatMap_nil, List.drop_succ_cons, List.drop_zero, List.take_succ_cons, List.take_zero, List.cons_append, List.nil_append, List.append_nil]
       repeat (first
        | (refine wpReads_skip (by rfl) ?_; (try simp only [Act.put, List.setIfInBounds_toArray, List.set_cons_zero, List.set_cons_succ]))
        | (refine wpReads_cons ?_ (by rfl) (by rfl) ?_ ?_; rotate_left; (intro wz hz; (try dsimp only at hz); go_simp; try with_reducible rfl); (try simp only [Act.put, List.setIfInBounds_toArray, List.set_cons_zero, List.set_cons_succ]))
        | (refine wpReads_any ?_ (by rfl) ?_ ?_; rotate_left; (intro wz; go_simp; try with_reducible rfl); (try simp only [Act.put, List.setIfInBounds_toArray, List.set_cons_zero, List.set_cons_succ])))
       refine wpReads_nil ?_
       go_wp2_with fail
       refine (hcall 4 j).mono ?_
       rintro e w5 ⟨rfl, T5, D5⟩
       have T6 := ((Turn.of_quiet (ext q wr.heap.size 5) ⟨1, rfl⟩).mono (D := ColM) (fun _ h => h.elim)).trans T5 (fun _ h => h)
       have HK5 := Lib.hid (HK2.out.turn T6 (by unfold ColM; omega))
       have HG5 := Lib.hid (HG2.out.turn T6 (by unfold ColM; omega))
       have HT5 : Hid (TwoM w5 (ext q wr.heap.size 5) (.slice (some ⟨gI, 0, none⟩) n n) (.slice (some ⟨gO, 0, none⟩) n n) (putAll (pAt g.ins) 4 (matI1 g) (j + 1)) (matO1 g)) := Lib.hid (by rw [E1.out, Int.toNat_natCast, Int.toNat_natCast]; exact D5)
       clear T5 D5 T6 HK2 HG2 HT2 x1 x2 y1 hcall hkk hkki hcp hcpi
       go_wp2
       go_roundw
       case rel => exact ⟨j + 1, _, hlt, by go_num, HK5.out, HG5.out, HT5.out⟩
       case measure => simp [intOf]; omega
      ·
       obtain rfl : I = j := by omega
       clear hj hlt
       have y5 := HG.out.cell 4 _ rfl
       have HT3 : Hid (TwoM wr q (.slice (some ⟨gI, 0, none⟩) n n) (.slice (some ⟨gO, 0, none⟩) n n) (matI2 g) (putAll (pAt g.outs) 7 (matO1 g) 0)) := Lib.hid (by rw [putAll, matI2, HI.out]; exact HT.out)
       clear HT
       go_wp2_with fail
       clear y5
       obtain ⟨U, hU⟩ : ∃ x, g.outs.length = x := ⟨_, rfl⟩
       have HU := Lib.hid hU
       rw [hU] at HG ⊢
       clear hU
       have hUb : U ≤ 16 := by rw [← HU.out]; exact OK.out.outs
       go_loopw [146] (fun i wl => ∃ (j : Nat) (q : Col), j ≤ U ∧ i = .int .i64 j ∧ Kept w.heap.size q w wl ∧ Blk wl q 5 w.heap.size 26 #[.string g.name, .slice aa n ac, .slice ae E ec, .slice ai I ic, .slice ao U oc] ∧ TwoM wl q (.slice (some ⟨gI, 0, none⟩) n n) (.slice (some ⟨gO, 0, none⟩) n n) (matI2 g) (putAll (pAt g.outs) 7 (matO1 g) j)) (fun i _ => U - (intOf i).toNat)
       case atStart => exact ⟨0, q, Nat.zero_le _, rfl, HK.out, HG.out, HT3.out⟩
       case round =>
        clear HK HG HT3
        obtain ⟨j, q, hj, rfl, hK, hGr, hT⟩ := hrel
        have HK := Lib.hid hK
        have HG := Lib.hid hGr
        have HT := Lib.hid hT
        clear hK hGr hT
        by_cases hlt : j < U
        ·
         have hlti : (j : Int) < U := by omega
         have hlt2 : j < g.outs.length := by rw [HU.out]; exact hlt
         obtain ⟨be, oe, rfl, hce, hbe, hrece⟩ := RO.out.at (by omega)
         obtain ⟨cse, hcse, hPE, hcle⟩ := hrece j hlt2
         obtain rfl := hPE
         have c0 := cell_later HK.out.below (hcle 0 (by omega))
         have c1 := cell_later HK.out.below (hcle 1 (by omega))
         have c2 := cell_later HK.out.below (hcle 2 (by omega))
         simp at c0 c1 c2
         have hcei : (U : Int) ≤ oc := by have := HU.out; omega
         have hS := OK.out.pout _ (List.getElem_mem hlt2)
         have e1 : pAt g.outs j = some (g.outs[j].actor, g.outs[j].port) := by unfold pAt; rw [List.getElem?_eq_getElem hlt2]
         clear hcle hcse hrece
         generalize g.outs[j] = p at *
         obtain ⟨s1, h1⟩ : ∃ k : Nat, p.actor = k := ⟨p.actor.toNat, by have := hS.1; omega⟩
         obtain ⟨s2, h2⟩ : ∃ k : Nat, p.port = k := ⟨p.port.toNat, by have := hS.2.2.1; omega⟩
         rw [h1] at c1 e1 hS
         rw [h2] at c2 e1 hS
         have hs1 : s1 < n := by have := hS.2.1; have := HN.out; omega
         have hs2 : s2 < (rowM (putAll (pAt g.outs) 7 (matO1 g) j) s1).length := by
          rw [putAll_row, matO1_row g (by rw [HN.out]; exact hs1)]
          have := hS.2.2.2
          rw [Int.toNat_natCast] at this
          omega
         have E1 := Lib.hid (putAll_succ (kd := 7) (m := matO1 g) e1)
         clear hS e1 h1 h2
         have hbX := below_alloc wr (.cells #[.string p.name, .int .i64 s1, .int .i64 s2] 65)
         have hX := heap_alloc_new wr (.cells #[.string p.name, .int .i64 s1, .int .i64 s2] 65)
         have hX : Blk _ (ext q wr.heap.size 5) 5 _ _ _ := ⟨hX, ext_new (Nat.le_refl _)⟩
         have TX := Turn.of_below q 5 hbX
         have HK2 := Lib.hid (HK.out.turn TX (fun h => h))
         have HG2 := Lib.hid (HG.out.turn TX (fun h => h))
         have HT2 := Lib.hid (HT.out.turn TX (fun _ _ h => h))
         have x1 := hX.cell 1 _ rfl
         have x2 := hX.cell 2 _ rfl
         clear hbX hX TX HK HG HT
         go_wp2_with fail
         obtain ⟨G, LL, cp, y1, hkk, hcp, hcall⟩ := on_O HT2.out (a := s1) (k := s2) (by rw [putAll_len, matO1_len, HN.out]; exact hs1) hs2
         have hkki : (s2 : Int) < LL := by omega
         have hcpi : (LL : Int) ≤ cp := by omega
         have hai : (s1 : Int) < n := by omega
         refine wp_region_lex (fun w' => w'.cell? ⟨wr.heap.size, 1, none⟩ = some (.int .i64 s1) ∧ w'.cell? ⟨wr.heap.size, 2, none⟩ = some (.int .i64 s2) ∧ w'.cell? ⟨gO, s1, none⟩ = some (.slice (some ⟨G, 0, none⟩) LL cp)) [0, 1, 2, 3, 4, 5, 6, 7, 8, 9] [10] (by kernel_rfl) (by kernel_rfl) rfl (fun _ _ hx h => ⟨hx.cell h.1, hx.cell h.2.1, hx.cell h.2.2⟩) ⟨x1, x2, y1⟩ ?_
         intro Q' hQ'
         simp only [pickOps, List.flatMap_cons, List.flatMap_nil, List.drop_succ_cons, List.drop_zero, List.take_succ_cons, List.take_zero, List.cons_append, List.nil_append, List.append_nil]
         repeat (first
          | (refine wpReads_skip (by rfl) ?_; (try simp only [Act.put, List.setIfInBounds_toArray, List.set_cons_zero, List.set_cons_succ]))
          | (refine wpReads_cons ?_ (by rfl) (by rfl) ?_ ?_; rotate_left; (intro wz hz; (try dsimp only at hz); go_simp; try with_reducible rfl); (try simp only [Act.put, List.setIfInBounds_toArray, List.set_cons_zero, List.set_cons_succ]))
          | (refine wpReads_any ?_ (by rfl) ?_ ?_; rotate_left; (intro wz; go_simp; try with_reducible rfl); (try simp only [Act.put, List.setIfInBounds_toArray, List.set_cons_zero, List.set_cons_succ])))
         refine wpReads_nil ?_
         go_wp2_with fail
         refine (hcall 7 j).mono ?_
         rintro e w5 ⟨rfl, T5, D5⟩
         have T6 := ((Turn.of_quiet (ext q wr.heap.size 5) ⟨1, rfl⟩).mono (D := ColM) (fun _ h => h.elim)).trans T5 (fun _ h => h)
         have HK5 := Lib.hid (HK2.out.turn T6 (by unfold ColM; omega))
         have HG5 := Lib.hid (HG2.out.turn T6 (by unfold ColM; omega))
         have HT5 : Hid (TwoM w5 (ext q wr.heap.size 5) (.slice (some ⟨gI, 0, none⟩) n n) (.slice (some ⟨gO, 0, none⟩) n n) (matI2 g) (putAll (pAt g.outs) 7 (matO1 g) (j + 1))) := Lib.hid (by rw [E1.out, Int.toNat_natCast, Int.toNat_natCast]; exact D5)
         clear T5 D5 T6 HK2 HG2 HT2 x1 x2 y1 hcall hkk hkki hcp hcpi
         go_wp2
         go_roundw
         case rel => exact ⟨j + 1, _, hlt, by go_num, HK5.out, HG5.out, HT5.out⟩
         case measure => simp [intOf]; omega
        ·
         obtain rfl : U = j := by omega
         clear hj hlt
         have y5 := HG.out.cell 1 _ rfl
         have HT3 : Hid (TwoM wr q (.slice (some ⟨gI, 0, none⟩) n n) (.slice (some ⟨gO, 0, none⟩) n n) (finM (matI2 g) (matO2 g) 0) (matO2 g)) := Lib.hid (by rw [finM, matO2, HU.out]; exact HT.out)
         clear HT
         go_wp2_with fail
         clear y5
         go_loopw [166] (fun i wl => ∃ (j : Nat) (q : Col), j ≤ n ∧ i = .int .i64 j ∧ Kept w.heap.size q w wl ∧ TwoM wl q (.slice (some ⟨gI, 0, none⟩) n n) (.slice (some ⟨gO, 0, none⟩) n n) (finM (matI2 g) (matO2 g) j) (matO2 g)) (fun i _ => n - (intOf i).toNat)
         case atStart => exact ⟨0, q, Nat.zero_le _, rfl, HK.out, HT3.out⟩
         case round =>
          clear HK HG HT3
          obtain ⟨j, q, hj, rfl, hK, hT⟩ := hrel
          have HK := Lib.hid hK
          have HT := Lib.hid hT
          clear hK hT
          by_cases hlt : j < n
          ·
           have hlti : (j : Int) < n := by omega
           have hjn : j < g.actors.length := by rw [HN.out]; exact hlt
           have hjI : j < (finM (matI2 g) (matO2 g) j).length := by rw [finM_len, matI2_len]; exact hjn
           have hjO : j < (matO2 g).length := by rw [matO2_len]; exact hjn
           have er : (finM (matI2 g) (matO2 g) j)[j]?.getD [] = rowM (matI2 g) j := by
            have := finM_row (matI2 g) (matO2 g) j (by rw [matI2_len]; exact hjn) j
            rw [if_neg (by omega)] at this
            exact this
           have hlI : (rowM (matI2 g) j).length ≤ 16 := by rw [matI2_row g hjn]; exact insF_len OK.out j
           have hlO : (rowM (matO2 g) j).length ≤ 16 := by rw [matO2_row g hjn]; exact outsF_len OK.out j
           have EF : Hid (finM (matI2 g) (matO2 g) (j + 1) = (finM (matI2 g) (matO2 g) j).set j (rowM (matI2 g) j ++ [⟨5, j, 0⟩] ++ rowM (matO2 g) j)) := Lib.hid rfl
           have ER := Lib.hid er
           obtain ⟨vsI, vsO, hI, hO⟩ := HT.out
           obtain ⟨-, -, gg, eg, r1, f1⟩ := hI.row hjI
           cases eg
           have hown := (hI.rows j hjI).1
           rw [er] at hown
           obtain ⟨sa, sc, hr⟩ := owns_slice hown
           rw [hr] at r1 hown
           have HR := Lib.hid hr
           have HM := Lib.hid hI
           have HO := Lib.hid hO
           have HW := Lib.hid hown
           obtain ⟨LI, hLI⟩ : ∃ x, rowM (matI2 g) j = x := ⟨_, rfl⟩
           obtain ⟨LO, hLO⟩ : ∃ x, rowM (matO2 g) j = x := ⟨_, rfl⟩
           rw [hLI] at hlI ER EF HR HW r1
           rw [hLO] at hlO EF
           have HLO := Lib.hid hLO
           obtain ⟨i0, hi, hz0, hz1, hz2⟩ := info_parts info_Op
           clear hI hO hr hown er hLI hLO HT
           go_wp2_with (at_builtin; refine stop_here ?_)
           refine go_on ?_
           refine wpList_app rfl _ _ 37 rfl 0 61 i0 _ 3 24 Try.underlying37 hi hz0 hz1 hz2 rfl (.slice sa LI.length sc) LI.length _ rfl (HW.out.alloc (.cells #[.int .u8 5, .int .i64 j, .int .i64 0] 61)) (some ⟨wr.heap.size, 0, none⟩) 1 1 [.int .u8 5, .int .i64 j, .int .i64 0] rfl rfl (fun h => by cases h) (news_alloc wr [.int .u8 5, .int .i64 j, .int .i64 0] 61) (by simp [Value.oneCell']) (by unfold maxLen; omega) (grow_ok (by omega)) (Nat.zero_le _) ?_
           intro v5 w5 k1 k20 _ k4
           have hm : Mods (fun b => (vsI[j]?.getD undef).ownBlock = some b) wr w5 := by rw [HR.out]; exact ((Mods.refl _ wr).alloc _).grown k20 (fun b hb _ => hb)
           obtain ⟨⟨x1, x2, x3, z0⟩, zf, T5, N5⟩ := HM.out.grow (news := [⟨5, j, 0⟩]) (v' := v5) (w2 := w5) (by decide) hjI ER.out k1 hm (by rw [HR.out]; exact k4.imp id (fun k4 b hb => by rw [k4] at hb; have := Option.some.inj hb; simp at this; omega))
           obtain ⟨s5, c5, rfl⟩ := owns_slice k1
           have HT5 := Lib.hid T5
           have HM5 := Lib.hid N5
           have HO5 := Lib.hid (HO.out.turn T5 (by decide) (by decide))
           have HK5 := Lib.hid (HK.out.turn T5 (by decide))
           clear T5 N5 k1 k20 k4 hm r1 f1 HK HM HO HR HW
           go_wp2_with fail
           clear z0 zf
           obtain ⟨o5, ho5⟩ : ∃ x, ext q wr.heap.size 2 = x := ⟨_, rfl⟩
           rw [ho5] at HM5 HO5 HK5 HT5
           obtain ⟨w6, hw6⟩ : ∃ x, w5.setCell ⟨gI, j, none⟩ (Value.slice s5 (LI.length + 1) c5) = x := ⟨_, rfl⟩
           rw [hw6] at HM5 HO5 HK5 HT5 ⊢
           clear ho5 hw6
           have hjI5 : j < ((finM (matI2 g) (matO2 g) j).set j (LI ++ [⟨5, j, 0⟩])).length := by rw [List.length_set]; exact hjI
           have er5 : ((finM (matI2 g) (matO2 g) j).set j (LI ++ [⟨5, j, 0⟩]))[j]?.getD [] = LI ++ [⟨5, j, 0⟩] := by rw [List.getElem?_set_self hjI]; rfl
           have hvs : (vsI.set j (Value.slice s5 (LI.length + 1) c5))[j]?.getD undef = Value.slice s5 (LI.length + 1) c5 := by
            have := HM5.out.len
            rw [List.length_set, List.length_set] at this
            rw [List.getElem?_set_self (by omega)]; rfl
           have hM6 := HM5.out.turn (Turn.of_quiet o5 (w' := w6.drew) ⟨1, rfl⟩) (fun h => h) (fun h => h)
           have hO6 := HO5.out.turn (Turn.of_quiet o5 (w' := w6.drew) ⟨1, rfl⟩) (fun h => h) (fun h => h)
           obtain ⟨-, -, gg, eg, z1, -⟩ := HM5.out.row hjI5
           cases eg
           obtain ⟨-, -, gg, eg, z2, -⟩ := HO5.out.row hjO
           cases eg
           have hown := (hM6.rows j hjI5).1
           rw [er5, hvs, List.length_append] at hown
           rw [hvs] at z1
           have hrow := Own.row (hO6.rows j hjO)
           have erO : (matO2 g)[j]?.getD [] = LO := HLO.out
           rw [erO] at hrow
           obtain ⟨so, co, hso, hso0, -, hsc⟩ := hrow
           rw [hso] at z2
           have HW := Lib.hid hown
           have HM6 := Lib.hid hM6
           have HO6 := Lib.hid hO6
           have ER5 := Lib.hid er5
           have HVS := Lib.hid hvs
           have HSC := Lib.hid hsc
           have HS0 := Lib.hid hso0
           clear hown hM6 hO6 er5 hvs hsc hso0 hso erO HM5 HO5
           refine wp_region_lex (fun w' => w'.cell? ⟨gI, j, none⟩ = some (.slice s5 (LI.length + 1) c5) ∧ w'.cell? ⟨gO, j, none⟩ = some (.slice so LO.length co)) [0, 1, 2, 3, 4, 5, 6, 7, 8, 9] [10, 11, 12] (by kernel_rfl) (by kernel_rfl) rfl (fun _ _ hx h => ⟨hx.cell h.1, hx.cell h.2⟩) ⟨z1, z2⟩ ?_
           intro Q' hQ'
           simp only [pickOps, List.flatMap_cons, List.flatMap_nil, List.drop_succ_cons, List.drop_zero, List.take_succ_cons, List.take_zero, List.cons_append, List.nil_append, List.append_nil]
           repeat (first
            | (refine wpReads_skip (by rfl) ?_; (try simp only [Act.put, List.setIfInBounds_toArray, List.set_cons_zero, List.set_cons_succ]))
            | (refine wpReads_cons ?_ (by rfl) (by rfl) ?_ ?_; rotate_left; (intro wz hz; (try dsimp only at hz); go_simp; try with_reducible rfl); (try simp only [Act.put, List.setIfInBounds_toArray, List.set_cons_zero, List.set_cons_succ]))
            | (refine wpReads_any ?_ (by rfl) ?_ ?_; rotate_left; (intro wz; go_simp; try with_reducible rfl); (try simp only [Act.put, List.setIfInBounds_toArray, List.set_cons_zero, List.set_cons_succ])))
           refine wpReads_nil ?_
           go_wp2_with (at_builtin; refine stop_here ?_)
           refine go_on ?_
           refine wpList_app rfl _ _ 37 rfl 0 61 i0 _ 3 24 Try.underlying37 hi hz0 hz1 hz2 rfl (.slice s5 (LI.length + 1) c5) (LI.length + 1) _ rfl HW.out so LO.length co (opsV LO) rfl (opsV_len LO) HS0.out HSC.out (opsV_one LO) (by unfold maxLen; omega) (grow_ok (by omega)) (Nat.zero_le _) ?_
           intro v7 w7 k1 k20 _ k4
           have hm : Mods (fun b => ((vsI.set j (Value.slice s5 (LI.length + 1) c5))[j]?.getD undef).ownBlock = some b) w6.drew w7 := by rw [HVS.out]; exact (Mods.refl _ w6.drew).grown k20 (fun b hb _ => hb)
           obtain ⟨⟨x1, x2, x3, z0⟩, zf, T5, N5⟩ := HM6.out.grow (news := LO) (v' := v7) (w2 := w7) (by decide) hjI5 ER5.out (by rw [List.length_append]; exact k1) hm (by rw [HVS.out]; exact k4.imp id (fun k4 b hb => by rw [k4] at hb; have := Option.some.inj hb; omega))
           obtain ⟨s7, c7, rfl⟩ := owns_slice k1
           have HO7 := Lib.hid (HO6.out.turn T5 (by decide) (by decide))
           have HK7 := Lib.hid ((HK5.out.turn (Turn.of_quiet o5 (w' := w6.drew) ⟨1, rfl⟩) (fun h => h)).turn T5 (by decide))
           rw [List.set_set, ← EF.out] at N5
           have HT7 : Hid (TwoM _ _ (.slice (some ⟨gI, 0, none⟩) n n) (.slice (some ⟨gO, 0, none⟩) n n) (finM (matI2 g) (matO2 g) (j + 1)) (matO2 g)) := Lib.hid ⟨_, _, N5, HO7.out⟩
           clear T5 N5 k1 k20 k4 hm z1 z2 HM6 HO6 HK5 HT5 HW HSC HS0 HVS ER5 EF HO7
           go_wp2
           go_roundw
           case rel => exact ⟨j + 1, _, hlt, by go_num, HK7.out, HT7.out⟩
           case measure => simp [intOf]; omega
          ·
           obtain rfl : n = j := by omega
           obtain ⟨vsI, vsO, hI, hO⟩ := HT.out
           have HM : Hid (OpM wr q 1 2 (.slice (some ⟨gI, 0, none⟩) n n) (firP g) vsI) := Lib.hid (by unfold firP; rw [HN.out]; exact hI)
           clear hI hO
           go_wp2
           go_ret
           exact ⟨_, _, _, rfl, HK.out, HM.out⟩
end Go.Proofs.Ytbmbfifempkhgaa

/- The maker's row. -/
namespace Go.Proofs.Ytbmbfifempkhgaa
open Go.RowKit
structure FOk (F : List (List GOp)) : Prop where
 rows : ∀ k, (rowM F k).length ≤ 33
 len : F.length ≤ 1000
def ERowOk (F : List (List GOp)) (D : Nat) : Prop := ∀ (w0 w : World) (o : Col) (M : Nat) (vo v vf : Value) (l : Nest) (ops : List GOp) (op cnt : Nat), HasNestD D w0 v l → NSized l → LeafOk F.length l → HasM w0 vf F → Kept w0.heap.size o w0 w → MkAt w o M vo ops op cnt vf →
 ops.length + costN l ≤ 10000000 → op + depthN l ≤ 1000 → cnt ≤ 1000 → Calls Try.prog 44 #[.pointer (some ⟨M, 0, none⟩), v] w (MkRet (.tuple #[]) w o M (rowP F l op (ops, cnt)).1 op ((rowP F l op (ops, cnt)).2 : Nat) vf)
set_option maxRecDepth 100000 in
theorem erow_zero (F : List (List GOp)) : ERowOk F 0 := by
 intro w0 w o M vo v vf l ops op cnt hv hs hlo hf hk hm hl hd hc
 obtain ⟨rfl, ao, cap, rfl⟩ := hv
 have HM := Lib.hid hm
 clear hs hlo hf hk hm
 go_enter Try.func44, Try.ntmps44
 go_wp2_with fail
 go_loopw [9] (fun i wr => i = .int .i64 0 ∧ wr = w) (fun _ _ => 0)
 case atStart => exact ⟨rfl, rfl⟩
 case round =>
  obtain ⟨rfl, rfl⟩ := hrel
  go_wp2
  go_end0
  exact ⟨rfl, _, _, Turn.refl _ _ _, HM.out⟩
set_option maxRecDepth 100000 in
set_option maxHeartbeats 2000000 in
theorem erow_succ {F : List (List GOp)} (hF : FOk F) {D : Nat} (hrow : ERowOk F D) : ERowOk F (D + 1) := by
 intro w0 w o M vo v vf l ops op cnt hv hs hlo hf hk hm hl hd hc
 have hv' : Recs w0 3 (fun w x cs => ∃ y, cs = [.int .i64 x.1, .int .i64 x.2.1, y] ∧ HasNestD D w y x.2.2) v l.items := hv
 obtain ⟨ao, cap, rfl⟩ := hv'.slice
 obtain ⟨r, hr⟩ : ∃ r, rowP F l op (ops, cnt) = r := ⟨_, rfl⟩
 rw [hr]
 have HE := Lib.hid (show rowP F (l.drop 0) op (ops, cnt) = r by rw [drop_zero]; exact hr)
 have HV := Lib.hid hv'
 have HS := Lib.hid hs
 have HLO := Lib.hid hlo
 have HF := Lib.hid hF
 have HMF := Lib.hid hf
 have HL := Lib.hid (nsized_len hs)
 have HROW := Lib.hid hrow
 have HT0 := Lib.hid (Turn.refl o MkC w)
 have HK0 := Lib.hid hk
 have HM0 := Lib.hid hm
 have HC0 : Hid (ops.length + costN (l.drop 0) ≤ 10000000 ∧ op + depthN (l.drop 0) ≤ 1000) := Lib.hid (by rw [drop_zero]; exact ⟨hl, hd⟩)
 clear hv hv' hs hlo hf hk hm hrow hr hl hF
 obtain ⟨fa, fc, hvf⟩ := HMF.out.slice
 subst hvf
 go_enter Try.func44, Try.ntmps44
 go_wp2_with fail
 go_loopw [9] (fun i wr => ∃ (j : Nat) (q : Col) (vo' : Value) (s : List GOp × Nat), j ≤ l.items.length ∧ i = .int .i64 j ∧ Kept w0.heap.size q w0 wr ∧ Turn o q MkC w wr ∧ MkAt wr q M vo' s.1 op s.2 (.slice fa F.length fc) ∧ s.2 ≤ 1000 ∧ (s.1.length + costN (l.drop j) ≤ 10000000 ∧ op + depthN (l.drop j) ≤ 1000) ∧ rowP F (l.drop j) op s = r) (fun i _ => l.items.length - (intOf i).toNat)
 case atStart => exact ⟨0, o, _, (ops, cnt), Nat.zero_le _, rfl, HK0.out, HT0.out, HM0.out, hc, HC0.out, HE.out⟩
 case round =>
  clear HK0 HT0 HM0 HE HC0
  obtain ⟨j, q, vo', s, hj, rfl, hK, hT, hM, hsc, hC, hE⟩ := hrel
  have HK := Lib.hid hK
  have HT := Lib.hid hT
  have HM := Lib.hid hM
  have HE := Lib.hid hE
  have HC := Lib.hid hC
  clear hK hT hM hE hC
  by_cases hlt : j < l.items.length
  ·
   have hlti : (j : Int) < l.items.length := by omega
   obtain ⟨b0, off, rfl, hcap, hb0, hrec⟩ := HV.out.at (by omega)
   obtain ⟨cs, hcs, hPR, hcl⟩ := hrec j hlt
   obtain ⟨y, rfl, hy⟩ := hPR
   have c0 := cell_later HK.out.below (hcl 0 (by omega))
   have c1 := cell_later HK.out.below (hcl 1 (by omega))
   have c2 := cell_later HK.out.below (hcl 2 (by omega))
   simp at c0 c1 c2
   have hcapi : (l.items.length : Int) ≤ cap := by omega
   have hEc := HE.out
   have hCc := HC.out
   have hLo := leafOk_drop l j HLO.out
   rw [drop_items l j hlt] at hLo hCc
   rw [drop_items l j hlt, rowP_cons] at hEc
   rw [costN, depthN] at hCc
   have HEC := Lib.hid hEc
   have HCC := Lib.hid hCc
   have HLJ := Lib.hid hLo
   have HY := Lib.hid hy
   have HSb := Lib.hid (nsized_at HS.out _ (List.getElem_mem hlt))
   obtain ⟨ya, yc, hys⟩ := nestD_slice D hy
   subst hys
   clear hcl hcs hrec hEc hCc hLo hy HE HC
   generalize (l.items[j]).1 = t at *
   generalize (l.items[j]).2.1 = nd at *
   generalize (l.items[j]).2.2 = b at *
   have hbX := below_alloc wr (.cells #[.int .i64 t, .int .i64 nd, .slice ya b.items.length yc] 51)
   have hX : Blk _ (ext q wr.heap.size 8) 8 _ _ _ := ⟨heap_alloc_new wr (.cells #[.int .i64 t, .int .i64 nd, .slice ya b.items.length yc] 51), ext_new (Nat.le_refl _)⟩
   have TX := Turn.of_below q 8 hbX
   have HK2 := Lib.hid (HK.out.turn TX (fun h => h))
   have HT2 := Lib.hid (HT.out.trans (TX.mono (D := MkC) (fun _ h => h.elim)) (fun _ h => h))
   have HM2 := Lib.hid (HM.out.turn TX (fun h => h) (fun h => h))
   have HX2 := Lib.hid hX
   have x0 := hX.cell 0 _ rfl
   have x2 := hX.cell 2 _ rfl
   have hnil := isNil_len b
   clear hbX hX TX HK HT HM
   generalize hm : b.items.length = m at *
   have HNL0 := Lib.hid hnil
   obtain ⟨X, hX⟩ : ∃ x, wr.heap.size = x := ⟨_, rfl⟩
   rw [hX] at HK2 HT2 HM2 HX2 x0 x2
   have HLn := Lib.hid (stepP_len HF.out.rows t nd b op s)
   have HCn := Lib.hid (stepP_cnt (F := F) t nd b op s)
   have hll := HL.out
   by_cases h1 : 1 < t
   ·
    go_wp2_with fail
    refine wp_region_lex (fun w' => w'.cell? ⟨X, 0, none⟩ = some (.int .i64 t)) [0, 1, 2, 3, 4] [5, 6] (by kernel_rfl) (by kernel_rfl) rfl (fun _ _ hx h => hx.cell h) x0 ?_
    intro Q' hQ'
    simp only [pickOps, List.flatMap_cons, List.flatMap_nil, List.drop_succ_cons, List.drop_zero, List.take_succ_cons, List.take_zero, List.cons_append, List.nil_append, List.append_nil]
    repeat (first
     | (refine wpReads_skip (by rfl) ?_; (try simp only [Act.put, List.setIfInBounds_toArray, List.set_cons_zero, List.set_cons_succ]))
     | (refine wpReads_cons ?_ (by rfl) (by rfl) ?_ ?_; rotate_left; (intro wz hz; (try dsimp only at hz); go_simp; try with_reducible rfl); (try simp only [Act.put, List.setIfInBounds_toArray, List.set_cons_zero, List.set_cons_succ]))
     | (refine wpReads_any ?_ (by rfl) ?_ ?_; rotate_left; (intro wz; go_simp; try with_reducible rfl); (try simp only [Act.put, List.setIfInBounds_toArray, List.set_cons_zero, List.set_cons_succ])))
    refine wpReads_nil ?_
    go_wp2_with fail
    refine (head_any _ _ M vo' _ s.1 op s.2 t (HM2.out.drewN 1) (by have := HCC.out; omega) (by have := HCC.out; omega) (by omega)).mono ?_
    rintro e w5 ⟨rfl, q5, vo5, T5, M5⟩
    have T5' := ((Turn.of_quiet (ext q X 8) ⟨1, rfl⟩).mono (D := MkC) (fun _ h => h.elim)).trans T5 (fun _ h => h)
    have HK5 := Lib.hid (HK2.out.turn T5' (by unfold MkC; omega))
    have HT5 := Lib.hid (HT2.out.trans T5' (fun _ h => h))
    have HX5 := Lib.hid (HX2.out.turn T5' (by unfold MkC; omega))
    have HL5 : Hid ((openP op t s).1.length + 33 + costN b ≤ 10000000 ∧ op + 1 + depthN b ≤ 1000 ∧ (openP op t s).2 ≤ 1000) := Lib.hid (by have := HCC.out; simp only [openP, List.length_append, List.length_cons, List.length_nil]; omega)
    have HM5 : Hid (MkAt w5 q5 M vo5 (openP op t s).1 ((op + 1 : Nat) : Int) ((openP op t s).2 : Nat) (.slice fa F.length fc)) := Lib.hid M5
    have HSE : Hid (stepP F t nd b op s = closeP op (s.1.length + 1) (if b.isNil then leafP F nd (openP op t s) else rowP F b (op + 1) (openP op t s))) := Lib.hid (by rw [stepP, if_pos h1])
    clear T5 T5' M5 HK2 HT2 HM2 HX2 x0 x2
    generalize openP op t s = s5 at *
    have x2 := HX5.out.cell 2 _ rfl
    by_cases hz : m = 0
    ·
     subst hz
     have HNL := Lib.hid (show b.isNil = true by rw [HNL0.out]; rfl)
     go_wp2_with fail
     obtain ⟨k, hk, hkl⟩ : ∃ k : Nat, nd = k ∧ k < F.length := ⟨nd.toNat, by have := HLJ.out.1 HNL.out; omega, by have := HLJ.out.1 HNL.out; omega⟩
     subst hk
     obtain ⟨fb, foff, rfl, hfc, hfb, hfrec⟩ := HMF.out.at (by omega)
     obtain ⟨cs, hcs, ⟨ry, rfl, hry⟩, hfcl⟩ := hfrec k hkl
     have z3 := cell_later HK5.out.below (hfcl 0 (by omega))
     simp at z3
     have hr5 := hry.below (w' := w5.drew) (HK5.out.turn (Turn.of_quiet q5 ⟨1, rfl⟩) (fun h => h)).below
     obtain ⟨ra, rc, hre, hr0, -, hrc⟩ := hr5
     subst hre
     have HRW : Hid (rowM F k = F[k]) := Lib.hid (by unfold rowM; rw [List.getElem?_eq_getElem hkl]; rfl)
     have hr33 := HF.out.rows k
     rw [HRW.out] at hr33
     obtain ⟨R, hR⟩ : ∃ x, F[k] = x := ⟨_, rfl⟩
     rw [hR] at HRW z3 hr0 hrc hr33
     have HR0 := Lib.hid hr0
     have HRC := Lib.hid hrc
     have hki : (k : Int) < F.length := by omega
     have hfci : (F.length : Int) ≤ fc := by have := hfc; omega
     obtain ⟨sa, sc, rfl⟩ := HM5.out.own.slice
     have z0 := HM5.out.blk.cell 0 _ rfl
     have z4 := HM5.out.blk.cell 3 _ rfl
     have z1 := HX5.out.cell 1 _ rfl
     obtain ⟨i0, hi, hz0, hz1, hz2⟩ := info_parts info_Op
     have h5l := HL5.out
     clear hfrec hcs hfcl hry hr0 hrc hR hfb
     refine wp_region_lex (fun w' => w'.cell? ⟨M, 0, none⟩ = some (.slice sa s5.1.length sc) ∧ w'.cell? ⟨M, 3, none⟩ = some (.slice (some ⟨fb, foff, none⟩) F.length fc) ∧ w'.cell? ⟨X, 1, none⟩ = some (.int .i64 k) ∧ w'.cell? ⟨fb, foff + k, none⟩ = some (.slice ra R.length rc)) [0, 1, 2, 3, 4, 5, 6, 7, 8, 9, 10, 11, 12, 13] [14, 15, 16, 17, 18] (by kernel_rfl) (by kernel_rfl) rfl (fun _ _ hx h => ⟨hx.cell h.1, hx.cell h.2.1, hx.cell h.2.2.1, hx.cell h.2.2.2⟩) ⟨z0, z4, z1, z3⟩ ?_
     intro Q' hQ'
     simp only [pickOps, List.flatMap_cons, List.flatMap_nil, List.drop_succ_cons, List.drop_zero, List.take_succ_cons, List.take_zero, List.cons_append, List.nil_append, List.append_nil]
     repeat (first
      | (refine wpReads_skip (by rfl) ?_; (try simp only [Act.put, List.setIfInBounds_toArray, List.set_cons_zero, List.set_cons_succ]))
      | (refine wpReads_cons ?_ (by rfl) (by rfl) ?_ ?_; rotate_left; (intro wz hz; (try dsimp only at hz); go_simp; try with_reducible rfl); (try simp only [Act.put, List.setIfInBounds_toArray, List.set_cons_zero, List.set_cons_succ]))
      | (refine wpReads_any ?_ (by rfl) ?_ ?_; rotate_left; (intro wz; go_simp; try with_reducible rfl); (try simp only [Act.put, List.setIfInBounds_toArray, List.set_cons_zero, List.set_cons_succ])))
     refine wpReads_nil ?_
     go_wp2_with (at_builtin; refine stop_here ?_)
     refine go_on ?_
     refine wpList_app rfl _ _ 37 rfl 0 61 i0 _ 3 24 Try.underlying37 hi hz0 hz1 hz2 rfl (.slice sa s5.1.length sc) s5.1.length _ rfl (show w5.drew.ownsRow 0 61 3 (.slice sa s5.1.length sc) s5.1.length (opsV s5.1) from HM5.out.own.1) ra R.length rc (opsV R) rfl (opsV_len R) HR0.out HRC.out (opsV_one R) (by unfold maxLen; omega) (grow_ok (by omega)) (Nat.zero_le _) ?_
     intro v6 w6 k1 k20 _ k4
     have hm6 : Mods (fun b => (Value.slice sa s5.1.length sc).ownBlock = some b) w5 w6 := ((Mods.refl _ w5).drewN 1).grown k20 (fun b hb _ => hb)
     obtain ⟨y0, yf, T6, M6⟩ := HM5.out.grow (news := R) (v' := v6) (w2 := w6) k1 hm6 (k4.imp id (fun k4 b hb => by rw [k4] at hb; have := Option.some.inj hb; simp at this; omega))
     obtain ⟨s6a, c6a, rfl⟩ := owns_slice k1
     have HK6 := Lib.hid (HK5.out.turn T6 (by unfold MkC; omega))
     have HT6 := Lib.hid (HT5.out.trans T6 (fun _ h => h))
     have HM6 : Hid (MkAt _ _ M _ (leafP F k s5).1 ((op + 1 : Nat) : Int) ((leafP F k s5).2 : Nat) (.slice (some ⟨fb, foff, none⟩) F.length fc)) := Lib.hid (by unfold leafP; rw [Int.toNat_natCast, HRW.out]; exact M6)
     have HX6 := Lib.hid (HX5.out.turn T6 (by unfold MkC; omega))
     have HE6 : Hid (stepP F t k b op s = closeP op (s.1.length + 1) (leafP F k s5)) := Lib.hid (by rw [HSE.out, HNL.out]; rfl)
     clear T6 M6 HK5 HT5 HM5 HX5 hm6 k1 k20 k4 z0 z1 z3 z4
     generalize leafP F k s5 = s6 at *
     have w0' := HX6.out.cell 0 _ rfl
     go_wp2_with fail
     refine (back_any _ _ M _ _ s6.1 op s6.2 _ HM6.out (by have e1 := HLn.out; rw [HE6.out] at e1; have e2 := HCC.out; simp only [closeP, List.length_append, List.length_cons, List.length_nil] at e1; omega) (by have := HCC.out; omega)).mono ?_
     rintro e w7 ⟨rfl, q7, vo7, T7, M7⟩
     have HK7 := Lib.hid (HK6.out.turn T7 (by unfold MkC; omega))
     have HT7 := Lib.hid (HT6.out.trans T7 (fun _ h => h))
     have HM7 := Lib.hid M7
     clear T7 M7 HK6 HT6 HM6 HX6 w0'
     go_wp2
     go_roundw
     case rel => exact ⟨j + 1, _, _, stepP F t k b op s, hlt, by go_num, HK7.out, HT7.out, by rw [HE6.out]; exact HM7.out, by have := HCn.out; have := HCC.out; omega, by have := HLn.out; have := HCC.out; omega, HEC.out⟩
     case measure => simp [intOf]; omega
    ·
     have hzi : (0 : Int) < m := by omega
     have HNL := Lib.hid (show b.isNil = false by rw [HNL0.out, decide_eq_false hz])
     go_wp2_with fail
     refine (HROW.out w0 _ q5 M _ _ _ b s5.1 (op + 1) s5.2 HY.out HSb.out HLJ.out.2.1 HMF.out HK5.out HM5.out (by have := HL5.out; omega) (by have := HL5.out; omega) (by have := HL5.out; omega)).mono ?_
     rintro e w6 ⟨rfl, q6, vo6, T6, M6⟩
     have HK6 := Lib.hid (HK5.out.turn T6 (by unfold MkC; omega))
     have HT6 := Lib.hid (HT5.out.trans T6 (fun _ h => h))
     have HM6 : Hid (MkAt w6 q6 M vo6 (rowP F b (op + 1) s5).1 ((op + 1 : Nat) : Int) ((rowP F b (op + 1) s5).2 : Nat) (.slice fa F.length fc)) := Lib.hid M6
     have HX6 := Lib.hid (HX5.out.turn T6 (by unfold MkC; omega))
     have HE6 : Hid (stepP F t nd b op s = closeP op (s.1.length + 1) (rowP F b (op + 1) s5)) := Lib.hid (by rw [HSE.out, HNL.out]; rfl)
     clear T6 M6 HK5 HT5 HM5 HX5
     generalize rowP F b (op + 1) s5 = s6 at *
     have w0' := HX6.out.cell 0 _ rfl
     go_wp2_with fail
     refine (back_any _ _ M _ _ s6.1 op s6.2 _ HM6.out (by have e1 := HLn.out; rw [HE6.out] at e1; have e2 := HCC.out; simp only [closeP, List.length_append, List.length_cons, List.length_nil] at e1; omega) (by have := HCC.out; omega)).mono ?_
     rintro e w7 ⟨rfl, q7, vo7, T7, M7⟩
     have HK7 := Lib.hid (HK6.out.turn T7 (by unfold MkC; omega))
     have HT7 := Lib.hid (HT6.out.trans T7 (fun _ h => h))
     have HM7 := Lib.hid M7
     clear T7 M7 HK6 HT6 HM6 HX6 w0'
     go_wp2
     go_roundw
     case rel => exact ⟨j + 1, _, _, stepP F t nd b op s, hlt, by go_num, HK7.out, HT7.out, by rw [HE6.out]; exact HM7.out, by have := HCn.out; have := HCC.out; omega, by have := HLn.out; have := HCC.out; omega, HEC.out⟩
     case measure => simp [intOf]; omega
   ·
    have HSE0 : Hid (stepP F t nd b op s = id (if b.isNil then leafP F nd s else rowP F b op s)) := Lib.hid (by rw [stepP, if_neg h1]; rfl)
    have HL5 : Hid (s.1.length + 33 + costN b ≤ 10000000 ∧ op + depthN b ≤ 1000 ∧ s.2 ≤ 1000) := Lib.hid (by have := HCC.out; omega)
    by_cases hz : m = 0
    ·
     subst hz
     have HNL := Lib.hid (show b.isNil = true by rw [HNL0.out]; rfl)
     go_wp2_with fail
     generalize wr.alloc (.cells #[.int .i64 t, .int .i64 nd, .slice ya 0 yc] 51) = w5 at *
     have HK5 := HK2
     have HT5 := HT2
     have HM5 := HM2
     have HX5 := HX2
     clear HK2 HT2 HM2 HX2
     generalize ext q X 8 = q5 at *
     obtain ⟨vo5, hvo5⟩ : ∃ x, vo' = x := ⟨_, rfl⟩
     subst hvo5
     obtain ⟨s5, hs5⟩ : ∃ x, x = s := ⟨_, rfl⟩
     have HSE : Hid (stepP F t nd b op s = id (if b.isNil then leafP F nd s5 else rowP F b op s5)) := by rw [hs5]; exact HSE0
     rw [← hs5] at HM5 HL5
     clear hs5
     obtain ⟨k, hk, hkl⟩ : ∃ k : Nat, nd = k ∧ k < F.length := ⟨nd.toNat, by have := HLJ.out.1 HNL.out; omega, by have := HLJ.out.1 HNL.out; omega⟩
     subst hk
     obtain ⟨fb, foff, rfl, hfc, hfb, hfrec⟩ := HMF.out.at (by omega)
     obtain ⟨cs, hcs, ⟨ry, rfl, hry⟩, hfcl⟩ := hfrec k hkl
     have z3 := cell_later HK5.out.below (hfcl 0 (by omega))
     simp at z3
     have hr5 := hry.below (w' := w5.drew) (HK5.out.turn (Turn.of_quiet q5 ⟨1, rfl⟩) (fun h => h)).below
     obtain ⟨ra, rc, hre, hr0, -, hrc⟩ := hr5
     subst hre
     have HRW : Hid (rowM F k = F[k]) := Lib.hid (by unfold rowM; rw [List.getElem?_eq_getElem hkl]; rfl)
     have hr33 := HF.out.rows k
     rw [HRW.out] at hr33
     obtain ⟨R, hR⟩ : ∃ x, F[k] = x := ⟨_, rfl⟩
     rw [hR] at HRW z3 hr0 hrc hr33
     have HR0 := Lib.hid hr0
     have HRC := Lib.hid hrc
     have hki : (k : Int) < F.length := by omega
     have hfci : (F.length : Int) ≤ fc := by have := hfc; omega
     obtain ⟨sa, sc, rfl⟩ := HM5.out.own.slice
     have z0 := HM5.out.blk.cell 0 _ rfl
     have z4 := HM5.out.blk.cell 3 _ rfl
     have z1 := HX5.out.cell 1 _ rfl
     obtain ⟨i0, hi, hz0, hz1, hz2⟩ := info_parts info_Op
     have h5l := HL5.out
     clear hfrec hcs hfcl hry hr0 hrc hR hfb
     refine wp_region_lex (fun w' => w'.cell? ⟨M, 0, none⟩ = some (.slice sa s5.1.length sc) ∧ w'.cell? ⟨M, 3, none⟩ = some (.slice (some ⟨fb, foff, none⟩) F.length fc) ∧ w'.cell? ⟨X, 1, none⟩ = some (.int .i64 k) ∧ w'.cell? ⟨fb, foff + k, none⟩ = some (.slice ra R.length rc)) [0, 1, 2, 3, 4, 5, 6, 7, 8, 9, 10, 11, 12, 13] [14, 15, 16, 17, 18] (by kernel_rfl) (by kernel_rfl) rfl (fun _ _ hx h => ⟨hx.cell h.1, hx.cell h.2.1, hx.cell h.2.2.1, hx.cell h.2.2.2⟩) ⟨z0, z4, z1, z3⟩ ?_
     intro Q' hQ'
     simp only [pickOps, List.flatMap_cons, List.flatMap_nil, List.drop_succ_cons, List.drop_zero, List.take_succ_cons, List.take_zero, List.cons_append, List.nil_append, List.append_nil]
     repeat (first
      | (refine wpReads_skip (by rfl) ?_; (try simp only [Act.put, List.setIfInBounds_toArray, List.set_cons_zero, List.set_cons_succ]))
      | (refine wpReads_cons ?_ (by rfl) (by rfl) ?_ ?_; rotate_left; (intro wz hz; (try dsimp only at hz); go_simp; try with_reducible rfl); (try simp only [Act.put, List.setIfInBounds_toArray, List.set_cons_zero, List.set_cons_succ]))
      | (refine wpReads_any ?_ (by rfl) ?_ ?_; rotate_left; (intro wz; go_simp; try with_reducible rfl); (try simp only [Act.put, List.setIfInBounds_toArray, List.set_cons_zero, List.set_cons_succ])))
     refine wpReads_nil ?_
     go_wp2_with (at_builtin; refine stop_here ?_)
     refine go_on ?_
     refine wpList_app rfl _ _ 37 rfl 0 61 i0 _ 3 24 Try.underlying37 hi hz0 hz1 hz2 rfl (.slice sa s5.1.length sc) s5.1.length _ rfl (show w5.drew.ownsRow 0 61 3 (.slice sa s5.1.length sc) s5.1.length (opsV s5.1) from HM5.out.own.1) ra R.length rc (opsV R) rfl (opsV_len R) HR0.out HRC.out (opsV_one R) (by unfold maxLen; omega) (grow_ok (by omega)) (Nat.zero_le _) ?_
     intro v6 w6 k1 k20 _ k4
     have hm6 : Mods (fun b => (Value.slice sa s5.1.length sc).ownBlock = some b) w5 w6 := ((Mods.refl _ w5).drewN 1).grown k20 (fun b hb _ => hb)
     obtain ⟨y0, yf, T6, M6⟩ := HM5.out.grow (news := R) (v' := v6) (w2 := w6) k1 hm6 (k4.imp id (fun k4 b hb => by rw [k4] at hb; have := Option.some.inj hb; simp at this; omega))
     obtain ⟨s6a, c6a, rfl⟩ := owns_slice k1
     have HK6 := Lib.hid (HK5.out.turn T6 (by unfold MkC; omega))
     have HT6 := Lib.hid (HT5.out.trans T6 (fun _ h => h))
     have HM6 : Hid (MkAt _ _ M _ (leafP F k s5).1 ((op : Nat) : Int) ((leafP F k s5).2 : Nat) (.slice (some ⟨fb, foff, none⟩) F.length fc)) := Lib.hid (by unfold leafP; rw [Int.toNat_natCast, HRW.out]; exact M6)
     have HX6 := Lib.hid (HX5.out.turn T6 (by unfold MkC; omega))
     have HE6 : Hid (stepP F t k b op s = id (leafP F k s5)) := Lib.hid (by rw [HSE.out, HNL.out]; rfl)
     clear T6 M6 HK5 HT5 HM5 HX5 hm6 k1 k20 k4 z0 z1 z3 z4
     generalize leafP F k s5 = s6 at *
     have w0' := HX6.out.cell 0 _ rfl
     go_wp2
     go_roundw
     case rel => exact ⟨j + 1, _, _, stepP F t k b op s, hlt, by go_num, HK6.out, HT6.out, by rw [HE6.out]; exact HM6.out, by have := HCn.out; have := HCC.out; omega, by have := HLn.out; have := HCC.out; omega, HEC.out⟩
     case measure => simp [intOf]; omega
    ·
     have hzi : (0 : Int) < m := by omega
     have HNL := Lib.hid (show b.isNil = false by rw [HNL0.out, decide_eq_false hz])
     go_wp2_with fail
     generalize wr.alloc (.cells #[.int .i64 t, .int .i64 nd, .slice ya m yc] 51) = w5 at *
     have HK5 := HK2
     have HT5 := HT2
     have HM5 := HM2
     have HX5 := HX2
     clear HK2 HT2 HM2 HX2
     generalize ext q X 8 = q5 at *
     obtain ⟨vo5, hvo5⟩ : ∃ x, vo' = x := ⟨_, rfl⟩
     subst hvo5
     obtain ⟨s5, hs5⟩ : ∃ x, x = s := ⟨_, rfl⟩
     have HSE : Hid (stepP F t nd b op s = id (if b.isNil then leafP F nd s5 else rowP F b op s5)) := by rw [hs5]; exact HSE0
     rw [← hs5] at HM5 HL5
     clear hs5
     refine (HROW.out w0 _ q5 M _ _ _ b s5.1 (op) s5.2 HY.out HSb.out HLJ.out.2.1 HMF.out HK5.out HM5.out (by have := HL5.out; omega) (by have := HL5.out; omega) (by have := HL5.out; omega)).mono ?_
     rintro e w6 ⟨rfl, q6, vo6, T6, M6⟩
     have HK6 := Lib.hid (HK5.out.turn T6 (by unfold MkC; omega))
     have HT6 := Lib.hid (HT5.out.trans T6 (fun _ h => h))
     have HM6 : Hid (MkAt w6 q6 M vo6 (rowP F b (op) s5).1 ((op : Nat) : Int) ((rowP F b (op) s5).2 : Nat) (.slice fa F.length fc)) := Lib.hid M6
     have HX6 := Lib.hid (HX5.out.turn T6 (by unfold MkC; omega))
     have HE6 : Hid (stepP F t nd b op s = id (rowP F b (op) s5)) := Lib.hid (by rw [HSE.out, HNL.out]; rfl)
     clear T6 M6 HK5 HT5 HM5 HX5
     generalize rowP F b (op) s5 = s6 at *
     have w0' := HX6.out.cell 0 _ rfl
     go_wp2
     go_roundw
     case rel => exact ⟨j + 1, _, _, stepP F t nd b op s, hlt, by go_num, HK6.out, HT6.out, by rw [HE6.out]; exact HM6.out, by have := HCn.out; have := HCC.out; omega, by have := HLn.out; have := HCC.out; omega, HEC.out⟩
     case measure => simp [intOf]; omega
  ·
   obtain rfl : j = l.items.length := by omega
   have e := HE.out
   rw [drop_end, rowP] at e
   subst e
   go_wp2
   go_end0
   exact ⟨rfl, _, _, HT.out, HM.out⟩
theorem erow_any {F : List (List GOp)} (hF : FOk F) : ∀ D, ERowOk F D
 | 0 => erow_zero F
 | D + 1 => erow_succ hF (erow_any hF D)
end Go.Proofs.Ytbmbfifempkhgaa

/- nest.Check. -/
namespace Go.Proofs.Ytbmbfifempkhgaa
open Go.RowKit
set_option maxRecDepth 100000 in
theorem ncheck_any (D : Nat) (w : World) (v : Value) (l : Nest) (hv : HasNestD D w v l) (hs : NSized l) : Calls Try.prog 40 #[v] w (Tells (.int .i64 (nestCheckE l)) w) := by
 obtain ⟨ao, cap, rfl⟩ := nestD_slice D hv
 have hbK := below_alloc w (.cells #[.int .i64 0] 145)
 have hK : Blk (w.alloc (.cells #[.int .i64 0] 145)) (ext (fun _ => 0) w.heap.size 1) 1 w.heap.size 145 #[.int .i64 ((0 : Nat) : Int)] := ⟨heap_alloc_new w _, ext_new (Nat.le_refl _)⟩
 have HK := Lib.hid hK
 have HKe := Lib.hid ((Kept.start w).of_below 1 hbK)
 have HV := Lib.hid hv
 have HS := Lib.hid hs
 obtain ⟨E, hE⟩ : ∃ E, nestCheckE l = E := ⟨_, rfl⟩
 rw [hE]
 have HE := Lib.hid hE
 have hrow := Lib.hid (nrow_any D w _ (ext (fun _ => 0) w.heap.size 1) w.heap.size _ l 0 0 hv hs HKe.out hK (by omega) (by omega))
 clear hbK hK hv hs hE HK
 go_enter Try.func40, Try.ntmps40
 go_wp2_with fail
 refine (hrow.out).mono ?_
 rintro e w2 ⟨rfl, o2, T, hK2⟩
 have HK2 := Lib.hid (HKe.out.turn T (by decide))
 clear T hK2 hrow HKe
 obtain ⟨r, hr⟩ : ∃ r, nestE l 0 0 = r := ⟨_, rfl⟩
 obtain ⟨r1, r2⟩ := r
 rw [hr]
 have HR := Lib.hid hr
 clear hr
 by_cases h0 : r1 = 0
 ·
  subst h0
  have HTM := Lib.hid (times_of l 0 0 (by rw [HR.out]))
  go_wp2_with fail
  refine (ntotal_any D _ _ l (nestD_below D HV.out HK2.out.below) HS.out HTM.out).mono ?_
  rintro e w3 ⟨rfl, hb3⟩
  have HB3 := Lib.hid (HK2.out.below.trans (hb3.mono HK2.out.size))
  clear hb3
  obtain ⟨tt, ht⟩ : ∃ x, totalP l 0 = x := ⟨_, rfl⟩
  rw [ht]
  have HT := Lib.hid ht
  clear ht
  by_cases h1 : 2048 < tt
  ·
   have e : E = 5 := by rw [← HE.out, nestCheckE, HR.out, if_neg (by simp), HT.out, if_pos h1]
   subst e
   go_wp2
   go_ret
   exact ⟨rfl, HB3.out⟩
  ·
   have e : E = 0 := by rw [← HE.out, nestCheckE, HR.out, if_neg (by simp), HT.out, if_neg h1]
   subst e
   go_wp2
   go_ret
   exact ⟨rfl, HB3.out⟩
 ·
  have e : E = r1 := by rw [← HE.out, nestCheckE, HR.out, if_pos (by simpa using h0)]
  subst e
  go_wp2
  go_ret
  exact ⟨rfl, HK2.out.below⟩
end Go.Proofs.Ytbmbfifempkhgaa

/- emit's Make. -/
namespace Go.Proofs.Ytbmbfifempkhgaa
open Go.RowKit
structure TailO {α : Type} (hd : α → List Value) (tl : α → List Int) (w : World) (o : Col) (c d : Nat) (ty sz : Nat) (v : Value) (ps : List (α × Value)) : Prop where
 tail : TailAt hd tl w o c d ty sz v ps
 rows : ∀ x ∈ ps, Own w o d 3 1 x.2 (tl x.1).length (ivs (tl x.1))
 dis : ∀ (i j B : Nat) (x y : α × Value), i < j → ps[i]? = some x → ps[j]? = some y → x.2.ownBlock = some B → y.2.ownBlock ≠ some B
section
variable {α : Type} {hd : α → List Value} {tl : α → List Int} {w w' w2 : World} {o o' : Col} {C : Nat → Prop} {c d ty sz : Nat} {v : Value} {ps : List (α × Value)}
theorem TailO.turn (h : TailO hd tl w o c d ty sz v ps) (T : Turn o o' C w w') (hc : ¬ C c) (hdd : ¬ C d) : TailO hd tl w' o' c d ty sz v ps := ⟨h.tail.turn T hc hdd, fun x hx => (h.rows x hx).turn T hdd, h.dis⟩
theorem TailO.nil : TailO hd tl w o c d ty sz (.slice none 0 0) [] := ⟨TailAt.nil, (fun _ h => by cases h), fun _ _ _ _ _ _ h => by cases h⟩
theorem TailO.recol (h : TailO hd tl w o c d ty sz v ps) (ho : ∀ k, o k = c ∨ o k = d → o' k = o k) : TailO hd tl w o' c d ty sz v ps :=
 have hr : ∀ x ∈ ps, Own w o' d 3 1 x.2 (tl x.1).length (ivs (tl x.1)) := fun x hx => ⟨(h.rows x hx).1, fun k hk => (ho k (.inr ((h.rows x hx).2 k hk))).trans ((h.rows x hx).2 k hk)⟩
 ⟨⟨⟨h.tail.own.1, fun k hk => (ho k (.inl (h.tail.own.2 k hk))).trans (h.tail.own.2 k hk)⟩, fun x hx => (hr x hx).vals⟩, hr, h.dis⟩
theorem TailO.grow {B i e : Nat} {t : TypeId} {cs : Array Value} {a : α} {y v' : Value} (h : TailO hd tl w o c d ty sz v ps) (hB : Blk w o e B t cs) (hce : c ≠ e) (hde : d ≠ e) (hcd : c ≠ d) (hi : i < cs.size) (hy : Own w o d 3 1 y (tl a).length (ivs (tl a)))
  (hf : ∀ x ∈ ps, ∀ b, x.2.ownBlock = some b → y.ownBlock ≠ some b)
  (k1 : w2.ownsRow 0 ty sz v' (ps.length + 1) (tailV hd ps ++ (hd a ++ [y]))) (k2 : Mods (fun b => v.ownBlock = some b) w w2) (k4 : v'.ownBlock = v.ownBlock ∨ ∀ b, v'.ownBlock = some b → w.heap.size ≤ b) :
  w2.cell? ⟨B, i, none⟩ = some cs[i] ∧ w2.frozen? ⟨B, i, none⟩ = false ∧ Turn o (ext o w.heap.size c) (fun x => x = c ∨ x = e) w (w2.setCell ⟨B, i, none⟩ v') ∧ TailO hd tl (w2.setCell ⟨B, i, none⟩ v') (ext o w.heap.size c) c d ty sz v' (ps ++ [(a, y)]) ∧ Blk (w2.setCell ⟨B, i, none⟩ v') (ext o w.heap.size c) e B t (cs.setIfInBounds i v') := by
 obtain ⟨h1, h2, h3, h4, h5⟩ := h.tail.grow hB hce hde hcd hi hy.vals k1 k2 k4
 have hC : ¬ (fun x => x = c ∨ x = e) d := fun h => by rcases h with h | h; exact hcd h.symm; exact hde h
 refine ⟨h1, h2, h3, ⟨h4, fun x hx => ?_, fun i j B x z hij hx hz => ?_⟩, h5⟩
 ·
  rcases List.mem_append.1 hx with hx | hx
  ·
   exact (h.rows x hx).turn h3 hC
  ·
   obtain rfl : x = (a, y) := by simpa using hx
   exact hy.turn h3 hC
 ·
  have hjl := (List.getElem?_eq_some_iff.1 hz).1
  rw [List.length_append, List.length_cons, List.length_nil] at hjl
  rw [List.getElem?_append_left (by omega)] at hx
  by_cases hj : j < ps.length
  ·
   rw [List.getElem?_append_left hj] at hz
   exact h.dis i j B x z hij hx hz
  ·
   obtain rfl : j = ps.length := by omega
   rw [List.getElem?_append_right (Nat.le_refl _), Nat.sub_self] at hz
   obtain rfl : (a, y) = z := by simpa using hz
   exact hf x (List.mem_of_getElem? hx) B
end
def OwnProg (w : World) (B : Nat) (v : Value) (P : GProg) : Prop := ∃ (o : Col) (vp vl vo : Value) (ps : List (GPart × Value)) (ls : List (GLine × Value)), v = .agg #[.int .i64 P.memory, .int .i64 P.counters, .int .i64 P.ins, .int .i64 P.outs, vp, vl, vo] ∧ TailO partHd GPart.params w o 4 5 108 2 vp ps ∧ ps.map Prod.fst = P.parts ∧ TailO lineHd GLine.start w o 6 7 87 3 vl ls ∧ ls.map Prod.fst = P.lines ∧ Own w o 8 61 3 vo P.ops.length (opsV P.ops) ∧ ∀ k, k < B → o k = 0
theorem OwnProg.has {w w'' : World} {B : Nat} {v : Value} {P : GProg} (h : OwnProg w B v P) (m : Mods (fun k => k < B) w w'') : HasProg w'' v P := by
 obtain ⟨o, vp, vl, vo, ps, ls, h0, h1, h2, h3, h4, h5, h6⟩ := h
 have T : Turn o o (fun x => x = 0) w w'' := ⟨m.mono (fun k _ e => h6 k e), fun _ _ => rfl⟩
 refine ⟨vp, vl, vo, h0, ?_, ?_, Own.row (h5.turn T (by decide))⟩
 ·
  rw [← h2]; exact TailAt.recs (show ∀ a, (partHd a).length + 1 = 2 from fun _ => rfl) (h1.tail.turn T (by decide) (by decide))
 ·
  rw [← h4]; exact TailAt.recs (show ∀ a, (lineHd a).length + 1 = 3 from fun _ => rfl) (h3.tail.turn T (by decide) (by decide))
theorem ownProg_zero (w : World) (B : Nat) : OwnProg w B (.agg #[.int .i64 0, .int .i64 0, .int .i64 0, .int .i64 0, .slice none 0 0, .slice none 0 0, .slice none 0 0]) .zero :=
 ⟨fun _ => 0, _, _, _, [], [], rfl, TailO.nil, rfl, TailO.nil, rfl, Own.nil _ _ _ _ _, fun _ _ => rfl⟩
def MakeRetO (w : World) (g : GGraph) (p : GPlan) (l : Nest) (e : Ending) (w' : World) : Prop := ∃ v, e = .returned (.tuple #[v, .int .i64 (makeE g p l)]) ∧ OwnProg w' w.heap.size v (makeP g p l) ∧ Below w.heap.size w w'
def MakeRetF (w : World) (g : GGraph) (p : GPlan) (l : Nest) (e : Ending) (w' : World) : Prop := ∃ v, e = .returned (.tuple #[v, .int .i64 (makeE g p l)]) ∧ (∀ w'', Mods (fun k => k < w.heap.size) w' w'' → HasProg w'' v (makeP g p l)) ∧ Below w.heap.size w w'
def MakeRet (w : World) (g : GGraph) (p : GPlan) (l : Nest) (e : Ending) (w' : World) : Prop := ∃ v, e = .returned (.tuple #[v, .int .i64 (makeE g p l)]) ∧ HasProg w' v (makeP g p l) ∧ Below w.heap.size w w'
theorem info_Part : (Try.prog.info? 108).map (fun i => (i.zero, i.size, i.bytes)) = some (some (.agg #[.int .u8 0, .slice none 0 0]), 2, 32) := by kernel_rfl
theorem info_Line : (Try.prog.info? 87).map (fun i => (i.zero, i.size, i.bytes)) = some (some (.agg #[.int .i64 0, .int .i64 0, .slice none 0 0]), 3, 40) := by kernel_rfl
set_option maxRecDepth 100000 in
set_option maxHeartbeats 4000000 in
theorem make_own (D : Nat) (w : World) (vg vp v : Value) (g : GGraph) (p : GPlan) (l : Nest) (hg : HasGraph w vg g) (hp : HasPlan w vp p) (hv : HasNestD D w v l) (hgs : GSized g) (hns : NSized l) : Calls Try.prog 13 #[vg, vp, v] w (MakeRetO w g p l) := by
 obtain ⟨va, ve, vi, vo, rfl, ra, re, ri, ro⟩ := hg.shape
 obtain ⟨vr, rfl, rr⟩ := hp
 obtain ⟨aa, ac, rfl⟩ := ra.slice
 obtain ⟨ae, ec, rfl⟩ := re.slice
 obtain ⟨ai, ic, rfl⟩ := ri.slice
 obtain ⟨ao, oc, rfl⟩ := ro.slice
 obtain ⟨ar, rc, rfl⟩ := rr.slice
 obtain ⟨la, lc, rfl⟩ := nestD_slice D hv
 have RA := Lib.hid ra
 have RE := Lib.hid re
 have RR := Lib.hid rr
 have HG := Lib.hid hg
 have HP : Hid (HasPlan w (.agg #[.slice ar p.regions.length rc, .int .i64 p.total]) p) := Lib.hid ⟨_, rfl, rr⟩
 have HV := Lib.hid hv
 have HGS := Lib.hid hgs
 have HNS := Lib.hid hns
 clear ra re ri ro rr hg hv hgs hns
 have hb1 := below_alloc w (.cells #[.string g.name, .slice aa g.actors.length ac, .slice ae g.edges.length ec, .slice ai g.ins.length ic, .slice ao g.outs.length oc] 26)
 have T1 := Turn.of_below (fun _ => 0) 9 hb1
 have hG : Blk _ (ext (fun _ => 0) w.heap.size 9) 9 _ _ _ := ⟨heap_alloc_new w (.cells #[.string g.name, .slice aa g.actors.length ac, .slice ae g.edges.length ec, .slice ai g.ins.length ic, .slice ao g.outs.length oc] 26), ext_new (Nat.le_refl _)⟩
 have K1 := (Kept.start w).turn T1 (fun h => h)
 generalize hW1 : w.alloc (.cells #[.string g.name, .slice aa g.actors.length ac, .slice ae g.edges.length ec, .slice ai g.ins.length ic, .slice ao g.outs.length oc] 26) = W1 at *
 have hs1 : W1.heap.size = w.heap.size + 1 := by rw [← hW1]; simp
 have T2 := Turn.of_below (ext (fun _ => 0) w.heap.size 9) 9 (below_alloc W1 (.cells #[.slice ar p.regions.length rc, .int .i64 p.total] 29))
 have hP : Blk _ (ext (ext (fun _ => 0) w.heap.size 9) W1.heap.size 9) 9 _ _ _ := ⟨heap_alloc_new W1 (.cells #[.slice ar p.regions.length rc, .int .i64 p.total] 29), ext_new (Nat.le_refl _)⟩
 generalize ext (fun _ => 0) w.heap.size 9 = q0 at *
 have K2 := K1.turn T2 (fun h => h)
 have hG2 := hG.turn T2 (fun h => h)
 generalize hW2 : W1.alloc (.cells #[.slice ar p.regions.length rc, .int .i64 p.total] 29) = W2 at *
 have hs2 : W2.heap.size = w.heap.size + 2 := by rw [← hW2, World.size_alloc, hs1]
 generalize ext q0 W1.heap.size 9 = q1 at *
 rw [hs1] at hP
 have T3 := Turn.of_below q1 9 (below_alloc W2 (.cells progZ 39))
 have hR : Blk _ (ext q1 W2.heap.size 9) 9 _ _ _ := ⟨heap_alloc_new W2 (.cells progZ 39), ext_new (Nat.le_refl _)⟩
 have HK := Lib.hid (K2.turn T3 (fun h => h))
 have HGB := Lib.hid (hG2.turn T3 (fun h => h))
 have HPB := Lib.hid (hP.turn T3 (fun h => h))
 rw [hs2] at hR HK HGB HPB
 have HR := Lib.hid hR
 generalize ext q1 (w.heap.size + 2) 9 = q at *
 have y0 := HGB.out.cell 0 _ rfl
 have y1 := HGB.out.cell 1 _ rfl
 have y2 := HGB.out.cell 2 _ rfl
 have y3 := HGB.out.cell 3 _ rfl
 have y4 := HGB.out.cell 4 _ rfl
 clear hb1 T1 hG K1 T2 hP K2 hG2 T3 hR
 go_enter Try.func13, Try.ntmps13
 go_wp2_with fail
 clear hW1 hs1 hW2 hs2 y0 y1 y2 y3 y4
 refine (gcheck_any _ _ g (HG.out.below HK.out.below) HGS.out).mono ?_
 rintro e w4 ⟨rfl, hb4⟩
 have T9 := fun q => Turn.of_below q 10 hb4
 replace HK := Lib.hid (HK.out.turn (T9 _) (fun h => h))
 replace HGB := Lib.hid (HGB.out.turn (T9 _) (fun h => h))
 replace HPB := Lib.hid (HPB.out.turn (T9 _) (fun h => h))
 replace HR := Lib.hid (HR.out.turn (T9 _) (fun h => h))
 clear T9 hb4
 by_cases h1 : checkE g = 0
 ·
  rw [h1]
  have HC1 := Lib.hid h1
  clear h1
  go_wp2_with fail
  refine (ncheck_any D _ _ l (nestD_below D HV.out HK.out.below) HNS.out).mono ?_
  rintro e w5 ⟨rfl, hb5⟩
  have T9 := fun q => Turn.of_below q 10 hb5
  replace HK := Lib.hid (HK.out.turn (T9 _) (fun h => h))
  replace HGB := Lib.hid (HGB.out.turn (T9 _) (fun h => h))
  replace HPB := Lib.hid (HPB.out.turn (T9 _) (fun h => h))
  replace HR := Lib.hid (HR.out.turn (T9 _) (fun h => h))
  clear T9 hb5
  by_cases h2 : nestCheckE l = 0
  ·
   rw [h2]
   have HC2 := Lib.hid h2
   clear h2
   have y0 := HGB.out.cell 0 _ rfl
   have y1 := HGB.out.cell 1 _ rfl
   have y2 := HGB.out.cell 2 _ rfl
   have y3 := HGB.out.cell 3 _ rfl
   have y4 := HGB.out.cell 4 _ rfl
   have y5 := HPB.out.cell 0 _ rfl
   have y6 := HPB.out.cell 1 _ rfl
   go_wp2_with fail
   refine (strange_any D _ _ l g.actors.length (nestD_below D HV.out HK.out.below) HNS.out).mono ?_
   rintro e w6 ⟨rfl, hb6⟩
   clear y0 y1 y2 y3 y4 y5 y6
   have T9 := fun q => Turn.of_below q 10 hb6
   replace HK := Lib.hid (HK.out.turn (T9 _) (fun h => h))
   replace HGB := Lib.hid (HGB.out.turn (T9 _) (fun h => h))
   replace HPB := Lib.hid (HPB.out.turn (T9 _) (fun h => h))
   replace HR := Lib.hid (HR.out.turn (T9 _) (fun h => h))
   clear T9 hb6
   by_cases h3 : strangeP l g.actors.length = false
   ·
    rw [h3]
    have HC3 := Lib.hid h3
    clear h3
    have y0 := HGB.out.cell 0 _ rfl
    have y1 := HGB.out.cell 1 _ rfl
    have y2 := HGB.out.cell 2 _ rfl
    have y3 := HGB.out.cell 3 _ rfl
    have y4 := HGB.out.cell 4 _ rfl
    have y5 := HPB.out.cell 0 _ rfl
    have y6 := HPB.out.cell 1 _ rfl
    go_wp2_with fail
    refine (fits_any _ _ _ g p (HG.out.below HK.out.below) (HP.out.below HK.out.below) (by have := (headE_parts (checkE_parts HC1.out).1).2.2.1; omega) (fun e he => by have := starts_of HC1.out e he; omega)).mono ?_
    rintro e w7 ⟨rfl, hb7⟩
    clear y0 y1 y2 y3 y4 y5 y6
    have T9 := fun q => Turn.of_below q 10 hb7
    replace HK := Lib.hid (HK.out.turn (T9 _) (fun h => h))
    replace HGB := Lib.hid (HGB.out.turn (T9 _) (fun h => h))
    replace HPB := Lib.hid (HPB.out.turn (T9 _) (fun h => h))
    replace HR := Lib.hid (HR.out.turn (T9 _) (fun h => h))
    clear T9 hb7
    by_cases h4 : fitsP g p = true
    ·
     rw [h4]
     have HC4 := Lib.hid h4
     clear h4
     have HFO := Lib.hid (firOk_of HC1.out HGS.out)
     have y0 := HGB.out.cell 0 _ rfl
     have y1 := HGB.out.cell 1 _ rfl
     have y2 := HGB.out.cell 2 _ rfl
     have y3 := HGB.out.cell 3 _ rfl
     have y4 := HGB.out.cell 4 _ rfl
     have y5 := HPB.out.cell 0 _ rfl
     have y6 := HPB.out.cell 1 _ rfl
     go_wp2_with fail
     refine (firings_any _ _ g (HG.out.below HK.out.below) HFO.out).mono ?_
     rintro e w8 ⟨vf, vs, o8, rfl, K8, M8⟩
     clear y0 y1 y2 y3 y4 y5 y6
     have hb8 := K8.below
     have T9 := fun q => Turn.of_below q 10 hb8
     replace HK := Lib.hid (HK.out.turn (T9 _) (fun h => h))
     replace HGB := Lib.hid (HGB.out.turn (T9 _) (fun h => h))
     replace HPB := Lib.hid (HPB.out.turn (T9 _) (fun h => h))
     replace HR := Lib.hid (HR.out.turn (T9 _) (fun h => h))
     clear T9 hb8
     have HF := Lib.hid M8.has
     clear K8 M8
     obtain ⟨q8, hq8⟩ : ∃ x : Col, x = ext (ext (ext (ext (ext q (W2.alloc (Obj.cells progZ 39)).heap.size 10) w4.heap.size 10) w5.heap.size 10) w6.heap.size 10) w7.heap.size 10 := ⟨_, rfl⟩
     rw [← hq8] at HK HGB HPB HR
     clear hq8
     obtain ⟨fa, fc, hvf⟩ := HF.out.slice
     subst hvf
     obtain ⟨M, hM⟩ : ∃ x, w8.heap.size = x := ⟨_, rfl⟩
     have hbM := below_alloc w8 (.cells #[.slice none 0 0, .int .i64 0, .int .i64 0, .slice fa (firP g).length fc] 104)
     have HMB : Hid (MkAt _ (ext (fun _ => 0) M 1) M _ [] ((0 : Nat) : Int) ((0 : Nat) : Int) (.slice fa (firP g).length fc)) := Lib.hid ⟨⟨by rw [← hM]; exact heap_alloc_new w8 (.cells #[.slice none 0 0, .int .i64 0, .int .i64 0, .slice fa (firP g).length fc] 104), ext_new (Nat.le_refl _)⟩, Own.nil _ _ _ _ _⟩
     have HKM := Lib.hid ((Kept.start w8).turn (Turn.of_below (fun _ => 0) 1 hbM) (fun h => h))
     rw [hM] at HKM
     obtain ⟨nc1, nc2, nc3⟩ := nest_facts HC2.out
     have HN1 := Lib.hid nc1
     have HLF : Hid (LeafOk (firP g).length l) := Lib.hid (by rw [firP_len]; exact leafOk_strange l _ nc3 HC3.out)
     have HFF : Hid (FOk (firP g)) := Lib.hid ⟨firP_row HFO.out, by rw [firP_len]; have := HFO.out.actors; omega⟩
     have HRL := Lib.hid (rowP_len HFF.out.rows l 0 ([], 0))
     clear hbM
     go_wp2_with fail
     refine (erow_any HFF.out D w8 _ _ M _ _ _ l [] 0 0 (nestD_below D HV.out HK.out.below) HNS.out HLF.out HF.out (by rw [hM]; exact HKM.out) HMB.out (by have := HN1.out; simp only [List.length_nil]; omega) (by omega) (by omega)).mono ?_
     rintro e w9 ⟨rfl, o9, vo9, T9, M9⟩
     have HKN := Lib.hid (HKM.out.turn T9 (by unfold MkC; omega))
     clear T9 HKM HMB
     obtain ⟨rw9, hrw9⟩ : ∃ x, rowP (firP g) l 0 ([], 0) = x := ⟨_, rfl⟩
     rw [hrw9] at M9 HRL
     have HRW := Lib.hid hrw9
     have HM9 := Lib.hid M9
     clear M9 hrw9
     have hrl : rw9.1.length ≤ 10000000 := by have := HRL.out; have := HN1.out; simp only [List.length_nil] at *; omega
     go_wp2_with fail
     refine (put_any w9 o9 M vo9 _ rw9.1 ((0 : Nat) : Int) rw9.2 0 0 0 HM9.out (by omega)).mono ?_
     rintro e wA ⟨rfl, oA, voA, TA, MA⟩
     have hKA := HKN.out.turn TA (by unfold MkC; omega)
     have hbA := hKA.below
     have hRM : w.heap.size + 2 < M := by rw [← hM]; exact HR.out.lt
     have hOB : ∀ k, voA.ownBlock = some k → w.heap.size + 2 < k := fun k hk => by
      by_cases hlt : k < M
      ·
       have e1 := hKA.old k hlt
       have e2 := MA.own.2 k hk
       omega
      ·
       omega
     clear hKA
     rw [← hM] at hbA
     have T9 := fun q => Turn.of_below q 10 hbA
     replace HK := Lib.hid (HK.out.turn (T9 _) (fun h => h))
     replace HGB := Lib.hid (HGB.out.turn (T9 _) (fun h => h))
     replace HPB := Lib.hid (HPB.out.turn (T9 _) (fun h => h))
     replace HR := Lib.hid (HR.out.turn (T9 _) (fun h => h))
     clear T9 hbA
     obtain ⟨OPS, hOPS⟩ : ∃ x : List GOp, rw9.1 ++ [⟨0, 0, 0⟩] = x := ⟨_, rfl⟩
     rw [hOPS] at MA
     have HOP := Lib.hid hOPS
     obtain ⟨oa, oc', rfl⟩ := MA.own.slice
     have HOX := Lib.hid MA.own.1
     have HOB : Hid (∀ ad, oa = some ad → w.heap.size + 2 < ad.block) := Lib.hid fun ad e => hOB ad.block (by rw [e]; rfl)
     clear hOB hRM
     have m0 := MA.blk.cell 0 _ rfl
     have m2 := MA.blk.cell 2 _ rfl
     have y0 := HGB.out.cell 0 _ rfl
     have y1 := HGB.out.cell 1 _ rfl
     have y2 := HGB.out.cell 2 _ rfl
     have y3 := HGB.out.cell 3 _ rfl
     have y4 := HGB.out.cell 4 _ rfl
     have y5 := HPB.out.cell 0 _ rfl
     have y6 := HPB.out.cell 1 _ rfl
     clear TA MA HKN HM9 hM HF HLF HFF HRL hOPS y0 y2 y5
     go_wp2_with fail
     refine wp_region_lex (fun w' => w'.cell? ⟨w.heap.size + 1, 1, none⟩ = some (.int .i64 p.total) ∧ w'.cell? ⟨M, 2, none⟩ = some (.int .i64 rw9.2) ∧ w'.cell? ⟨w.heap.size, 3, none⟩ = some (.slice ai g.ins.length ic) ∧ w'.cell? ⟨w.heap.size, 4, none⟩ = some (.slice ao g.outs.length oc) ∧ w'.cell? ⟨M, 0, none⟩ = some (.slice oa OPS.length oc')) [0, 1, 2, 3, 4, 5, 6, 7, 8, 9, 10, 11, 12, 13, 14, 15, 16, 17, 18] [19, 20] (by kernel_rfl) (by kernel_rfl) rfl (fun _ _ hx h => ⟨hx.cell h.1, hx.cell h.2.1, hx.cell h.2.2.1, hx.cell h.2.2.2.1, hx.cell h.2.2.2.2⟩) ⟨y6, m2, y3, y4, m0⟩ ?_
     intro Q' hQ'
     simp only [pickOps, List.flatMap_cons, List.flatMap_nil, List.drop_succ_cons, List.drop_zero, List.take_succ_cons, List.take_zero, List.cons_append, List.nil_append, List.append_nil]
     repeat (first
      | (refine wpReads_skip (by rfl) ?_; (try simp only [Act.put, List.setIfInBounds_toArray, List.set_cons_zero, List.set_cons_succ]))
      | (refine wpReads_cons ?_ (by rfl) (by rfl) ?_ ?_; rotate_left; (intro wz hz; (try dsimp only at hz); go_simp; try with_reducible rfl); (try simp only [Act.put, List.setIfInBounds_toArray, List.set_cons_zero, List.set_cons_succ]))
      | (refine wpReads_any ?_ (by rfl) ?_ ?_; rotate_left; (intro wz; go_simp; try with_reducible rfl); (try simp only [Act.put, List.setIfInBounds_toArray, List.set_cons_zero, List.set_cons_succ])))
     refine wpReads_nil ?_
     clear y3 y4 y6 m0 m2
     have y1n := ca (o := .cells #[.int .i64 p.total, .int .i64 rw9.2, .int .i64 g.ins.length, .int .i64 g.outs.length, .slice none 0 0, .slice none 0 0, .slice oa OPS.length oc'] 39) y1
     go_wp2_with fail
     have hbP := below_dr (n := 1) (below_alloc wA (.cells #[.int .i64 p.total, .int .i64 rw9.2, .int .i64 g.ins.length, .int .i64 g.outs.length, .slice none 0 0, .slice none 0 0, .slice oa OPS.length oc'] 39))
     have HKP := Lib.hid ((Kept.start wA).turn (Turn.of_below (fun _ => 0) 3 hbP) (fun h => h))
     have HPR : Hid (Blk ((wA.alloc (.cells #[.int .i64 p.total, .int .i64 rw9.2, .int .i64 g.ins.length, .int .i64 g.outs.length, .slice none 0 0, .slice none 0 0, .slice oa OPS.length oc'] 39)).drewN 1) (ext (fun _ => 0) wA.heap.size 3) 3 wA.heap.size 39 _) := Lib.hid ⟨heap_alloc_new wA _, ext_new (Nat.le_refl _)⟩
     clear hbP y1 y1n
     obtain ⟨n, hn⟩ : ∃ n, g.actors.length = n := ⟨_, rfl⟩
     have HN := Lib.hid hn
     have hn32 := HFO.out.actors
     rw [hn] at hn32 ⊢
     clear hn
     obtain ⟨PB, hPB⟩ : ∃ x, wA.heap.size = x := ⟨_, rfl⟩
     rw [hPB] at HKP HPR ⊢
     go_loopw [72] (fun i wl => ∃ (j : Nat) (q : Col) (vp : Value) (ps : List (GPart × Value)), j ≤ n ∧ i = .int .i64 j ∧ Kept PB q wA wl ∧ TailO partHd GPart.params wl q 4 5 108 2 vp ps ∧ ps.map Prod.fst = (partsP g.actors).take j ∧ Blk wl q 3 PB 39 #[.int .i64 p.total, .int .i64 rw9.2, .int .i64 g.ins.length, .int .i64 g.outs.length, vp, .slice none 0 0, .slice oa OPS.length oc']) (fun i _ => n - (intOf i).toNat)
     case atStart => exact ⟨0, _, _, [], Nat.zero_le _, rfl, HKP.out, TailO.nil, rfl, HPR.out⟩
     case round =>
      clear HKP HPR
      obtain ⟨j, q, vp, ps, hj, rfl, hK, hT, hps, hB⟩ := hrel
      have HKR := Lib.hid hK
      have HTA := Lib.hid hT
      have HPR := Lib.hid hB
      have HPS := Lib.hid hps
      clear hK hT hB hps
      have hwA : Below w.heap.size w wr := HK.out.below.trans (HKR.out.below.mono (by rw [← hPB]; exact HK.out.size))
      have HBW := Lib.hid hwA
      clear hwA
      by_cases hlt : j < n
      ·
       have hlti : (j : Int) < n := by omega
       have hlt2 : j < g.actors.length := by have := HN.out; omega
       obtain ⟨b0, off, rfl, hcap, hb0, hrec⟩ := RA.out.at (by omega)
       obtain ⟨cs, hcs, hPR, hcl⟩ := hrec j hlt2
       obtain ⟨xs, rfl, hst⟩ := hPR
       have c0 := cell_later HBW.out (hcl 0 (by omega))
       have c1 := cell_later HBW.out (hcl 1 (by omega))
       have c2 := cell_later HBW.out (hcl 2 (by omega))
       simp at c0 c1 c2
       have hcapi : (n : Int) ≤ ac := by have := HN.out; omega
       have hst2 : Has w xs (ivs g.actors[j].params) := hst
       obtain ⟨sa, sc, hxs⟩ := Ints.slice hst2
       subst hxs
       have HST := Lib.hid hst2
       have hplen := (HFO.out.good _ (List.getElem_mem hlt2)).2
       have HPJ : Hid ((partsP g.actors).take (j + 1) = (partsP g.actors).take j ++ [⟨g.actors[j].tag, g.actors[j].params⟩]) := Lib.hid (by rw [List.take_succ_eq_append_getElem (by simpa [partsP] using hlt2)]; simp [partsP])
       clear hcl hcs hrec hst hst2
       generalize g.actors[j] = a at *
       have hbX := below_alloc wr (.cells #[.string a.name, .int .u8 a.tag, .slice sa a.params.length sc] 57)
       have hX := heap_alloc_new wr (.cells #[.string a.name, .int .u8 a.tag, .slice sa a.params.length sc] 57)
       have x1 := cells_row _ _ hX 1 _ rfl
       have x2 := cells_row _ _ hX 2 _ rfl
       have TX := Turn.of_below q 8 hbX
       have HK2 := Lib.hid (HKR.out.turn TX (fun h => h))
       have HT2 := Lib.hid (HTA.out.turn TX (fun h => h) (fun h => h))
       have HP2 := Lib.hid (HPR.out.turn TX (fun h => h))
       have HBX := Lib.hid (HBW.out.trans (hbX.mono HBW.out.size))
       clear hbX hX TX HKR HTA HPR HBW
       obtain ⟨pa, pc, rfl⟩ := HT2.out.tail.own.slice
       have z4 := HP2.out.cell 4 _ rfl
       go_wp2_with fail
       clear c0 c1 c2
       refine wp_region_rest (fun w' => w'.cell? ⟨PB, 4, none⟩ = some (.slice pa ps.length pc) ∧ w'.cell? ⟨wr.heap.size, 1, none⟩ = some (.int .u8 a.tag) ∧ w'.cell? ⟨wr.heap.size, 2, none⟩ = some (.slice sa a.params.length sc)) [0, 1, 2, 3, 4, 5] [6, 7] 6 (by kernel_rfl) (by kernel_rfl) rfl ⟨z4, x1, x2⟩ ?_
       intro Q' hQ'
       simp only [pickOps, List.flatMap_cons, List.flatMap_nil, List.drop_succ_cons, List.drop_zero, List.take_succ_cons, List.take_zero, List.cons_append, List.nil_append, List.append_nil]
       repeat (first
        | (refine wpReads_skip (by rfl) ?_; (try simp only [Act.put, List.setIfInBounds_toArray, List.set_cons_zero, List.set_cons_succ]))
        | (refine wpReads_cons ?_ (by rfl) (by rfl) ?_ ?_; rotate_left; (intro wz hz; (try dsimp only at hz); go_simp; try with_reducible rfl); (try simp only [Act.put, List.setIfInBounds_toArray, List.set_cons_zero, List.set_cons_succ]))
        | (refine wpReads_any ?_ (by rfl) ?_ ?_; rotate_left; (intro wz; go_simp; try with_reducible rfl); (try simp only [Act.put, List.setIfInBounds_toArray, List.set_cons_zero, List.set_cons_succ])))
       refine wpReads_nil ?_
       refine wpAnyT_one (i := 6) (by kernel_rfl) ?_
       simp only [pickOps, List.flatMap_cons, List.flatMap_nil, List.drop_succ_cons, List.drop_zero, List.take_succ_cons, List.take_zero, List.cons_append, List.nil_append, List.append_nil]
       go_wp2_with fail
       refine (eown_any (o := fun _ => 0) (c := 0) _ sa _ sc a.params (HST.out.below (below_dr (n := 1) HBX.out)) hplen).mono ?_
       rintro e w5 ⟨y, rfl, k5, hb5⟩
       have T5 := fun q => (Turn.of_quiet q (w := wr.alloc (.cells #[.string a.name, .int .u8 a.tag, .slice sa a.params.length sc] 57)) ⟨1, rfl⟩).trans (Turn.of_below q 5 hb5) (fun _ h => h)
       have HK5 := Lib.hid (HK2.out.turn (T5 _) (fun h => h))
       have HT5 := Lib.hid (HT2.out.turn (T5 _) (fun h => h) (fun h => h))
       have HP5 := Lib.hid (HP2.out.turn (T5 _) (fun h => h))
       have HY5 := Lib.hid (Own.made (ext q wr.heap.size 8) 5 k5)
       have HFR := Lib.hid (fun (x : GPart × Value) (hx : x ∈ ps) (b : Nat) (hb : x.2.ownBlock = some b) (hy : y.ownBlock = some b) => by have h1 := ((HT2.out.rows x hx).1.lt b hb).2; have h2 := (k5.lt b hy).1; exact Nat.lt_irrefl _ (Nat.lt_of_lt_of_le h1 h2))
       obtain ⟨ya, yc, rfl⟩ := owns_slice k5
       have v4 := HP5.out.cell 4 _ rfl
       have v1 := cell_later hb5 (show (World.drewN _ 1).cell? _ = _ from x1)
       have v2 := cell_later hb5 (show (World.drewN _ 1).cell? _ = _ from x2)
       clear T5 k5 hb5 HK2 HT2 HP2 HBX x1 x2 z4
       go_wp2_with fail
       refine ⟨fun _ _ => ⟨v4, v1, v2⟩, ?_⟩
       refine wpAnyT_one (i := 7) (by kernel_rfl) ?_
       simp only [pickOps, List.flatMap_cons, List.flatMap_nil, List.drop_succ_cons, List.drop_zero, List.take_succ_cons, List.take_zero, List.cons_append, List.nil_append, List.append_nil]
       go_wp2
       refine ⟨fun _ h => h, ?_⟩
       refine wpAnyT_one (i := 8) (by kernel_rfl) ?_
       simp only [pickOps, List.flatMap_cons, List.flatMap_nil, List.drop_succ_cons, List.drop_zero, List.take_succ_cons, List.take_zero, List.cons_append, List.nil_append, List.append_nil]
       go_wp2
       refine ⟨fun _ h => ⟨ca h.1, ca h.2.1, ca h.2.2⟩, ?_⟩
       refine wpAnyT_one (i := 9) (by kernel_rfl) ?_
       simp only [pickOps, List.flatMap_cons, List.flatMap_nil, List.drop_succ_cons, List.drop_zero, List.take_succ_cons, List.take_zero, List.cons_append, List.nil_append, List.append_nil]
       go_wp2_with (at_builtin; refine stop_here ?_)
       refine go_on ?_
       obtain ⟨i0, hi, hz0, hz1, hz2⟩ := info_parts info_Part
       have hpsl : ps.length = j := by have := congrArg List.length HPS.out; rw [List.length_map, List.length_take] at this; simp [partsP] at this; omega
       refine wpList_app rfl _ _ 35 rfl 0 108 i0 _ 2 32 Try.underlying35 hi hz0 hz1 hz2 rfl (.slice pa ps.length pc) ps.length _ rfl (HT5.out.tail.own.1.alloc (.cells #[.int .u8 a.tag, .slice ya a.params.length yc] 108)) (some ⟨w5.heap.size, 0, none⟩) 1 1 [.int .u8 a.tag, .slice ya a.params.length yc] rfl rfl (fun h => by cases h) (news_alloc w5 [.int .u8 a.tag, .slice ya a.params.length yc] 108) (by simp [Value.oneCell']) (by unfold maxLen; omega) (grow_ok (by omega)) (Nat.zero_le _) ?_
       intro v6 w6 k1 k20 _ k4
       have hm : Mods (fun b => (Value.slice pa ps.length pc).ownBlock = some b) w5 w6 := ((Mods.refl _ w5).alloc _).grown k20 (fun b hb _ => hb)
       obtain ⟨z4, zf, T6, N6, B6⟩ := HT5.out.grow (a := (⟨a.tag, a.params⟩ : GPart)) (y := .slice ya a.params.length yc) (v' := v6) (w2 := w6) HP5.out (i := 4) (by decide) (by decide) (by decide) (by show 4 < 7; decide) HY5.out HFR.out k1 hm (k4.imp id (fun k4 b hb => by rw [k4] at hb; have := Option.some.inj hb; simp at this; omega))
       obtain ⟨sp6, cp6, rfl⟩ := owns_slice k1
       have HK6 := Lib.hid (HK5.out.turn T6 (by decide))
       have HT6 := Lib.hid N6
       have HP6 := Lib.hid B6
       have HPS6 : Hid ((ps ++ [((⟨a.tag, a.params⟩ : GPart), Value.slice ya a.params.length yc)]).map Prod.fst = (partsP g.actors).take (j + 1)) := Lib.hid (by rw [HPJ.out, ← HPS.out]; simp)
       clear hpsl T6 N6 B6 k1 k20 k4 hm HT5 HP5 HK5 HY5 HFR v1 v2 v4
       refine ⟨(fun h => by cases h), ?_⟩
       refine wpAnyT_list (ks := [10, 11]) (fun _ _ hx h => ⟨hx.cell h.1, hx.cell h.2.1, hx.cell h.2.2⟩) (by kernel_rfl) ?_
       simp only [pickOps, List.flatMap_cons, List.flatMap_nil, List.drop_succ_cons, List.drop_zero, List.take_succ_cons, List.take_zero, List.cons_append, List.nil_append, List.append_nil]
       go_wp2
       go_roundw
       case rel => exact ⟨j + 1, _, _, _, hlt, by go_num, HK6.out, HT6.out, HPS6.out, HP6.out⟩
       case measure => simp [intOf]; omega
      ·
       obtain rfl : n = j := by omega
       clear hj hlt
       have hPS := HPS.out
       rw [List.take_of_length_le (by rw [partsP, List.length_map, HN.out]; exact Nat.le_refl _)] at hPS
       have HPA := Lib.hid hPS
       clear hPS HPS
       have hwA2 : Below wA.heap.size wA wr := by rw [hPB]; exact HKR.out.below
       have y2 := cell_later hwA2 (HGB.out.cell 2 _ rfl)
       clear hwA2 HBW
       go_wp2_with fail
       clear y2
       obtain ⟨E, hE⟩ : ∃ x, g.edges.length = x := ⟨_, rfl⟩
       have HE := Lib.hid hE
       have HRE := Lib.hid (fits_len HC4.out)
       have hE96 := HFO.out.edges
       rw [hE] at hE96 ⊢
       clear hE
       go_loopw [91] (fun i wl => ∃ (j : Nat) (q : Col) (vl : Value) (ls : List (GLine × Value)), j ≤ E ∧ i = .int .i64 j ∧ Kept PB q wA wl ∧ TailO partHd GPart.params wl q 4 5 108 2 vp ps ∧ TailO lineHd GLine.start wl q 6 7 87 3 vl ls ∧ ls.map Prod.fst = (linesP p.regions g.edges).take j ∧ Blk wl q 3 PB 39 #[.int .i64 p.total, .int .i64 rw9.2, .int .i64 g.ins.length, .int .i64 g.outs.length, vp, vl, .slice oa OPS.length oc']) (fun i _ => E - (intOf i).toNat)
       case atStart => exact ⟨0, _, _, [], Nat.zero_le _, rfl, HKR.out, HTA.out, TailO.nil, rfl, HPR.out⟩
       case round =>
        clear HKR HTA HPR
        obtain ⟨j, q, vl, ls, hj, rfl, hK, hT, hL, hls, hB⟩ := hrel
        have HKR := Lib.hid hK
        have HTA := Lib.hid hT
        have HLA := Lib.hid hL
        have HPR := Lib.hid hB
        have HLS := Lib.hid hls
        clear hK hT hL hB hls
        have hwA : Below w.heap.size w wr := HK.out.below.trans (HKR.out.below.mono (by rw [← hPB]; exact HK.out.size))
        have HBW := Lib.hid hwA
        clear hwA
        by_cases hlt : j < E
        ·
         have hlti : (j : Int) < E := by omega
         have hlt2 : j < g.edges.length := by have := HE.out; omega
         have hlt3 : j < p.regions.length := by have := HRE.out; omega
         obtain ⟨b0, off, rfl, hcap, hb0, hrec⟩ := RE.out.at (by omega)
         obtain ⟨cs, hcs, hPR, hcl⟩ := hrec j hlt2
         obtain ⟨xs, rfl, hst⟩ := hPR
         have c0 := cell_later HBW.out (hcl 0 (by omega))
         have c1 := cell_later HBW.out (hcl 1 (by omega))
         have c2 := cell_later HBW.out (hcl 2 (by omega))
         have c3 := cell_later HBW.out (hcl 3 (by omega))
         have c4 := cell_later HBW.out (hcl 4 (by omega))
         simp at c0 c1 c2 c3 c4
         have hcapi : (E : Int) ≤ ec := by have := HE.out; omega
         have hst2 : Has w xs (ivs g.edges[j].start) := hst
         obtain ⟨sa, sc, hxs⟩ := Ints.slice hst2
         subst hxs
         have HST := Lib.hid hst2
         have hplen := starts_of HC1.out _ (List.getElem_mem hlt2)
         have HPJ := Lib.hid (linesP_succ hlt3 hlt2)
         obtain ⟨br, orr, rfl, hcr, hbr, hrecr⟩ := RR.out.at (by omega)
         obtain ⟨csr, hcsr, hPRr, hclr⟩ := hrecr j hlt3
         obtain rfl := hPRr
         have d0 := cell_later HBW.out (hclr 0 (by omega))
         have d1 := cell_later HBW.out (hclr 1 (by omega))
         simp at d0 d1
         have hcri : (p.regions.length : Int) ≤ rc := by omega
         have hlt3i : (j : Int) < p.regions.length := by omega
         have hwA2 : Below wA.heap.size wA wr := by rw [hPB]; exact HKR.out.below
         have p0 := cell_later hwA2 (HPB.out.cell 0 _ rfl)
         clear hcl hcs hrec hst hst2 hclr hcsr hrecr hwA2
         generalize g.edges[j] = a at *
         generalize p.regions[j] = rg at *
         have hbX := below_alloc wr (.cells #[.int .i64 a.src, .int .i64 a.sport, .int .i64 a.dst, .int .i64 a.dport, .slice sa a.start.length sc] 63)
         have hX := heap_alloc_new wr (.cells #[.int .i64 a.src, .int .i64 a.sport, .int .i64 a.dst, .int .i64 a.dport, .slice sa a.start.length sc] 63)
         have x4 := cells_row _ _ hX 4 _ rfl
         have TX := Turn.of_below q 8 hbX
         have HK2 := Lib.hid (HKR.out.turn TX (fun h => h))
         have HT2 := Lib.hid (HTA.out.turn TX (fun h => h) (fun h => h))
         have HL2 := Lib.hid (HLA.out.turn TX (fun h => h) (fun h => h))
         have HP2 := Lib.hid (HPR.out.turn TX (fun h => h))
         have HBX := Lib.hid (HBW.out.trans (hbX.mono HBW.out.size))
         have d0' := cell_later hbX d0
         have d1' := cell_later hbX d1
         have p0' := cell_later hbX p0
         clear hbX hX TX HKR HTA HLA HPR HBW d0 d1 p0
         obtain ⟨pa, pc, rfl⟩ := HL2.out.tail.own.slice
         have z4 := HP2.out.cell 5 _ rfl
         go_wp2_with fail
         clear c0 c1 c2 c3 c4
         refine wp_region_rest (fun w' => w'.cell? ⟨PB, 5, none⟩ = some (.slice pa ls.length pc) ∧ w'.cell? ⟨w.heap.size + 1, 0, none⟩ = some (.slice (some ⟨br, orr, none⟩) p.regions.length rc) ∧ w'.cell? ⟨br, orr + j * 2, none⟩ = some (.int .i64 rg.base) ∧ w'.cell? ⟨br, orr + j * 2 + 1, none⟩ = some (.int .i64 rg.size) ∧ w'.cell? ⟨wr.heap.size, 4, none⟩ = some (.slice sa a.start.length sc)) [0, 1, 2, 3, 4, 5, 6, 7, 8] [9, 10] 6 (by kernel_rfl) (by kernel_rfl) rfl ⟨z4, p0', d0', d1', x4⟩ ?_
         intro Q' hQ'
         simp only [pickOps, List.flatMap_cons, List.flatMap_nil, List.drop_succ_cons, List.drop_zero, List.take_succ_cons, List.take_zero, List.cons_append, List.nil_append, List.append_nil]
         repeat (first
          | (refine wpReads_skip (by rfl) ?_; (try simp only [Act.put, List.setIfInBounds_toArray, List.set_cons_zero, List.set_cons_succ]))
          | (refine wpReads_cons ?_ (by rfl) (by rfl) ?_ ?_; rotate_left; (intro wz hz; (try dsimp only at hz); go_simp; try with_reducible rfl); (try simp only [Act.put, List.setIfInBounds_toArray, List.set_cons_zero, List.set_cons_succ]))
          | (refine wpReads_any ?_ (by rfl) ?_ ?_; rotate_left; (intro wz; go_simp; try with_reducible rfl); (try simp only [Act.put, List.setIfInBounds_toArray, List.set_cons_zero, List.set_cons_succ])))
         refine wpReads_nil ?_
         refine wpAnyT_one (i := 9) (by kernel_rfl) ?_
         simp only [pickOps, List.flatMap_cons, List.flatMap_nil, List.drop_succ_cons, List.drop_zero, List.take_succ_cons, List.take_zero, List.cons_append, List.nil_append, List.append_nil]
         go_wp2_with fail
         refine (eown_any (o := fun _ => 0) (c := 0) _ sa _ sc a.start (HST.out.below (below_dr (n := 1) HBX.out)) (by omega)).mono ?_
         rintro e w5 ⟨y, rfl, k5, hb5⟩
         have T5 := fun q => (Turn.of_quiet q (w := wr.alloc (.cells #[.int .i64 a.src, .int .i64 a.sport, .int .i64 a.dst, .int .i64 a.dport, .slice sa a.start.length sc] 63)) ⟨1, rfl⟩).trans (Turn.of_below q 7 hb5) (fun _ h => h)
         have HK5 := Lib.hid (HK2.out.turn (T5 _) (fun h => h))
         have HT5 := Lib.hid (HT2.out.turn (T5 _) (fun h => h) (fun h => h))
         have HL5 := Lib.hid (HL2.out.turn (T5 _) (fun h => h) (fun h => h))
         have HP5 := Lib.hid (HP2.out.turn (T5 _) (fun h => h))
         have HY5 := Lib.hid (Own.made (ext q wr.heap.size 8) 7 k5)
         have HFR := Lib.hid (fun (x : GLine × Value) (hx : x ∈ ls) (b : Nat) (hb : x.2.ownBlock = some b) (hy : y.ownBlock = some b) => by have h1 := ((HL2.out.rows x hx).1.lt b hb).2; have h2 := (k5.lt b hy).1; exact Nat.lt_irrefl _ (Nat.lt_of_lt_of_le h1 h2))
         obtain ⟨ya, yc, rfl⟩ := owns_slice k5
         have v4 := HP5.out.cell 5 _ rfl
         have v0 := cell_later hb5 (show (World.drewN _ 1).cell? _ = _ from p0')
         have v1 := cell_later hb5 (show (World.drewN _ 1).cell? _ = _ from d0')
         have v2 := cell_later hb5 (show (World.drewN _ 1).cell? _ = _ from d1')
         have v3 := cell_later hb5 (show (World.drewN _ 1).cell? _ = _ from x4)
         clear T5 k5 hb5 HK2 HT2 HL2 HP2 HBX p0' d0' d1' x4 z4
         go_wp2_with fail
         refine ⟨fun _ _ => ⟨v4, v0, v1, v2, v3⟩, ?_⟩
         refine wpAnyT_one (i := 10) (by kernel_rfl) ?_
         simp only [pickOps, List.flatMap_cons, List.flatMap_nil, List.drop_succ_cons, List.drop_zero, List.take_succ_cons, List.take_zero, List.cons_append, List.nil_append, List.append_nil]
         go_wp2
         refine ⟨fun _ h => h, ?_⟩
         refine wpAnyT_one (i := 11) (by kernel_rfl) ?_
         simp only [pickOps, List.flatMap_cons, List.flatMap_nil, List.drop_succ_cons, List.drop_zero, List.take_succ_cons, List.take_zero, List.cons_append, List.nil_append, List.append_nil]
         go_wp2
         refine ⟨fun _ h => ⟨ca h.1, ca h.2.1, ca h.2.2.1, ca h.2.2.2.1, ca h.2.2.2.2⟩, ?_⟩
         refine wpAnyT_one (i := 12) (by kernel_rfl) ?_
         simp only [pickOps, List.flatMap_cons, List.flatMap_nil, List.drop_succ_cons, List.drop_zero, List.take_succ_cons, List.take_zero, List.cons_append, List.nil_append, List.append_nil]
         go_wp2_with (at_builtin; refine stop_here ?_)
         refine go_on ?_
         obtain ⟨i0, hi, hz0, hz1, hz2⟩ := info_parts info_Line
         have hlsl : ls.length = j := by have := congrArg List.length HLS.out; rw [List.length_map, List.length_take] at this; simp [linesP] at this; omega
         refine wpList_app rfl _ _ 36 rfl 0 87 i0 _ 3 40 Try.underlying36 hi hz0 hz1 hz2 rfl (.slice pa ls.length pc) ls.length _ rfl (HL5.out.tail.own.1.alloc (.cells #[.int .i64 rg.base, .int .i64 rg.size, .slice ya a.start.length yc] 87)) (some ⟨w5.heap.size, 0, none⟩) 1 1 [.int .i64 rg.base, .int .i64 rg.size, .slice ya a.start.length yc] rfl rfl (fun h => by cases h) (news_alloc w5 [.int .i64 rg.base, .int .i64 rg.size, .slice ya a.start.length yc] 87) (by simp [Value.oneCell']) (by unfold maxLen; omega) (grow_ok (by omega)) (Nat.zero_le _) ?_
         intro v6 w6 k1 k20 _ k4
         have hm : Mods (fun b => (Value.slice pa ls.length pc).ownBlock = some b) w5 w6 := ((Mods.refl _ w5).alloc _).grown k20 (fun b hb _ => hb)
         obtain ⟨z4, zf, T6, N6, B6⟩ := HL5.out.grow (a := (⟨rg.base, rg.size, a.start⟩ : GLine)) (y := .slice ya a.start.length yc) (v' := v6) (w2 := w6) HP5.out (i := 5) (by decide) (by decide) (by decide) (by show 5 < 7; decide) HY5.out HFR.out k1 hm (k4.imp id (fun k4 b hb => by rw [k4] at hb; have := Option.some.inj hb; simp at this; omega))
         obtain ⟨sp6, cp6, rfl⟩ := owns_slice k1
         have HK6 := Lib.hid (HK5.out.turn T6 (by decide))
         have HT6 := Lib.hid (HT5.out.turn T6 (by decide) (by decide))
         have HL6 := Lib.hid N6
         have HP6 := Lib.hid B6
         have HLS6 : Hid ((ls ++ [((⟨rg.base, rg.size, a.start⟩ : GLine), Value.slice ya a.start.length yc)]).map Prod.fst = (linesP p.regions g.edges).take (j + 1)) := Lib.hid (by rw [HPJ.out, ← HLS.out]; simp)
         clear hlsl T6 N6 B6 k1 k20 k4 hm HT5 HL5 HP5 HK5 HY5 HFR v0 v1 v2 v3 v4
         refine ⟨(fun h => by cases h), ?_⟩
         refine wpAnyT_list (ks := [13, 14]) (fun _ _ hx h => ⟨hx.cell h.1, hx.cell h.2.1, hx.cell h.2.2.1, hx.cell h.2.2.2.1, hx.cell h.2.2.2.2⟩) (by kernel_rfl) ?_
         simp only [pickOps, List.flatMap_cons, List.flatMap_nil, List.drop_succ_cons, List.drop_zero, List.take_succ_cons, List.take_zero, List.cons_append, List.nil_append, List.append_nil]
         go_wp2
         go_roundw
         case rel => exact ⟨j + 1, _, _, _, hlt, by go_num, HK6.out, HT6.out, HL6.out, HLS6.out, HP6.out⟩
         case measure => simp [intOf]; omega
        ·
         obtain rfl : E = j := by omega
         clear hj hlt
         have hLS := HLS.out
         rw [List.take_of_length_le (by have := HE.out; simp [linesP]; omega)] at hLS
         have hwA2 : Below wA.heap.size wA wr := by rw [hPB]; exact HKR.out.below
         have hRB : Blk wr (fun _ => 9) 9 (w.heap.size + 2) 39 progZ := ⟨(hwA2.block _ HR.out.lt).trans HR.out.1, rfl⟩
         have HRB := Lib.hid hRB
         have hRP : w.heap.size + 2 < PB := by rw [← hPB]; exact HR.out.lt
         have hBF : Below w.heap.size w wr := HK.out.below.trans (HKR.out.below.mono (by rw [← hPB]; exact HK.out.size))
         have hsF : w.heap.size ≤ wr.heap.size := by have := HRB.out.lt; omega
         have HBF := Lib.hid hBF
         have HOWr := Lib.hid ((show Own wA (fun k => if (Value.slice oa OPS.length oc').ownBlock = some k then 8 else 0) 8 _ _ _ _ _ from ⟨HOX.out, fun k hk => if_pos hk⟩).turn (Turn.of_below _ 0 hwA2) (fun h => h)).1
         have HOL : Hid (∀ k, (Value.slice oa OPS.length oc').ownBlock = some k → k < PB) := Lib.hid fun k hk => by rw [← hPB]; exact (HOX.out.lt k hk).2
         clear hwA2 hRB hBF HLS
         obtain ⟨pa, pc, rfl⟩ := HTA.out.tail.own.slice
         obtain ⟨la', lc', rfl⟩ := HLA.out.tail.own.slice
         have s0 := HPR.out.cell 0 _ rfl
         have s1 := HPR.out.cell 1 _ rfl
         have s2 := HPR.out.cell 2 _ rfl
         have s3 := HPR.out.cell 3 _ rfl
         have s4 := HPR.out.cell 4 _ rfl
         have s5 := HPR.out.cell 5 _ rfl
         have s6 := HPR.out.cell 6 _ rfl
         have z0 := HRB.out.cell 0 _ rfl
         have z1 := HRB.out.cell 1 _ rfl
         have z2 := HRB.out.cell 2 _ rfl
         have z3 := HRB.out.cell 3 _ rfl
         have z4 := HRB.out.cell 4 _ rfl
         have z5 := HRB.out.cell 5 _ rfl
         have z6 := HRB.out.cell 6 _ rfl
         have f0 := HRB.out.frozen 0
         have f1 := HRB.out.frozen 1
         have f2 := HRB.out.frozen 2
         have f3 := HRB.out.frozen 3
         have f4 := HRB.out.frozen 4
         have f5 := HRB.out.frozen 5
         have f6 := HRB.out.frozen 6
         have e0 : makeE g p l = 0 := by rw [makeE, if_neg (by simp [HC1.out]), if_neg (by simp [HC2.out]), HC3.out, if_neg (by simp), HC4.out, if_pos rfl]
         have HE0 := Lib.hid e0
         have HLS := Lib.hid hLS
         clear e0 hLS
         go_wp2
         refine bodyPost_ret_by (results_row_tmp rfl _ _ _ _ _ _ _ rfl (prog_set HRB.out.1 _ _ _ _ _ _ _) Try.underlying39 rfl (by kernel_rfl)) rfl ?_
         obtain ⟨q2, hq2⟩ : ∃ x : Col, x = fun k => if (Value.slice oa OPS.length oc').ownBlock = some k then 8 else q k := ⟨_, rfl⟩
         have hr : ∀ k, q k ≠ 0 → q2 k = q k := fun k hk => by
          rw [hq2]
          exact if_neg (fun h => hk (HKR.out.old k (HOL.out k h)))
         have h8 : ∀ k, (Value.slice oa OPS.length oc').ownBlock = some k → q2 k = 8 := fun k hk => by rw [hq2]; exact if_pos hk
         have hob : ∀ k, k ≤ w.heap.size + 2 → q2 k = 0 := fun k hk => by
          rw [hq2]
          refine (if_neg (fun h => ?_)).trans (HKR.out.old k (by omega))
          cases oa with
          | none => cases h
          | some ad =>
           have := HOB.out ad rfl
           have e : ad.block = k := by simpa [Value.ownBlock] using h
           omega
         have T : Turn q2 q2 (fun x => x = 0) wr (setProg wr (w.heap.size + 2) (.int .i64 p.total) (.int .i64 rw9.2) (.int .i64 g.ins.length) (.int .i64 g.outs.length) (.slice pa ps.length pc) (.slice la' ls.length lc') (.slice oa OPS.length oc')) := ⟨(prog_mods wr _ _ _ _ _ _ _ _).mono (fun k _ e => by subst e; exact hob _ (Nat.le_refl _)), fun _ _ => rfl⟩
         have hh := HTA.out.recol (o' := q2) (fun k hk => hr k (by omega))
         have hl := HLA.out.recol (o' := q2) (fun k hk => hr k (by omega))
         have ho : Own wr q2 8 61 3 (.slice oa OPS.length oc') OPS.length (opsV OPS) := ⟨HOWr.out, h8⟩
         refine ⟨_, by rw [HE0.out]; rfl, ?_, prog_below HBF.out hsF (by omega) _ _ _ _ _ _ _⟩
         rw [makeP, if_pos HE0.out]
         refine ⟨q2, _, _, _, ps, ls, by rw [makeG, HRW.out], hh.turn T (by decide) (by decide), HPA.out, hl.turn T (by decide) (by decide), HLS.out, ?_, fun k hk => hob k (by omega)⟩
         rw [makeG, HRW.out, HOP.out]
         exact ho.turn T (by decide)
    ·
     have e4 : fitsP g p = false := by simpa using h4
     have e : makeE g p l = 210 := by rw [makeE, if_neg (by simp [HC1.out]), if_neg (by simp [HC2.out]), HC3.out, if_neg (by simp), e4, if_neg (by simp)]
     rw [e4]
     clear h4
     have z0 := HR.out.cell 0 _ rfl
     have z1 := HR.out.cell 1 _ rfl
     have z2 := HR.out.cell 2 _ rfl
     have z3 := HR.out.cell 3 _ rfl
     have z4 := HR.out.cell 4 _ rfl
     have z5 := HR.out.cell 5 _ rfl
     have z6 := HR.out.cell 6 _ rfl
     have f0 := HR.out.frozen 0
     have f1 := HR.out.frozen 1
     have f2 := HR.out.frozen 2
     have f3 := HR.out.frozen 3
     have f4 := HR.out.frozen 4
     have f5 := HR.out.frozen 5
     have f6 := HR.out.frozen 6
     go_wp2
     refine bodyPost_ret_by (results_row_tmp rfl _ _ _ _ _ _ _ rfl (prog_set HR.out.1 _ _ _ _ _ _ _) Try.underlying39 rfl (by kernel_rfl)) rfl ?_
     refine ⟨_, by first | rfl | (rw [← e]; rfl), ?_, prog_below HK.out.below HK.out.size (by omega) _ _ _ _ _ _ _⟩
     rw [makeP, if_neg (by rw [e]; decide)]
     exact ownProg_zero _ _
   ·
    have e3 : strangeP l g.actors.length = true := by simpa using h3
    have e : makeE g p l = 100 := by rw [makeE, if_neg (by simp [HC1.out]), if_neg (by simp [HC2.out]), if_pos e3]
    rw [e3]
    clear h3
    have z0 := HR.out.cell 0 _ rfl
    have z1 := HR.out.cell 1 _ rfl
    have z2 := HR.out.cell 2 _ rfl
    have z3 := HR.out.cell 3 _ rfl
    have z4 := HR.out.cell 4 _ rfl
    have z5 := HR.out.cell 5 _ rfl
    have z6 := HR.out.cell 6 _ rfl
    have f0 := HR.out.frozen 0
    have f1 := HR.out.frozen 1
    have f2 := HR.out.frozen 2
    have f3 := HR.out.frozen 3
    have f4 := HR.out.frozen 4
    have f5 := HR.out.frozen 5
    have f6 := HR.out.frozen 6
    go_wp2
    refine bodyPost_ret_by (results_row_tmp rfl _ _ _ _ _ _ _ rfl (prog_set HR.out.1 _ _ _ _ _ _ _) Try.underlying39 rfl (by kernel_rfl)) rfl ?_
    refine ⟨_, by first | rfl | (rw [← e]; rfl), ?_, prog_below HK.out.below HK.out.size (by omega) _ _ _ _ _ _ _⟩
    rw [makeP, if_neg (by rw [e]; decide)]
    exact ownProg_zero _ _
  ·
   have e : makeE g p l = nestCheckE l := by rw [makeE, if_neg (by simp [HC1.out]), if_pos h2]
   obtain ⟨E, hE⟩ : ∃ x, nestCheckE l = x := ⟨_, rfl⟩
   rw [hE] at h2 e ⊢
   clear hE
   have z0 := HR.out.cell 0 _ rfl
   have z1 := HR.out.cell 1 _ rfl
   have z2 := HR.out.cell 2 _ rfl
   have z3 := HR.out.cell 3 _ rfl
   have z4 := HR.out.cell 4 _ rfl
   have z5 := HR.out.cell 5 _ rfl
   have z6 := HR.out.cell 6 _ rfl
   have f0 := HR.out.frozen 0
   have f1 := HR.out.frozen 1
   have f2 := HR.out.frozen 2
   have f3 := HR.out.frozen 3
   have f4 := HR.out.frozen 4
   have f5 := HR.out.frozen 5
   have f6 := HR.out.frozen 6
   go_wp2
   refine bodyPost_ret_by (results_row_tmp rfl _ _ _ _ _ _ _ rfl (prog_set HR.out.1 _ _ _ _ _ _ _) Try.underlying39 rfl (by kernel_rfl)) rfl ?_
   refine ⟨_, by first | rfl | (rw [← e]; rfl), ?_, prog_below HK.out.below HK.out.size (by omega) _ _ _ _ _ _ _⟩
   rw [makeP, if_neg (by rw [e]; exact h2)]
   exact ownProg_zero _ _
 ·
  have e : makeE g p l = checkE g := by rw [makeE, if_pos h1]
  obtain ⟨E, hE⟩ : ∃ x, checkE g = x := ⟨_, rfl⟩
  rw [hE] at h1 e ⊢
  clear hE
  have z0 := HR.out.cell 0 _ rfl
  have z1 := HR.out.cell 1 _ rfl
  have z2 := HR.out.cell 2 _ rfl
  have z3 := HR.out.cell 3 _ rfl
  have z4 := HR.out.cell 4 _ rfl
  have z5 := HR.out.cell 5 _ rfl
  have z6 := HR.out.cell 6 _ rfl
  have f0 := HR.out.frozen 0
  have f1 := HR.out.frozen 1
  have f2 := HR.out.frozen 2
  have f3 := HR.out.frozen 3
  have f4 := HR.out.frozen 4
  have f5 := HR.out.frozen 5
  have f6 := HR.out.frozen 6
  go_wp2
  refine bodyPost_ret_by (results_row_tmp rfl _ _ _ _ _ _ _ rfl (prog_set HR.out.1 _ _ _ _ _ _ _) Try.underlying39 rfl (by kernel_rfl)) rfl ?_
  refine ⟨_, by first | rfl | (rw [← e]; rfl), ?_, prog_below HK.out.below HK.out.size (by omega) _ _ _ _ _ _ _⟩
  rw [makeP, if_neg (by rw [e]; exact h1)]
  exact ownProg_zero _ _
theorem make_fresh (D : Nat) (w : World) (vg vp v : Value) (g : GGraph) (p : GPlan) (l : Nest) (hg : HasGraph w vg g) (hp : HasPlan w vp p) (hv : HasNestD D w v l) (hgs : GSized g) (hns : NSized l) : Calls Try.prog 13 #[vg, vp, v] w (MakeRetF w g p l) := by
 refine (make_own D w vg vp v g p l hg hp hv hgs hns).mono ?_
 rintro e w' ⟨v, h1, h2, h3⟩
 exact ⟨v, h1, fun w'' m => h2.has m, h3⟩
theorem make_any (D : Nat) (w : World) (vg vp v : Value) (g : GGraph) (p : GPlan) (l : Nest) (hg : HasGraph w vg g) (hp : HasPlan w vp p) (hv : HasNestD D w v l) (hgs : GSized g) (hns : NSized l) : Calls Try.prog 13 #[vg, vp, v] w (MakeRet w g p l) := by
 refine (make_fresh D w vg vp v g p l hg hp hv hgs hns).mono ?_
 rintro e w' ⟨v, h1, h2, h3⟩
 exact ⟨v, h1, h2 _ (Mods.refl _ _), h3⟩
end Go.Proofs.Ytbmbfifempkhgaa
