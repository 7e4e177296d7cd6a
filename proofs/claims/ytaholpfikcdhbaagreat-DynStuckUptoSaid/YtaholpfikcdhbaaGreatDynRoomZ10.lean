/- The reference's rig in memory, while it is built. No function in sight. -/
import Derived.Test.YtaholpfikcdhbaaGreatDynRoomZ9
import Derived.Test.YtaholpfikcdhbaaGreatDynRoomZ6
import Derived.Test.YtaholpfikcdhbaaGreatDynRoomZ8
import Derived.Test.YtaholpfikcdhbaaGreatDynRoomZ7
namespace Go.Proofs.YtaholpfikcdhbaaGreat
open Go.RowKit
structure XTV where
 vp : Value
 vi : Value
 vo : Value
 vk : Value
 src : Value
 dst : Value
structure XRV where
 caps : Value
 tasks : Value
 streams : Value
 fail : Nat
 tv : Nat → XTV
 sv : Nat → Value
def tagOf (g : GGraph) (t : Nat) : Int := match g.actors[t]? with | some a => a.tag | none => 0
def psOf (g : GGraph) (t : Nat) : List Int := match g.actors[t]? with | some a => a.params | none => []
def taskX0 (g : GGraph) (v : Nat → XTV) (t : Nat) : List Value := [.int .u8 (tagOf g t), (v t).vp, (v t).vi, (v t).vo, (v t).vk, .int .i64 0, (v t).src, (v t).dst, .int .i64 0, .slice none 0 0, .slice none 0 0, .int .i64 0]
def strX0 (v : Nat → Value) (d : Nat) : List Value := [v d, .int .i64 0]
def fromL (g : GGraph) (t B : Nat) : List Int := (List.range (ratesI g t).length).map fun q => if fromP g t q < B then (fromP g t q : Int) else 0
def toL (g : GGraph) (t B : Nat) : List Int := (List.range (ratesO g t).length).map fun p => if toP g t p < B then (toP g t p : Int) else 0
theorem fromL_len (g : GGraph) (t B : Nat) : (fromL g t B).length = (ratesI g t).length := by simp [fromL]
theorem toL_len (g : GGraph) (t B : Nat) : (toL g t B).length = (ratesO g t).length := by simp [toL]
theorem fromL_zero (g : GGraph) (t : Nat) : fromL g t 0 = List.replicate (ratesI g t).length 0 := by
 refine List.ext_getElem (by simp [fromL]) fun i h1 h2 => ?_
 simp [fromL]
theorem toL_zero (g : GGraph) (t : Nat) : toL g t 0 = List.replicate (ratesO g t).length 0 := by
 refine List.ext_getElem (by simp [toL]) fun i h1 h2 => ?_
 simp [toL]
theorem fromL_set {g : GGraph} {t q B : Nat} (he : fromP g t q = B) (hB : B < g.edges.length + g.ins.length) : (fromL g t B).set q (B : Int) = fromL g t (B + 1) := by
 refine List.ext_getElem (by simp [fromL]) fun i h1 h2 => ?_
 rw [List.getElem_set]
 simp only [fromL, List.getElem_map, List.getElem_range]
 by_cases e : q = i
 ·
  subst e
  rw [if_pos rfl, if_pos (by omega), he]
 ·
  rw [if_neg e]
  have : fromP g t i ≠ B := fun h => e (from_port (g := g) (t := t) (p := q) (q := i) (by omega) (by omega))
  by_cases h : fromP g t i < B
  ·
   rw [if_pos h, if_pos (by omega)]
  ·
   rw [if_neg h, if_neg (by omega)]
theorem fromL_else {g : GGraph} {t u q B : Nat} (he : fromP g t q = B) (hu : u ≠ t) : fromL g u B = fromL g u (B + 1) := by
 refine List.ext_getElem (by simp [fromL]) fun i h1 h2 => ?_
 simp only [fromL, List.getElem_map, List.getElem_range]
 have : fromP g u i ≠ B := fun h => hu (from_task (h.trans he.symm))
 by_cases h : fromP g u i < B
 ·
  rw [if_pos h, if_pos (by omega)]
 ·
  rw [if_neg h, if_neg (by omega)]
theorem toL_set {g : GGraph} {t p B : Nat} (he : toP g t p = B) (hB : B < g.edges.length + g.ins.length + g.outs.length) : (toL g t B).set p (B : Int) = toL g t (B + 1) := by
 refine List.ext_getElem (by simp [toL]) fun i h1 h2 => ?_
 rw [List.getElem_set]
 simp only [toL, List.getElem_map, List.getElem_range]
 by_cases e : p = i
 ·
  subst e
  rw [if_pos rfl, if_pos (by omega), he]
 ·
  rw [if_neg e]
  have : toP g t i ≠ B := fun h => e (to_port (g := g) (t := t) (p := p) (q := i) (by omega) (by omega))
  by_cases h : toP g t i < B
  ·
   rw [if_pos h, if_pos (by omega)]
  ·
   rw [if_neg h, if_neg (by omega)]
theorem toL_else {g : GGraph} {t u p B : Nat} (he : toP g t p = B) (hu : u ≠ t) : toL g u B = toL g u (B + 1) := by
 refine List.ext_getElem (by simp [toL]) fun i h1 h2 => ?_
 simp only [toL, List.getElem_map, List.getElem_range]
 have : toP g u i ≠ B := fun h => hu (to_task (h.trans he.symm))
 by_cases h : toP g u i < B
 ·
  rw [if_pos h, if_pos (by omega)]
 ·
  rw [if_neg h, if_neg (by omega)]
theorem xflat_len {f : Nat → List Value} {sz : Nat} (hf : ∀ t, (f t).length = sz) : ∀ n : Nat, ((List.range n).flatMap f).length = n * sz
 | 0 => by simp
 | n + 1 => by
  rw [List.range_succ, List.flatMap_append, List.length_append, xflat_len hf n]
  simp [hf, Nat.add_mul]
theorem xflat_get {f : Nat → List Value} {sz : Nat} (hf : ∀ t, (f t).length = sz) {t k : Nat} (hk : k < sz) : ∀ {n : Nat}, t < n → ((List.range n).flatMap f)[t * sz + k]? = (f t)[k]?
 | n + 1, ht => by
  have hl := xflat_len hf n
  rw [List.range_succ, List.flatMap_append]
  by_cases e : t = n
  ·
   subst e
   rw [List.getElem?_append_right (by omega), hl, Nat.add_sub_cancel_left]
   simp
  ·
   have h1 : t < n := by omega
   have h2 : t * sz + k < n * sz := by
    have : (t + 1) * sz ≤ n * sz := Nat.mul_le_mul_right _ (by omega)
    rw [Nat.add_mul, Nat.one_mul] at this
    omega
   rw [List.getElem?_append_left (by omega)]
   exact xflat_get hf hk h1
theorem xflat_snoc (f : Nat → List Value) (n : Nat) : (List.range (n + 1)).flatMap f = (List.range n).flatMap f ++ f n := by
 rw [List.range_succ, List.flatMap_append]
 simp
theorem xflat_congr {f h : Nat → List Value} {n : Nat} (e : ∀ t, t < n → f t = h t) : (List.range n).flatMap f = (List.range n).flatMap h := by
 induction n with
 | zero => rfl
 | succ n ih => rw [xflat_snoc, xflat_snoc, ih (fun t ht => e t (by omega)), e n (by omega)]
theorem taskX0_len (g : GGraph) (v : Nat → XTV) (t : Nat) : (taskX0 g v t).length = 12 := rfl
structure XHalfT (w : World) (o : Col) (R : Nat) (g : GGraph) (t : Nat) (v : XTV) (F B : Nat) : Prop where
 vp : Ints w o (R + 3) v.vp (psOf g t)
 vi : Ints w o (R + 3) v.vi (ratesI g t)
 vo : Ints w o (R + 3) v.vo (ratesO g t)
 vk : Ints w o (R + 3) v.vk (keepT g t)
 src : ∃ gs, v.src = .slice (some ⟨gs, 0, none⟩) (ratesI g t).length (ratesI g t).length ∧ Blk w o (R + 1000 + 2 * t) gs 3 (ivs (fromL g t F)).toArray
 dst : ∃ gd, v.dst = .slice (some ⟨gd, 0, none⟩) (ratesO g t).length (ratesO g t).length ∧ Blk w o (R + 1001 + 2 * t) gd 3 (ivs (toL g t B)).toArray
def rigX (gv : List Value) (v : XRV) : List Value := gv ++ [v.caps, v.tasks, v.streams, .slice (some ⟨v.fail, 0, none⟩) 1 1]
structure XHalf (w : World) (o : Col) (R b : Nat) (g : GGraph) (gv : List Value) (caps : List Int) (nT nS F B : Nat) (v : XRV) : Prop where
 rig : Blk w o (R + 5) b 60 (rigX gv v).toArray
 caps : Ints w o (R + 3) v.caps caps
 fail : Blk w o (R + 4) v.fail 3 #[.int .i64 (-1)]
 tasks : Own w o (R + 1) 127 12 v.tasks nT ((List.range nT).flatMap (taskX0 g v.tv))
 streams : Own w o (R + 2) 129 2 v.streams nS ((List.range nS).flatMap (strX0 v.sv))
 task : ∀ t, t < nT → XHalfT w o R g t (v.tv t) F B
 all : ∀ d, d < nS → Own w o (R + 10 + d) 3 1 (v.sv d) ((newRig g).strs d).length (ivs ((newRig g).strs d))
 most : nT ≤ 32 ∧ nS ≤ 128
def MineX (R c : Nat) : Prop := R ≤ c ∧ c < R + 2000
theorem XHalfT.turn {w w' : World} {o o' : Col} {C : Nat → Prop} {R t F B : Nat} {g : GGraph} {v : XTV} (h : XHalfT w o R g t v F B) (T : Turn o o' C w w') (h3 : ¬ C (R + 3)) (hs : ¬ C (R + 1000 + 2 * t)) (hd : ¬ C (R + 1001 + 2 * t)) : XHalfT w' o' R g t v F B := by
 obtain ⟨gs, e1, b1⟩ := h.src
 obtain ⟨gd, e2, b2⟩ := h.dst
 exact ⟨h.vp.turn T h3, h.vi.turn T h3, h.vo.turn T h3, h.vk.turn T h3, ⟨gs, e1, b1.turn T hs⟩, ⟨gd, e2, b2.turn T hd⟩⟩
theorem XHalf.turn {w w' : World} {o o' : Col} {C : Nat → Prop} {R b : Nat} {g : GGraph} {gv : List Value} {caps : List Int} {nT nS F B : Nat} {v : XRV} (h : XHalf w o R b g gv caps nT nS F B v) (T : Turn o o' C w w') (hC : ∀ k, C k → ¬ MineX R k) : XHalf w' o' R b g gv caps nT nS F B v := by
 have hc : ∀ j, j < 2000 → ¬ C (R + j) := fun j hj hcc => hC _ hcc ⟨by omega, by omega⟩
 obtain ⟨m1, m2⟩ := h.most
 exact ⟨h.rig.turn T (hc 5 (by omega)), h.caps.turn T (hc 3 (by omega)), h.fail.turn T (hc 4 (by omega)), h.tasks.turn T (hc 1 (by omega)), h.streams.turn T (hc 2 (by omega)), fun t ht => (h.task t ht).turn T (hc 3 (by omega)) (by rw [Nat.add_assoc]; exact hc _ (by omega)) (by rw [Nat.add_assoc]; exact hc _ (by omega)), fun d hd => (h.all d hd).turn T (by rw [Nat.add_assoc]; exact hc _ (by omega)), h.most⟩
theorem XHalf.addTask {w w' : World} {o o' : Col} {R b k : Nat} {g : GGraph} {gv : List Value} {caps : List Int} {v : XRV} {vt : Value} {tvk : XTV} (h : XHalf w o R b g gv caps k 0 0 0 v) (hk : k < 32) (T : Turn o o' (fun c => c = R + 5 ∨ c = R + 1) w w')
  (hB : Blk w' o' (R + 5) b 60 (rigX gv { v with tasks := vt }).toArray) (hO : Own w' o' (R + 1) 127 12 vt (k + 1) ((List.range k).flatMap (taskX0 g v.tv) ++ taskX0 g (fun _ => tvk) k)) (hT : XHalfT w' o' R g k tvk 0 0) :
  XHalf w' o' R b g gv caps (k + 1) 0 0 0 { v with tasks := vt, tv := upd v.tv k tvk } := by
 refine ⟨hB, h.caps.turn T (by omega), h.fail.turn T (by omega), ?_, h.streams.turn T (by omega), fun t ht => ?_, fun d hd => by omega, ⟨hk, by omega⟩⟩
 ·
  have e : (List.range (k + 1)).flatMap (taskX0 g (upd v.tv k tvk)) = (List.range k).flatMap (taskX0 g v.tv) ++ taskX0 g (fun _ => tvk) k := by
   rw [xflat_snoc]
   congr 1
   ·
    refine xflat_congr fun t ht => ?_
    unfold taskX0
    rw [upd_other (by omega)]
   ·
    unfold taskX0
    rw [upd_same]
  show Own w' o' (R + 1) 127 12 vt (k + 1) ((List.range (k + 1)).flatMap (taskX0 g (upd v.tv k tvk)))
  rw [e]
  exact hO
 ·
  show XHalfT w' o' R g t (upd v.tv k tvk t) 0 0
  by_cases e : t = k
  ·
   subst e
   rw [upd_same]
   exact hT
  ·
   rw [upd_other e]
   exact (h.task t (by omega)).turn T (by omega) (by omega) (by omega)
theorem XHalf.addStream {w w' : World} {o o' : Col} {R b k F B nT : Nat} {g : GGraph} {gv : List Value} {caps : List Int} {v : XRV} {vt : Value} {sk : Value} (h : XHalf w o R b g gv caps nT k F B v) (hk : k < 128) (T : Turn o o' (fun c => c = R + 5 ∨ c = R + 2) w w')
  (hB : Blk w' o' (R + 5) b 60 (rigX gv { v with streams := vt }).toArray) (hO : Own w' o' (R + 2) 129 2 vt (k + 1) ((List.range k).flatMap (strX0 v.sv) ++ strX0 (fun _ => sk) k)) (hA : Own w' o' (R + 10 + k) 3 1 sk ((newRig g).strs k).length (ivs ((newRig g).strs k))) :
  XHalf w' o' R b g gv caps nT (k + 1) F B { v with streams := vt, sv := upd v.sv k sk } := by
 obtain ⟨m1, m2⟩ := h.most
 refine ⟨hB, h.caps.turn T (by omega), h.fail.turn T (by omega), h.tasks.turn T (by omega), ?_, fun t ht => (h.task t ht).turn T (by omega) (by omega) (by omega), fun d hd => ?_, ⟨m1, hk⟩⟩
 ·
  have e : (List.range (k + 1)).flatMap (strX0 (upd v.sv k sk)) = (List.range k).flatMap (strX0 v.sv) ++ strX0 (fun _ => sk) k := by
   rw [xflat_snoc]
   congr 1
   ·
    refine xflat_congr fun t ht => ?_
    unfold strX0
    rw [upd_other (by omega)]
   ·
    unfold strX0
    rw [upd_same]
  show Own w' o' (R + 2) 129 2 vt (k + 1) ((List.range (k + 1)).flatMap (strX0 (upd v.sv k sk)))
  rw [e]
  exact hO
 ·
  show Own w' o' (R + 10 + d) 3 1 (upd v.sv k sk d) _ _
  by_cases e : d = k
  ·
   subst e
   rw [upd_same]
   exact hA
  ·
   rw [upd_other e]
   exact (h.all d (by omega)).turn T (by omega)
theorem ivs_set (l : List Int) (k : Nat) (x : Int) : (ivs l).toArray.setIfInBounds k (.int .i64 x) = (ivs (l.set k x)).toArray := by
 rw [List.setIfInBounds_toArray]
 unfold ivs
 rw [List.map_set]
theorem XHalf.linkFrom {w : World} {o : Col} {R b : Nat} {g : GGraph} {gv : List Value} {caps : List Int} {nT nS F B : Nat} {v : XRV} (h : XHalf w o R b g gv caps nT nS F B v) {t q gs : Nat} (ht : t < nT) (hq : fromP g t q = F) (hF : F < g.edges.length + g.ins.length) (he : (v.tv t).src = .slice (some ⟨gs, 0, none⟩) (ratesI g t).length (ratesI g t).length) :
  XHalf (w.setCell ⟨gs, q, none⟩ (.int .i64 (F : Int))) o R b g gv caps nT nS (F + 1) B v ∧ Turn o o (fun c => c = R + 1000 + 2 * t) w (w.setCell ⟨gs, q, none⟩ (.int .i64 (F : Int))) := by
 obtain ⟨m1, m2⟩ := h.most
 obtain ⟨gs', e1, b1⟩ := (h.task t ht).src
 rw [he] at e1
 cases e1
 obtain ⟨H, T⟩ := b1.set q (.int .i64 (F : Int))
 rw [ivs_set, fromL_set hq hF] at H
 refine ⟨⟨h.rig.turn T (by omega), h.caps.turn T (by omega), h.fail.turn T (by omega), h.tasks.turn T (by omega), h.streams.turn T (by omega), fun u hu => ?_, fun d hd => (h.all d hd).turn T (by omega), h.most⟩, T⟩
 have k := h.task u hu
 obtain ⟨gd, e2, b2⟩ := k.dst
 by_cases e : u = t
 ·
  subst e
  exact ⟨k.vp.turn T (by omega), k.vi.turn T (by omega), k.vo.turn T (by omega), k.vk.turn T (by omega), ⟨gs, he, H⟩, ⟨gd, e2, b2.turn T (by omega)⟩⟩
 ·
  obtain ⟨gs2, e1, b1⟩ := k.src
  rw [fromL_else hq e] at b1
  exact ⟨k.vp.turn T (by omega), k.vi.turn T (by omega), k.vo.turn T (by omega), k.vk.turn T (by omega), ⟨gs2, e1, b1.turn T (by omega)⟩, ⟨gd, e2, b2.turn T (by omega)⟩⟩
theorem XHalf.linkTo {w : World} {o : Col} {R b : Nat} {g : GGraph} {gv : List Value} {caps : List Int} {nT nS F B : Nat} {v : XRV} (h : XHalf w o R b g gv caps nT nS F B v) {t p gd : Nat} (ht : t < nT) (hp : toP g t p = B) (hB : B < g.edges.length + g.ins.length + g.outs.length) (he : (v.tv t).dst = .slice (some ⟨gd, 0, none⟩) (ratesO g t).length (ratesO g t).length) :
  XHalf (w.setCell ⟨gd, p, none⟩ (.int .i64 (B : Int))) o R b g gv caps nT nS F (B + 1) v ∧ Turn o o (fun c => c = R + 1001 + 2 * t) w (w.setCell ⟨gd, p, none⟩ (.int .i64 (B : Int))) := by
 obtain ⟨m1, m2⟩ := h.most
 obtain ⟨gd', e1, b1⟩ := (h.task t ht).dst
 rw [he] at e1
 cases e1
 obtain ⟨H, T⟩ := b1.set p (.int .i64 (B : Int))
 rw [ivs_set, toL_set hp hB] at H
 refine ⟨⟨h.rig.turn T (by omega), h.caps.turn T (by omega), h.fail.turn T (by omega), h.tasks.turn T (by omega), h.streams.turn T (by omega), fun u hu => ?_, fun d hd => (h.all d hd).turn T (by omega), h.most⟩, T⟩
 have k := h.task u hu
 obtain ⟨gs, e2, b2⟩ := k.src
 by_cases e : u = t
 ·
  subst e
  exact ⟨k.vp.turn T (by omega), k.vi.turn T (by omega), k.vo.turn T (by omega), k.vk.turn T (by omega), ⟨gs, e2, b2.turn T (by omega)⟩, ⟨gd, he, H⟩⟩
 ·
  obtain ⟨gd2, e1, b1⟩ := k.dst
  rw [toL_else hp e] at b1
  exact ⟨k.vp.turn T (by omega), k.vi.turn T (by omega), k.vo.turn T (by omega), k.vk.turn T (by omega), ⟨gs, e2, b2.turn T (by omega)⟩, ⟨gd2, e1, b1.turn T (by omega)⟩⟩
theorem XHalf.taskCell {w : World} {o : Col} {R b : Nat} {g : GGraph} {gv : List Value} {caps : List Int} {nT nS F B : Nat} {v : XRV} (h : XHalf w o R b g gv caps nT nS F B v) {t : Nat} (ht : t < nT) : ∃ tg tc, v.tasks = .slice (some ⟨tg, 0, none⟩) nT tc ∧ nT ≤ tc ∧ o tg = R + 1 ∧ ∀ k (u : Value), k < 12 → (taskX0 g v.tv t)[k]? = some u → w.cell? ⟨tg, t * 12 + k, none⟩ = some u := by
 rcases h.tasks.1.2 with ⟨_, h0⟩ | ⟨tg, tc, cur, e, _, hg, hc, _⟩
 ·
  omega
 ·
  refine ⟨tg, tc, e, hc, h.tasks.2 tg (by rw [e]; rfl), fun k u hk hu => ?_⟩
  have hh := h.tasks.1
  rw [e] at hh
  have := hh.cells (g := tg) rfl (t * 12 + k) u (by rw [xflat_get (taskX0_len g v.tv) hk ht]; exact hu)
  rw [Addr.add_lit] at this
  simpa using this
end Go.Proofs.YtaholpfikcdhbaaGreat

/- The reference's New of layer 24. -/
namespace Go.Proofs.YtaholpfikcdhbaaGreat
open Go.RowKit
def XNewRet (w : World) (R : Nat) (g : GGraph) (gv : List Value) (caps : List Int) (e : Ending) (w' : World) : Prop :=
 (newE g caps ≠ 0 → e = .returned (.tuple #[.agg #[.string { data := #[] }, .slice none 0 0, .slice none 0 0, .slice none 0 0, .slice none 0 0, .slice none 0 0, .slice none 0 0, .slice none 0 0, .slice none 0 0], .int .i64 (newE g caps)]) ∧ Below w.heap.size w w') ∧
 (newE g caps = 0 → ∃ b q v, e = .returned (.tuple #[.agg (rigX gv v).toArray, .int .i64 0]) ∧ Kept w.heap.size q w w' ∧ XHalf w' q R b g gv caps g.actors.length (g.edges.length + g.ins.length + g.outs.length) (g.edges.length + g.ins.length) (g.edges.length + g.ins.length + g.outs.length) v)
theorem xnew_no {w w' : World} {R : Nat} {g : GGraph} {gv : List Value} {caps : List Int} {E : Int} (hE : newE g caps = E) (h0 : E ≠ 0) (hb : Below w.heap.size w w') : XNewRet w R g gv caps (.returned (.tuple #[.agg #[.string { data := #[] }, .slice none 0 0, .slice none 0 0, .slice none 0 0, .slice none 0 0, .slice none 0 0, .slice none 0 0, .slice none 0 0, .slice none 0 0], .int .i64 E])) w' :=
 ⟨fun _ => ⟨by rw [hE], hb⟩, fun h => absurd (hE.symm.trans h) h0⟩
structure XNewK (w0 w : World) (q : Col) (R b : Nat) (g : GGraph) (gv : List Value) (caps : List Int) (nT nS F B : Nat) (v : XRV) : Prop where
 kept : Kept w0.heap.size q w0 w
 box : Blk w q (R + 6) w0.heap.size 26 gv.toArray
 res : Blk w q (R + 7) (w0.heap.size + 1) 60 #[.string { data := #[] }, .slice none 0 0, .slice none 0 0, .slice none 0 0, .slice none 0 0, .slice none 0 0, .slice none 0 0, .slice none 0 0, .slice none 0 0]
 half : XHalf w q R b g gv caps nT nS F B v
theorem XNewK.turn {w0 w w' : World} {q q' : Col} {C : Nat → Prop} {R b : Nat} {g : GGraph} {gv : List Value} {caps : List Int} {nT nS F B : Nat} {v : XRV} (h : XNewK w0 w q R b g gv caps nT nS F B v) (T : Turn q q' C w w') (hC0 : ¬ C 0) (hC : ∀ k, C k → ¬ MineX R k) : XNewK w0 w' q' R b g gv caps nT nS F B v :=
 ⟨h.kept.turn T hC0, h.box.turn T (fun hc => hC _ hc (by unfold MineX; omega)), h.res.turn T (fun hc => hC _ hc (by unfold MineX; omega)), h.half.turn T hC⟩
set_option maxHeartbeats 2000000 in
theorem rig_set {w : World} {Z : Nat} {a0 a1 a2 a3 a4 a5 a6 a7 a8 z0 z1 z2 z3 z4 z5 z6 z7 z8 : Value} (h : w.heap[Z]? = some (.cells #[z0, z1, z2, z3, z4, z5, z6, z7, z8] 60 (0, 0))) :
  (((((((((w.setCell ⟨Z, 0, none⟩ a0).setCell ⟨Z, 1, none⟩ a1).setCell ⟨Z, 2, none⟩ a2).setCell ⟨Z, 3, none⟩ a3).setCell ⟨Z, 4, none⟩ a4).setCell ⟨Z, 5, none⟩ a5).setCell ⟨Z, 6, none⟩ a6).setCell ⟨Z, 7, none⟩ a7).setCell ⟨Z, 8, none⟩ a8).heap[Z]? = some (.cells #[a0, a1, a2, a3, a4, a5, a6, a7, a8] 60 (0, 0)) := by
 have h0 := block_setCell h 0 a0
 simp only [List.setIfInBounds_toArray, List.set_cons_zero] at h0
 have h1 := block_setCell h0 1 a1
 simp only [List.setIfInBounds_toArray, List.set_cons_zero, List.set_cons_succ] at h1
 have h2 := block_setCell h1 2 a2
 simp only [List.setIfInBounds_toArray, List.set_cons_zero, List.set_cons_succ] at h2
 have h3 := block_setCell h2 3 a3
 simp only [List.setIfInBounds_toArray, List.set_cons_zero, List.set_cons_succ] at h3
 have h4 := block_setCell h3 4 a4
 simp only [List.setIfInBounds_toArray, List.set_cons_zero, List.set_cons_succ] at h4
 have h5 := block_setCell h4 5 a5
 simp only [List.setIfInBounds_toArray, List.set_cons_zero, List.set_cons_succ] at h5
 have h6 := block_setCell h5 6 a6
 simp only [List.setIfInBounds_toArray, List.set_cons_zero, List.set_cons_succ] at h6
 have h7 := block_setCell h6 7 a7
 simp only [List.setIfInBounds_toArray, List.set_cons_zero, List.set_cons_succ] at h7
 have h8 := block_setCell h7 8 a8
 simp only [List.setIfInBounds_toArray, List.set_cons_zero, List.set_cons_succ] at h8
 exact h8
theorem rig_only (w : World) (Z : Nat) (a0 a1 a2 a3 a4 a5 a6 a7 a8 : Value) : Mods (fun k => k = Z) w (((((((((w.setCell ⟨Z, 0, none⟩ a0).setCell ⟨Z, 1, none⟩ a1).setCell ⟨Z, 2, none⟩ a2).setCell ⟨Z, 3, none⟩ a3).setCell ⟨Z, 4, none⟩ a4).setCell ⟨Z, 5, none⟩ a5).setCell ⟨Z, 6, none⟩ a6).setCell ⟨Z, 7, none⟩ a7).setCell ⟨Z, 8, none⟩ a8) :=
 (((((((((Mods.refl (fun k => k = Z) w).setCell (p := ⟨Z, 0, none⟩) (fun _ => rfl) a0).setCell (p := ⟨Z, 1, none⟩) (fun _ => rfl) a1).setCell (p := ⟨Z, 2, none⟩) (fun _ => rfl) a2).setCell (p := ⟨Z, 3, none⟩) (fun _ => rfl) a3).setCell (p := ⟨Z, 4, none⟩) (fun _ => rfl) a4).setCell (p := ⟨Z, 5, none⟩) (fun _ => rfl) a5).setCell (p := ⟨Z, 6, none⟩) (fun _ => rfl) a6).setCell (p := ⟨Z, 7, none⟩) (fun _ => rfl) a7).setCell (p := ⟨Z, 8, none⟩) (fun _ => rfl) a8
theorem rig_below {w w1 : World} {Z : Nat} (h : Below w.heap.size w w1) (hZ : w.heap.size ≤ Z) (a0 a1 a2 a3 a4 a5 a6 a7 a8 : Value) : Below w.heap.size w (((((((((w1.setCell ⟨Z, 0, none⟩ a0).setCell ⟨Z, 1, none⟩ a1).setCell ⟨Z, 2, none⟩ a2).setCell ⟨Z, 3, none⟩ a3).setCell ⟨Z, 4, none⟩ a4).setCell ⟨Z, 5, none⟩ a5).setCell ⟨Z, 6, none⟩ a6).setCell ⟨Z, 7, none⟩ a7).setCell ⟨Z, 8, none⟩ a8) :=
 h.trans (Mods.below (rig_only w1 Z a0 a1 a2 a3 a4 a5 a6 a7 a8) h.size (fun k hk e => by omega))
theorem box_cells {w : World} {o : Col} {c X : Nat} {n va ve vi vo : Value} (h : Blk w o c X 26 #[n, va, ve, vi, vo]) : w.cell? ⟨X, 0, none⟩ = some n ∧ w.cell? ⟨X, 1, none⟩ = some va ∧ w.cell? ⟨X, 2, none⟩ = some ve ∧ w.cell? ⟨X, 3, none⟩ = some vi ∧ w.cell? ⟨X, 4, none⟩ = some vo := ⟨h.cell 0 _ rfl, h.cell 1 _ rfl, h.cell 2 _ rfl, h.cell 3 _ rfl, h.cell 4 _ rfl⟩
theorem toL_ins {g : GGraph} (hS : Sound g) {t : Nat} (ht : t < g.actors.length) : toL g t g.edges.length = toL g t (g.edges.length + g.ins.length) := by
 refine List.ext_getElem (by simp [toL]) fun i h1 h2 => ?_
 simp only [toL, List.getElem_map, List.getElem_range]
 have hi : i < (ratesO g t).length := by simpa [toL] using h1
 rcases hS.to_lt ht hi with h | h
 ·
  rw [if_pos (by omega), if_pos (by omega)]
 ·
  rw [if_neg (by omega), if_neg (by omega)]
theorem XNewK.pass {w0 w : World} {q : Col} {R b : Nat} {g : GGraph} {gv : List Value} {caps : List Int} {nS F : Nat} {v : XRV} (h : XNewK w0 w q R b g gv caps g.actors.length nS F g.edges.length v) (hS : Sound g) : XNewK w0 w q R b g gv caps g.actors.length nS F (g.edges.length + g.ins.length) v := by
 refine { h with half := { h.half with task := fun t ht => ?_ } }
 have k := h.half.task t ht
 obtain ⟨gd, e2, b2⟩ := k.dst
 rw [toL_ins hS ht] at b2
 exact { k with dst := ⟨gd, e2, b2⟩ }
theorem XHalf.turn7 {w w' : World} {o o' : Col} {R b : Nat} {g : GGraph} {gv : List Value} {caps : List Int} {nT nS F B : Nat} {v : XRV} (h : XHalf w o R b g gv caps nT nS F B v) (T : Turn o o' (fun c => c = R + 7) w w') : XHalf w' o' R b g gv caps nT nS F B v :=
 ⟨h.rig.turn T (by omega), h.caps.turn T (by omega), h.fail.turn T (by omega), h.tasks.turn T (by omega), h.streams.turn T (by omega), fun t ht => (h.task t ht).turn T (by omega) (by omega) (by omega), fun d hd => (h.all d hd).turn T (by omega), h.most⟩
theorem res_turn {w : World} {o : Col} {c Z : Nat} {cs : Array Value} (h : Blk w o c Z 60 cs) (a0 a1 a2 a3 a4 a5 a6 a7 a8 : Value) : Turn o o (fun x => x = c) w (((((((((w.setCell ⟨Z, 0, none⟩ a0).setCell ⟨Z, 1, none⟩ a1).setCell ⟨Z, 2, none⟩ a2).setCell ⟨Z, 3, none⟩ a3).setCell ⟨Z, 4, none⟩ a4).setCell ⟨Z, 5, none⟩ a5).setCell ⟨Z, 6, none⟩ a6).setCell ⟨Z, 7, none⟩ a7).setCell ⟨Z, 8, none⟩ a8) :=
 ⟨(rig_only w Z a0 a1 a2 a3 a4 a5 a6 a7 a8).mono (fun k _ e => by rw [e]; exact h.2), fun _ _ => rfl⟩
def XFirst (w0 : World) (R : Nat) (g : GGraph) (gv : List Value) (caps : List Int) (p : Value) (wx : World) : Prop := ∃ b q v, p = .pointer (some ⟨b, 0, none⟩) ∧ XNewK w0 wx q R b g gv caps 0 0 0 0 v
theorem first_of {w0 w : World} {q : Col} {R b fb : Nat} {g : GGraph} {gn va ve vi vo sv : Value} {caps : List Int} (hR : 1 ≤ R) (K : Kept w0.heap.size q w0 w) (hX : Blk w q (R + 6) w0.heap.size 26 #[gn, va, ve, vi, vo]) (hZ : Blk w q (R + 7) (w0.heap.size + 1) 60 #[.string { data := #[] }, .slice none 0 0, .slice none 0 0, .slice none 0 0, .slice none 0 0, .slice none 0 0, .slice none 0 0, .slice none 0 0, .slice none 0 0]) (hC : Own w q (R + 3) 3 1 sv caps.length (ivs caps)) (hF : Blk w q (R + 4) fb 3 #[.int .i64 (-1)]) (hB : Blk w q (R + 5) b 60 #[.string { data := #[] }, .slice none 0 0, .slice none 0 0, .slice none 0 0, .slice none 0 0, .slice none 0 0, .slice none 0 0, .slice none 0 0, .slice none 0 0]) :
  XFirst w0 R g [gn, va, ve, vi, vo] caps (.pointer (some ⟨b, 0, none⟩)) (((((((((w.setCell ⟨b, 0, none⟩ gn).setCell ⟨b, 1, none⟩ va).setCell ⟨b, 2, none⟩ ve).setCell ⟨b, 3, none⟩ vi).setCell ⟨b, 4, none⟩ vo).setCell ⟨b, 5, none⟩ sv).setCell ⟨b, 6, none⟩ (.slice none 0 0)).setCell ⟨b, 7, none⟩ (.slice none 0 0)).setCell ⟨b, 8, none⟩ (.slice (some ⟨fb, 0, none⟩) 1 1)) := by
 have T : Turn q q (fun c => c = R + 5) w (((((((((w.setCell ⟨b, 0, none⟩ gn).setCell ⟨b, 1, none⟩ va).setCell ⟨b, 2, none⟩ ve).setCell ⟨b, 3, none⟩ vi).setCell ⟨b, 4, none⟩ vo).setCell ⟨b, 5, none⟩ sv).setCell ⟨b, 6, none⟩ (.slice none 0 0)).setCell ⟨b, 7, none⟩ (.slice none 0 0)).setCell ⟨b, 8, none⟩ (.slice (some ⟨fb, 0, none⟩) 1 1)) :=
  ⟨(rig_only w b _ _ _ _ _ _ _ _ _).mono (fun k _ e => by rw [e]; exact hB.2), fun _ _ => rfl⟩
 refine ⟨b, q, ⟨sv, .slice none 0 0, .slice none 0 0, fb, fun _ => ⟨.nilIface, .nilIface, .nilIface, .nilIface, .nilIface, .nilIface⟩, fun _ => .nilIface⟩, rfl, K.turn T (by omega), hX.turn T (by omega), hZ.turn T (by omega), ⟨⟨rig_set hB.1, hB.2⟩, (hC.turn T (by omega)).vals, hF.turn T (by omega), Own.nil _ _ _ _ _, Own.nil _ _ _ _ _, fun t ht => by omega, fun d hd => by omega, ⟨by omega, by omega⟩⟩⟩
theorem info_xtask : (Tryz.prog.info? 127).map (fun i => (i.zero, i.size, i.bytes)) = some (some (.agg #[.int .u8 0, .slice none 0 0, .slice none 0 0, .slice none 0 0, .slice none 0 0, .int .i64 0, .slice none 0 0, .slice none 0 0, .int .i64 0, .slice none 0 0, .slice none 0 0, .int .i64 0]), 12, 224) := by kernel_rfl
theorem info_xstream : (Tryz.prog.info? 129).map (fun i => (i.zero, i.size, i.bytes)) = some (some (.agg #[.slice none 0 0, .int .i64 0]), 2, 32) := by kernel_rfl
set_option maxHeartbeats 1000000 in
theorem act_set {w : World} {o : Col} {c Z : Nat} {a0 a1 a2 a3 a4 a5 z0 z1 z2 z3 z4 z5 : Value} (h : Blk w o c Z 123 #[z0, z1, z2, z3, z4, z5]) :
  Blk ((((((w.setCell ⟨Z, 0, none⟩ a0).setCell ⟨Z, 1, none⟩ a1).setCell ⟨Z, 2, none⟩ a2).setCell ⟨Z, 3, none⟩ a3).setCell ⟨Z, 4, none⟩ a4).setCell ⟨Z, 5, none⟩ a5) o c Z 123 #[a0, a1, a2, a3, a4, a5] ∧ Turn o o (fun x => x = c) w ((((((w.setCell ⟨Z, 0, none⟩ a0).setCell ⟨Z, 1, none⟩ a1).setCell ⟨Z, 2, none⟩ a2).setCell ⟨Z, 3, none⟩ a3).setCell ⟨Z, 4, none⟩ a4).setCell ⟨Z, 5, none⟩ a5) := by
 obtain ⟨h1, t1⟩ := h.set 0 a0
 obtain ⟨h2, t2⟩ := h1.set 1 a1
 obtain ⟨h3, t3⟩ := h2.set 2 a2
 obtain ⟨h4, t4⟩ := h3.set 3 a3
 obtain ⟨h5, t5⟩ := h4.set 4 a4
 obtain ⟨h6, t6⟩ := h5.set 5 a5
 exact ⟨h6, ((((t1.trans t2 (fun _ h => h)).trans t3 (fun _ h => h)).trans t4 (fun _ h => h)).trans t5 (fun _ h => h)).trans t6 (fun _ h => h)⟩
def XActed (w0 : World) (R b k : Nat) (g : GGraph) (gv : List Value) (caps : List Int) (v : XRV) (a : GActor) (pp ee : Value) (wx : World) : Prop :=
 ∃ q X vp vi vo vk, pp = .pointer (some ⟨X, 0, none⟩) ∧ ee = .int .i64 0 ∧ XNewK w0 wx q R b g gv caps k 0 0 0 v ∧ Blk wx q (R + 3000) X 123 #[.int .u8 a.tag, vp, vi, vo, vk, .int .i64 0] ∧
  Ints wx q (R + 3) vp a.params ∧ Ints wx q (R + 3) vi (insP a.tag a.params) ∧ Ints wx q (R + 3) vo (outsP a.tag a.params) ∧ Ints wx q (R + 3) vk (keep0 a.tag a.params)
theorem xmk_ints (n : Nat) (hn : n ≤ 100000) (w : World) : (Instr.makeSlice 27 (.int .i64 (n : Int)) (.int .i64 (n : Int))).run Tryz.prog w = .ok (.slice (some ⟨w.heap.size, 0, none⟩) n n) (w.alloc (.cells (ivs (List.replicate n 0)).toArray 3)) := by
 obtain ⟨i0, hi, hz0, hz1, hz2⟩ := info_parts info_int
 have h := run_make (P := Tryz.prog) (w := w) 27 3 i0 _ Tryz.underlying27 hi hz0 .i64 .i64 n n (by omega) (Int.le_refl _) (by rw [hz2]; omega) (by omega)
 have e : madeCells (Value.cells (.int .i64 0)) (n * 1) = (ivs (List.replicate n 0)).toArray := by rw [← made_ints n]
 rw [h, Int.toNat_natCast, hz1, e]
theorem task_in {w0 w : World} {q : Col} {R b X c k nS F B : Nat} {g : GGraph} {n va ve vi vo : Value} {caps : List Int} {v : XRV} {a0 a1 a2 a3 a4 a5 vt : Value} (hN : XNewK w0 w q R b g [n, va, ve, vi, vo] caps k nS F B v) (ht : v.tasks = vt) (hA : Blk w q c X 123 #[a0, a1, a2, a3, a4, a5]) : w.cell? ⟨b, 6, none⟩ = some vt ∧ w.cell? ⟨X, 0, none⟩ = some a0 ∧ w.cell? ⟨X, 1, none⟩ = some a1 ∧ w.cell? ⟨X, 2, none⟩ = some a2 ∧ w.cell? ⟨X, 3, none⟩ = some a3 ∧ w.cell? ⟨X, 4, none⟩ = some a4 ∧ w.cell? ⟨X, 5, none⟩ = some a5 :=
 ⟨by rw [← ht]; exact hN.half.rig.cell 6 v.tasks rfl, hA.cell 0 _ rfl, hA.cell 1 _ rfl, hA.cell 2 _ rfl, hA.cell 3 _ rfl, hA.cell 4 _ rfl, hA.cell 5 _ rfl⟩
/- a new row of zeros: $1 the world, $2 the colour, $3 how long, $4 its colour, $5 its fact, $6 the new colour, $7 the new world, $8 its block, $9 what else turns -/
/- the task is appended: the world w2, the colour q2, the rows gs, gd -/
/- the new actor's six cells -/
/- where it fails: $1 the facts of the result's block, $2 below, $3 why -/
set_option maxRecDepth 100000 in
set_option maxHeartbeats 4000000 in
theorem xnew_any (w : World) (R : Nat) (hR : 1 ≤ R) (g : GGraph) (caps : List Int) {aa ae ai ao : Option Addr} {ac ec ic oc : Nat} {ca : Option Addr} {nc cc : Nat} (hv : HasGraph w (.agg #[.string g.name, .slice aa g.actors.length ac, .slice ae g.edges.length ec, .slice ai g.ins.length ic, .slice ao g.outs.length oc]) g) (hz : GSized g) (hc : Has w (.slice ca nc cc) (ivs caps)) (hcb : caps.length ≤ 17600000000000) : Calls Tryz.prog 26 #[.agg #[.string g.name, .slice aa g.actors.length ac, .slice ae g.edges.length ec, .slice ai g.ins.length ic, .slice ao g.outs.length oc], .slice ca nc cc] w (XNewRet w R g [.string g.name, .slice aa g.actors.length ac, .slice ae g.edges.length ec, .slice ai g.ins.length ic, .slice ao g.outs.length oc] caps) := by
 obtain ⟨_, _, _, _, e0, ra, re, ri, ro⟩ := hv.shape
 obtain rfl : nc = caps.length := by simpa using Vals.len hc
 simp only [Value.agg.injEq, Array.mk.injEq, List.cons.injEq, and_true, true_and] at e0
 obtain ⟨rfl, rfl, rfl, rfl⟩ := e0
 have HG := Lib.hid hv
 have HRA := Lib.hid ra
 have HRE := Lib.hid re
 have HRI := Lib.hid ri
 have HRO := Lib.hid ro
 have HZZ := Lib.hid hz
 have HC := Lib.hid hc
 clear hv ra re ri ro hz hc
 have hb1 := below_alloc w (.cells #[.string g.name, .slice aa g.actors.length ac, .slice ae g.edges.length ec, .slice ai g.ins.length ic, .slice ao g.outs.length oc] 26)
 have T1 := Turn.of_below (fun _ => 0) (R + 6) hb1
 have hX := blk_new (w := w) (fun _ => 0) (R + 6) #[.string g.name, .slice aa g.actors.length ac, .slice ae g.edges.length ec, .slice ai g.ins.length ic, .slice ao g.outs.length oc] 26
 have hsz : (w.alloc (.cells #[.string g.name, .slice aa g.actors.length ac, .slice ae g.edges.length ec, .slice ai g.ins.length ic, .slice ao g.outs.length oc] 26)).heap.size = w.heap.size + 1 := by simp
 have hb2 := below_alloc (w.alloc (.cells #[.string g.name, .slice aa g.actors.length ac, .slice ae g.edges.length ec, .slice ai g.ins.length ic, .slice ao g.outs.length oc] 26)) (.cells #[.string { data := #[] }, .slice none 0 0, .slice none 0 0, .slice none 0 0, .slice none 0 0, .slice none 0 0, .slice none 0 0, .slice none 0 0, .slice none 0 0] 60)
 have T2 := Turn.of_below (ext (fun _ => 0) w.heap.size (R + 6)) (R + 7) hb2
 have hZ := blk_new (w := w.alloc (.cells #[.string g.name, .slice aa g.actors.length ac, .slice ae g.edges.length ec, .slice ai g.ins.length ic, .slice ao g.outs.length oc] 26)) (ext (fun _ => 0) w.heap.size (R + 6)) (R + 7) #[.string { data := #[] }, .slice none 0 0, .slice none 0 0, .slice none 0 0, .slice none 0 0, .slice none 0 0, .slice none 0 0, .slice none 0 0, .slice none 0 0] 60
 have HK := Lib.hid (((Kept.start w).turn T1 (fun h => h)).turn T2 (fun h => h))
 have HX := Lib.hid (hX.turn T2 (fun h => h))
 rw [hsz] at hZ HK HX
 have HZ := Lib.hid hZ
 generalize ext (ext (fun _ => 0) w.heap.size (R + 6)) (w.heap.size + 1) (R + 7) = q1 at *
 obtain ⟨w1, hw1⟩ : ∃ x, (w.alloc (.cells #[.string g.name, .slice aa g.actors.length ac, .slice ae g.edges.length ec, .slice ai g.ins.length ic, .slice ao g.outs.length oc] 26)).alloc (.cells #[.string { data := #[] }, .slice none 0 0, .slice none 0 0, .slice none 0 0, .slice none 0 0, .slice none 0 0, .slice none 0 0, .slice none 0 0, .slice none 0 0] 60) = x := ⟨_, rfl⟩
 have x := box_cells (HX.out)
 clear hb1 T1 hX hsz hb2 T2 hZ
 obtain ⟨x0, x1, x2, x3, x4⟩ := x
 rw [hw1] at HK HX HZ x0 x1 x2 x3 x4
 go_enter Tryz.func26, Tryz.ntmps26
 go_wp2_with fail
 clear hw1
 refine (xcheck_any _ _ g (HG.out.below HK.out.below) HZZ.out).mono ?_
 rintro e w2 ⟨rfl, hb2⟩
 obtain ⟨E, hE⟩ : ∃ x, checkE g = x := ⟨_, rfl⟩
 rw [hE]
 have HE := Lib.hid hE
 have T2 := Turn.of_below q1 (R + 8) hb2
 have HK2 := Lib.hid (HK.out.turn T2 (fun h => h))
 have HX2 := Lib.hid (HX.out.turn T2 (fun h => h))
 have HZ2 := Lib.hid (HZ.out.turn T2 (fun h => h))
 generalize ext q1 _ (R + 8) = q2 at *
 clear hE T2 hb2 x0 x1 x2 x3 x4 HK HX HZ
 by_cases h0 : E = 0
 ·
  subst h0
  obtain ⟨x0, x1, x2, x3, x4⟩ := box_cells HX2.out
  by_cases h1 : caps.length = g.edges.length
  ·
   have hbb : ((caps.length : Int) != (g.edges.length : Int)) = false := by rw [bne_eq_false_iff_eq]; omega
   have H1 := Lib.hid h1
   have HS := Lib.hid (sound_of HE.out)
   have HF := Lib.hid (head_few HS.out.head)
   clear h1
   go_wp2_with fail
   go_cut [7] from 28 to 33 (fun p wx => XFirst w R g [.string g.name, .slice aa g.actors.length ac, .slice ae g.edges.length ec, .slice ai g.ins.length ic, .slice ao g.outs.length oc] caps p wx)
   case first =>
    refine wp_region_drift (fun w' => w'.cell? ⟨w.heap.size, 0, none⟩ = some (.string g.name) ∧ w'.cell? ⟨w.heap.size, 1, none⟩ = some (.slice aa g.actors.length ac) ∧ w'.cell? ⟨w.heap.size, 2, none⟩ = some (.slice ae g.edges.length ec) ∧ w'.cell? ⟨w.heap.size, 3, none⟩ = some (.slice ai g.ins.length ic) ∧ w'.cell? ⟨w.heap.size, 4, none⟩ = some (.slice ao g.outs.length oc)) [0, 1, 4] [2] [0, 1] 5 (by kernel_rfl) (by kernel_rfl) rfl ⟨x0, x1, x2, x3, x4⟩ ?_
    intro Q' hQ' hQ2
    simp only [pickOps, List.flatMap_cons, List.flatMap_nil, List.drop_succ_cons, List.drop_zero, List.take_succ_cons, List.take_zero, List.cons_append, List.nil_append, List.append_nil]
    repeat (first
     | (refine wpReads_skip (by rfl) ?_; (try simp only [Act.put, List.setIfInBounds_toArray, List.set_cons_zero, List.set_cons_succ]))
     | (refine wpReads_cons ?_ (by rfl) (by rfl) ?_ ?_; rotate_left; (intro wz hz; (try dsimp only at hz); go_simp; try with_reducible rfl); (try simp only [Act.put, List.setIfInBounds_toArray, List.set_cons_zero, List.set_cons_succ]))
     | (refine wpReads_any ?_ (by rfl) ?_ ?_; rotate_left; (intro wz; go_simp; try with_reducible rfl); (try simp only [Act.put, List.setIfInBounds_toArray, List.set_cons_zero, List.set_cons_succ])))
    refine wpReads_nil ?_
    obtain ⟨wd, hwd⟩ : ∃ x, w2.drew = x := ⟨_, rfl⟩
    obtain ⟨qd, hqd⟩ : ∃ x, q2 = x := ⟨_, rfl⟩
    have T0 : Turn q2 q2 (fun _ => False) w2 wd := by rw [← hwd]; exact (Turn.refl q2 _ w2).drew
    have HK := Lib.hid (HK2.out.turn T0 (fun h => h))
    have HX := Lib.hid (HX2.out.turn T0 (fun h => h))
    have HZ := Lib.hid (HZ2.out.turn T0 (fun h => h))
    rw [hqd] at HK HX HZ
    rw [hwd]
    clear T0 hwd hqd x0 x1 x2 x3 x4 HK2 HX2 HZ2
    refine wpAnyT_three (i := 2) (k := 3) (m := 5) (by kernel_rfl) ?_ ?_ ?_
    ·
     simp only [pickOps, List.flatMap_cons, List.flatMap_nil, List.drop_succ_cons, List.drop_zero, List.take_succ_cons, List.take_zero, List.append_nil]
     go_wp2_with fail
     refine (rints_any _ ca caps.length cc caps (HC.out.below HK.out.below) hcb).mono ?_
     rintro e wS1 ⟨vc, rfl, oc1, hbN⟩
     obtain ⟨sa, sc, rfl⟩ := owns_slice oc1
     have TN := Turn.of_below qd (R + 3) hbN
     have HCAP := Lib.hid (Own.made qd (R + 3) oc1)
     replace HK := Lib.hid (HK.out.turn TN (fun h => h))
     replace HX := Lib.hid (HX.out.turn TN (fun h => h))
     replace HZ := Lib.hid (HZ.out.turn TN (fun h => h))
     generalize ext qd wd.heap.size (R + 3) = qS1 at *
     clear hbN TN oc1
     go_wp2_with fail
     refine ⟨by intros; exact box_cells HX.out, ?_⟩
     refine wpAnyT_two (i := 3) (k := 5) (by kernel_rfl) ?_ ?_
     ·
      simp only [pickOps, List.flatMap_cons, List.flatMap_nil, List.drop_succ_cons, List.drop_zero, List.take_succ_cons, List.take_zero, List.append_nil]
      have hbN := below_alloc wS1 (.cells #[.int .i64 (-1)] 3)
      have TN := Turn.of_below qS1 (R + 4) hbN
      have HFB := Lib.hid (blk_new (w := wS1) qS1 (R + 4) #[.int .i64 (-1)] 3)
      replace HK := Lib.hid (HK.out.turn TN (fun h => h))
      replace HX := Lib.hid (HX.out.turn TN (fun h => h))
      replace HZ := Lib.hid (HZ.out.turn TN (fun h => h))
      replace HCAP := Lib.hid (HCAP.out.turn TN (fun h => h))
      generalize ext qS1 wS1.heap.size (R + 4) = qS2 at *
      clear hbN TN
      go_wp2_with fail
      obtain ⟨wS2, hWN⟩ : ∃ x, wS1.alloc (.cells #[.int .i64 (-1)] 3) = x := ⟨_, rfl⟩
      obtain ⟨fb, hfN⟩ : ∃ x, wS1.heap.size = x := ⟨_, rfl⟩
      rw [hWN] at HK HX HZ HCAP HFB ⊢
      rw [hfN] at HFB ⊢
      clear hWN hfN
      refine ⟨by intros; exact box_cells HX.out, ?_⟩
      refine wpAnyT_later (r := [4]) (n := 2) hQ2 (by kernel_rfl) (box_cells HX.out) ?_
      simp only [pickOps, List.flatMap_cons, List.flatMap_nil, List.drop_succ_cons, List.drop_zero, List.take_succ_cons, List.take_zero, List.append_nil]
      repeat (first
       | (refine wpReads_skip (by rfl) ?_; (try simp only [Act.put, List.setIfInBounds_toArray, List.set_cons_zero, List.set_cons_succ]))
       | (refine wpReads_cons ?_ (by rfl) (by rfl) ?_ ?_; rotate_left; (intro wz hz; (try dsimp only at hz); go_simp; try with_reducible rfl); (try simp only [Act.put, List.setIfInBounds_toArray, List.set_cons_zero, List.set_cons_succ]))
       | (refine wpReads_any ?_ (by rfl) ?_ ?_; rotate_left; (intro wz; go_simp; try with_reducible rfl); (try simp only [Act.put, List.setIfInBounds_toArray, List.set_cons_zero, List.set_cons_succ])))
      refine wpReads_nil ?_
      refine wpAnyT_one (i := 5) (by kernel_rfl) ?_
      simp only [pickOps, List.flatMap_cons, List.flatMap_nil, List.drop_succ_cons, List.drop_zero, List.take_succ_cons, List.take_zero, List.append_nil]
      have hbN := below_alloc wS2 (.cells #[.string { data := #[] }, .slice none 0 0, .slice none 0 0, .slice none 0 0, .slice none 0 0, .slice none 0 0, .slice none 0 0, .slice none 0 0, .slice none 0 0] 60)
      have TN := Turn.of_below qS2 (R + 5) hbN
      have HRB := Lib.hid (blk_new (w := wS2) qS2 (R + 5) #[.string { data := #[] }, .slice none 0 0, .slice none 0 0, .slice none 0 0, .slice none 0 0, .slice none 0 0, .slice none 0 0, .slice none 0 0, .slice none 0 0] 60)
      replace HK := Lib.hid (HK.out.turn TN (fun h => h))
      replace HX := Lib.hid (HX.out.turn TN (fun h => h))
      replace HZ := Lib.hid (HZ.out.turn TN (fun h => h))
      replace HCAP := Lib.hid (HCAP.out.turn TN (fun h => h))
      replace HFB := Lib.hid (HFB.out.turn TN (fun h => h))
      generalize ext qS2 wS2.heap.size (R + 5) = qS3 at *
      clear hbN TN
      go_wp2_with fail
      obtain ⟨wS3, hWN⟩ : ∃ x, wS2.alloc (.cells #[.string { data := #[] }, .slice none 0 0, .slice none 0 0, .slice none 0 0, .slice none 0 0, .slice none 0 0, .slice none 0 0, .slice none 0 0, .slice none 0 0] 60) = x := ⟨_, rfl⟩
      obtain ⟨rb, hfN⟩ : ∃ x, wS2.heap.size = x := ⟨_, rfl⟩
      rw [hWN] at HK HX HZ HCAP HFB HRB ⊢
      rw [hfN] at HRB ⊢
      clear hWN hfN
      refine ⟨by intros; exact box_cells HX.out, ?_⟩
      have hrb := HRB.out
      have z0 := hrb.cell 0 _ rfl
      have z1 := hrb.cell 1 _ rfl
      have z2 := hrb.cell 2 _ rfl
      have z3 := hrb.cell 3 _ rfl
      have z4 := hrb.cell 4 _ rfl
      have z5 := hrb.cell 5 _ rfl
      have z6 := hrb.cell 6 _ rfl
      have z7 := hrb.cell 7 _ rfl
      have z8 := hrb.cell 8 _ rfl
      have f0 := hrb.frozen 0
      have f1 := hrb.frozen 1
      have f2 := hrb.frozen 2
      have f3 := hrb.frozen 3
      have f4 := hrb.frozen 4
      have f5 := hrb.frozen 5
      have f6 := hrb.frozen 6
      have f7 := hrb.frozen 7
      have f8 := hrb.frozen 8
      have HFIN := Lib.hid (first_of (g := g) hR HK.out HX.out HZ.out HCAP.out HFB.out HRB.out)
      clear hrb hQ2
      refine wpAnyT_list (ks := [6]) (fun _ _ hx h => ⟨hx.cell h.1, hx.cell h.2.1, hx.cell h.2.2.1, hx.cell h.2.2.2.1, hx.cell h.2.2.2.2⟩) (by kernel_rfl) ?_
      simp only [pickOps, List.flatMap_cons, List.flatMap_nil, List.drop_succ_cons, List.drop_zero, List.take_succ_cons, List.take_zero, List.append_nil]
      go_wp2
      go_meet
      case rel => exact HFIN.out
     ·
      simp only [pickOps, List.flatMap_cons, List.flatMap_nil, List.drop_succ_cons, List.drop_zero, List.take_succ_cons, List.take_zero, List.append_nil]
      have hbN := below_alloc wS1 (.cells #[.string { data := #[] }, .slice none 0 0, .slice none 0 0, .slice none 0 0, .slice none 0 0, .slice none 0 0, .slice none 0 0, .slice none 0 0, .slice none 0 0] 60)
      have TN := Turn.of_below qS1 (R + 5) hbN
      have HRB := Lib.hid (blk_new (w := wS1) qS1 (R + 5) #[.string { data := #[] }, .slice none 0 0, .slice none 0 0, .slice none 0 0, .slice none 0 0, .slice none 0 0, .slice none 0 0, .slice none 0 0, .slice none 0 0] 60)
      replace HK := Lib.hid (HK.out.turn TN (fun h => h))
      replace HX := Lib.hid (HX.out.turn TN (fun h => h))
      replace HZ := Lib.hid (HZ.out.turn TN (fun h => h))
      replace HCAP := Lib.hid (HCAP.out.turn TN (fun h => h))
      generalize ext qS1 wS1.heap.size (R + 5) = qS2 at *
      clear hbN TN
      go_wp2_with fail
      obtain ⟨wS2, hWN⟩ : ∃ x, wS1.alloc (.cells #[.string { data := #[] }, .slice none 0 0, .slice none 0 0, .slice none 0 0, .slice none 0 0, .slice none 0 0, .slice none 0 0, .slice none 0 0, .slice none 0 0] 60) = x := ⟨_, rfl⟩
      obtain ⟨rb, hfN⟩ : ∃ x, wS1.heap.size = x := ⟨_, rfl⟩
      rw [hWN] at HK HX HZ HCAP HRB ⊢
      rw [hfN] at HRB ⊢
      clear hWN hfN
      refine ⟨by intros; exact box_cells HX.out, ?_⟩
      refine wpAnyT_one (i := 3) (by kernel_rfl) ?_
      simp only [pickOps, List.flatMap_cons, List.flatMap_nil, List.drop_succ_cons, List.drop_zero, List.take_succ_cons, List.take_zero, List.append_nil]
      have hbN := below_alloc wS2 (.cells #[.int .i64 (-1)] 3)
      have TN := Turn.of_below qS2 (R + 4) hbN
      have HFB := Lib.hid (blk_new (w := wS2) qS2 (R + 4) #[.int .i64 (-1)] 3)
      replace HK := Lib.hid (HK.out.turn TN (fun h => h))
      replace HX := Lib.hid (HX.out.turn TN (fun h => h))
      replace HZ := Lib.hid (HZ.out.turn TN (fun h => h))
      replace HCAP := Lib.hid (HCAP.out.turn TN (fun h => h))
      replace HRB := Lib.hid (HRB.out.turn TN (fun h => h))
      generalize ext qS2 wS2.heap.size (R + 4) = qS3 at *
      clear hbN TN
      go_wp2_with fail
      obtain ⟨wS3, hWN⟩ : ∃ x, wS2.alloc (.cells #[.int .i64 (-1)] 3) = x := ⟨_, rfl⟩
      obtain ⟨fb, hfN⟩ : ∃ x, wS2.heap.size = x := ⟨_, rfl⟩
      rw [hWN] at HK HX HZ HCAP HRB HFB ⊢
      rw [hfN] at HFB ⊢
      clear hWN hfN
      refine ⟨by intros; exact box_cells HX.out, ?_⟩
      refine wpAnyT_later (r := [4]) (n := 1) hQ2 (by kernel_rfl) (box_cells HX.out) ?_
      simp only [pickOps, List.flatMap_cons, List.flatMap_nil, List.drop_succ_cons, List.drop_zero, List.take_succ_cons, List.take_zero, List.append_nil]
      repeat (first
       | (refine wpReads_skip (by rfl) ?_; (try simp only [Act.put, List.setIfInBounds_toArray, List.set_cons_zero, List.set_cons_succ]))
       | (refine wpReads_cons ?_ (by rfl) (by rfl) ?_ ?_; rotate_left; (intro wz hz; (try dsimp only at hz); go_simp; try with_reducible rfl); (try simp only [Act.put, List.setIfInBounds_toArray, List.set_cons_zero, List.set_cons_succ]))
       | (refine wpReads_any ?_ (by rfl) ?_ ?_; rotate_left; (intro wz; go_simp; try with_reducible rfl); (try simp only [Act.put, List.setIfInBounds_toArray, List.set_cons_zero, List.set_cons_succ])))
      refine wpReads_nil ?_
      have hrb := HRB.out
      have z0 := hrb.cell 0 _ rfl
      have z1 := hrb.cell 1 _ rfl
      have z2 := hrb.cell 2 _ rfl
      have z3 := hrb.cell 3 _ rfl
      have z4 := hrb.cell 4 _ rfl
      have z5 := hrb.cell 5 _ rfl
      have z6 := hrb.cell 6 _ rfl
      have z7 := hrb.cell 7 _ rfl
      have z8 := hrb.cell 8 _ rfl
      have f0 := hrb.frozen 0
      have f1 := hrb.frozen 1
      have f2 := hrb.frozen 2
      have f3 := hrb.frozen 3
      have f4 := hrb.frozen 4
      have f5 := hrb.frozen 5
      have f6 := hrb.frozen 6
      have f7 := hrb.frozen 7
      have f8 := hrb.frozen 8
      have HFIN := Lib.hid (first_of (g := g) hR HK.out HX.out HZ.out HCAP.out HFB.out HRB.out)
      clear hrb hQ2
      refine wpAnyT_list (ks := [6]) (fun _ _ hx h => ⟨hx.cell h.1, hx.cell h.2.1, hx.cell h.2.2.1, hx.cell h.2.2.2.1, hx.cell h.2.2.2.2⟩) (by kernel_rfl) ?_
      simp only [pickOps, List.flatMap_cons, List.flatMap_nil, List.drop_succ_cons, List.drop_zero, List.take_succ_cons, List.take_zero, List.append_nil]
      go_wp2
      go_meet
      case rel => exact HFIN.out
    ·
     simp only [pickOps, List.flatMap_cons, List.flatMap_nil, List.drop_succ_cons, List.drop_zero, List.take_succ_cons, List.take_zero, List.append_nil]
     have hbN := below_alloc wd (.cells #[.int .i64 (-1)] 3)
     have TN := Turn.of_below qd (R + 4) hbN
     have HFB := Lib.hid (blk_new (w := wd) qd (R + 4) #[.int .i64 (-1)] 3)
     replace HK := Lib.hid (HK.out.turn TN (fun h => h))
     replace HX := Lib.hid (HX.out.turn TN (fun h => h))
     replace HZ := Lib.hid (HZ.out.turn TN (fun h => h))
     generalize ext qd wd.heap.size (R + 4) = qS1 at *
     clear hbN TN
     go_wp2_with fail
     obtain ⟨wS1, hWN⟩ : ∃ x, wd.alloc (.cells #[.int .i64 (-1)] 3) = x := ⟨_, rfl⟩
     obtain ⟨fb, hfN⟩ : ∃ x, wd.heap.size = x := ⟨_, rfl⟩
     rw [hWN] at HK HX HZ HFB ⊢
     rw [hfN] at HFB ⊢
     clear hWN hfN
     refine ⟨by intros; exact box_cells HX.out, ?_⟩
     refine wpAnyT_two (i := 2) (k := 5) (by kernel_rfl) ?_ ?_
     ·
      simp only [pickOps, List.flatMap_cons, List.flatMap_nil, List.drop_succ_cons, List.drop_zero, List.take_succ_cons, List.take_zero, List.append_nil]
      go_wp2_with fail
      refine (rints_any _ ca caps.length cc caps (HC.out.below HK.out.below) hcb).mono ?_
      rintro e wS2 ⟨vc, rfl, oc1, hbN⟩
      obtain ⟨sa, sc, rfl⟩ := owns_slice oc1
      have TN := Turn.of_below qS1 (R + 3) hbN
      have HCAP := Lib.hid (Own.made qS1 (R + 3) oc1)
      replace HK := Lib.hid (HK.out.turn TN (fun h => h))
      replace HX := Lib.hid (HX.out.turn TN (fun h => h))
      replace HZ := Lib.hid (HZ.out.turn TN (fun h => h))
      replace HFB := Lib.hid (HFB.out.turn TN (fun h => h))
      generalize ext qS1 wS1.heap.size (R + 3) = qS2 at *
      clear hbN TN oc1
      go_wp2_with fail
      refine ⟨by intros; exact box_cells HX.out, ?_⟩
      refine wpAnyT_later (r := [4]) (n := 2) hQ2 (by kernel_rfl) (box_cells HX.out) ?_
      simp only [pickOps, List.flatMap_cons, List.flatMap_nil, List.drop_succ_cons, List.drop_zero, List.take_succ_cons, List.take_zero, List.append_nil]
      repeat (first
       | (refine wpReads_skip (by rfl) ?_; (try simp only [Act.put, List.setIfInBounds_toArray, List.set_cons_zero, List.set_cons_succ]))
       | (refine wpReads_cons ?_ (by rfl) (by rfl) ?_ ?_; rotate_left; (intro wz hz; (try dsimp only at hz); go_simp; try with_reducible rfl); (try simp only [Act.put, List.setIfInBounds_toArray, List.set_cons_zero, List.set_cons_succ]))
       | (refine wpReads_any ?_ (by rfl) ?_ ?_; rotate_left; (intro wz; go_simp; try with_reducible rfl); (try simp only [Act.put, List.setIfInBounds_toArray, List.set_cons_zero, List.set_cons_succ])))
      refine wpReads_nil ?_
      refine wpAnyT_one (i := 5) (by kernel_rfl) ?_
      simp only [pickOps, List.flatMap_cons, List.flatMap_nil, List.drop_succ_cons, List.drop_zero, List.take_succ_cons, List.take_zero, List.append_nil]
      have hbN := below_alloc wS2 (.cells #[.string { data := #[] }, .slice none 0 0, .slice none 0 0, .slice none 0 0, .slice none 0 0, .slice none 0 0, .slice none 0 0, .slice none 0 0, .slice none 0 0] 60)
      have TN := Turn.of_below qS2 (R + 5) hbN
      have HRB := Lib.hid (blk_new (w := wS2) qS2 (R + 5) #[.string { data := #[] }, .slice none 0 0, .slice none 0 0, .slice none 0 0, .slice none 0 0, .slice none 0 0, .slice none 0 0, .slice none 0 0, .slice none 0 0] 60)
      replace HK := Lib.hid (HK.out.turn TN (fun h => h))
      replace HX := Lib.hid (HX.out.turn TN (fun h => h))
      replace HZ := Lib.hid (HZ.out.turn TN (fun h => h))
      replace HFB := Lib.hid (HFB.out.turn TN (fun h => h))
      replace HCAP := Lib.hid (HCAP.out.turn TN (fun h => h))
      generalize ext qS2 wS2.heap.size (R + 5) = qS3 at *
      clear hbN TN
      go_wp2_with fail
      obtain ⟨wS3, hWN⟩ : ∃ x, wS2.alloc (.cells #[.string { data := #[] }, .slice none 0 0, .slice none 0 0, .slice none 0 0, .slice none 0 0, .slice none 0 0, .slice none 0 0, .slice none 0 0, .slice none 0 0] 60) = x := ⟨_, rfl⟩
      obtain ⟨rb, hfN⟩ : ∃ x, wS2.heap.size = x := ⟨_, rfl⟩
      rw [hWN] at HK HX HZ HFB HCAP HRB ⊢
      rw [hfN] at HRB ⊢
      clear hWN hfN
      refine ⟨by intros; exact box_cells HX.out, ?_⟩
      have hrb := HRB.out
      have z0 := hrb.cell 0 _ rfl
      have z1 := hrb.cell 1 _ rfl
      have z2 := hrb.cell 2 _ rfl
      have z3 := hrb.cell 3 _ rfl
      have z4 := hrb.cell 4 _ rfl
      have z5 := hrb.cell 5 _ rfl
      have z6 := hrb.cell 6 _ rfl
      have z7 := hrb.cell 7 _ rfl
      have z8 := hrb.cell 8 _ rfl
      have f0 := hrb.frozen 0
      have f1 := hrb.frozen 1
      have f2 := hrb.frozen 2
      have f3 := hrb.frozen 3
      have f4 := hrb.frozen 4
      have f5 := hrb.frozen 5
      have f6 := hrb.frozen 6
      have f7 := hrb.frozen 7
      have f8 := hrb.frozen 8
      have HFIN := Lib.hid (first_of (g := g) hR HK.out HX.out HZ.out HCAP.out HFB.out HRB.out)
      clear hrb hQ2
      refine wpAnyT_list (ks := [6]) (fun _ _ hx h => ⟨hx.cell h.1, hx.cell h.2.1, hx.cell h.2.2.1, hx.cell h.2.2.2.1, hx.cell h.2.2.2.2⟩) (by kernel_rfl) ?_
      simp only [pickOps, List.flatMap_cons, List.flatMap_nil, List.drop_succ_cons, List.drop_zero, List.take_succ_cons, List.take_zero, List.append_nil]
      go_wp2
      go_meet
      case rel => exact HFIN.out
     ·
      simp only [pickOps, List.flatMap_cons, List.flatMap_nil, List.drop_succ_cons, List.drop_zero, List.take_succ_cons, List.take_zero, List.append_nil]
      have hbN := below_alloc wS1 (.cells #[.string { data := #[] }, .slice none 0 0, .slice none 0 0, .slice none 0 0, .slice none 0 0, .slice none 0 0, .slice none 0 0, .slice none 0 0, .slice none 0 0] 60)
      have TN := Turn.of_below qS1 (R + 5) hbN
      have HRB := Lib.hid (blk_new (w := wS1) qS1 (R + 5) #[.string { data := #[] }, .slice none 0 0, .slice none 0 0, .slice none 0 0, .slice none 0 0, .slice none 0 0, .slice none 0 0, .slice none 0 0, .slice none 0 0] 60)
      replace HK := Lib.hid (HK.out.turn TN (fun h => h))
      replace HX := Lib.hid (HX.out.turn TN (fun h => h))
      replace HZ := Lib.hid (HZ.out.turn TN (fun h => h))
      replace HFB := Lib.hid (HFB.out.turn TN (fun h => h))
      generalize ext qS1 wS1.heap.size (R + 5) = qS2 at *
      clear hbN TN
      go_wp2_with fail
      obtain ⟨wS2, hWN⟩ : ∃ x, wS1.alloc (.cells #[.string { data := #[] }, .slice none 0 0, .slice none 0 0, .slice none 0 0, .slice none 0 0, .slice none 0 0, .slice none 0 0, .slice none 0 0, .slice none 0 0] 60) = x := ⟨_, rfl⟩
      obtain ⟨rb, hfN⟩ : ∃ x, wS1.heap.size = x := ⟨_, rfl⟩
      rw [hWN] at HK HX HZ HFB HRB ⊢
      rw [hfN] at HRB ⊢
      clear hWN hfN
      refine ⟨by intros; exact box_cells HX.out, ?_⟩
      refine wpAnyT_one (i := 2) (by kernel_rfl) ?_
      simp only [pickOps, List.flatMap_cons, List.flatMap_nil, List.drop_succ_cons, List.drop_zero, List.take_succ_cons, List.take_zero, List.append_nil]
      go_wp2_with fail
      refine (rints_any _ ca caps.length cc caps (HC.out.below HK.out.below) hcb).mono ?_
      rintro e wS3 ⟨vc, rfl, oc1, hbN⟩
      obtain ⟨sa, sc, rfl⟩ := owns_slice oc1
      have TN := Turn.of_below qS2 (R + 3) hbN
      have HCAP := Lib.hid (Own.made qS2 (R + 3) oc1)
      replace HK := Lib.hid (HK.out.turn TN (fun h => h))
      replace HX := Lib.hid (HX.out.turn TN (fun h => h))
      replace HZ := Lib.hid (HZ.out.turn TN (fun h => h))
      replace HFB := Lib.hid (HFB.out.turn TN (fun h => h))
      replace HRB := Lib.hid (HRB.out.turn TN (fun h => h))
      generalize ext qS2 wS2.heap.size (R + 3) = qS3 at *
      clear hbN TN oc1
      go_wp2_with fail
      refine ⟨by intros; exact box_cells HX.out, ?_⟩
      refine wpAnyT_later (r := [4]) (n := 1) hQ2 (by kernel_rfl) (box_cells HX.out) ?_
      simp only [pickOps, List.flatMap_cons, List.flatMap_nil, List.drop_succ_cons, List.drop_zero, List.take_succ_cons, List.take_zero, List.append_nil]
      repeat (first
       | (refine wpReads_skip (by rfl) ?_; (try simp only [Act.put, List.setIfInBounds_toArray, List.set_cons_zero, List.set_cons_succ]))
       | (refine wpReads_cons ?_ (by rfl) (by rfl) ?_ ?_; rotate_left; (intro wz hz; (try dsimp only at hz); go_simp; try with_reducible rfl); (try simp only [Act.put, List.setIfInBounds_toArray, List.set_cons_zero, List.set_cons_succ]))
       | (refine wpReads_any ?_ (by rfl) ?_ ?_; rotate_left; (intro wz; go_simp; try with_reducible rfl); (try simp only [Act.put, List.setIfInBounds_toArray, List.set_cons_zero, List.set_cons_succ])))
      refine wpReads_nil ?_
      have hrb := HRB.out
      have z0 := hrb.cell 0 _ rfl
      have z1 := hrb.cell 1 _ rfl
      have z2 := hrb.cell 2 _ rfl
      have z3 := hrb.cell 3 _ rfl
      have z4 := hrb.cell 4 _ rfl
      have z5 := hrb.cell 5 _ rfl
      have z6 := hrb.cell 6 _ rfl
      have z7 := hrb.cell 7 _ rfl
      have z8 := hrb.cell 8 _ rfl
      have f0 := hrb.frozen 0
      have f1 := hrb.frozen 1
      have f2 := hrb.frozen 2
      have f3 := hrb.frozen 3
      have f4 := hrb.frozen 4
      have f5 := hrb.frozen 5
      have f6 := hrb.frozen 6
      have f7 := hrb.frozen 7
      have f8 := hrb.frozen 8
      have HFIN := Lib.hid (first_of (g := g) hR HK.out HX.out HZ.out HCAP.out HFB.out HRB.out)
      clear hrb hQ2
      refine wpAnyT_list (ks := [6]) (fun _ _ hx h => ⟨hx.cell h.1, hx.cell h.2.1, hx.cell h.2.2.1, hx.cell h.2.2.2.1, hx.cell h.2.2.2.2⟩) (by kernel_rfl) ?_
      simp only [pickOps, List.flatMap_cons, List.flatMap_nil, List.drop_succ_cons, List.drop_zero, List.take_succ_cons, List.take_zero, List.append_nil]
      go_wp2
      go_meet
      case rel => exact HFIN.out
    ·
     simp only [pickOps, List.flatMap_cons, List.flatMap_nil, List.drop_succ_cons, List.drop_zero, List.take_succ_cons, List.take_zero, List.append_nil]
     have hbN := below_alloc wd (.cells #[.string { data := #[] }, .slice none 0 0, .slice none 0 0, .slice none 0 0, .slice none 0 0, .slice none 0 0, .slice none 0 0, .slice none 0 0, .slice none 0 0] 60)
     have TN := Turn.of_below qd (R + 5) hbN
     have HRB := Lib.hid (blk_new (w := wd) qd (R + 5) #[.string { data := #[] }, .slice none 0 0, .slice none 0 0, .slice none 0 0, .slice none 0 0, .slice none 0 0, .slice none 0 0, .slice none 0 0, .slice none 0 0] 60)
     replace HK := Lib.hid (HK.out.turn TN (fun h => h))
     replace HX := Lib.hid (HX.out.turn TN (fun h => h))
     replace HZ := Lib.hid (HZ.out.turn TN (fun h => h))
     generalize ext qd wd.heap.size (R + 5) = qS1 at *
     clear hbN TN
     go_wp2_with fail
     obtain ⟨wS1, hWN⟩ : ∃ x, wd.alloc (.cells #[.string { data := #[] }, .slice none 0 0, .slice none 0 0, .slice none 0 0, .slice none 0 0, .slice none 0 0, .slice none 0 0, .slice none 0 0, .slice none 0 0] 60) = x := ⟨_, rfl⟩
     obtain ⟨rb, hfN⟩ : ∃ x, wd.heap.size = x := ⟨_, rfl⟩
     rw [hWN] at HK HX HZ HRB ⊢
     rw [hfN] at HRB ⊢
     clear hWN hfN
     refine ⟨by intros; exact box_cells HX.out, ?_⟩
     refine wpAnyT_two (i := 2) (k := 3) (by kernel_rfl) ?_ ?_
     ·
      simp only [pickOps, List.flatMap_cons, List.flatMap_nil, List.drop_succ_cons, List.drop_zero, List.take_succ_cons, List.take_zero, List.append_nil]
      go_wp2_with fail
      refine (rints_any _ ca caps.length cc caps (HC.out.below HK.out.below) hcb).mono ?_
      rintro e wS2 ⟨vc, rfl, oc1, hbN⟩
      obtain ⟨sa, sc, rfl⟩ := owns_slice oc1
      have TN := Turn.of_below qS1 (R + 3) hbN
      have HCAP := Lib.hid (Own.made qS1 (R + 3) oc1)
      replace HK := Lib.hid (HK.out.turn TN (fun h => h))
      replace HX := Lib.hid (HX.out.turn TN (fun h => h))
      replace HZ := Lib.hid (HZ.out.turn TN (fun h => h))
      replace HRB := Lib.hid (HRB.out.turn TN (fun h => h))
      generalize ext qS1 wS1.heap.size (R + 3) = qS2 at *
      clear hbN TN oc1
      go_wp2_with fail
      refine ⟨by intros; exact box_cells HX.out, ?_⟩
      refine wpAnyT_one (i := 3) (by kernel_rfl) ?_
      simp only [pickOps, List.flatMap_cons, List.flatMap_nil, List.drop_succ_cons, List.drop_zero, List.take_succ_cons, List.take_zero, List.append_nil]
      have hbN := below_alloc wS2 (.cells #[.int .i64 (-1)] 3)
      have TN := Turn.of_below qS2 (R + 4) hbN
      have HFB := Lib.hid (blk_new (w := wS2) qS2 (R + 4) #[.int .i64 (-1)] 3)
      replace HK := Lib.hid (HK.out.turn TN (fun h => h))
      replace HX := Lib.hid (HX.out.turn TN (fun h => h))
      replace HZ := Lib.hid (HZ.out.turn TN (fun h => h))
      replace HRB := Lib.hid (HRB.out.turn TN (fun h => h))
      replace HCAP := Lib.hid (HCAP.out.turn TN (fun h => h))
      generalize ext qS2 wS2.heap.size (R + 4) = qS3 at *
      clear hbN TN
      go_wp2_with fail
      obtain ⟨wS3, hWN⟩ : ∃ x, wS2.alloc (.cells #[.int .i64 (-1)] 3) = x := ⟨_, rfl⟩
      obtain ⟨fb, hfN⟩ : ∃ x, wS2.heap.size = x := ⟨_, rfl⟩
      rw [hWN] at HK HX HZ HRB HCAP HFB ⊢
      rw [hfN] at HFB ⊢
      clear hWN hfN
      refine ⟨by intros; exact box_cells HX.out, ?_⟩
      refine wpAnyT_later (r := [4]) (n := 1) hQ2 (by kernel_rfl) (box_cells HX.out) ?_
      simp only [pickOps, List.flatMap_cons, List.flatMap_nil, List.drop_succ_cons, List.drop_zero, List.take_succ_cons, List.take_zero, List.append_nil]
      repeat (first
       | (refine wpReads_skip (by rfl) ?_; (try simp only [Act.put, List.setIfInBounds_toArray, List.set_cons_zero, List.set_cons_succ]))
       | (refine wpReads_cons ?_ (by rfl) (by rfl) ?_ ?_; rotate_left; (intro wz hz; (try dsimp only at hz); go_simp; try with_reducible rfl); (try simp only [Act.put, List.setIfInBounds_toArray, List.set_cons_zero, List.set_cons_succ]))
       | (refine wpReads_any ?_ (by rfl) ?_ ?_; rotate_left; (intro wz; go_simp; try with_reducible rfl); (try simp only [Act.put, List.setIfInBounds_toArray, List.set_cons_zero, List.set_cons_succ])))
      refine wpReads_nil ?_
      have hrb := HRB.out
      have z0 := hrb.cell 0 _ rfl
      have z1 := hrb.cell 1 _ rfl
      have z2 := hrb.cell 2 _ rfl
      have z3 := hrb.cell 3 _ rfl
      have z4 := hrb.cell 4 _ rfl
      have z5 := hrb.cell 5 _ rfl
      have z6 := hrb.cell 6 _ rfl
      have z7 := hrb.cell 7 _ rfl
      have z8 := hrb.cell 8 _ rfl
      have f0 := hrb.frozen 0
      have f1 := hrb.frozen 1
      have f2 := hrb.frozen 2
      have f3 := hrb.frozen 3
      have f4 := hrb.frozen 4
      have f5 := hrb.frozen 5
      have f6 := hrb.frozen 6
      have f7 := hrb.frozen 7
      have f8 := hrb.frozen 8
      have HFIN := Lib.hid (first_of (g := g) hR HK.out HX.out HZ.out HCAP.out HFB.out HRB.out)
      clear hrb hQ2
      refine wpAnyT_list (ks := [6]) (fun _ _ hx h => ⟨hx.cell h.1, hx.cell h.2.1, hx.cell h.2.2.1, hx.cell h.2.2.2.1, hx.cell h.2.2.2.2⟩) (by kernel_rfl) ?_
      simp only [pickOps, List.flatMap_cons, List.flatMap_nil, List.drop_succ_cons, List.drop_zero, List.take_succ_cons, List.take_zero, List.append_nil]
      go_wp2
      go_meet
      case rel => exact HFIN.out
     ·
      simp only [pickOps, List.flatMap_cons, List.flatMap_nil, List.drop_succ_cons, List.drop_zero, List.take_succ_cons, List.take_zero, List.append_nil]
      have hbN := below_alloc wS1 (.cells #[.int .i64 (-1)] 3)
      have TN := Turn.of_below qS1 (R + 4) hbN
      have HFB := Lib.hid (blk_new (w := wS1) qS1 (R + 4) #[.int .i64 (-1)] 3)
      replace HK := Lib.hid (HK.out.turn TN (fun h => h))
      replace HX := Lib.hid (HX.out.turn TN (fun h => h))
      replace HZ := Lib.hid (HZ.out.turn TN (fun h => h))
      replace HRB := Lib.hid (HRB.out.turn TN (fun h => h))
      generalize ext qS1 wS1.heap.size (R + 4) = qS2 at *
      clear hbN TN
      go_wp2_with fail
      obtain ⟨wS2, hWN⟩ : ∃ x, wS1.alloc (.cells #[.int .i64 (-1)] 3) = x := ⟨_, rfl⟩
      obtain ⟨fb, hfN⟩ : ∃ x, wS1.heap.size = x := ⟨_, rfl⟩
      rw [hWN] at HK HX HZ HRB HFB ⊢
      rw [hfN] at HFB ⊢
      clear hWN hfN
      refine ⟨by intros; exact box_cells HX.out, ?_⟩
      refine wpAnyT_one (i := 2) (by kernel_rfl) ?_
      simp only [pickOps, List.flatMap_cons, List.flatMap_nil, List.drop_succ_cons, List.drop_zero, List.take_succ_cons, List.take_zero, List.append_nil]
      go_wp2_with fail
      refine (rints_any _ ca caps.length cc caps (HC.out.below HK.out.below) hcb).mono ?_
      rintro e wS3 ⟨vc, rfl, oc1, hbN⟩
      obtain ⟨sa, sc, rfl⟩ := owns_slice oc1
      have TN := Turn.of_below qS2 (R + 3) hbN
      have HCAP := Lib.hid (Own.made qS2 (R + 3) oc1)
      replace HK := Lib.hid (HK.out.turn TN (fun h => h))
      replace HX := Lib.hid (HX.out.turn TN (fun h => h))
      replace HZ := Lib.hid (HZ.out.turn TN (fun h => h))
      replace HRB := Lib.hid (HRB.out.turn TN (fun h => h))
      replace HFB := Lib.hid (HFB.out.turn TN (fun h => h))
      generalize ext qS2 wS2.heap.size (R + 3) = qS3 at *
      clear hbN TN oc1
      go_wp2_with fail
      refine ⟨by intros; exact box_cells HX.out, ?_⟩
      refine wpAnyT_later (r := [4]) (n := 1) hQ2 (by kernel_rfl) (box_cells HX.out) ?_
      simp only [pickOps, List.flatMap_cons, List.flatMap_nil, List.drop_succ_cons, List.drop_zero, List.take_succ_cons, List.take_zero, List.append_nil]
      repeat (first
       | (refine wpReads_skip (by rfl) ?_; (try simp only [Act.put, List.setIfInBounds_toArray, List.set_cons_zero, List.set_cons_succ]))
       | (refine wpReads_cons ?_ (by rfl) (by rfl) ?_ ?_; rotate_left; (intro wz hz; (try dsimp only at hz); go_simp; try with_reducible rfl); (try simp only [Act.put, List.setIfInBounds_toArray, List.set_cons_zero, List.set_cons_succ]))
       | (refine wpReads_any ?_ (by rfl) ?_ ?_; rotate_left; (intro wz; go_simp; try with_reducible rfl); (try simp only [Act.put, List.setIfInBounds_toArray, List.set_cons_zero, List.set_cons_succ])))
      refine wpReads_nil ?_
      have hrb := HRB.out
      have z0 := hrb.cell 0 _ rfl
      have z1 := hrb.cell 1 _ rfl
      have z2 := hrb.cell 2 _ rfl
      have z3 := hrb.cell 3 _ rfl
      have z4 := hrb.cell 4 _ rfl
      have z5 := hrb.cell 5 _ rfl
      have z6 := hrb.cell 6 _ rfl
      have z7 := hrb.cell 7 _ rfl
      have z8 := hrb.cell 8 _ rfl
      have f0 := hrb.frozen 0
      have f1 := hrb.frozen 1
      have f2 := hrb.frozen 2
      have f3 := hrb.frozen 3
      have f4 := hrb.frozen 4
      have f5 := hrb.frozen 5
      have f6 := hrb.frozen 6
      have f7 := hrb.frozen 7
      have f8 := hrb.frozen 8
      have HFIN := Lib.hid (first_of (g := g) hR HK.out HX.out HZ.out HCAP.out HFB.out HRB.out)
      clear hrb hQ2
      refine wpAnyT_list (ks := [6]) (fun _ _ hx h => ⟨hx.cell h.1, hx.cell h.2.1, hx.cell h.2.2.1, hx.cell h.2.2.2.1, hx.cell h.2.2.2.2⟩) (by kernel_rfl) ?_
      simp only [pickOps, List.flatMap_cons, List.flatMap_nil, List.drop_succ_cons, List.drop_zero, List.take_succ_cons, List.take_zero, List.append_nil]
      go_wp2
      go_meet
      case rel => exact HFIN.out
   case rest =>
    obtain ⟨b, q, v, rfl, hN⟩ := hcut
    have HN := Lib.hid hN
    clear hN x0 x1 x2 x3 x4 hbb HK2 HX2 HZ2
    have x1 := HN.out.box.cell 1 _ rfl
    go_wp2_with fail
    go_loopw [8] (fun i wz => ∃ (k : Nat) (q : Col) (v : XRV), k ≤ g.actors.length ∧ i = .int .i64 k ∧ XNewK w wz q R b g [.string g.name, .slice aa g.actors.length ac, .slice ae g.edges.length ec, .slice ai g.ins.length ic, .slice ao g.outs.length oc] caps k 0 0 0 v) (fun i _ => g.actors.length - (intOf i).toNat)
    case atStart => exact ⟨0, _, v, Nat.zero_le _, rfl, HN.out⟩
    case round =>
     clear HN x1
     obtain ⟨k, q, v, hk, rfl, hN⟩ := hrel
     have HN := Lib.hid hN
     clear hN
     have x1 := HN.out.box.cell 1 _ rfl
     by_cases hlt : k < g.actors.length
     ·
      have hlti : (k : Int) < g.actors.length := by omega
      obtain ⟨b0, off, haa, hcap, hb0, hrec⟩ := HRA.out.at (by omega)
      change wr.cell? _ = some (.slice aa g.actors.length ac) at x1
      rw [haa] at x1
      obtain ⟨cs, hcs, hPR, hcl⟩ := hrec k hlt
      obtain ⟨xs, rfl, hst⟩ := hPR
      have c1 := cell_later HN.out.kept.below (hcl 1 (by omega))
      have c2 := cell_later HN.out.kept.below (hcl 2 (by omega))
      simp at c1 c2
      have hcapi : (g.actors.length : Int) ≤ ac := by omega
      obtain ⟨sa, sc, hxs⟩ := Ints.slice hst
      subst hxs
      have HST := Lib.hid hst
      clear hrec hcl hcs hst hb0 hcap haa
      have hba := List.getElem_mem hlt
      have hgo := HS.out.good _ hba
      have hag : g.actors[k]? = some g.actors[k] := List.getElem?_eq_getElem hlt
      have HGO := Lib.hid hgo
      have HAG := Lib.hid hag
      obtain ⟨a, hae⟩ : ∃ a, g.actors[k] = a := ⟨_, rfl⟩
      rw [hae] at c1 c2 HST HGO HAG
      clear hba hgo hag hae
      go_wp2_with fail
      go_cut [9, 10] from 33 to 70 (fun pp ee wx => XActed w R b k g [.string g.name, .slice aa g.actors.length ac, .slice ae g.edges.length ec, .slice ai g.ins.length ic, .slice ao g.outs.length oc] caps v a pp ee wx)
      case first =>
       refine wp_region_mid2 (fun w' => w'.cell? ⟨w.heap.size, 1, none⟩ = some (.slice (some ⟨b0, off, none⟩) g.actors.length ac) ∧ w'.cell? ⟨b0, off + k * 3 + 1, none⟩ = some (.int .u8 a.tag) ∧ w'.cell? ⟨b0, off + k * 3 + 2, none⟩ = some (.slice sa a.params.length sc)) [0, 1, 2, 3, 4, 5, 6, 7, 8, 9, 10, 11] 12 16 [13, 14, 15] [12] 2 (by kernel_rfl) (by kernel_rfl) rfl ⟨x1, c1, c2⟩ ?_
       intro Q' hQ'
       simp only [pickOps, List.flatMap_cons, List.flatMap_nil, List.drop_succ_cons, List.drop_zero, List.take_succ_cons, List.take_zero, List.cons_append, List.nil_append, List.append_nil]
       repeat (first
        | (refine wpReads_skip (by rfl) ?_; (try simp only [Act.put, List.setIfInBounds_toArray, List.set_cons_zero, List.set_cons_succ]))
        | (refine wpReads_cons ?_ (by rfl) (by rfl) ?_ ?_; rotate_left; (intro wz hz; (try dsimp only at hz); go_simp; try with_reducible rfl); (try simp only [Act.put, List.setIfInBounds_toArray, List.set_cons_zero, List.set_cons_succ]))
        | (refine wpReads_any ?_ (by rfl) ?_ ?_; rotate_left; (intro wz; go_simp; try with_reducible rfl); (try simp only [Act.put, List.setIfInBounds_toArray, List.set_cons_zero, List.set_cons_succ])))
       refine wpReads_nil ?_
       have HND := Lib.hid (HN.out.turn (Turn.refl q (fun _ => False) wr).drew (fun h => h) (fun _ h => h.elim))
       have d1 : wr.drew.cell? _ = _ := x1
       have d2 : wr.drew.cell? _ = _ := c1
       have d3 : wr.drew.cell? _ = _ := c2
       obtain ⟨wd, hwd⟩ : ∃ x, wr.drew = x := ⟨_, rfl⟩
       rw [hwd] at HND d1 d2 d3 ⊢
       have HDD := Lib.hid (And.intro d1 (And.intro d2 d3))
       clear hwd HN x1 c1 c2 d1 d2 d3
       refine ⟨?_, ?_⟩
       ·
        go_wp2_with fail
        refine (rnew_ok _ a.tag sa a.params.length sc a.params HGO.out (HST.out.below HND.out.kept.below)).mono ?_
        rintro e w5 ⟨vp, vi, vo, vk, rfl, op, oi, oo, ok, hb5⟩
        obtain ⟨spa, spc, rfl⟩ := owns_slice op
        obtain ⟨sia, sic, rfl⟩ := owns_slice oi
        obtain ⟨soa, soc, rfl⟩ := owns_slice oo
        obtain ⟨ska, skc, rfl⟩ := owns_slice ok
        have T5 := Turn.of_below q (R + 3) hb5
        have HN5 := Lib.hid (HND.out.turn T5 (fun h => h) (fun _ h => h.elim))
        have OP := Own.made q (R + 3) op
        have OI := Own.made q (R + 3) oi
        have OO := Own.made q (R + 3) oo
        have OK := Own.made q (R + 3) ok
        have y1 := cell_later hb5 HDD.out.1
        have y2 := cell_later hb5 HDD.out.2.1
        have y3 := cell_later hb5 HDD.out.2.2
        have HOP := Lib.hid OP.vals
        have HOI := Lib.hid OI.vals
        have HOO := Lib.hid OO.vals
        have HOK := Lib.hid OK.vals
        have HYY := Lib.hid (And.intro y1 (And.intro y2 y3))
        generalize ext q wd.heap.size (R + 3) = q5 at *
        clear T5 OP OI OO OK op oi oo ok hb5 y1 y2 y3 HDD HND
        go_wp2
        refine ⟨HYY.out, ?_⟩
        repeat (first
         | (refine wpReads_skip (by rfl) ?_; (try simp only [Act.put, List.setIfInBounds_toArray, List.set_cons_zero, List.set_cons_succ]))
         | (refine wpReads_cons ?_ (by rfl) (by rfl) ?_ ?_; rotate_left; (intro wz hz; (try dsimp only at hz); go_simp; try with_reducible rfl); (try simp only [Act.put, List.setIfInBounds_toArray, List.set_cons_zero, List.set_cons_succ]))
         | (refine wpReads_any ?_ (by rfl) ?_ ?_; rotate_left; (intro wz; go_simp; try with_reducible rfl); (try simp only [Act.put, List.setIfInBounds_toArray, List.set_cons_zero, List.set_cons_succ])))
        refine wpReads_nil ?_
        refine wpAnyT_one (i := 16) (by kernel_rfl) ?_
        simp only [pickOps, List.flatMap_cons, List.flatMap_nil, List.drop_succ_cons, List.drop_zero, List.take_succ_cons, List.take_zero, List.append_nil]
        have hba := below_alloc w5 (.cells #[.int .u8 0, .slice none 0 0, .slice none 0 0, .slice none 0 0, .slice none 0 0, .int .i64 0] 123)
        have T6 := Turn.of_below q5 (R + 3000) hba
        have HAB := Lib.hid (blk_new (w := w5) q5 (R + 3000) #[.int .u8 0, .slice none 0 0, .slice none 0 0, .slice none 0 0, .slice none 0 0, .int .i64 0] 123)
        replace HYY := Lib.hid (And.intro (cell_later hba HYY.out.1) (And.intro (cell_later hba HYY.out.2.1) (cell_later hba HYY.out.2.2)))
        replace HN5 := Lib.hid (HN5.out.turn T6 (fun h => h) (fun _ h => h.elim))
        replace HOP := Lib.hid (HOP.out.turn T6 (fun h => h))
        replace HOI := Lib.hid (HOI.out.turn T6 (fun h => h))
        replace HOO := Lib.hid (HOO.out.turn T6 (fun h => h))
        replace HOK := Lib.hid (HOK.out.turn T6 (fun h => h))
        generalize ext q5 w5.heap.size (R + 3000) = q6 at *
        clear hba T6
        go_wp2_with fail
        obtain ⟨w6, hw6⟩ : ∃ x, w5.alloc (.cells #[.int .u8 0, .slice none 0 0, .slice none 0 0, .slice none 0 0, .slice none 0 0, .int .i64 0] 123) = x := ⟨_, rfl⟩
        obtain ⟨X, hXe⟩ : ∃ x, w5.heap.size = x := ⟨_, rfl⟩
        rw [hw6] at HAB HYY HN5 HOP HOI HOO HOK ⊢
        rw [hXe] at HAB ⊢
        clear hw6 hXe
        refine ⟨by intros; exact HYY.out, ?_⟩
        have hab := HAB.out
        have z0 := hab.cell 0 _ rfl
        have f0 := hab.frozen 0
        have z1 := hab.cell 1 _ rfl
        have f1 := hab.frozen 1
        have z2 := hab.cell 2 _ rfl
        have f2 := hab.frozen 2
        have z3 := hab.cell 3 _ rfl
        have f3 := hab.frozen 3
        have z4 := hab.cell 4 _ rfl
        have f4 := hab.frozen 4
        have z5 := hab.cell 5 _ rfl
        have f5 := hab.frozen 5
        obtain ⟨B1, S1⟩ := act_set (a0 := .int .u8 a.tag) (a1 := .slice spa a.params.length spc) (a2 := .slice sia (insP a.tag a.params).length sic) (a3 := .slice soa (outsP a.tag a.params).length soc) (a4 := .slice ska (keep0 a.tag a.params).length skc) (a5 := .int .i64 0) hab
        have HFIN : Hid (XActed w R b k g [.string g.name, .slice aa g.actors.length ac, .slice ae g.edges.length ec, .slice ai g.ins.length ic, .slice ao g.outs.length oc] caps v a (.pointer (some ⟨X, 0, none⟩)) (.int .i64 0) _) := Lib.hid ⟨q6, X, _, _, _, _, rfl, rfl, HN5.out.turn S1 (by omega) (fun c hc => by unfold MineX; omega), B1, HOP.out.turn S1 (by omega), HOI.out.turn S1 (by omega), HOO.out.turn S1 (by omega), HOK.out.turn S1 (by omega)⟩
        clear hab B1 S1
        refine wpAnyT_list (ks := [17, 18]) (fun _ _ hx h => ⟨hx.cell h.1, hx.cell h.2.1, hx.cell h.2.2⟩) (by kernel_rfl) ?_
        simp only [pickOps, List.flatMap_cons, List.flatMap_nil, List.drop_succ_cons, List.drop_zero, List.take_succ_cons, List.take_zero, List.cons_append, List.nil_append, List.append_nil]
        go_wp2
        go_meet
        case rel => exact HFIN.out
       ·
        have hba := below_alloc wd (.cells #[.int .u8 0, .slice none 0 0, .slice none 0 0, .slice none 0 0, .slice none 0 0, .int .i64 0] 123)
        have T6 := Turn.of_below q (R + 3000) hba
        have HAB := Lib.hid (blk_new (w := wd) q (R + 3000) #[.int .u8 0, .slice none 0 0, .slice none 0 0, .slice none 0 0, .slice none 0 0, .int .i64 0] 123)
        have HYY := Lib.hid (And.intro (cell_later hba HDD.out.1) (And.intro (cell_later hba HDD.out.2.1) (cell_later hba HDD.out.2.2)))
        have HN4 := Lib.hid (HND.out.turn T6 (fun h => h) (fun _ h => h.elim))
        generalize ext q wd.heap.size (R + 3000) = q4 at *
        clear hba T6
        go_wp2_with fail
        obtain ⟨w4, hw4⟩ : ∃ x, wd.alloc (.cells #[.int .u8 0, .slice none 0 0, .slice none 0 0, .slice none 0 0, .slice none 0 0, .int .i64 0] 123) = x := ⟨_, rfl⟩
        obtain ⟨X, hXe⟩ : ∃ x, wd.heap.size = x := ⟨_, rfl⟩
        rw [hw4] at HAB HYY HN4 ⊢
        rw [hXe] at HAB ⊢
        clear hw4 hXe HDD HND
        refine ⟨HYY.out, ?_⟩
        go_wp2_with fail
        refine (rnew_ok _ a.tag sa a.params.length sc a.params HGO.out (HST.out.below HN4.out.kept.below)).mono ?_
        rintro e w6 ⟨vp, vi, vo, vk, rfl, op, oi, oo, ok, hb5⟩
        obtain ⟨spa, spc, rfl⟩ := owns_slice op
        obtain ⟨sia, sic, rfl⟩ := owns_slice oi
        obtain ⟨soa, soc, rfl⟩ := owns_slice oo
        obtain ⟨ska, skc, rfl⟩ := owns_slice ok
        have T5 := Turn.of_below q4 (R + 3) hb5
        have HN5 := Lib.hid (HN4.out.turn T5 (fun h => h) (fun _ h => h.elim))
        replace HAB := Lib.hid (HAB.out.turn T5 (fun h => h))
        have OP := Own.made q4 (R + 3) op
        have OI := Own.made q4 (R + 3) oi
        have OO := Own.made q4 (R + 3) oo
        have OK := Own.made q4 (R + 3) ok
        replace HYY := Lib.hid (And.intro (cell_later hb5 HYY.out.1) (And.intro (cell_later hb5 HYY.out.2.1) (cell_later hb5 HYY.out.2.2)))
        have HOP := Lib.hid OP.vals
        have HOI := Lib.hid OI.vals
        have HOO := Lib.hid OO.vals
        have HOK := Lib.hid OK.vals
        generalize ext q4 w4.heap.size (R + 3) = q6 at *
        clear T5 OP OI OO OK op oi oo ok hb5 HN4
        go_wp2
        refine ⟨HYY.out, ?_⟩
        repeat (first
         | (refine wpReads_skip (by rfl) ?_; (try simp only [Act.put, List.setIfInBounds_toArray, List.set_cons_zero, List.set_cons_succ]))
         | (refine wpReads_cons ?_ (by rfl) (by rfl) ?_ ?_; rotate_left; (intro wz hz; (try dsimp only at hz); go_simp; try with_reducible rfl); (try simp only [Act.put, List.setIfInBounds_toArray, List.set_cons_zero, List.set_cons_succ]))
         | (refine wpReads_any ?_ (by rfl) ?_ ?_; rotate_left; (intro wz; go_simp; try with_reducible rfl); (try simp only [Act.put, List.setIfInBounds_toArray, List.set_cons_zero, List.set_cons_succ])))
        refine wpReads_nil ?_
        have hab := HAB.out
        have z0 := hab.cell 0 _ rfl
        have f0 := hab.frozen 0
        have z1 := hab.cell 1 _ rfl
        have f1 := hab.frozen 1
        have z2 := hab.cell 2 _ rfl
        have f2 := hab.frozen 2
        have z3 := hab.cell 3 _ rfl
        have f3 := hab.frozen 3
        have z4 := hab.cell 4 _ rfl
        have f4 := hab.frozen 4
        have z5 := hab.cell 5 _ rfl
        have f5 := hab.frozen 5
        obtain ⟨B1, S1⟩ := act_set (a0 := .int .u8 a.tag) (a1 := .slice spa a.params.length spc) (a2 := .slice sia (insP a.tag a.params).length sic) (a3 := .slice soa (outsP a.tag a.params).length soc) (a4 := .slice ska (keep0 a.tag a.params).length skc) (a5 := .int .i64 0) hab
        have HFIN : Hid (XActed w R b k g [.string g.name, .slice aa g.actors.length ac, .slice ae g.edges.length ec, .slice ai g.ins.length ic, .slice ao g.outs.length oc] caps v a (.pointer (some ⟨X, 0, none⟩)) (.int .i64 0) _) := Lib.hid ⟨q6, X, _, _, _, _, rfl, rfl, HN5.out.turn S1 (by omega) (fun c hc => by unfold MineX; omega), B1, HOP.out.turn S1 (by omega), HOI.out.turn S1 (by omega), HOO.out.turn S1 (by omega), HOK.out.turn S1 (by omega)⟩
        clear hab B1 S1
        refine wpAnyT_list (ks := [17, 18]) (fun _ _ hx h => ⟨hx.cell h.1, hx.cell h.2.1, hx.cell h.2.2⟩) (by kernel_rfl) ?_
        simp only [pickOps, List.flatMap_cons, List.flatMap_nil, List.drop_succ_cons, List.drop_zero, List.take_succ_cons, List.take_zero, List.cons_append, List.nil_append, List.append_nil]
        go_wp2
        go_meet
        case rel => exact HFIN.out
      case rest =>
       clear HN x1 c1 c2
       obtain ⟨qa, X, vp, vi, vo, vk, rfl, rfl, hN, hA, hp, hi, ho, hkk⟩ := hcut
       obtain ⟨spa, spc, rfl⟩ := Ints.slice hp
       obtain ⟨sia, sic, rfl⟩ := Ints.slice hi
       obtain ⟨soa, soc, rfl⟩ := Ints.slice ho
       obtain ⟨ska, skc, rfl⟩ := Ints.slice hkk
       have hlens := shape_len HGO.out
       obtain ⟨ta, tc, hta⟩ := hN.half.tasks.slice
       obtain ⟨nI, hnI⟩ : ∃ x, (insP a.tag a.params).length = x := ⟨_, rfl⟩
       obtain ⟨nO, hnO⟩ : ∃ x, (outsP a.tag a.params).length = x := ⟨_, rfl⟩
       rw [hnI, hnO] at hA hlens
       rw [hnI] at hi
       rw [hnO] at ho
       have HLE := Lib.hid hlens
       have HNI := Lib.hid hnI
       have HNO := Lib.hid hnO
       have HTA := Lib.hid hta
       have HN := Lib.hid hN
       have HAB := Lib.hid hA
       have HOP := Lib.hid hp
       have HOI := Lib.hid hi
       have HOO := Lib.hid ho
       have HOK := Lib.hid hkk
       clear hlens hnI hnO hta hN hA hp hi ho hkk
       have hmi := xmk_ints nI (by have := HLE.out; omega)
       have hmo := xmk_ints nO (by have := HLE.out; omega)
       obtain ⟨zi, hzi⟩ : ∃ x, (ivs (List.replicate nI 0)).toArray = x := ⟨_, rfl⟩
       obtain ⟨zo, hzo⟩ : ∃ x, (ivs (List.replicate nO 0)).toArray = x := ⟨_, rfl⟩
       rw [hzi] at hmi
       rw [hzo] at hmo
       have HZI := Lib.hid hzi
       have HZO := Lib.hid hzo
       clear hzi hzo
       go_wp2_with fail
       refine wp_region_drift (fun w' => w'.cell? ⟨b, 6, none⟩ = some (.slice ta k tc) ∧ w'.cell? ⟨X, 0, none⟩ = some (.int .u8 a.tag) ∧ w'.cell? ⟨X, 1, none⟩ = some (.slice spa a.params.length spc) ∧ w'.cell? ⟨X, 2, none⟩ = some (.slice sia nI sic) ∧ w'.cell? ⟨X, 3, none⟩ = some (.slice soa nO soc) ∧ w'.cell? ⟨X, 4, none⟩ = some (.slice ska (keep0 a.tag a.params).length skc) ∧ w'.cell? ⟨X, 5, none⟩ = some (.int .i64 0)) [0, 1, 2, 3, 4, 5, 7, 8, 9] [6, 10, 11] [0, 1, 2, 3, 4, 5, 7, 8, 9] 7 (by kernel_rfl) (by kernel_rfl) rfl (task_in (HN.out.turn (Turn.refl qa (fun _ => False) wc).drew (fun h => h) (fun _ h => h.elim)) HTA.out (HAB.out.turn (Turn.refl qa (fun _ => False) wc).drew (fun h => h))) ?_
       intro Q' hQ' hQ2
       simp only [pickOps, List.flatMap_cons, List.flatMap_nil, List.drop_succ_cons, List.drop_zero, List.take_succ_cons, List.take_zero, List.cons_append, List.nil_append, List.append_nil]
       repeat (first
        | (refine wpReads_skip (by rfl) ?_; (try simp only [Act.put, List.setIfInBounds_toArray, List.set_cons_zero, List.set_cons_succ]))
        | (refine wpReads_cons ?_ (by rfl) (by rfl) ?_ ?_; rotate_left; (intro wz hz; (try dsimp only at hz); go_simp; try with_reducible rfl); (try simp only [Act.put, List.setIfInBounds_toArray, List.set_cons_zero, List.set_cons_succ]))
        | (refine wpReads_any ?_ (by rfl) ?_ ?_; rotate_left; (intro wz; go_simp; try with_reducible rfl); (try simp only [Act.put, List.setIfInBounds_toArray, List.set_cons_zero, List.set_cons_succ])))
       refine wpReads_nil ?_
       replace HN := Lib.hid (HN.out.turn (Turn.refl qa (fun _ => False) wc).drew (fun h => h) (fun _ h => h.elim))
       replace HAB := Lib.hid (HAB.out.turn (Turn.refl qa (fun _ => False) wc).drew (fun h => h))
       replace HOP := Lib.hid (HOP.out.turn (Turn.refl qa (fun _ => False) wc).drew (fun h => h))
       replace HOI := Lib.hid (HOI.out.turn (Turn.refl qa (fun _ => False) wc).drew (fun h => h))
       replace HOO := Lib.hid (HOO.out.turn (Turn.refl qa (fun _ => False) wc).drew (fun h => h))
       replace HOK := Lib.hid (HOK.out.turn (Turn.refl qa (fun _ => False) wc).drew (fun h => h))
       obtain ⟨wd, hwd⟩ : ∃ x, wc.drew = x := ⟨_, rfl⟩
       rw [hwd] at HN HAB HOP HOI HOO HOK ⊢
       clear hwd hQ2
       refine wpAnyT_two (i := 6) (k := 10) (by kernel_rfl) ?_ ?_
       ·
        simp only [pickOps, List.flatMap_cons, List.flatMap_nil, List.drop_succ_cons, List.drop_zero, List.take_succ_cons, List.take_zero, List.append_nil]
        have hbN := below_alloc wd (.cells zi 3)
        have TN := Turn.of_below qa (R + 1000 + 2 * k) hbN
        have HGS := Lib.hid (blk_new (w := wd) qa (R + 1000 + 2 * k) zi 3)
        replace HN := Lib.hid (HN.out.turn TN (fun h => h) (fun _ h => h.elim))
        replace HAB := Lib.hid (HAB.out.turn TN (fun h => h))
        replace HOP := Lib.hid (HOP.out.turn TN (fun h => h))
        replace HOI := Lib.hid (HOI.out.turn TN (fun h => h))
        replace HOO := Lib.hid (HOO.out.turn TN (fun h => h))
        replace HOK := Lib.hid (HOK.out.turn TN (fun h => h))
        skip
        generalize ext qa wd.heap.size (R + 1000 + 2 * k) = q1 at *
        clear hbN TN
        go_wp2_with fail
        obtain ⟨w1, hWN⟩ : ∃ x, wd.alloc (.cells zi 3) = x := ⟨_, rfl⟩
        obtain ⟨gs, hfN⟩ : ∃ x, wd.heap.size = x := ⟨_, rfl⟩
        rw [hWN] at HN HAB HOP HOI HOO HOK HGS ⊢
        rw [hfN] at HGS ⊢
        clear hWN hfN
        refine ⟨by intros; exact task_in HN.out HTA.out HAB.out, ?_⟩
        refine wpAnyT_one (i := 10) (by kernel_rfl) ?_
        simp only [pickOps, List.flatMap_cons, List.flatMap_nil, List.drop_succ_cons, List.drop_zero, List.take_succ_cons, List.take_zero, List.append_nil]
        have hbN := below_alloc w1 (.cells zo 3)
        have TN := Turn.of_below q1 (R + 1001 + 2 * k) hbN
        have HGD := Lib.hid (blk_new (w := w1) q1 (R + 1001 + 2 * k) zo 3)
        replace HN := Lib.hid (HN.out.turn TN (fun h => h) (fun _ h => h.elim))
        replace HAB := Lib.hid (HAB.out.turn TN (fun h => h))
        replace HOP := Lib.hid (HOP.out.turn TN (fun h => h))
        replace HOI := Lib.hid (HOI.out.turn TN (fun h => h))
        replace HOO := Lib.hid (HOO.out.turn TN (fun h => h))
        replace HOK := Lib.hid (HOK.out.turn TN (fun h => h))
        replace HGS := Lib.hid (HGS.out.turn TN (fun h => h))
        generalize ext q1 w1.heap.size (R + 1001 + 2 * k) = q2 at *
        clear hbN TN
        go_wp2_with fail
        obtain ⟨w2, hWN⟩ : ∃ x, w1.alloc (.cells zo 3) = x := ⟨_, rfl⟩
        obtain ⟨gd, hfN⟩ : ∃ x, w1.heap.size = x := ⟨_, rfl⟩
        rw [hWN] at HN HAB HOP HOI HOO HOK HGD ⊢
        rw [hfN] at HGD ⊢
        rw [hWN] at HGS
        clear hWN hfN
        refine ⟨by intros; exact task_in HN.out HTA.out HAB.out, ?_⟩
        refine wpAnyT_one (i := 11) (by kernel_rfl) ?_
        simp only [pickOps, List.flatMap_cons, List.flatMap_nil, List.drop_succ_cons, List.drop_zero, List.take_succ_cons, List.take_zero, List.append_nil]
        go_wp2
        refine ⟨by intros; exact task_in HN.out HTA.out HAB.out, ?_⟩
        refine wpAnyT_list (ks := [12, 13, 14, 15]) (fun _ _ hx h => ⟨hx.cell h.1, hx.cell h.2.1, hx.cell h.2.2.1, hx.cell h.2.2.2.1, hx.cell h.2.2.2.2.1, hx.cell h.2.2.2.2.2.1, hx.cell h.2.2.2.2.2.2⟩) (by kernel_rfl) ?_
        simp only [pickOps, List.flatMap_cons, List.flatMap_nil, List.drop_succ_cons, List.drop_zero, List.take_succ_cons, List.take_zero, List.cons_append, List.nil_append, List.append_nil]
        obtain ⟨i0, hi, hz0, hz1, hz2⟩ := info_parts info_xtask
        have HI := Lib.hid hi
        have hbn := below_alloc w2 (.cells #[.int .u8 a.tag, .slice spa a.params.length spc, .slice sia nI sic, .slice soa nO soc, .slice ska (keep0 a.tag a.params).length skc, .int .i64 0, .slice (some ⟨gs, 0, none⟩) nI nI, .slice (some ⟨gd, 0, none⟩) nO nO, .int .i64 0, .slice none 0 0, .slice none 0 0, .int .i64 0] 127)
        have TN := Turn.of_below q2 (R + 3002) hbn
        replace HN := Lib.hid (HN.out.turn TN (fun h => h) (fun _ h => h.elim))
        replace HOP := Lib.hid (HOP.out.turn TN (fun h => h))
        replace HOI := Lib.hid (HOI.out.turn TN (fun h => h))
        replace HOO := Lib.hid (HOO.out.turn TN (fun h => h))
        replace HOK := Lib.hid (HOK.out.turn TN (fun h => h))
        replace HGS := Lib.hid (HGS.out.turn TN (fun h => h))
        replace HGD := Lib.hid (HGD.out.turn TN (fun h => h))
        generalize ext q2 w2.heap.size (R + 3002) = qn at *
        clear hi hbn TN HAB
        go_wp2_with (at_builtin; refine stop_here ?_)
        refine go_on ?_
        refine wpList_app rfl _ _ 57 rfl 0 127 i0 _ 12 224 Tryz.underlying57 HI.out hz0 hz1 hz2 rfl (.slice ta k tc) k ((List.range k).flatMap (taskX0 g v.tv)) rfl (by have := HN.out.half.tasks.1; rw [HTA.out] at this; exact this) (some ⟨w2.heap.size, 0, none⟩) 1 1 [.int .u8 a.tag, .slice spa a.params.length spc, .slice sia nI sic, .slice soa nO soc, .slice ska (keep0 a.tag a.params).length skc, .int .i64 0, .slice (some ⟨gs, 0, none⟩) nI nI, .slice (some ⟨gd, 0, none⟩) nO nO, .int .i64 0, .slice none 0 0, .slice none 0 0, .int .i64 0] rfl rfl (fun h => by cases h) (news_alloc w2 [.int .u8 a.tag, .slice spa a.params.length spc, .slice sia nI sic, .slice soa nO soc, .slice ska (keep0 a.tag a.params).length skc, .int .i64 0, .slice (some ⟨gs, 0, none⟩) nI nI, .slice (some ⟨gd, 0, none⟩) nO nO, .int .i64 0, .slice none 0 0, .slice none 0 0, .int .i64 0] 127) (by simp [Value.oneCell']) (by have := HF.out.1; unfold maxLen; omega) (grow_ok (by have := HF.out.1; omega)) (Nat.zero_le _) ?_
        intro v7 w7 k1 k20 _ k4
        rw [← HTA.out] at k20 k4
        obtain ⟨T7, O7⟩ := own_app HN.out.half.tasks k1 k20 k4
        obtain ⟨sp7, cp7, rfl⟩ := O7.slice
        generalize ext qn _ (R + 1) = qo at *
        have hN7 := HN.out.half.rig.turn T7 (by omega)
        have e0 := hN7.cell 6 v.tasks rfl
        have g0 := hN7.frozen 6
        obtain ⟨hB0, S0⟩ := hN7.set 6 (.slice sp7 (k + 1) cp7)
        have hB1 : Blk (w7.setCell ⟨b, 6, none⟩ (.slice sp7 (k + 1) cp7)) qo (R + 5) b 60 (rigX [.string g.name, .slice aa g.actors.length ac, .slice ae g.edges.length ec, .slice ai g.ins.length ic, .slice ao g.outs.length oc] { v with tasks := .slice sp7 (k + 1) cp7 }).toArray := hB0
        have TT := (T7.mono (D := fun c => c = R + 5 ∨ c = R + 1) (fun c h => .inr h)).trans (S0.mono (D := fun c => c = R + 5 ∨ c = R + 1) (fun c h => .inl h)) (fun _ h => h)
        have hps : psOf g k = a.params := by unfold psOf; rw [HAG.out]
        have htg : tagOf g k = a.tag := by unfold tagOf; rw [HAG.out]
        have hrI : ratesI g k = insP a.tag a.params := by unfold ratesI; rw [HAG.out]
        have hrO : ratesO g k = outsP a.tag a.params := by unfold ratesO; rw [HAG.out]
        have hkT : keepT g k = keep0 a.tag a.params := by unfold keepT; rw [HAG.out]
        have hT : XHalfT (w7.setCell ⟨b, 6, none⟩ (.slice sp7 (k + 1) cp7)) qo R g k ⟨.slice spa a.params.length spc, .slice sia nI sic, .slice soa nO soc, .slice ska (keep0 a.tag a.params).length skc, .slice (some ⟨gs, 0, none⟩) nI nI, .slice (some ⟨gd, 0, none⟩) nO nO⟩ 0 0 := by
         refine ⟨?_, ?_, ?_, ?_, ⟨gs, ?_, ?_⟩, ⟨gd, ?_, ?_⟩⟩
         ·
          rw [hps]; exact HOP.out.turn TT (by omega)
         ·
          rw [hrI]; exact HOI.out.turn TT (by omega)
         ·
          rw [hrO]; exact HOO.out.turn TT (by omega)
         ·
          rw [hkT]; exact HOK.out.turn TT (by omega)
         ·
          rw [hrI, HNI.out]
         ·
          rw [fromL_zero, hrI, HNI.out, HZI.out]; exact HGS.out.turn TT (by omega)
         ·
          rw [hrO, HNO.out]
         ·
          rw [toL_zero, hrO, HNO.out, HZO.out]; exact HGD.out.turn TT (by omega)
        have hO : Own (w7.setCell ⟨b, 6, none⟩ (.slice sp7 (k + 1) cp7)) qo (R + 1) 127 12 (.slice sp7 (k + 1) cp7) (k + 1) ((List.range k).flatMap (taskX0 g v.tv) ++ taskX0 g (fun _ => ⟨.slice spa a.params.length spc, .slice sia nI sic, .slice soa nO soc, .slice ska (keep0 a.tag a.params).length skc, .slice (some ⟨gs, 0, none⟩) nI nI, .slice (some ⟨gd, 0, none⟩) nO nO⟩) k) := by
         unfold taskX0
         rw [htg]
         exact O7.turn S0 (by omega)
        have HNEW := Lib.hid (XNewK.mk (HN.out.kept.turn TT (by omega)) (HN.out.box.turn TT (by omega)) (HN.out.res.turn TT (by omega)) (HN.out.half.addTask (by have := HF.out.1; omega) TT hB1 hO hT))
        have hlt2 : k + 1 ≤ g.actors.length := hlt
        have hf1 := HF.out.1
        clear hT hO TT hB0 hB1 S0 hN7 T7 O7 k1 k20 k4 HOP HOI HOO HOK HGS HGD HN hps htg hrI hrO hkT
        go_wp2
        go_roundw
        case rel => exact ⟨k + 1, _, _, hlt2, by go_num, HNEW.out⟩
        case measure => simp [intOf]; omega
       ·
        simp only [pickOps, List.flatMap_cons, List.flatMap_nil, List.drop_succ_cons, List.drop_zero, List.take_succ_cons, List.take_zero, List.append_nil]
        have hbN := below_alloc wd (.cells zo 3)
        have TN := Turn.of_below qa (R + 1001 + 2 * k) hbN
        have HGD := Lib.hid (blk_new (w := wd) qa (R + 1001 + 2 * k) zo 3)
        replace HN := Lib.hid (HN.out.turn TN (fun h => h) (fun _ h => h.elim))
        replace HAB := Lib.hid (HAB.out.turn TN (fun h => h))
        replace HOP := Lib.hid (HOP.out.turn TN (fun h => h))
        replace HOI := Lib.hid (HOI.out.turn TN (fun h => h))
        replace HOO := Lib.hid (HOO.out.turn TN (fun h => h))
        replace HOK := Lib.hid (HOK.out.turn TN (fun h => h))
        skip
        generalize ext qa wd.heap.size (R + 1001 + 2 * k) = q1 at *
        clear hbN TN
        go_wp2_with fail
        obtain ⟨w1, hWN⟩ : ∃ x, wd.alloc (.cells zo 3) = x := ⟨_, rfl⟩
        obtain ⟨gd, hfN⟩ : ∃ x, wd.heap.size = x := ⟨_, rfl⟩
        rw [hWN] at HN HAB HOP HOI HOO HOK HGD ⊢
        rw [hfN] at HGD ⊢
        clear hWN hfN
        refine ⟨by intros; exact task_in HN.out HTA.out HAB.out, ?_⟩
        refine wpAnyT_one (i := 6) (by kernel_rfl) ?_
        simp only [pickOps, List.flatMap_cons, List.flatMap_nil, List.drop_succ_cons, List.drop_zero, List.take_succ_cons, List.take_zero, List.append_nil]
        have hmi2 := xmk_ints nI (by have := HLE.out; omega)
        rw [HZI.out] at hmi2
        have hbN := below_alloc w1 (.cells zi 3)
        have TN := Turn.of_below q1 (R + 1000 + 2 * k) hbN
        have HGS := Lib.hid (blk_new (w := w1) q1 (R + 1000 + 2 * k) zi 3)
        replace HN := Lib.hid (HN.out.turn TN (fun h => h) (fun _ h => h.elim))
        replace HAB := Lib.hid (HAB.out.turn TN (fun h => h))
        replace HOP := Lib.hid (HOP.out.turn TN (fun h => h))
        replace HOI := Lib.hid (HOI.out.turn TN (fun h => h))
        replace HOO := Lib.hid (HOO.out.turn TN (fun h => h))
        replace HOK := Lib.hid (HOK.out.turn TN (fun h => h))
        replace HGD := Lib.hid (HGD.out.turn TN (fun h => h))
        generalize ext q1 w1.heap.size (R + 1000 + 2 * k) = q2 at *
        clear hbN TN
        go_wp2_with fail
        obtain ⟨w2, hWN⟩ : ∃ x, w1.alloc (.cells zi 3) = x := ⟨_, rfl⟩
        obtain ⟨gs, hfN⟩ : ∃ x, w1.heap.size = x := ⟨_, rfl⟩
        rw [hWN] at HN HAB HOP HOI HOO HOK HGS ⊢
        rw [hfN] at HGS ⊢
        rw [hWN] at HGD
        clear hWN hfN
        refine ⟨by intros; exact task_in HN.out HTA.out HAB.out, ?_⟩
        refine wpAnyT_one (i := 11) (by kernel_rfl) ?_
        simp only [pickOps, List.flatMap_cons, List.flatMap_nil, List.drop_succ_cons, List.drop_zero, List.take_succ_cons, List.take_zero, List.append_nil]
        go_wp2
        refine ⟨by intros; exact task_in HN.out HTA.out HAB.out, ?_⟩
        refine wpAnyT_list (ks := [12, 13, 14, 15]) (fun _ _ hx h => ⟨hx.cell h.1, hx.cell h.2.1, hx.cell h.2.2.1, hx.cell h.2.2.2.1, hx.cell h.2.2.2.2.1, hx.cell h.2.2.2.2.2.1, hx.cell h.2.2.2.2.2.2⟩) (by kernel_rfl) ?_
        simp only [pickOps, List.flatMap_cons, List.flatMap_nil, List.drop_succ_cons, List.drop_zero, List.take_succ_cons, List.take_zero, List.cons_append, List.nil_append, List.append_nil]
        obtain ⟨i0, hi, hz0, hz1, hz2⟩ := info_parts info_xtask
        have HI := Lib.hid hi
        have hbn := below_alloc w2 (.cells #[.int .u8 a.tag, .slice spa a.params.length spc, .slice sia nI sic, .slice soa nO soc, .slice ska (keep0 a.tag a.params).length skc, .int .i64 0, .slice (some ⟨gs, 0, none⟩) nI nI, .slice (some ⟨gd, 0, none⟩) nO nO, .int .i64 0, .slice none 0 0, .slice none 0 0, .int .i64 0] 127)
        have TN := Turn.of_below q2 (R + 3002) hbn
        replace HN := Lib.hid (HN.out.turn TN (fun h => h) (fun _ h => h.elim))
        replace HOP := Lib.hid (HOP.out.turn TN (fun h => h))
        replace HOI := Lib.hid (HOI.out.turn TN (fun h => h))
        replace HOO := Lib.hid (HOO.out.turn TN (fun h => h))
        replace HOK := Lib.hid (HOK.out.turn TN (fun h => h))
        replace HGS := Lib.hid (HGS.out.turn TN (fun h => h))
        replace HGD := Lib.hid (HGD.out.turn TN (fun h => h))
        generalize ext q2 w2.heap.size (R + 3002) = qn at *
        clear hi hbn TN HAB
        go_wp2_with (at_builtin; refine stop_here ?_)
        refine go_on ?_
        refine wpList_app rfl _ _ 57 rfl 0 127 i0 _ 12 224 Tryz.underlying57 HI.out hz0 hz1 hz2 rfl (.slice ta k tc) k ((List.range k).flatMap (taskX0 g v.tv)) rfl (by have := HN.out.half.tasks.1; rw [HTA.out] at this; exact this) (some ⟨w2.heap.size, 0, none⟩) 1 1 [.int .u8 a.tag, .slice spa a.params.length spc, .slice sia nI sic, .slice soa nO soc, .slice ska (keep0 a.tag a.params).length skc, .int .i64 0, .slice (some ⟨gs, 0, none⟩) nI nI, .slice (some ⟨gd, 0, none⟩) nO nO, .int .i64 0, .slice none 0 0, .slice none 0 0, .int .i64 0] rfl rfl (fun h => by cases h) (news_alloc w2 [.int .u8 a.tag, .slice spa a.params.length spc, .slice sia nI sic, .slice soa nO soc, .slice ska (keep0 a.tag a.params).length skc, .int .i64 0, .slice (some ⟨gs, 0, none⟩) nI nI, .slice (some ⟨gd, 0, none⟩) nO nO, .int .i64 0, .slice none 0 0, .slice none 0 0, .int .i64 0] 127) (by simp [Value.oneCell']) (by have := HF.out.1; unfold maxLen; omega) (grow_ok (by have := HF.out.1; omega)) (Nat.zero_le _) ?_
        intro v7 w7 k1 k20 _ k4
        rw [← HTA.out] at k20 k4
        obtain ⟨T7, O7⟩ := own_app HN.out.half.tasks k1 k20 k4
        obtain ⟨sp7, cp7, rfl⟩ := O7.slice
        generalize ext qn _ (R + 1) = qo at *
        have hN7 := HN.out.half.rig.turn T7 (by omega)
        have e0 := hN7.cell 6 v.tasks rfl
        have g0 := hN7.frozen 6
        obtain ⟨hB0, S0⟩ := hN7.set 6 (.slice sp7 (k + 1) cp7)
        have hB1 : Blk (w7.setCell ⟨b, 6, none⟩ (.slice sp7 (k + 1) cp7)) qo (R + 5) b 60 (rigX [.string g.name, .slice aa g.actors.length ac, .slice ae g.edges.length ec, .slice ai g.ins.length ic, .slice ao g.outs.length oc] { v with tasks := .slice sp7 (k + 1) cp7 }).toArray := hB0
        have TT := (T7.mono (D := fun c => c = R + 5 ∨ c = R + 1) (fun c h => .inr h)).trans (S0.mono (D := fun c => c = R + 5 ∨ c = R + 1) (fun c h => .inl h)) (fun _ h => h)
        have hps : psOf g k = a.params := by unfold psOf; rw [HAG.out]
        have htg : tagOf g k = a.tag := by unfold tagOf; rw [HAG.out]
        have hrI : ratesI g k = insP a.tag a.params := by unfold ratesI; rw [HAG.out]
        have hrO : ratesO g k = outsP a.tag a.params := by unfold ratesO; rw [HAG.out]
        have hkT : keepT g k = keep0 a.tag a.params := by unfold keepT; rw [HAG.out]
        have hT : XHalfT (w7.setCell ⟨b, 6, none⟩ (.slice sp7 (k + 1) cp7)) qo R g k ⟨.slice spa a.params.length spc, .slice sia nI sic, .slice soa nO soc, .slice ska (keep0 a.tag a.params).length skc, .slice (some ⟨gs, 0, none⟩) nI nI, .slice (some ⟨gd, 0, none⟩) nO nO⟩ 0 0 := by
         refine ⟨?_, ?_, ?_, ?_, ⟨gs, ?_, ?_⟩, ⟨gd, ?_, ?_⟩⟩
         ·
          rw [hps]; exact HOP.out.turn TT (by omega)
         ·
          rw [hrI]; exact HOI.out.turn TT (by omega)
         ·
          rw [hrO]; exact HOO.out.turn TT (by omega)
         ·
          rw [hkT]; exact HOK.out.turn TT (by omega)
         ·
          rw [hrI, HNI.out]
         ·
          rw [fromL_zero, hrI, HNI.out, HZI.out]; exact HGS.out.turn TT (by omega)
         ·
          rw [hrO, HNO.out]
         ·
          rw [toL_zero, hrO, HNO.out, HZO.out]; exact HGD.out.turn TT (by omega)
        have hO : Own (w7.setCell ⟨b, 6, none⟩ (.slice sp7 (k + 1) cp7)) qo (R + 1) 127 12 (.slice sp7 (k + 1) cp7) (k + 1) ((List.range k).flatMap (taskX0 g v.tv) ++ taskX0 g (fun _ => ⟨.slice spa a.params.length spc, .slice sia nI sic, .slice soa nO soc, .slice ska (keep0 a.tag a.params).length skc, .slice (some ⟨gs, 0, none⟩) nI nI, .slice (some ⟨gd, 0, none⟩) nO nO⟩) k) := by
         unfold taskX0
         rw [htg]
         exact O7.turn S0 (by omega)
        have HNEW := Lib.hid (XNewK.mk (HN.out.kept.turn TT (by omega)) (HN.out.box.turn TT (by omega)) (HN.out.res.turn TT (by omega)) (HN.out.half.addTask (by have := HF.out.1; omega) TT hB1 hO hT))
        have hlt2 : k + 1 ≤ g.actors.length := hlt
        have hf1 := HF.out.1
        clear hT hO TT hB0 hB1 S0 hN7 T7 O7 k1 k20 k4 HOP HOI HOO HOK HGS HGD HN hps htg hrI hrO hkT
        go_wp2
        go_roundw
        case rel => exact ⟨k + 1, _, _, hlt2, by go_num, HNEW.out⟩
        case measure => simp [intOf]; omega
     ·
      obtain rfl : k = g.actors.length := by omega
      have hlti : ¬ ((g.actors.length : Int) < g.actors.length) := by omega
      have x2 := HN.out.box.cell 2 _ rfl
      clear hk hlt
      go_wp2_with fail
      go_loopw [11] (fun i wz => ∃ (k : Nat) (q : Col) (v : XRV), k ≤ g.edges.length ∧ i = .int .i64 k ∧ XNewK w wz q R b g [.string g.name, .slice aa g.actors.length ac, .slice ae g.edges.length ec, .slice ai g.ins.length ic, .slice ao g.outs.length oc] caps g.actors.length k k k v ∧ ∀ c ∈ caps.take k, 0 ≤ c) (fun i _ => g.edges.length - (intOf i).toNat)
      case atStart => exact ⟨0, _, v, Nat.zero_le _, rfl, HN.out, by simp⟩
      case round =>
       clear HN x1 x2 hlti
       obtain ⟨k, q, v, hk, rfl, hN, hpos⟩ := hrel
       have HN := Lib.hid hN
       have HPOS := Lib.hid hpos
       clear hN hpos
       have x2 := HN.out.box.cell 2 _ rfl
       change wr.cell? _ = some (.slice ae g.edges.length ec) at x2
       by_cases hlt : k < g.edges.length
       ·
        have hlti : (k : Int) < g.edges.length := by omega
        obtain ⟨b0, off, hae, hcap, hb0, hrec⟩ := HRE.out.at (by omega)
        rw [hae] at x2
        obtain ⟨cs, hcs, hPR, hcl⟩ := hrec k hlt
        obtain ⟨xs, rfl, hst⟩ := hPR
        have c0 := cell_later HN.out.kept.below (hcl 0 (by omega))
        have c1 := cell_later HN.out.kept.below (hcl 1 (by omega))
        have c2 := cell_later HN.out.kept.below (hcl 2 (by omega))
        have c3 := cell_later HN.out.kept.below (hcl 3 (by omega))
        have c4 := cell_later HN.out.kept.below (hcl 4 (by omega))
        simp at c0 c1 c2 c3 c4
        have hcapi : (g.edges.length : Int) ≤ ec := by omega
        obtain ⟨sa, sc, hxs⟩ := Ints.slice hst
        subst hxs
        have HST := Lib.hid hst
        obtain ⟨ed, hed⟩ : ∃ x, g.edges[k] = x := ⟨_, rfl⟩
        have HED := Lib.hid hed
        have hee : edgeAt g k = ed := by unfold edgeAt; rw [List.getElem?_eq_getElem hlt]; exact hed
        have HEE := Lib.hid hee
        rw [hed] at c0 c1 c2 c3 c4 HST
        clear hrec hcl hcs hst hb0 hcap hed hee hae
        obtain ⟨b1, off1, hca, -, hccap, -, -, hcc⟩ := Ints.at HC.out (by have := H1.out; omega)
        have hck := cell_later HN.out.kept.below (hcc k (by have := H1.out; omega))
        obtain ⟨C, hC⟩ : ∃ x, caps[k]?.getD 0 = x := ⟨_, rfl⟩
        have HCC := Lib.hid hC
        rw [hC] at hck
        change wr.cell? _ = some (.int .i64 C) at hck
        have hccapi : (caps.length : Int) ≤ cc := by omega
        have hkc : (k : Int) < caps.length := by have := H1.out; omega
        have hkl : k < caps.length := by omega
        have hCm : C ∈ caps := by
         have e := HCC.out
         rw [List.getElem?_eq_getElem hkl] at e
         exact e ▸ List.getElem_mem hkl
        have HKL := Lib.hid hkl
        have HCM := Lib.hid hCm
        clear hcc hC hccap hkl hCm
        subst hca
        by_cases hC0 : C < 0
        ·
         have HC0 := Lib.hid hC0
         have z0 := (HN.out.res).cell 0 _ rfl
         have z1 := (HN.out.res).cell 1 _ rfl
         have z2 := (HN.out.res).cell 2 _ rfl
         have z3 := (HN.out.res).cell 3 _ rfl
         have z4 := (HN.out.res).cell 4 _ rfl
         have z5 := (HN.out.res).cell 5 _ rfl
         have z6 := (HN.out.res).cell 6 _ rfl
         have z7 := (HN.out.res).cell 7 _ rfl
         have z8 := (HN.out.res).cell 8 _ rfl
         have f0 := (HN.out.res).frozen 0
         have f1 := (HN.out.res).frozen 1
         have f2 := (HN.out.res).frozen 2
         have f3 := (HN.out.res).frozen 3
         have f4 := (HN.out.res).frozen 4
         have f5 := (HN.out.res).frozen 5
         have f6 := (HN.out.res).frozen 6
         have f7 := (HN.out.res).frozen 7
         have f8 := (HN.out.res).frozen 8
         go_wp2
         refine bodyPost_ret_by (results_row_tmp rfl _ _ _ _ _ _ _ rfl (rig_set (HN.out.res).1) Tryz.underlying60 rfl (by kernel_rfl)) rfl ?_
         refine xnew_no ?_ ?_ (rig_below HN.out.kept.below (Nat.le_succ _) _ _ _ _ _ _ _ _ _)
         ·
          unfold newE
          rw [if_neg (by rw [HE.out]; decide), if_neg (by rw [H1.out]; simp), if_pos]
          exact List.any_eq_true.2 ⟨C, HCM.out, by simpa using HC0.out⟩
         ·
          decide
        ·
         have hC1 : 0 ≤ C := by omega
         have HC1 := Lib.hid hC1
         have hcapi2 := hcapi
         clear hC1
         have hby := below_alloc wr (.cells #[.int .i64 ed.src, .int .i64 ed.sport, .int .i64 ed.dst, .int .i64 ed.dport, .slice sa ed.start.length sc] 107)
         have Ty := Turn.of_below q (R + 3001) hby
         have hY := blk_new (w := wr) q (R + 3001) #[.int .i64 ed.src, .int .i64 ed.sport, .int .i64 ed.dst, .int .i64 ed.dport, .slice sa ed.start.length sc] 107
         have HY := Lib.hid hY
         have HNy := Lib.hid (HN.out.turn Ty (fun h => h) (fun _ h => h.elim))
         generalize ext q wr.heap.size (R + 3001) = qy at *
         clear Ty hY hby
         go_wp2_with fail
         obtain ⟨wy, hwy⟩ : ∃ x, wr.alloc (.cells #[.int .i64 ed.src, .int .i64 ed.sport, .int .i64 ed.dst, .int .i64 ed.dport, .slice sa ed.start.length sc] 107) = x := ⟨_, rfl⟩
         obtain ⟨Y, hYe⟩ : ∃ x, wr.heap.size = x := ⟨_, rfl⟩
         rw [hwy] at HY HNy ⊢
         rw [hYe] at HY ⊢
         clear hwy hYe HN c0 c1 c2 c3 c4 x2 hck hC0
         have hsnd := HS.out.edge k hlt
         rw [HED.out] at hsnd
         obtain ⟨⟨a1, a2⟩, ⟨a3, a4⟩, -, ⟨a5, a6⟩, ⟨a7, a8⟩, -, a9⟩ := hsnd
         obtain ⟨f, hf⟩ := Int.eq_ofNat_of_zero_le a1
         obtain ⟨fp, hfp⟩ := Int.eq_ofNat_of_zero_le a3
         obtain ⟨t, ht⟩ := Int.eq_ofNat_of_zero_le a5
         obtain ⟨tp, htp⟩ := Int.eq_ofNat_of_zero_le a7
         have hto := HS.out.to_edge hlt
         have hfrom := HS.out.from_edge hlt
         rw [HED.out, hf, hfp] at hto
         rw [HED.out, ht, htp] at hfrom
         rw [hf, hfp, Int.toNat_natCast] at a4
         rw [ht, htp, Int.toNat_natCast] at a8
         rw [hf] at a2
         rw [ht] at a6
         simp only [Int.toNat_natCast] at hto hfrom
         have HTO := Lib.hid hto
         have HFROM := Lib.hid hfrom
         have HA2 := Lib.hid (show f < g.actors.length by omega)
         have HA6 := Lib.hid (show t < g.actors.length by omega)
         have HA4 := Lib.hid (show fp < (ratesO g f).length by omega)
         have HA8 := Lib.hid (show tp < (ratesI g t).length by omega)
         have HA9 := Lib.hid a9
         have y0 := HY.out.cell 0 _ rfl
         have y1 := HY.out.cell 1 _ rfl
         have y2 := HY.out.cell 2 _ rfl
         have y3 := HY.out.cell 3 _ rfl
         have y4 := HY.out.cell 4 _ rfl
         change wy.cell? _ = some (.int .i64 ed.src) at y0
         change wy.cell? _ = some (.int .i64 ed.sport) at y1
         change wy.cell? _ = some (.int .i64 ed.dst) at y2
         change wy.cell? _ = some (.int .i64 ed.dport) at y3
         change wy.cell? _ = some (.slice sa ed.start.length sc) at y4
         rw [hf] at y0
         rw [hfp] at y1
         rw [ht] at y2
         rw [htp] at y3
         have kY := HY.out.2
         clear a1 a2 a3 a4 a5 a6 a7 a8 a9 hf hfp ht htp hto hfrom
         obtain ⟨tg, tc, hta, htc, htg, hcells⟩ := HNy.out.half.taskCell HA2.out
         have x6 : wy.cell? ⟨b, 6, none⟩ = some v.tasks := HNy.out.half.rig.cell 6 v.tasks rfl
         rw [hta] at x6
         obtain ⟨gd, hgd, hD⟩ := (HNy.out.half.task f HA2.out).dst
         have d7 := hcells 7 (v.tv f).dst (by omega) rfl
         rw [hgd] at d7
         obtain ⟨gs, hgs, hSS⟩ := (HNy.out.half.task t HA6.out).src
         obtain ⟨tg2, tc2, hta2, -, -, hcells2⟩ := HNy.out.half.taskCell HA6.out
         rw [hta] at hta2
         cases hta2
         have d6 := hcells2 6 (v.tv t).src (by omega) rfl
         rw [hgs] at d6
         obtain ⟨vs, ssc, hst7⟩ := HNy.out.half.streams.slice
         have x7 : wy.cell? ⟨b, 7, none⟩ = some v.streams := HNy.out.half.rig.cell 7 v.streams rfl
         rw [hst7] at x7
         have HST7 := Lib.hid hst7
         obtain ⟨nf, hnf⟩ : ∃ x, (ratesO g f).length = x := ⟨_, rfl⟩
         obtain ⟨nt, hnt⟩ : ∃ x, (ratesI g t).length = x := ⟨_, rfl⟩
         obtain ⟨z0, hz0⟩ : ∃ x, (ivs (toL g f k))[fp]? = some x := ⟨_, List.getElem?_eq_getElem (by have := toL_len g f k; have := HA4.out; simp [ivs]; omega)⟩
         have u0 := hD.cell fp z0 (by simpa using hz0)
         have g0 := hD.frozen fp
         obtain ⟨z1, hz1⟩ : ∃ x, (ivs (fromL g t k))[tp]? = some x := ⟨_, List.getElem?_eq_getElem (by have := fromL_len g t k; have := HA8.out; simp [ivs]; omega)⟩
         have kb := HNy.out.half.rig.2
         have kD := hD.2
         have T0 : Turn qy qy (fun _ => False) wy wy.drew := (Turn.refl qy _ wy).drew
         have hN0 := HNy.out.turn T0 (fun h => h) (fun _ h => h.elim)
         obtain ⟨L1, S1⟩ := hN0.half.linkTo (t := f) (p := fp) (gd := gd) HA2.out HTO.out (by omega) hgd
         have hlf := HF.out.1
         have hN1 : XNewK w (wy.drew.setCell ⟨gd, fp, none⟩ (.int .i64 (k : Int))) qy R b g [.string g.name, .slice aa g.actors.length ac, .slice ae g.edges.length ec, .slice ai g.ins.length ic, .slice ao g.outs.length oc] caps g.actors.length k k (k + 1) v := ⟨hN0.kept.turn S1 (by omega), hN0.box.turn S1 (by have := HA2.out; omega), hN0.res.turn S1 (by have := HA2.out; omega), L1⟩
         have hf2 := HA2.out
         have ht2 := HA6.out
         have x6b : (wy.drew.setCell ⟨gd, fp, none⟩ (.int .i64 (k : Int))).cell? _ = _ := S1.cell (show wy.drew.cell? _ = _ from x6) (by show ¬ (qy b = _); omega)
         have d6b : (wy.drew.setCell ⟨gd, fp, none⟩ (.int .i64 (k : Int))).cell? _ = _ := S1.cell (show wy.drew.cell? _ = _ from d6) (by show ¬ (qy tg = _); omega)
         have y2b : (wy.drew.setCell ⟨gd, fp, none⟩ (.int .i64 (k : Int))).cell? _ = _ := S1.cell (show wy.drew.cell? _ = _ from y2) (by show ¬ (qy Y = _); omega)
         have y3b : (wy.drew.setCell ⟨gd, fp, none⟩ (.int .i64 (k : Int))).cell? _ = _ := S1.cell (show wy.drew.cell? _ = _ from y3) (by show ¬ (qy Y = _); omega)
         have y4b : (wy.drew.setCell ⟨gd, fp, none⟩ (.int .i64 (k : Int))).cell? _ = _ := S1.cell (show wy.drew.cell? _ = _ from y4) (by show ¬ (qy Y = _); omega)
         have x7b : (wy.drew.setCell ⟨gd, fp, none⟩ (.int .i64 (k : Int))).cell? _ = _ := S1.cell (show wy.drew.cell? _ = _ from x7) (by show ¬ (qy b = _); omega)
         obtain ⟨gs2, e2, hS2⟩ := (L1.task t HA6.out).src
         rw [hgs] at e2
         cases e2
         have u1 := hS2.cell tp z1 (by simpa using hz1)
         have g1 := hS2.frozen tp
         have HN1 := Lib.hid hN1
         have HDB := Lib.hid (And.intro x6b (And.intro y2b (And.intro d6b (And.intro y3b (And.intro y4b x7b)))))
         have HU1 := Lib.hid (And.intro u1 g1)
         have HGS := Lib.hid hgs
         rw [hnf] at d7
         rw [hnt] at HDB HGS
         have q1 : (fp : Int) < nf := by have := HA4.out; omega
         have q2 : (tp : Int) < nt := by have := HA8.out; omega
         have q3 : (f : Int) < g.actors.length := by omega
         have q4 : (t : Int) < g.actors.length := by omega
         have q5 : (g.actors.length : Int) ≤ tc := by omega
         have HNT := Lib.hid hnt
         clear hN1 x6b d6b y2b y3b y4b x7b u1 g1 hS2 L1 S1 hN0 T0 kD hSS hD hgs hgd hcells hcells2 hta htc hnf hnt hz0 hz1 hst7 d6 y2 y3 y4 x7 hf2 ht2 hlf
         refine wp_region_lex (fun w' => w'.cell? ⟨b, 6, none⟩ = some (.slice (some ⟨tg, 0, none⟩) g.actors.length tc) ∧ w'.cell? ⟨Y, 0, none⟩ = some (.int .i64 (f : Int)) ∧ w'.cell? ⟨tg, f * 12 + 7, none⟩ = some (.slice (some ⟨gd, 0, none⟩) nf nf) ∧ w'.cell? ⟨Y, 1, none⟩ = some (.int .i64 (fp : Int))) [0, 1, 2, 3, 4, 5, 6, 7, 8, 9] [10, 11] (by kernel_rfl) (by kernel_rfl) rfl (fun _ _ hx h => ⟨hx.cell h.1, hx.cell h.2.1, hx.cell h.2.2.1, hx.cell h.2.2.2⟩) ⟨x6, y0, d7, y1⟩ ?_
         intro Q' hQ'
         simp only [pickOps, List.flatMap_cons, List.flatMap_nil, List.drop_succ_cons, List.drop_zero, List.take_succ_cons, List.take_zero, List.cons_append, List.nil_append, List.append_nil]
         repeat (first
          | (refine wpReads_skip (by rfl) ?_; (try simp only [Act.put, List.setIfInBounds_toArray, List.set_cons_zero, List.set_cons_succ]))
          | (refine wpReads_cons ?_ (by rfl) (by rfl) ?_ ?_; rotate_left; (intro wz hz; (try dsimp only at hz); go_simp; try with_reducible rfl); (try simp only [Act.put, List.setIfInBounds_toArray, List.set_cons_zero, List.set_cons_succ]))
          | (refine wpReads_any ?_ (by rfl) ?_ ?_; rotate_left; (intro wz; go_simp; try with_reducible rfl); (try simp only [Act.put, List.setIfInBounds_toArray, List.set_cons_zero, List.set_cons_succ])))
         refine wpReads_nil ?_
         clear x6 y0 d7 y1
         go_wp2_with fail
         obtain ⟨wz, hwz⟩ : ∃ x, wy.drew.setCell ⟨gd, fp, none⟩ (.int .i64 (k : Int)) = x := ⟨_, rfl⟩
         rw [hwz] at HN1 HDB HU1
         change (wy.setCell ⟨gd, fp, none⟩ (.int .i64 (k : Int))).drew = wz at hwz
         rw [hwz]
         clear hwz HNy HY
         obtain ⟨e1, e2, e3, e4, e5, e6⟩ := HDB.out
         have hN1 := HN1.out
         have T1 : Turn qy qy (fun _ => False) wz wz.drew := (Turn.refl qy _ wz).drew
         have hN0 := hN1.turn T1 (fun h => h) (fun _ h => h.elim)
         obtain ⟨L2, S2⟩ := hN0.half.linkFrom (t := t) (q := tp) (gs := gs) HA6.out HFROM.out (by omega) (by rw [HGS.out, HNT.out])
         have hlf := HF.out.1
         have ht2 := HA6.out
         have hN2 : XNewK w (wz.drew.setCell ⟨gs, tp, none⟩ (.int .i64 (k : Int))) qy R b g [.string g.name, .slice aa g.actors.length ac, .slice ae g.edges.length ec, .slice ai g.ins.length ic, .slice ao g.outs.length oc] caps g.actors.length k (k + 1) (k + 1) v := ⟨hN0.kept.turn S2 (by omega), hN0.box.turn S2 (by omega), hN0.res.turn S2 (by omega), L2⟩
         have y4c : (wz.drew.setCell ⟨gs, tp, none⟩ (.int .i64 (k : Int))).cell? _ = _ := S2.cell (show wz.drew.cell? _ = _ from e5) (by show ¬ (qy Y = _); omega)
         have x7c : (wz.drew.setCell ⟨gs, tp, none⟩ (.int .i64 (k : Int))).cell? _ = _ := S2.cell (show wz.drew.cell? _ = _ from e6) (by show ¬ (qy b = _); omega)
         obtain ⟨u1, g1⟩ := HU1.out
         have HN2 := Lib.hid hN2
         have HYX := Lib.hid (And.intro y4c x7c)
         clear y4c x7c L2 S2 hN0 T1 hN1 hN2 HN1 e5 e6 hlf ht2
         refine wp_region_lex (fun w' => w'.cell? ⟨b, 6, none⟩ = some (.slice (some ⟨tg, 0, none⟩) g.actors.length tc) ∧ w'.cell? ⟨Y, 2, none⟩ = some (.int .i64 (t : Int)) ∧ w'.cell? ⟨tg, t * 12 + 6, none⟩ = some (.slice (some ⟨gs, 0, none⟩) nt nt) ∧ w'.cell? ⟨Y, 3, none⟩ = some (.int .i64 (tp : Int))) [0, 1, 2, 3, 4, 5, 6, 7, 8, 9] [10, 11] (by kernel_rfl) (by kernel_rfl) rfl (fun _ _ hx h => ⟨hx.cell h.1, hx.cell h.2.1, hx.cell h.2.2.1, hx.cell h.2.2.2⟩) ⟨e1, e2, e3, e4⟩ ?_
         intro Q' hQ'
         simp only [pickOps, List.flatMap_cons, List.flatMap_nil, List.drop_succ_cons, List.drop_zero, List.take_succ_cons, List.take_zero, List.cons_append, List.nil_append, List.append_nil]
         repeat (first
          | (refine wpReads_skip (by rfl) ?_; (try simp only [Act.put, List.setIfInBounds_toArray, List.set_cons_zero, List.set_cons_succ]))
          | (refine wpReads_cons ?_ (by rfl) (by rfl) ?_ ?_; rotate_left; (intro wz hz; (try dsimp only at hz); go_simp; try with_reducible rfl); (try simp only [Act.put, List.setIfInBounds_toArray, List.set_cons_zero, List.set_cons_succ]))
          | (refine wpReads_any ?_ (by rfl) ?_ ?_; rotate_left; (intro wz; go_simp; try with_reducible rfl); (try simp only [Act.put, List.setIfInBounds_toArray, List.set_cons_zero, List.set_cons_succ])))
         refine wpReads_nil ?_
         clear e1 e2 e3 e4 HDB HU1
         go_wp2_with fail
         obtain ⟨wa, hwa⟩ : ∃ x, wz.drew.setCell ⟨gs, tp, none⟩ (.int .i64 (k : Int)) = x := ⟨_, rfl⟩
         rw [hwa] at HN2 HYX
         change (wz.setCell ⟨gs, tp, none⟩ (.int .i64 (k : Int))).drew = wa at hwa
         rw [hwa]
         clear hwa u1 g1
         obtain ⟨i0, hi, hz0, hz1, hz2⟩ := info_parts info_xstream
         have HI := Lib.hid hi
         clear hi
         refine wp_region_drift (fun w' => w'.cell? ⟨Y, 4, none⟩ = some (.slice sa ed.start.length sc) ∧ w'.cell? ⟨b, 7, none⟩ = some (.slice vs k ssc)) [0, 1, 2, 3] [4, 5] [0, 1, 2, 3] 6 (by kernel_rfl) (by kernel_rfl) rfl HYX.out ?_
         intro Q' hQ' hQ2
         simp only [pickOps, List.flatMap_cons, List.flatMap_nil, List.drop_succ_cons, List.drop_zero, List.take_succ_cons, List.take_zero, List.cons_append, List.nil_append, List.append_nil]
         repeat (first
          | (refine wpReads_skip (by rfl) ?_; (try simp only [Act.put, List.setIfInBounds_toArray, List.set_cons_zero, List.set_cons_succ]))
          | (refine wpReads_cons ?_ (by rfl) (by rfl) ?_ ?_; rotate_left; (intro wz hz; (try dsimp only at hz); go_simp; try with_reducible rfl); (try simp only [Act.put, List.setIfInBounds_toArray, List.set_cons_zero, List.set_cons_succ]))
          | (refine wpReads_any ?_ (by rfl) ?_ ?_; rotate_left; (intro wz; go_simp; try with_reducible rfl); (try simp only [Act.put, List.setIfInBounds_toArray, List.set_cons_zero, List.set_cons_succ])))
         refine wpReads_nil ?_
         have HN3 := Lib.hid (HN2.out.turn (Turn.refl qy (fun _ => False) wa).drew (fun h => h) (fun _ h => h.elim))
         obtain ⟨wb, hwb⟩ : ∃ x, wa.drew = x := ⟨_, rfl⟩
         have hyx : wa.drew.cell? ⟨Y, 4, none⟩ = some (.slice sa ed.start.length sc) ∧ wa.drew.cell? ⟨b, 7, none⟩ = some (.slice vs k ssc) := HYX.out
         rw [hwb] at HN3 hyx ⊢
         have HYD := Lib.hid hyx
         clear hwb HN2 HYX hyx hQ2
         refine wpAnyT_one (i := 4) (by kernel_rfl) ?_
         simp only [pickOps, List.flatMap_cons, List.flatMap_nil, List.drop_succ_cons, List.drop_zero, List.take_succ_cons, List.take_zero, List.append_nil]
         go_wp2_with fail
         refine (rints_any _ sa ed.start.length sc ed.start (HST.out.below HN3.out.kept.below) (by have := HA9.out; omega)).mono ?_
         rintro e wc2 ⟨vc, rfl, oc1, hbN⟩
         obtain ⟨spa, spc, rfl⟩ := owns_slice oc1
         have TN := Turn.of_below qy (R + 10 + k) hbN
         have HROW := Lib.hid (Own.made qy (R + 10 + k) oc1)
         replace HYD := Lib.hid (And.intro (cell_later hbN HYD.out.1) (cell_later hbN HYD.out.2))
         replace HN3 := Lib.hid (HN3.out.turn TN (fun h => h) (fun _ h => h.elim))
         generalize ext qy wb.heap.size (R + 10 + k) = qc at *
         clear hbN TN oc1
         go_wp2
         refine ⟨by intros; exact HYD.out, ?_⟩
         refine wpAnyT_one (i := 5) (by kernel_rfl) ?_
         simp only [pickOps, List.flatMap_cons, List.flatMap_nil, List.drop_succ_cons, List.drop_zero, List.take_succ_cons, List.take_zero, List.append_nil]
         go_wp2
         refine ⟨by intros; exact HYD.out, ?_⟩
         refine wpAnyT_list (ks := [6, 7, 8, 9]) (fun _ _ hx h => ⟨hx.cell h.1, hx.cell h.2⟩) (by kernel_rfl) ?_
         simp only [pickOps, List.flatMap_cons, List.flatMap_nil, List.drop_succ_cons, List.drop_zero, List.take_succ_cons, List.take_zero, List.cons_append, List.nil_append, List.append_nil]
         clear HYD
         have hbn := below_alloc wc2 (.cells #[.slice spa ed.start.length spc, .int .i64 0] 129)
         have TN := Turn.of_below qc (R + 3002) hbn
         replace HN3 := Lib.hid (HN3.out.turn TN (fun h => h) (fun _ h => h.elim))
         replace HROW := Lib.hid (HROW.out.turn TN (fun h => h))
         generalize ext qc wc2.heap.size (R + 3002) = qn at *
         clear hbn TN
         go_wp2_with (at_builtin; refine stop_here ?_)
         refine go_on ?_
         refine wpList_app rfl _ _ 58 rfl 0 129 i0 _ 2 32 Tryz.underlying58 HI.out hz0 hz1 hz2 rfl (.slice vs k ssc) k ((List.range k).flatMap (strX0 v.sv)) rfl (by have := HN3.out.half.streams.1; rw [HST7.out] at this; exact this) (some ⟨wc2.heap.size, 0, none⟩) 1 1 [.slice spa ed.start.length spc, .int .i64 0] rfl rfl (fun h => by cases h) (news_alloc wc2 [.slice spa ed.start.length spc, .int .i64 0] 129) (by simp [Value.oneCell']) (by have := HF.out.2.1; unfold maxLen; omega) (grow_ok (by have := HF.out.2.1; omega)) (Nat.zero_le _) ?_
         intro v7 w7 k1 k20 _ k4
         rw [← HST7.out] at k20 k4
         obtain ⟨T7, O7⟩ := own_app HN3.out.half.streams k1 k20 k4
         obtain ⟨sp7, cp7, rfl⟩ := O7.slice
         generalize ext qn _ (R + 2) = qo at *
         have hN7 := HN3.out.half.rig.turn T7 (by omega)
         have e0 := hN7.cell 7 v.streams rfl
         have g0 := hN7.frozen 7
         obtain ⟨hB0, S0⟩ := hN7.set 7 (.slice sp7 (k + 1) cp7)
         have hB1 : Blk (w7.setCell ⟨b, 7, none⟩ (.slice sp7 (k + 1) cp7)) qo (R + 5) b 60 (rigX [.string g.name, .slice aa g.actors.length ac, .slice ae g.edges.length ec, .slice ai g.ins.length ic, .slice ao g.outs.length oc] { v with streams := .slice sp7 (k + 1) cp7 }).toArray := hB0
         have TT := (T7.mono (D := fun c => c = R + 5 ∨ c = R + 2) (fun c h => .inr h)).trans (S0.mono (D := fun c => c = R + 5 ∨ c = R + 2) (fun c h => .inl h)) (fun _ h => h)
         have hrow : Own (w7.setCell ⟨b, 7, none⟩ (.slice sp7 (k + 1) cp7)) qo (R + 10 + k) 3 1 (.slice spa ed.start.length spc) ((newRig g).strs k).length (ivs ((newRig g).strs k)) := by
          have e : (newRig g).strs k = ed.start := by unfold newRig; simp only [hlt, if_true]; rw [HEE.out]
          rw [e]
          exact HROW.out.turn TT (by omega)
         have hle := HF.out.2.1
         have HNEW := Lib.hid (XNewK.mk (HN3.out.kept.turn TT (by omega)) (HN3.out.box.turn TT (by omega)) (HN3.out.res.turn TT (by omega)) (HN3.out.half.addStream (by omega) TT hB1 (O7.turn S0 (by omega)) hrow))
         have hpos : ∀ c ∈ caps.take (k + 1), 0 ≤ c := by
          intro c hc
          obtain ⟨i, hi, rfl⟩ := List.mem_take_iff_getElem.1 hc
          by_cases hik : i < k
          ·
           exact HPOS.out _ (List.mem_take_iff_getElem.2 ⟨i, by omega, rfl⟩)
          ·
           obtain rfl : i = k := by omega
           have e := HCC.out
           rw [List.getElem?_eq_getElem HKL.out] at e
           have e' : C = caps[i] := e.symm
           exact e' ▸ HC1.out
         have HPOS2 := Lib.hid hpos
         clear hpos hrow TT hB0 hB1 S0 hN7 T7 O7 k1 k20 k4 HN3 HROW
         go_wp2
         go_roundw
         case rel => exact ⟨k + 1, _, _, hlt, by go_num, HNEW.out, HPOS2.out⟩
         case measure => simp [intOf]; omega
       ·
        obtain rfl : k = g.edges.length := by omega
        have hlti : ¬ ((g.edges.length : Int) < g.edges.length) := by omega
        have hcpos : ∀ c ∈ caps, 0 ≤ c := by
         intro c hc
         refine HPOS.out c ?_
         rw [← H1.out, List.take_length]
         exact hc
        have HCP := Lib.hid hcpos
        have x3 := HN.out.box.cell 3 _ rfl
        clear hk hlt hcpos HPOS
        go_wp2_with fail
        go_loopw [13] (fun i wz => ∃ (k : Nat) (q : Col) (v : XRV), k ≤ g.ins.length ∧ i = .int .i64 k ∧ XNewK w wz q R b g [.string g.name, .slice aa g.actors.length ac, .slice ae g.edges.length ec, .slice ai g.ins.length ic, .slice ao g.outs.length oc] caps g.actors.length (g.edges.length + k) (g.edges.length + k) (g.edges.length) v) (fun i _ => g.ins.length - (intOf i).toNat)
        case atStart => exact ⟨0, _, v, Nat.zero_le _, rfl, HN.out⟩
        case round =>
         clear HN x3
         obtain ⟨k, q, v, hk, rfl, hN⟩ := hrel
         have HN := Lib.hid hN
         clear hN
         have x3 := HN.out.box.cell 3 _ rfl
         change wr.cell? _ = some (.slice ai g.ins.length ic) at x3
         by_cases hlt : k < g.ins.length
         ·
          have hlti : (k : Int) < g.ins.length := by omega
          obtain ⟨b0, off, hae, hcap, hb0, hrec⟩ := HRI.out.at (by omega)
          rw [hae] at x3
          obtain ⟨cs, hcs, hPR, hcl⟩ := hrec k hlt
          obtain rfl := hPR
          have c1 := cell_later HN.out.kept.below (hcl 1 (by omega))
          have c2 := cell_later HN.out.kept.below (hcl 2 (by omega))
          simp at c1 c2
          have hcapi : (g.ins.length : Int) ≤ ic := by omega
          obtain ⟨pt, hpt⟩ : ∃ x, g.ins[k] = x := ⟨_, rfl⟩
          have HPT := Lib.hid hpt
          rw [hpt] at c1 c2
          clear hrec hcl hcs hb0 hcap hpt hae
          have hsnd := HS.out.ins k hlt
          rw [HPT.out] at hsnd
          obtain ⟨⟨a5, a6⟩, ⟨a7, a8⟩, -⟩ := hsnd
          obtain ⟨t, ht⟩ := Int.eq_ofNat_of_zero_le a5
          obtain ⟨tp, htp⟩ := Int.eq_ofNat_of_zero_le a7
          have hfrom := HS.out.from_in hlt
          rw [HPT.out, ht, htp] at hfrom
          rw [ht, htp, Int.toNat_natCast] at a8
          rw [ht] at a6
          rw [ht] at c1
          rw [htp] at c2
          simp only [Int.toNat_natCast] at hfrom
          have HFROM := Lib.hid hfrom
          have HA6 := Lib.hid (show t < g.actors.length by omega)
          have HA8 := Lib.hid (show tp < (ratesI g t).length by omega)
          clear a5 a6 a7 a8 ht htp hfrom
          obtain ⟨n, hn⟩ : ∃ x, g.edges.length + k = x := ⟨_, rfl⟩
          have HNN := Lib.hid hn
          have hN := HN.out
          rw [hn] at hN
          obtain ⟨tg, tc, hta, htc, htg, hcells⟩ := hN.half.taskCell HA6.out
          have x6 : wr.cell? ⟨b, 6, none⟩ = some v.tasks := hN.half.rig.cell 6 v.tasks rfl
          rw [hta] at x6
          obtain ⟨gs, hgs, hSS⟩ := (hN.half.task t HA6.out).src
          have d6 := hcells 6 (v.tv t).src (by omega) rfl
          rw [hgs] at d6
          obtain ⟨vs, ssc, hst7⟩ := hN.half.streams.slice
          have x7 : wr.cell? ⟨b, 7, none⟩ = some v.streams := hN.half.rig.cell 7 v.streams rfl
          rw [hst7] at x7
          have HST7 := Lib.hid hst7
          obtain ⟨nt, hnt⟩ : ∃ x, (ratesI g t).length = x := ⟨_, rfl⟩
          obtain ⟨z1, hz1⟩ : ∃ x, (ivs (fromL g t (n)))[tp]? = some x := ⟨_, List.getElem?_eq_getElem (by have := fromL_len g t (n); have := HA8.out; simp [ivs]; omega)⟩
          have u1 := hSS.cell tp z1 (by simpa using hz1)
          have g1 := hSS.frozen tp
          have hN0 := hN.turn (Turn.refl q (fun _ => False) wr).drew (fun h => h) (fun _ h => h.elim)
          obtain ⟨L2, S2⟩ := hN0.half.linkFrom (t := t) (q := tp) (gs := gs) HA6.out (HFROM.out.trans HNN.out) (by omega) hgs
          have hlf := HF.out.1
          have ht2 := HA6.out
          have kb := hN.half.rig.2
          have hN2 := XNewK.mk (hN0.kept.turn S2 (by omega)) (hN0.box.turn S2 (by omega)) (hN0.res.turn S2 (by omega)) L2
          have x7c : (wr.drew.setCell ⟨gs, tp, none⟩ (.int .i64 (n : Int))).cell? _ = _ := S2.cell (show wr.drew.cell? _ = _ from x7) (by show ¬ (q b = _); omega)
          rw [hnt] at d6
          have q2 : (tp : Int) < nt := by have := HA8.out; omega
          have q4 : (t : Int) < g.actors.length := by omega
          have q5 : (g.actors.length : Int) ≤ tc := by omega
          have HN2 := Lib.hid hN2
          have HX7 := Lib.hid x7c
          clear hN2 x7c S2 L2 hN0 hz1 hnt hst7 hSS hgs hta htc htg hcells hN hn kb HN hlf ht2
          go_wp2_with fail
          refine wp_region_lex (fun w' => w'.cell? ⟨b, 6, none⟩ = some (.slice (some ⟨tg, 0, none⟩) g.actors.length tc) ∧ w'.cell? ⟨w.heap.size, 3, none⟩ = some (.slice (some ⟨b0, off, none⟩) g.ins.length ic) ∧ w'.cell? ⟨b0, off + k * 3 + 1, none⟩ = some (.int .i64 (t : Int)) ∧ w'.cell? ⟨b0, off + k * 3 + 2, none⟩ = some (.int .i64 (tp : Int)) ∧ w'.cell? ⟨tg, t * 12 + 6, none⟩ = some (.slice (some ⟨gs, 0, none⟩) nt nt) ∧ w'.cell? ⟨b, 7, none⟩ = some (.slice vs n ssc)) [0, 1, 2, 3, 4, 5, 6, 7, 8, 9, 10, 11, 12, 13, 14, 15, 16, 17, 18, 19] [20, 21] (by kernel_rfl) (by kernel_rfl) rfl (fun _ _ hx h => ⟨hx.cell h.1, hx.cell h.2.1, hx.cell h.2.2.1, hx.cell h.2.2.2.1, hx.cell h.2.2.2.2.1, hx.cell h.2.2.2.2.2⟩) ⟨x6, x3, c1, c2, d6, x7⟩ ?_
          intro Q' hQ'
          simp only [pickOps, List.flatMap_cons, List.flatMap_nil, List.drop_succ_cons, List.drop_zero, List.take_succ_cons, List.take_zero, List.cons_append, List.nil_append, List.append_nil]
          repeat (first
           | (refine wpReads_skip (by rfl) ?_; (try simp only [Act.put, List.setIfInBounds_toArray, List.set_cons_zero, List.set_cons_succ]))
           | (refine wpReads_cons ?_ (by rfl) (by rfl) ?_ ?_; rotate_left; (intro wz hz; (try dsimp only at hz); go_simp; try with_reducible rfl); (try simp only [Act.put, List.setIfInBounds_toArray, List.set_cons_zero, List.set_cons_succ]))
           | (refine wpReads_any ?_ (by rfl) ?_ ?_; rotate_left; (intro wz; go_simp; try with_reducible rfl); (try simp only [Act.put, List.setIfInBounds_toArray, List.set_cons_zero, List.set_cons_succ])))
          refine wpReads_nil ?_
          clear x6 x3 c1 c2 d6
          have d7 : wr.drew.cell? ⟨b, 7, none⟩ = some (.slice vs n ssc) := x7
          have y7 := HX7.out
          clear x7 d7
          go_upto_region 25 with fail
          obtain ⟨wa, hwa⟩ : ∃ x, wr.drew.setCell ⟨gs, tp, none⟩ (.int .i64 (n : Int)) = x := ⟨_, rfl⟩
          rw [hwa] at HN2 HX7 y7
          change (wr.setCell ⟨gs, tp, none⟩ (.int .i64 (n : Int))).drew = wa at hwa
          rw [hwa]
          clear hwa u1 g1
          obtain ⟨i0, hi, hz0, hz1, hz2⟩ := info_parts info_xstream
          have HI := Lib.hid hi
          have hbn := below_alloc wa (.cells #[.slice none 0 0, .int .i64 0] 129)
          have TN := Turn.of_below q (R + 3002) hbn
          replace HN2 := Lib.hid (HN2.out.turn TN (fun h => h) (fun _ h => h.elim))
          generalize ext q wa.heap.size (R + 3002) = qn at *
          clear hi hbn TN
          go_wp2_with (at_builtin; refine stop_here ?_)
          refine go_on ?_
          refine wpList_app rfl _ _ 58 rfl 0 129 i0 _ 2 32 Tryz.underlying58 HI.out hz0 hz1 hz2 rfl (.slice vs n ssc) n ((List.range n).flatMap (strX0 v.sv)) rfl (by have := HN2.out.half.streams.1; rw [HST7.out] at this; exact this) (some ⟨wa.heap.size, 0, none⟩) 1 1 [.slice none 0 0, .int .i64 0] rfl rfl (fun h => by cases h) (news_alloc wa [.slice none 0 0, .int .i64 0] 129) (by simp [Value.oneCell']) (by have := HF.out; have := HNN.out; unfold maxLen; omega) (grow_ok (by have := HF.out; have := HNN.out; omega)) (Nat.zero_le _) ?_
          intro v7 w7 k1 k20 _ k4
          rw [← HST7.out] at k20 k4
          obtain ⟨T7, O7⟩ := own_app HN2.out.half.streams k1 k20 k4
          obtain ⟨sp7, cp7, rfl⟩ := O7.slice
          generalize ext qn _ (R + 2) = qo at *
          have hN7 := HN2.out.half.rig.turn T7 (by omega)
          have e0 := hN7.cell 7 v.streams rfl
          have g0 := hN7.frozen 7
          obtain ⟨hB0, S0⟩ := hN7.set 7 (.slice sp7 (n + 1) cp7)
          have hB1 : Blk (w7.setCell ⟨b, 7, none⟩ (.slice sp7 (n + 1) cp7)) qo (R + 5) b 60 (rigX [.string g.name, .slice aa g.actors.length ac, .slice ae g.edges.length ec, .slice ai g.ins.length ic, .slice ao g.outs.length oc] { v with streams := .slice sp7 (n + 1) cp7 }).toArray := hB0
          have TT := (T7.mono (D := fun c => c = R + 5 ∨ c = R + 2) (fun c h => .inr h)).trans (S0.mono (D := fun c => c = R + 5 ∨ c = R + 2) (fun c h => .inl h)) (fun _ h => h)
          obtain ⟨hf1, hf2, hf3, hf4⟩ := HF.out
          have hnn := HNN.out
          have hrow : Own (w7.setCell ⟨b, 7, none⟩ (.slice sp7 (n + 1) cp7)) qo (R + 10 + n) 3 1 (.slice none 0 0) ((newRig g).strs n).length (ivs ((newRig g).strs n)) := by
           have e : (newRig g).strs n = [] := by unfold newRig; simp only []; rw [if_neg (by omega)]
           rw [e]
           exact Own.nil _ _ _ _ _
          have hN8 := XNewK.mk (HN2.out.kept.turn TT (by omega)) (HN2.out.box.turn TT (by omega)) (HN2.out.res.turn TT (by omega)) (HN2.out.half.addStream (by omega) TT hB1 (O7.turn S0 (by omega)) hrow)
          have hN9 : ∀ m, m = n + 1 → XNewK w _ qo R b g [.string g.name, .slice aa g.actors.length ac, .slice ae g.edges.length ec, .slice ai g.ins.length ic, .slice ao g.outs.length oc] caps g.actors.length m m g.edges.length _ := fun m hm => by subst hm; exact hN8
          have HNEW := Lib.hid (hN9 (g.edges.length + (k + 1)) (by omega))
          clear hN8 hN9 hrow TT hB0 hB1 S0 hN7 T7 O7 k1 k20 k4 HN2 hnn HNN HX7
          go_wp2
          go_roundw
          case rel => exact ⟨k + 1, _, _, hlt, by go_num, HNEW.out⟩
          case measure => simp [intOf]; omega
         ·
          obtain rfl : k = g.ins.length := by omega
          have hlti : ¬ ((g.ins.length : Int) < g.ins.length) := by omega
          have x4 := HN.out.box.cell 4 _ rfl
          replace HN := Lib.hid (HN.out.pass HS.out)
          clear hk hlt
          go_wp2_with fail
          go_loopw [14] (fun i wz => ∃ (k : Nat) (q : Col) (v : XRV), k ≤ g.outs.length ∧ i = .int .i64 k ∧ XNewK w wz q R b g [.string g.name, .slice aa g.actors.length ac, .slice ae g.edges.length ec, .slice ai g.ins.length ic, .slice ao g.outs.length oc] caps g.actors.length (g.edges.length + g.ins.length + k) (g.edges.length + g.ins.length) (g.edges.length + g.ins.length + k) v) (fun i _ => g.outs.length - (intOf i).toNat)
          case atStart => exact ⟨0, _, v, Nat.zero_le _, rfl, HN.out⟩
          case round =>
           clear HN x4
           obtain ⟨k, q, v, hk, rfl, hN⟩ := hrel
           have HN := Lib.hid hN
           clear hN
           have x4 := HN.out.box.cell 4 _ rfl
           change wr.cell? _ = some (.slice ao g.outs.length oc) at x4
           by_cases hlt : k < g.outs.length
           ·
            have hlti : (k : Int) < g.outs.length := by omega
            obtain ⟨b0, off, hae, hcap, hb0, hrec⟩ := HRO.out.at (by omega)
            rw [hae] at x4
            obtain ⟨cs, hcs, hPR, hcl⟩ := hrec k hlt
            obtain rfl := hPR
            have c1 := cell_later HN.out.kept.below (hcl 1 (by omega))
            have c2 := cell_later HN.out.kept.below (hcl 2 (by omega))
            simp at c1 c2
            have hcapi : (g.outs.length : Int) ≤ oc := by omega
            obtain ⟨pt, hpt⟩ : ∃ x, g.outs[k] = x := ⟨_, rfl⟩
            have HPT := Lib.hid hpt
            rw [hpt] at c1 c2
            clear hrec hcl hcs hb0 hcap hpt hae
            have hsnd := HS.out.outs k hlt
            rw [HPT.out] at hsnd
            obtain ⟨⟨a5, a6⟩, ⟨a7, a8⟩, -⟩ := hsnd
            obtain ⟨t, ht⟩ := Int.eq_ofNat_of_zero_le a5
            obtain ⟨tp, htp⟩ := Int.eq_ofNat_of_zero_le a7
            have hfrom := HS.out.to_out hlt
            rw [HPT.out, ht, htp] at hfrom
            rw [ht, htp, Int.toNat_natCast] at a8
            rw [ht] at a6
            rw [ht] at c1
            rw [htp] at c2
            simp only [Int.toNat_natCast] at hfrom
            have HFROM := Lib.hid hfrom
            have HA6 := Lib.hid (show t < g.actors.length by omega)
            have HA8 := Lib.hid (show tp < (ratesO g t).length by omega)
            clear a5 a6 a7 a8 ht htp hfrom
            obtain ⟨n, hn⟩ : ∃ x, g.edges.length + g.ins.length + k = x := ⟨_, rfl⟩
            have HNN := Lib.hid hn
            have hN := HN.out
            rw [hn] at hN
            obtain ⟨tg, tc, hta, htc, htg, hcells⟩ := hN.half.taskCell HA6.out
            have x6 : wr.cell? ⟨b, 6, none⟩ = some v.tasks := hN.half.rig.cell 6 v.tasks rfl
            rw [hta] at x6
            obtain ⟨gs, hgs, hSS⟩ := (hN.half.task t HA6.out).dst
            have d6 := hcells 7 (v.tv t).dst (by omega) rfl
            rw [hgs] at d6
            obtain ⟨vs, ssc, hst7⟩ := hN.half.streams.slice
            have x7 : wr.cell? ⟨b, 7, none⟩ = some v.streams := hN.half.rig.cell 7 v.streams rfl
            rw [hst7] at x7
            have HST7 := Lib.hid hst7
            obtain ⟨nt, hnt⟩ : ∃ x, (ratesO g t).length = x := ⟨_, rfl⟩
            obtain ⟨z1, hz1⟩ : ∃ x, (ivs (toL g t (n)))[tp]? = some x := ⟨_, List.getElem?_eq_getElem (by have := toL_len g t (n); have := HA8.out; simp [ivs]; omega)⟩
            have u1 := hSS.cell tp z1 (by simpa using hz1)
            have g1 := hSS.frozen tp
            have hN0 := hN.turn (Turn.refl q (fun _ => False) wr).drew (fun h => h) (fun _ h => h.elim)
            obtain ⟨L2, S2⟩ := hN0.half.linkTo (t := t) (p := tp) (gd := gs) HA6.out (HFROM.out.trans HNN.out) (by omega) hgs
            have hlf := HF.out.1
            have ht2 := HA6.out
            have kb := hN.half.rig.2
            have hN2 := XNewK.mk (hN0.kept.turn S2 (by omega)) (hN0.box.turn S2 (by omega)) (hN0.res.turn S2 (by omega)) L2
            have x7c : (wr.drew.setCell ⟨gs, tp, none⟩ (.int .i64 (n : Int))).cell? _ = _ := S2.cell (show wr.drew.cell? _ = _ from x7) (by show ¬ (q b = _); omega)
            rw [hnt] at d6
            have q2 : (tp : Int) < nt := by have := HA8.out; omega
            have q4 : (t : Int) < g.actors.length := by omega
            have q5 : (g.actors.length : Int) ≤ tc := by omega
            have HN2 := Lib.hid hN2
            have HX7 := Lib.hid x7c
            clear hN2 x7c S2 L2 hN0 hz1 hnt hst7 hSS hgs hta htc htg hcells hN hn kb HN hlf ht2
            go_wp2_with fail
            refine wp_region_lex (fun w' => w'.cell? ⟨b, 6, none⟩ = some (.slice (some ⟨tg, 0, none⟩) g.actors.length tc) ∧ w'.cell? ⟨w.heap.size, 4, none⟩ = some (.slice (some ⟨b0, off, none⟩) g.outs.length oc) ∧ w'.cell? ⟨b0, off + k * 3 + 1, none⟩ = some (.int .i64 (t : Int)) ∧ w'.cell? ⟨b0, off + k * 3 + 2, none⟩ = some (.int .i64 (tp : Int)) ∧ w'.cell? ⟨tg, t * 12 + 7, none⟩ = some (.slice (some ⟨gs, 0, none⟩) nt nt) ∧ w'.cell? ⟨b, 7, none⟩ = some (.slice vs n ssc)) [0, 1, 2, 3, 4, 5, 6, 7, 8, 9, 10, 11, 12, 13, 14, 15, 16, 17, 18, 19] [20, 21] (by kernel_rfl) (by kernel_rfl) rfl (fun _ _ hx h => ⟨hx.cell h.1, hx.cell h.2.1, hx.cell h.2.2.1, hx.cell h.2.2.2.1, hx.cell h.2.2.2.2.1, hx.cell h.2.2.2.2.2⟩) ⟨x6, x4, c1, c2, d6, x7⟩ ?_
            intro Q' hQ'
            simp only [pickOps, List.flatMap_cons, List.flatMap_nil, List.drop_succ_cons, List.drop_zero, List.take_succ_cons, List.take_zero, List.cons_append, List.nil_append, List.append_nil]
            repeat (first
             | (refine wpReads_skip (by rfl) ?_; (try simp only [Act.put, List.setIfInBounds_toArray, List.set_cons_zero, List.set_cons_succ]))
             | (refine wpReads_cons ?_ (by rfl) (by rfl) ?_ ?_; rotate_left; (intro wz hz; (try dsimp only at hz); go_simp; try with_reducible rfl); (try simp only [Act.put, List.setIfInBounds_toArray, List.set_cons_zero, List.set_cons_succ]))
             | (refine wpReads_any ?_ (by rfl) ?_ ?_; rotate_left; (intro wz; go_simp; try with_reducible rfl); (try simp only [Act.put, List.setIfInBounds_toArray, List.set_cons_zero, List.set_cons_succ])))
            refine wpReads_nil ?_
            clear x6 x4 c1 c2 d6
            have d7 : wr.drew.cell? ⟨b, 7, none⟩ = some (.slice vs n ssc) := x7
            have y7 := HX7.out
            clear x7 d7
            go_upto_region 30 with fail
            obtain ⟨wa, hwa⟩ : ∃ x, wr.drew.setCell ⟨gs, tp, none⟩ (.int .i64 (n : Int)) = x := ⟨_, rfl⟩
            rw [hwa] at HN2 HX7 y7
            change (wr.setCell ⟨gs, tp, none⟩ (.int .i64 (n : Int))).drew = wa at hwa
            rw [hwa]
            clear hwa u1 g1
            obtain ⟨i0, hi, hz0, hz1, hz2⟩ := info_parts info_xstream
            have HI := Lib.hid hi
            have hbn := below_alloc wa (.cells #[.slice none 0 0, .int .i64 0] 129)
            have TN := Turn.of_below q (R + 3002) hbn
            replace HN2 := Lib.hid (HN2.out.turn TN (fun h => h) (fun _ h => h.elim))
            generalize ext q wa.heap.size (R + 3002) = qn at *
            clear hi hbn TN
            go_wp2_with (at_builtin; refine stop_here ?_)
            refine go_on ?_
            refine wpList_app rfl _ _ 58 rfl 0 129 i0 _ 2 32 Tryz.underlying58 HI.out hz0 hz1 hz2 rfl (.slice vs n ssc) n ((List.range n).flatMap (strX0 v.sv)) rfl (by have := HN2.out.half.streams.1; rw [HST7.out] at this; exact this) (some ⟨wa.heap.size, 0, none⟩) 1 1 [.slice none 0 0, .int .i64 0] rfl rfl (fun h => by cases h) (news_alloc wa [.slice none 0 0, .int .i64 0] 129) (by simp [Value.oneCell']) (by have := HF.out; have := HNN.out; unfold maxLen; omega) (grow_ok (by have := HF.out; have := HNN.out; omega)) (Nat.zero_le _) ?_
            intro v7 w7 k1 k20 _ k4
            rw [← HST7.out] at k20 k4
            obtain ⟨T7, O7⟩ := own_app HN2.out.half.streams k1 k20 k4
            obtain ⟨sp7, cp7, rfl⟩ := O7.slice
            generalize ext qn _ (R + 2) = qo at *
            have hN7 := HN2.out.half.rig.turn T7 (by omega)
            have e0 := hN7.cell 7 v.streams rfl
            have g0 := hN7.frozen 7
            obtain ⟨hB0, S0⟩ := hN7.set 7 (.slice sp7 (n + 1) cp7)
            have hB1 : Blk (w7.setCell ⟨b, 7, none⟩ (.slice sp7 (n + 1) cp7)) qo (R + 5) b 60 (rigX [.string g.name, .slice aa g.actors.length ac, .slice ae g.edges.length ec, .slice ai g.ins.length ic, .slice ao g.outs.length oc] { v with streams := .slice sp7 (n + 1) cp7 }).toArray := hB0
            have TT := (T7.mono (D := fun c => c = R + 5 ∨ c = R + 2) (fun c h => .inr h)).trans (S0.mono (D := fun c => c = R + 5 ∨ c = R + 2) (fun c h => .inl h)) (fun _ h => h)
            obtain ⟨hf1, hf2, hf3, hf4⟩ := HF.out
            have hnn := HNN.out
            have hrow : Own (w7.setCell ⟨b, 7, none⟩ (.slice sp7 (n + 1) cp7)) qo (R + 10 + n) 3 1 (.slice none 0 0) ((newRig g).strs n).length (ivs ((newRig g).strs n)) := by
             have e : (newRig g).strs n = [] := by unfold newRig; simp only []; rw [if_neg (by omega)]
             rw [e]
             exact Own.nil _ _ _ _ _
            have hN8 := XNewK.mk (HN2.out.kept.turn TT (by omega)) (HN2.out.box.turn TT (by omega)) (HN2.out.res.turn TT (by omega)) (HN2.out.half.addStream (by omega) TT hB1 (O7.turn S0 (by omega)) hrow)
            have hN9 : ∀ m, m = n + 1 → XNewK w _ qo R b g [.string g.name, .slice aa g.actors.length ac, .slice ae g.edges.length ec, .slice ai g.ins.length ic, .slice ao g.outs.length oc] caps g.actors.length m (g.edges.length + g.ins.length) m _ := fun m hm => by subst hm; exact hN8
            have HNEW := Lib.hid (hN9 (g.edges.length + g.ins.length + (k + 1)) (by omega))
            clear hN8 hN9 hrow TT hB0 hB1 S0 hN7 T7 O7 k1 k20 k4 HN2 hnn HNN HX7
            go_wp2
            go_roundw
            case rel => exact ⟨k + 1, _, _, hlt, by go_num, HNEW.out⟩
            case measure => simp [intOf]; omega
           ·
            obtain rfl : k = g.outs.length := by omega
            have hlti : ¬ ((g.outs.length : Int) < g.outs.length) := by omega
            clear hk hlt
            have hf := HN.out.half
            obtain ⟨cva, cvc, hcv⟩ := Ints.slice hf.caps
            obtain ⟨tva, tvc, htv⟩ := hf.tasks.slice
            obtain ⟨sva, svc, hsv⟩ := hf.streams.slice
            have r0 := hf.rig.cell 0 _ rfl
            have r1 := hf.rig.cell 1 _ rfl
            have r2 := hf.rig.cell 2 _ rfl
            have r3 := hf.rig.cell 3 _ rfl
            have r4 := hf.rig.cell 4 _ rfl
            have r5 : wr.cell? ⟨b, 5, none⟩ = some v.caps := hf.rig.cell 5 _ rfl
            have r6 : wr.cell? ⟨b, 6, none⟩ = some v.tasks := hf.rig.cell 6 _ rfl
            have r7 : wr.cell? ⟨b, 7, none⟩ = some v.streams := hf.rig.cell 7 _ rfl
            have r8 : wr.cell? ⟨b, 8, none⟩ = some (.slice (some ⟨v.fail, 0, none⟩) 1 1) := hf.rig.cell 8 _ rfl
            change wr.cell? _ = some (.string g.name) at r0
            change wr.cell? _ = some (.slice aa g.actors.length ac) at r1
            change wr.cell? _ = some (.slice ae g.edges.length ec) at r2
            change wr.cell? _ = some (.slice ai g.ins.length ic) at r3
            change wr.cell? _ = some (.slice ao g.outs.length oc) at r4
            rw [hcv] at r5
            rw [htv] at r6
            rw [hsv] at r7
            have HCV := Lib.hid hcv
            have HTV := Lib.hid htv
            have HSV := Lib.hid hsv
            clear hf hcv htv hsv
            have z0 := (HN.out.res).cell 0 _ rfl
            have z1 := (HN.out.res).cell 1 _ rfl
            have z2 := (HN.out.res).cell 2 _ rfl
            have z3 := (HN.out.res).cell 3 _ rfl
            have z4 := (HN.out.res).cell 4 _ rfl
            have z5 := (HN.out.res).cell 5 _ rfl
            have z6 := (HN.out.res).cell 6 _ rfl
            have z7 := (HN.out.res).cell 7 _ rfl
            have z8 := (HN.out.res).cell 8 _ rfl
            have f0 := (HN.out.res).frozen 0
            have f1 := (HN.out.res).frozen 1
            have f2 := (HN.out.res).frozen 2
            have f3 := (HN.out.res).frozen 3
            have f4 := (HN.out.res).frozen 4
            have f5 := (HN.out.res).frozen 5
            have f6 := (HN.out.res).frozen 6
            have f7 := (HN.out.res).frozen 7
            have f8 := (HN.out.res).frozen 8
            go_wp2
            refine bodyPost_ret_by (results_row_tmp rfl _ _ _ _ _ _ _ rfl (rig_set (HN.out.res).1) Tryz.underlying60 rfl (by kernel_rfl)) rfl ?_
            have hE : newE g caps = 0 := by
             unfold newE
             rw [if_neg (by rw [HE.out]; decide), if_neg (by rw [H1.out]; simp), if_neg]
             intro h
             obtain ⟨c, hc, hd⟩ := List.any_eq_true.1 h
             have := HCP.out c hc
             simp at hd
             omega
            refine ⟨fun h => absurd hE h, fun _ => ⟨b, q, v, ?_, ?_, ?_⟩⟩
            ·
             unfold rigX
             rw [HCV.out, HTV.out, HSV.out]
             rfl
            ·
             exact HN.out.kept.turn (res_turn HN.out.res _ _ _ _ _ _ _ _ _) (by omega)
            ·
             exact HN.out.half.turn7 (res_turn HN.out.res _ _ _ _ _ _ _ _ _)
  ·
   have hbb : ((caps.length : Int) != (g.edges.length : Int)) = true := by rw [bne_iff_ne]; omega
   have H1 := Lib.hid h1
   clear h1
   have z0 := (HZ2.out).cell 0 _ rfl
   have z1 := (HZ2.out).cell 1 _ rfl
   have z2 := (HZ2.out).cell 2 _ rfl
   have z3 := (HZ2.out).cell 3 _ rfl
   have z4 := (HZ2.out).cell 4 _ rfl
   have z5 := (HZ2.out).cell 5 _ rfl
   have z6 := (HZ2.out).cell 6 _ rfl
   have z7 := (HZ2.out).cell 7 _ rfl
   have z8 := (HZ2.out).cell 8 _ rfl
   have f0 := (HZ2.out).frozen 0
   have f1 := (HZ2.out).frozen 1
   have f2 := (HZ2.out).frozen 2
   have f3 := (HZ2.out).frozen 3
   have f4 := (HZ2.out).frozen 4
   have f5 := (HZ2.out).frozen 5
   have f6 := (HZ2.out).frozen 6
   have f7 := (HZ2.out).frozen 7
   have f8 := (HZ2.out).frozen 8
   go_wp2
   refine bodyPost_ret_by (results_row_tmp rfl _ _ _ _ _ _ _ rfl (rig_set (HZ2.out).1) Tryz.underlying60 rfl (by kernel_rfl)) rfl ?_
   refine xnew_no ?_ ?_ (rig_below HK2.out.below (Nat.le_succ _) _ _ _ _ _ _ _ _ _)
   ·
    unfold newE
    rw [if_neg (by rw [HE.out]; decide), if_pos H1.out]
   ·
    decide
 ·
  have hbb : (E != 0) = true := by rw [bne_iff_ne]; exact h0
  have H0 := Lib.hid h0
  clear h0
  have z0 := (HZ2.out).cell 0 _ rfl
  have z1 := (HZ2.out).cell 1 _ rfl
  have z2 := (HZ2.out).cell 2 _ rfl
  have z3 := (HZ2.out).cell 3 _ rfl
  have z4 := (HZ2.out).cell 4 _ rfl
  have z5 := (HZ2.out).cell 5 _ rfl
  have z6 := (HZ2.out).cell 6 _ rfl
  have z7 := (HZ2.out).cell 7 _ rfl
  have z8 := (HZ2.out).cell 8 _ rfl
  have f0 := (HZ2.out).frozen 0
  have f1 := (HZ2.out).frozen 1
  have f2 := (HZ2.out).frozen 2
  have f3 := (HZ2.out).frozen 3
  have f4 := (HZ2.out).frozen 4
  have f5 := (HZ2.out).frozen 5
  have f6 := (HZ2.out).frozen 6
  have f7 := (HZ2.out).frozen 7
  have f8 := (HZ2.out).frozen 8
  go_wp2
  refine bodyPost_ret_by (results_row_tmp rfl _ _ _ _ _ _ _ rfl (rig_set (HZ2.out).1) Tryz.underlying60 rfl (by kernel_rfl)) rfl ?_
  refine xnew_no ?_ ?_ (rig_below HK2.out.below (Nat.le_succ _) _ _ _ _ _ _ _ _ _)
  ·
   unfold newE
   rw [HE.out, if_pos H0.out]
  ·
   exact H0.out
end Go.Proofs.YtaholpfikcdhbaaGreat

/- A run that New refuses: refused says yes. -/
namespace Go.Proofs.YtaholpfikcdhbaaGreat
open Go.RowKit
set_option maxRecDepth 100000 in
set_option maxHeartbeats 2000000 in
theorem refused_yes {w : World} {g : GGraph} {caps : List Int} {fed : List (List Int)} {v : Value} (hv : HasRun w v g caps fed) (ok : RunOk g caps fed) (h0 : newE g caps ≠ 0) : Calls Tryz.prog 13 #[v] w (Tells (.bool true) w) := by
 obtain ⟨n, va, ve, vi, vo, vc, vf, rfl, hg, hc, hf⟩ := hv
 obtain ⟨_, _, _, _, e0, ra, re, ri, ro⟩ := hg.shape
 obtain ⟨aa, ac, rfl⟩ := ra.slice
 obtain ⟨ae, ec, rfl⟩ := re.slice
 obtain ⟨ai, ic, rfl⟩ := ri.slice
 obtain ⟨ao, oc, rfl⟩ := ro.slice
 simp only [Value.agg.injEq, Array.mk.injEq, List.cons.injEq, and_true] at e0
 obtain ⟨rfl, rfl, rfl, rfl, rfl⟩ := e0
 obtain ⟨ca, cc, rfl⟩ := Ints.slice hc
 obtain ⟨fa, fc, rfl⟩ := hf.slice
 have HG := Lib.hid hg
 have HC := Lib.hid hc
 have OK := Lib.hid ok
 have H0 := Lib.hid h0
 have hb1 := below_alloc w (.cells #[.string g.name, .slice aa g.actors.length ac, .slice ae g.edges.length ec, .slice ai g.ins.length ic, .slice ao g.outs.length oc, .slice ca caps.length cc, .slice fa fed.length fc] 30)
 have hX := heap_alloc_new w (.cells #[.string g.name, .slice aa g.actors.length ac, .slice ae g.edges.length ec, .slice ai g.ins.length ic, .slice ao g.outs.length oc, .slice ca caps.length cc, .slice fa fed.length fc] 30)
 have x0 := cells_row _ _ hX 0 _ rfl
 have x1 := cells_row _ _ hX 1 _ rfl
 have x2 := cells_row _ _ hX 2 _ rfl
 have x3 := cells_row _ _ hX 3 _ rfl
 have x4 := cells_row _ _ hX 4 _ rfl
 have x5 := cells_row _ _ hX 5 _ rfl
 have HB1 := Lib.hid hb1
 obtain ⟨w1, hw1⟩ : ∃ x, w.alloc (.cells #[.string g.name, .slice aa g.actors.length ac, .slice ae g.edges.length ec, .slice ai g.ins.length ic, .slice ao g.outs.length oc, .slice ca caps.length cc, .slice fa fed.length fc] 30) = x := ⟨_, rfl⟩
 rw [hw1] at x0 x1 x2 x3 x4 x5 HB1
 clear hb1 hX hg hc hf ok ra re ri ro h0
 go_enter Tryz.func13, Tryz.ntmps13
 go_wp2_with fail
 clear hw1
 refine (dnew_any w1 (fun _ => 0) 1 (Nat.le_refl _) (.agg #[.string g.name, .slice aa g.actors.length ac, .slice ae g.edges.length ec, .slice ai g.ins.length ic, .slice ao g.outs.length oc]) g caps (HG.out.below HB1.out) OK.out.sized (HC.out.below HB1.out) OK.out.capn OK.out.fp OK.out.fs OK.out.fc).mono ?_
 intro e w2 hret
 obtain ⟨rfl, hb2⟩ := hret.1 H0.out
 replace x0 := cell_later hb2 x0
 replace x1 := cell_later hb2 x1
 replace x2 := cell_later hb2 x2
 replace x3 := cell_later hb2 x3
 replace x4 := cell_later hb2 x4
 replace x5 := cell_later hb2 x5
 have HB2 := Lib.hid (HB1.out.trans (hb2.mono HB1.out.size))
 clear hb2 hret HB1
 obtain ⟨E, hE⟩ : ∃ x, newE g caps = x := ⟨_, rfl⟩
 have HE := Lib.hid hE
 rw [hE]
 have hbb : (E != 0) = true := by rw [bne_iff_ne]; exact hE ▸ H0.out
 clear hE
 go_wp2_with fail
 refine (xnew_any w2 1 (Nat.le_refl _) g caps (HG.out.below HB2.out) OK.out.sized (HC.out.below HB2.out) OK.out.capn).mono ?_
 intro e w3 hret
 obtain ⟨rfl, hb3⟩ := hret.1 H0.out
 rw [HE.out]
 have HB3 := Lib.hid (HB2.out.trans (hb3.mono HB2.out.size))
 clear hb3 hret HB2 x0 x1 x2 x3 x4 x5
 go_wp2
 go_ret
 exact ⟨rfl, HB3.out.trans ((below_alloc _ _).mono HB3.out.size)⟩
end Go.Proofs.YtaholpfikcdhbaaGreat
