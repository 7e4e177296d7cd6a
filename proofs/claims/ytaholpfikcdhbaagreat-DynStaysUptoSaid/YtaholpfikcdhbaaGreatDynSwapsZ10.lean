/- The reference's rig in memory, while it is built. No function in sight. -/
import Derived.Test.YtaholpfikcdhbaaGreatDynSwapsZ9
import Derived.Test.YtaholpfikcdhbaaGreatDynSwapsZ6
namespace Go.Proofs.YtaholpfikcdhbaaGreat
open Go.RowKit
structure XTV where
  vp : Value
  vi : Value
  vo : Value
  vk : Value
  src : Value
  dst : Value
structure XRV where
  caps : Value
  tasks : Value
  streams : Value
  fail : Nat
  tv : Nat → XTV
  sv : Nat → Value
def tagOf (g : GGraph) (t : Nat) : Int := match g.actors[t]? with | some a => a.tag | none => 0
def psOf (g : GGraph) (t : Nat) : List Int := match g.actors[t]? with | some a => a.params | none => []
def taskX0 (g : GGraph) (v : Nat → XTV) (t : Nat) : List Value := [.int .u8 (tagOf g t), (v t).vp, (v t).vi, (v t).vo, (v t).vk, .int .i64 0, (v t).src, (v t).dst, .int .i64 0, .slice none 0 0, .slice none 0 0, .int .i64 0]
def strX0 (v : Nat → Value) (d : Nat) : List Value := [v d, .int .i64 0]
def fromL (g : GGraph) (t B : Nat) : List Int := (List.range (ratesI g t).length).map fun q => if fromP g t q < B then (fromP g t q : Int) else 0
def toL (g : GGraph) (t B : Nat) : List Int := (List.range (ratesO g t).length).map fun p => if toP g t p < B then (toP g t p : Int) else 0
theorem fromL_len (g : GGraph) (t B : Nat) : (fromL g t B).length = (ratesI g t).length := by simp [fromL]
theorem toL_len (g : GGraph) (t B : Nat) : (toL g t B).length = (ratesO g t).length := by simp [toL]
theorem fromL_zero (g : GGraph) (t : Nat) : fromL g t 0 = List.replicate (ratesI g t).length 0 := by
  refine List.ext_getElem (by simp [fromL]) fun i h1 h2 => ?_
  simp [fromL]
theorem toL_zero (g : GGraph) (t : Nat) : toL g t 0 = List.replicate (ratesO g t).length 0 := by
  refine List.ext_getElem (by simp [toL]) fun i h1 h2 => ?_
  simp [toL]
theorem fromL_set {g : GGraph} {t q B : Nat} (he : fromP g t q = B) (hB : B < g.edges.length + g.ins.length) : (fromL g t B).set q (B : Int) = fromL g t (B + 1) := by
  refine List.ext_getElem (by simp [fromL]) fun i h1 h2 => ?_
  rw [List.getElem_set]
  simp only [fromL, List.getElem_map, List.getElem_range]
  by_cases e : q = i
  · subst e
    rw [if_pos rfl, if_pos (by omega), he]
  · rw [if_neg e]
    have : fromP g t i ≠ B := fun h => e (from_port (g := g) (t := t) (p := q) (q := i) (by omega) (by omega))
    by_cases h : fromP g t i < B
    · rw [if_pos h, if_pos (by omega)]
    · rw [if_neg h, if_neg (by omega)]
theorem fromL_else {g : GGraph} {t u q B : Nat} (he : fromP g t q = B) (hu : u ≠ t) : fromL g u B = fromL g u (B + 1) := by
  refine List.ext_getElem (by simp [fromL]) fun i h1 h2 => ?_
  simp only [fromL, List.getElem_map, List.getElem_range]
  have : fromP g u i ≠ B := fun h => hu (from_task (h.trans he.symm))
  by_cases h : fromP g u i < B
  · rw [if_pos h, if_pos (by omega)]
  · rw [if_neg h, if_neg (by omega)]
theorem toL_set {g : GGraph} {t p B : Nat} (he : toP g t p = B) (hB : B < g.edges.length + g.ins.length + g.outs.length) : (toL g t B).set p (B : Int) = toL g t (B + 1) := by
  refine List.ext_getElem (by simp [toL]) fun i h1 h2 => ?_
  rw [List.getElem_set]
  simp only [toL, List.getElem_map, List.getElem_range]
  by_cases e : p = i
  · subst e
    rw [if_pos rfl, if_pos (by omega), he]
  · rw [if_neg e]
    have : toP g t i ≠ B := fun h => e (to_port (g := g) (t := t) (p := p) (q := i) (by omega) (by omega))
    by_cases h : toP g t i < B
    · rw [if_pos h, if_pos (by omega)]
    · rw [if_neg h, if_neg (by omega)]
theorem toL_else {g : GGraph} {t u p B : Nat} (he : toP g t p = B) (hu : u ≠ t) : toL g u B = toL g u (B + 1) := by
  refine List.ext_getElem (by simp [toL]) fun i h1 h2 => ?_
  simp only [toL, List.getElem_map, List.getElem_range]
  have : toP g u i ≠ B := fun h => hu (to_task (h.trans he.symm))
  by_cases h : toP g u i < B
  · rw [if_pos h, if_pos (by omega)]
  · rw [if_neg h, if_neg (by omega)]
theorem xflat_len {f : Nat → List Value} {sz : Nat} (hf : ∀ t, (f t).length = sz) : ∀ n : Nat, ((List.range n).flatMap f).length = n * sz
  | 0 => by simp
  | n + 1 => by
    rw [List.range_succ, List.flatMap_append, List.length_append, xflat_len hf n]
    simp [hf, Nat.add_mul]
theorem xflat_get {f : Nat → List Value} {sz : Nat} (hf : ∀ t, (f t).length = sz) {t k : Nat} (hk : k < sz) : ∀ {n : Nat}, t < n → ((List.range n).flatMap f)[t * sz + k]? = (f t)[k]?
  | n + 1, ht => by
    have hl := xflat_len hf n
    rw [List.range_succ, List.flatMap_append]
    by_cases e : t = n
    · subst e
      rw [List.getElem?_append_right (by omega), hl, Nat.add_sub_cancel_left]
      simp
    · have h1 : t < n := by omega
      have h2 : t * sz + k < n * sz := by
        have : (t + 1) * sz ≤ n * sz := Nat.mul_le_mul_right _ (by omega)
        rw [Nat.add_mul, Nat.one_mul] at this
        omega
      rw [List.getElem?_append_left (by omega)]
      exact xflat_get hf hk h1
theorem xflat_snoc (f : Nat → List Value) (n : Nat) : (List.range (n + 1)).flatMap f = (List.range n).flatMap f ++ f n := by
  rw [List.range_succ, List.flatMap_append]
  simp
theorem xflat_congr {f h : Nat → List Value} {n : Nat} (e : ∀ t, t < n → f t = h t) : (List.range n).flatMap f = (List.range n).flatMap h := by
  induction n with
  | zero => rfl
  | succ n ih => rw [xflat_snoc, xflat_snoc, ih (fun t ht => e t (by omega)), e n (by omega)]
theorem taskX0_len (g : GGraph) (v : Nat → XTV) (t : Nat) : (taskX0 g v t).length = 12 := rfl
structure XHalfT (w : World) (o : Col) (R : Nat) (g : GGraph) (t : Nat) (v : XTV) (F B : Nat) : Prop where
  vp : Ints w o (R + 3) v.vp (psOf g t)
  vi : Ints w o (R + 3) v.vi (ratesI g t)
  vo : Ints w o (R + 3) v.vo (ratesO g t)
  vk : Ints w o (R + 3) v.vk (keepT g t)
  src : ∃ gs, v.src = .slice (some ⟨gs, 0, none⟩) (ratesI g t).length (ratesI g t).length ∧ Blk w o (R + 1000 + 2 * t) gs 3 (ivs (fromL g t F)).toArray
  dst : ∃ gd, v.dst = .slice (some ⟨gd, 0, none⟩) (ratesO g t).length (ratesO g t).length ∧ Blk w o (R + 1001 + 2 * t) gd 3 (ivs (toL g t B)).toArray
def rigX (gv : List Value) (v : XRV) : List Value := gv ++ [v.caps, v.tasks, v.streams, .slice (some ⟨v.fail, 0, none⟩) 1 1]
structure XHalf (w : World) (o : Col) (R b : Nat) (g : GGraph) (gv : List Value) (caps : List Int) (nT nS F B : Nat) (v : XRV) : Prop where
  rig : Blk w o (R + 5) b 60 (rigX gv v).toArray
  caps : Ints w o (R + 3) v.caps caps
  fail : Blk w o (R + 4) v.fail 3 #[.int .i64 (-1)]
  tasks : Own w o (R + 1) 127 12 v.tasks nT ((List.range nT).flatMap (taskX0 g v.tv))
  streams : Own w o (R + 2) 129 2 v.streams nS ((List.range nS).flatMap (strX0 v.sv))
  task : ∀ t, t < nT → XHalfT w o R g t (v.tv t) F B
  all : ∀ d, d < nS → Own w o (R + 10 + d) 3 1 (v.sv d) ((newRig g).strs d).length (ivs ((newRig g).strs d))
  most : nT ≤ 32 ∧ nS ≤ 128
def MineX (R c : Nat) : Prop := R ≤ c ∧ c < R + 2000
theorem XHalfT.turn {w w' : World} {o o' : Col} {C : Nat → Prop} {R t F B : Nat} {g : GGraph} {v : XTV} (h : XHalfT w o R g t v F B) (T : Turn o o' C w w') (h3 : ¬ C (R + 3)) (hs : ¬ C (R + 1000 + 2 * t)) (hd : ¬ C (R + 1001 + 2 * t)) : XHalfT w' o' R g t v F B := by
  obtain ⟨gs, e1, b1⟩ := h.src
  obtain ⟨gd, e2, b2⟩ := h.dst
  exact ⟨h.vp.turn T h3, h.vi.turn T h3, h.vo.turn T h3, h.vk.turn T h3, ⟨gs, e1, b1.turn T hs⟩, ⟨gd, e2, b2.turn T hd⟩⟩
theorem XHalf.turn {w w' : World} {o o' : Col} {C : Nat → Prop} {R b : Nat} {g : GGraph} {gv : List Value} {caps : List Int} {nT nS F B : Nat} {v : XRV} (h : XHalf w o R b g gv caps nT nS F B v) (T : Turn o o' C w w') (hC : ∀ k, C k → ¬ MineX R k) : XHalf w' o' R b g gv caps nT nS F B v := by
  have hc : ∀ j, j < 2000 → ¬ C (R + j) := fun j hj hcc => hC _ hcc ⟨by omega, by omega⟩
  obtain ⟨m1, m2⟩ := h.most
  exact ⟨h.rig.turn T (hc 5 (by omega)), h.caps.turn T (hc 3 (by omega)), h.fail.turn T (hc 4 (by omega)), h.tasks.turn T (hc 1 (by omega)), h.streams.turn T (hc 2 (by omega)), fun t ht => (h.task t ht).turn T (hc 3 (by omega)) (by rw [Nat.add_assoc]; exact hc _ (by omega)) (by rw [Nat.add_assoc]; exact hc _ (by omega)), fun d hd => (h.all d hd).turn T (by rw [Nat.add_assoc]; exact hc _ (by omega)), h.most⟩
theorem XHalf.addTask {w w' : World} {o o' : Col} {R b k : Nat} {g : GGraph} {gv : List Value} {caps : List Int} {v : XRV} {vt : Value} {tvk : XTV} (h : XHalf w o R b g gv caps k 0 0 0 v) (hk : k < 32) (T : Turn o o' (fun c => c = R + 5 ∨ c = R + 1) w w')
    (hB : Blk w' o' (R + 5) b 60 (rigX gv { v with tasks := vt }).toArray) (hO : Own w' o' (R + 1) 127 12 vt (k + 1) ((List.range k).flatMap (taskX0 g v.tv) ++ taskX0 g (fun _ => tvk) k)) (hT : XHalfT w' o' R g k tvk 0 0) :
    XHalf w' o' R b g gv caps (k + 1) 0 0 0 { v with tasks := vt, tv := upd v.tv k tvk } := by
  refine ⟨hB, h.caps.turn T (by omega), h.fail.turn T (by omega), ?_, h.streams.turn T (by omega), fun t ht => ?_, fun d hd => by omega, ⟨hk, by omega⟩⟩
  · have e : (List.range (k + 1)).flatMap (taskX0 g (upd v.tv k tvk)) = (List.range k).flatMap (taskX0 g v.tv) ++ taskX0 g (fun _ => tvk) k := by
      rw [xflat_snoc]
      congr 1
      · refine xflat_congr fun t ht => ?_
        unfold taskX0
        rw [upd_other (by omega)]
      · unfold taskX0
        rw [upd_same]
    show Own w' o' (R + 1) 127 12 vt (k + 1) ((List.range (k + 1)).flatMap (taskX0 g (upd v.tv k tvk)))
    rw [e]
    exact hO
  · show XHalfT w' o' R g t (upd v.tv k tvk t) 0 0
    by_cases e : t = k
    · subst e
      rw [upd_same]
      exact hT
    · rw [upd_other e]
      exact (h.task t (by omega)).turn T (by omega) (by omega) (by omega)
theorem XHalf.addStream {w w' : World} {o o' : Col} {R b k F B nT : Nat} {g : GGraph} {gv : List Value} {caps : List Int} {v : XRV} {vt : Value} {sk : Value} (h : XHalf w o R b g gv caps nT k F B v) (hk : k < 128) (T : Turn o o' (fun c => c = R + 5 ∨ c = R + 2) w w')
    (hB : Blk w' o' (R + 5) b 60 (rigX gv { v with streams := vt }).toArray) (hO : Own w' o' (R + 2) 129 2 vt (k + 1) ((List.range k).flatMap (strX0 v.sv) ++ strX0 (fun _ => sk) k)) (hA : Own w' o' (R + 10 + k) 3 1 sk ((newRig g).strs k).length (ivs ((newRig g).strs k))) :
    XHalf w' o' R b g gv caps nT (k + 1) F B { v with streams := vt, sv := upd v.sv k sk } := by
  obtain ⟨m1, m2⟩ := h.most
  refine ⟨hB, h.caps.turn T (by omega), h.fail.turn T (by omega), h.tasks.turn T (by omega), ?_, fun t ht => (h.task t ht).turn T (by omega) (by omega) (by omega), fun d hd => ?_, ⟨m1, hk⟩⟩
  · have e : (List.range (k + 1)).flatMap (strX0 (upd v.sv k sk)) = (List.range k).flatMap (strX0 v.sv) ++ strX0 (fun _ => sk) k := by
      rw [xflat_snoc]
      congr 1
      · refine xflat_congr fun t ht => ?_
        unfold strX0
        rw [upd_other (by omega)]
      · unfold strX0
        rw [upd_same]
    show Own w' o' (R + 2) 129 2 vt (k + 1) ((List.range (k + 1)).flatMap (strX0 (upd v.sv k sk)))
    rw [e]
    exact hO
  · show Own w' o' (R + 10 + d) 3 1 (upd v.sv k sk d) _ _
    by_cases e : d = k
    · subst e
      rw [upd_same]
      exact hA
    · rw [upd_other e]
      exact (h.all d (by omega)).turn T (by omega)
theorem ivs_set (l : List Int) (k : Nat) (x : Int) : (ivs l).toArray.setIfInBounds k (.int .i64 x) = (ivs (l.set k x)).toArray := by
  rw [List.setIfInBounds_toArray]
  unfold ivs
  rw [List.map_set]
theorem XHalf.linkFrom {w : World} {o : Col} {R b : Nat} {g : GGraph} {gv : List Value} {caps : List Int} {nT nS F B : Nat} {v : XRV} (h : XHalf w o R b g gv caps nT nS F B v) {t q gs : Nat} (ht : t < nT) (hq : fromP g t q = F) (hF : F < g.edges.length + g.ins.length) (he : (v.tv t).src = .slice (some ⟨gs, 0, none⟩) (ratesI g t).length (ratesI g t).length) :
    XHalf (w.setCell ⟨gs, q, none⟩ (.int .i64 (F : Int))) o R b g gv caps nT nS (F + 1) B v ∧ Turn o o (fun c => c = R + 1000 + 2 * t) w (w.setCell ⟨gs, q, none⟩ (.int .i64 (F : Int))) := by
  obtain ⟨m1, m2⟩ := h.most
  obtain ⟨gs', e1, b1⟩ := (h.task t ht).src
  rw [he] at e1
  cases e1
  obtain ⟨H, T⟩ := b1.set q (.int .i64 (F : Int))
  rw [ivs_set, fromL_set hq hF] at H
  refine ⟨⟨h.rig.turn T (by omega), h.caps.turn T (by omega), h.fail.turn T (by omega), h.tasks.turn T (by omega), h.streams.turn T (by omega), fun u hu => ?_, fun d hd => (h.all d hd).turn T (by omega), h.most⟩, T⟩
  have k := h.task u hu
  obtain ⟨gd, e2, b2⟩ := k.dst
  by_cases e : u = t
  · subst e
    exact ⟨k.vp.turn T (by omega), k.vi.turn T (by omega), k.vo.turn T (by omega), k.vk.turn T (by omega), ⟨gs, he, H⟩, ⟨gd, e2, b2.turn T (by omega)⟩⟩
  · obtain ⟨gs2, e1, b1⟩ := k.src
    rw [fromL_else hq e] at b1
    exact ⟨k.vp.turn T (by omega), k.vi.turn T (by omega), k.vo.turn T (by omega), k.vk.turn T (by omega), ⟨gs2, e1, b1.turn T (by omega)⟩, ⟨gd, e2, b2.turn T (by omega)⟩⟩
theorem XHalf.linkTo {w : World} {o : Col} {R b : Nat} {g : GGraph} {gv : List Value} {caps : List Int} {nT nS F B : Nat} {v : XRV} (h : XHalf w o R b g gv caps nT nS F B v) {t p gd : Nat} (ht : t < nT) (hp : toP g t p = B) (hB : B < g.edges.length + g.ins.length + g.outs.length) (he : (v.tv t).dst = .slice (some ⟨gd, 0, none⟩) (ratesO g t).length (ratesO g t).length) :
    XHalf (w.setCell ⟨gd, p, none⟩ (.int .i64 (B : Int))) o R b g gv caps nT nS F (B + 1) v ∧ Turn o o (fun c => c = R + 1001 + 2 * t) w (w.setCell ⟨gd, p, none⟩ (.int .i64 (B : Int))) := by
  obtain ⟨m1, m2⟩ := h.most
  obtain ⟨gd', e1, b1⟩ := (h.task t ht).dst
  rw [he] at e1
  cases e1
  obtain ⟨H, T⟩ := b1.set p (.int .i64 (B : Int))
  rw [ivs_set, toL_set hp hB] at H
  refine ⟨⟨h.rig.turn T (by omega), h.caps.turn T (by omega), h.fail.turn T (by omega), h.tasks.turn T (by omega), h.streams.turn T (by omega), fun u hu => ?_, fun d hd => (h.all d hd).turn T (by omega), h.most⟩, T⟩
  have k := h.task u hu
  obtain ⟨gs, e2, b2⟩ := k.src
  by_cases e : u = t
  · subst e
    exact ⟨k.vp.turn T (by omega), k.vi.turn T (by omega), k.vo.turn T (by omega), k.vk.turn T (by omega), ⟨gs, e2, b2.turn T (by omega)⟩, ⟨gd, he, H⟩⟩
  · obtain ⟨gd2, e1, b1⟩ := k.dst
    rw [toL_else hp e] at b1
    exact ⟨k.vp.turn T (by omega), k.vi.turn T (by omega), k.vo.turn T (by omega), k.vk.turn T (by omega), ⟨gs, e2, b2.turn T (by omega)⟩, ⟨gd2, e1, b1.turn T (by omega)⟩⟩
theorem XHalf.taskCell {w : World} {o : Col} {R b : Nat} {g : GGraph} {gv : List Value} {caps : List Int} {nT nS F B : Nat} {v : XRV} (h : XHalf w o R b g gv caps nT nS F B v) {t : Nat} (ht : t < nT) : ∃ tg tc, v.tasks = .slice (some ⟨tg, 0, none⟩) nT tc ∧ nT ≤ tc ∧ o tg = R + 1 ∧ ∀ k (u : Value), k < 12 → (taskX0 g v.tv t)[k]? = some u → w.cell? ⟨tg, t * 12 + k, none⟩ = some u := by
  rcases h.tasks.1.2 with ⟨_, h0⟩ | ⟨tg, tc, cur, e, _, hg, hc, _⟩
  · omega
  · refine ⟨tg, tc, e, hc, h.tasks.2 tg (by rw [e]; rfl), fun k u hk hu => ?_⟩
    have hh := h.tasks.1
    rw [e] at hh
    have := hh.cells (g := tg) rfl (t * 12 + k) u (by rw [xflat_get (taskX0_len g v.tv) hk ht]; exact hu)
    rw [Addr.add_lit] at this
    simpa using this
end Go.Proofs.YtaholpfikcdhbaaGreat
