/- A rig that is being built, in memory. No function in sight. -/
import Derived.Test.YtaholpfikcdhbaaGreatDynRoomZ5
import Derived.Test.YtaholpfikcdhbaaGreatProg
import Derived.Test.YtaholpfikcdhbaaGreatDynRoomZ2
import Derived.Test.YtaholpfikcdhbaaGreatDynRoomZ1
import Derived.Maps.Own
import Derived.Laws.ResultCell
import Derived.Laws.Rows
import Derived.Maps.OwnOps
import Derived.Maps.Views
import Derived.Maps.OwnSet
import Derived.Deep.QuietTactic
import Derived.BigQuiet
import Derived.Deep.DeepMust
namespace Go.Proofs.YtaholpfikcdhbaaGreat
open Go.RowKit
def fromS (qs : Ptrs) (g : GGraph) (t B : Nat) : List Value := (List.range (ratesI g t).length).map fun q => if fromP g t q < B then srcV qs g t q else .nilIface
def toS (qs : Ptrs) (g : GGraph) (t B : Nat) : List Value := (List.range (ratesO g t).length).map fun p => if toP g t p < B then dstV qs g t p else .nilIface
theorem fromS_len (qs : Ptrs) (g : GGraph) (t B : Nat) : (fromS qs g t B).length = (ratesI g t).length := by simp [fromS]
theorem toS_len (qs : Ptrs) (g : GGraph) (t B : Nat) : (toS qs g t B).length = (ratesO g t).length := by simp [toS]
theorem fromS_zero (qs : Ptrs) (g : GGraph) (t : Nat) : fromS qs g t 0 = List.replicate (ratesI g t).length .nilIface := by
 refine List.ext_getElem (by simp [fromS]) fun i h1 h2 => ?_
 simp [fromS]
theorem toS_zero (qs : Ptrs) (g : GGraph) (t : Nat) : toS qs g t 0 = List.replicate (ratesO g t).length .nilIface := by
 refine List.ext_getElem (by simp [toS]) fun i h1 h2 => ?_
 simp [toS]
theorem fromS_upd {qs : Ptrs} {g : GGraph} {t B d : Nat} (b : Nat) (h : B ≤ d) : fromS (upd qs d b) g t B = fromS qs g t B := by
 refine List.ext_getElem (by simp [fromS]) fun i h1 h2 => ?_
 simp only [fromS, List.getElem_map, List.getElem_range]
 split
 ·
  unfold srcV; rw [upd_other (by omega)]
 ·
  rfl
theorem toS_upd {qs : Ptrs} {g : GGraph} {t B d : Nat} (b : Nat) (h : B ≤ d) : toS (upd qs d b) g t B = toS qs g t B := by
 refine List.ext_getElem (by simp [toS]) fun i h1 h2 => ?_
 simp only [toS, List.getElem_map, List.getElem_range]
 split
 ·
  unfold dstV; rw [upd_other (by omega)]
 ·
  rfl
theorem from_port {g : GGraph} {t p q : Nat} (h : fromP g t p = fromP g t q) (hl : fromP g t p < g.edges.length + g.ins.length) : p = q := by
 have key : ∀ (p : Nat), fromP g t p < g.edges.length + g.ins.length → (∃ i e, fromP g t p = i ∧ i < g.edges.length ∧ g.edges[i]? = some e ∧ e.dport = (p : Int)) ∨ (∃ i e, fromP g t p = g.edges.length + i ∧ i < g.ins.length ∧ g.ins[i]? = some e ∧ e.port = (p : Int)) := by
  intro p hp
  unfold fromP at hp ⊢
  cases h1 : g.edges.findIdx? (fun e => decide (e.dst = (t : Int)) && decide (e.dport = (p : Int))) with
  | some i =>
   obtain ⟨hi, hp, _⟩ := List.findIdx?_eq_some_iff_getElem.1 h1
   simp at hp
   exact .inl ⟨i, g.edges[i], rfl, hi, List.getElem?_eq_getElem hi, hp.2⟩
  | none =>
   rw [h1] at hp
   cases h2 : g.ins.findIdx? (fun e => decide (e.actor = (t : Int)) && decide (e.port = (p : Int))) with
   | some i =>
    obtain ⟨hi, hp, _⟩ := List.findIdx?_eq_some_iff_getElem.1 h2
    simp at hp
    exact .inr ⟨i, g.ins[i], rfl, hi, List.getElem?_eq_getElem hi, hp.2⟩
   | none =>
    rw [h2] at hp
    simp only at hp
    omega
 rcases key p hl with ⟨i, e, h1, h2, h3, h4⟩ | ⟨i, e, h1, h2, h3, h4⟩ <;> rcases key q (by omega) with ⟨j, f, k1, k2, k3, k4⟩ | ⟨j, f, k1, k2, k3, k4⟩
 ·
  obtain rfl : i = j := by omega
  rw [h3] at k3
  cases k3
  omega
 ·
  omega
 ·
  omega
 ·
  obtain rfl : i = j := by omega
  rw [h3] at k3
  cases k3
  omega
theorem to_port {g : GGraph} {t p q : Nat} (h : toP g t p = toP g t q) (hl : toP g t p < g.edges.length + g.ins.length + g.outs.length) : p = q := by
 have key : ∀ (p : Nat), toP g t p < g.edges.length + g.ins.length + g.outs.length → (∃ i e, toP g t p = i ∧ i < g.edges.length ∧ g.edges[i]? = some e ∧ e.sport = (p : Int)) ∨ (∃ i e, toP g t p = g.edges.length + g.ins.length + i ∧ i < g.outs.length ∧ g.outs[i]? = some e ∧ e.port = (p : Int)) := by
  intro p hp
  unfold toP at hp ⊢
  cases h1 : g.edges.findIdx? (fun e => decide (e.src = (t : Int)) && decide (e.sport = (p : Int))) with
  | some i =>
   obtain ⟨hi, hp, _⟩ := List.findIdx?_eq_some_iff_getElem.1 h1
   simp at hp
   exact .inl ⟨i, g.edges[i], rfl, hi, List.getElem?_eq_getElem hi, hp.2⟩
  | none =>
   rw [h1] at hp
   cases h2 : g.outs.findIdx? (fun e => decide (e.actor = (t : Int)) && decide (e.port = (p : Int))) with
   | some i =>
    obtain ⟨hi, hp, _⟩ := List.findIdx?_eq_some_iff_getElem.1 h2
    simp at hp
    exact .inr ⟨i, g.outs[i], rfl, hi, List.getElem?_eq_getElem hi, hp.2⟩
   | none =>
    rw [h2] at hp
    simp only at hp
    omega
 rcases key p hl with ⟨i, e, h1, h2, h3, h4⟩ | ⟨i, e, h1, h2, h3, h4⟩ <;> rcases key q (by omega) with ⟨j, f, k1, k2, k3, k4⟩ | ⟨j, f, k1, k2, k3, k4⟩
 ·
  obtain rfl : i = j := by omega
  rw [h3] at k3
  cases k3
  omega
 ·
  omega
 ·
  omega
 ·
  obtain rfl : i = j := by omega
  rw [h3] at k3
  cases k3
  omega
theorem fromS_set {qs : Ptrs} {g : GGraph} {t q B : Nat} (he : fromP g t q = B) (hB : B < g.edges.length + g.ins.length) : (fromS qs g t B).set q (srcV qs g t q) = fromS qs g t (B + 1) := by
 refine List.ext_getElem (by simp [fromS]) fun i h1 h2 => ?_
 rw [List.getElem_set]
 simp only [fromS, List.getElem_map, List.getElem_range]
 by_cases e : q = i
 ·
  subst e
  rw [if_pos rfl, if_pos (by omega)]
 ·
  rw [if_neg e]
  have : fromP g t i ≠ B := fun h => e (from_port (g := g) (t := t) (p := q) (q := i) (by omega) (by omega))
  by_cases h : fromP g t i < B
  ·
   rw [if_pos h, if_pos (by omega)]
  ·
   rw [if_neg h, if_neg (by omega)]
theorem fromS_else {qs : Ptrs} {g : GGraph} {t u q B : Nat} (he : fromP g t q = B) (hu : u ≠ t) : fromS qs g u B = fromS qs g u (B + 1) := by
 refine List.ext_getElem (by simp [fromS]) fun i h1 h2 => ?_
 simp only [fromS, List.getElem_map, List.getElem_range]
 have : fromP g u i ≠ B := fun h => hu (from_task (h.trans he.symm))
 by_cases h : fromP g u i < B
 ·
  rw [if_pos h, if_pos (by omega)]
 ·
  rw [if_neg h, if_neg (by omega)]
theorem toS_set {qs : Ptrs} {g : GGraph} {t p B : Nat} (he : toP g t p = B) (hB : B < g.edges.length + g.ins.length + g.outs.length) : (toS qs g t B).set p (dstV qs g t p) = toS qs g t (B + 1) := by
 refine List.ext_getElem (by simp [toS]) fun i h1 h2 => ?_
 rw [List.getElem_set]
 simp only [toS, List.getElem_map, List.getElem_range]
 by_cases e : p = i
 ·
  subst e
  rw [if_pos rfl, if_pos (by omega)]
 ·
  rw [if_neg e]
  have : toP g t i ≠ B := fun h => e (to_port (g := g) (t := t) (p := p) (q := i) (by omega) (by omega))
  by_cases h : toP g t i < B
  ·
   rw [if_pos h, if_pos (by omega)]
  ·
   rw [if_neg h, if_neg (by omega)]
theorem toS_else {qs : Ptrs} {g : GGraph} {t u p B : Nat} (he : toP g t p = B) (hu : u ≠ t) : toS qs g u B = toS qs g u (B + 1) := by
 refine List.ext_getElem (by simp [toS]) fun i h1 h2 => ?_
 simp only [toS, List.getElem_map, List.getElem_range]
 have : toP g u i ≠ B := fun h => hu (to_task (h.trans he.symm))
 by_cases h : toP g u i < B
 ·
  rw [if_pos h, if_pos (by omega)]
 ·
  rw [if_neg h, if_neg (by omega)]
theorem fromS_all {qs : Ptrs} {g : GGraph} {t B : Nat} (h : ∀ q, q < (ratesI g t).length → fromP g t q < B) : fromS qs g t B = (List.range (ratesI g t).length).map (srcV qs g t) := by
 refine List.ext_getElem (by simp [fromS]) fun i h1 h2 => ?_
 simp only [fromS, List.getElem_map, List.getElem_range]
 rw [if_pos (h i (by simpa [fromS] using h1))]
theorem toS_all {qs : Ptrs} {g : GGraph} {t B : Nat} (h : ∀ q, q < (ratesO g t).length → toP g t q < B) : toS qs g t B = (List.range (ratesO g t).length).map (dstV qs g t) := by
 refine List.ext_getElem (by simp [toS]) fun i h1 h2 => ?_
 simp only [toS, List.getElem_map, List.getElem_range]
 rw [if_pos (h i (by simpa [toS] using h1))]
theorem toS_ins {qs : Ptrs} {g : GGraph} {t n : Nat} (h : ∀ p, p < (ratesO g t).length → toP g t p < g.edges.length ∨ g.edges.length + g.ins.length ≤ toP g t p) (hn : n ≤ g.ins.length) : toS qs g t g.edges.length = toS qs g t (g.edges.length + n) := by
 refine List.ext_getElem (by simp [toS]) fun i h1 h2 => ?_
 simp only [toS, List.getElem_map, List.getElem_range]
 have := h i (by simpa [toS] using h1)
 by_cases h : toP g t i < g.edges.length
 ·
  rw [if_pos h, if_pos (by omega)]
 ·
  rw [if_neg h, if_neg (by omega)]
theorem Blk.vals {w : World} {o : Col} {c b : Nat} {ty : TypeId} {vs : List Value} (h : Blk w o c b ty vs.toArray) {n cap : Nat} (hn : n = vs.length) (hc : n ≤ cap) : Vals w o c (.slice (some ⟨b, 0, none⟩) n cap) vs := by
 subst hn
 by_cases hp : 0 < vs.length
 ·
  refine .inr ⟨hp, b, 0, cap, rfl, hc, h.lt, h.2, fun k hk => h.cell (0 + k) _ ?_⟩
  rw [Nat.zero_add]
  simp [hk]
 ·
  obtain rfl : vs = [] := List.eq_nil_of_length_eq_zero (by omega)
  exact .inl ⟨rfl, _, _, rfl⟩
structure HalfT (w : World) (o : Col) (M b : Nat) (g : GGraph) (t : Nat) (x : TaskP) (v : TVals) (S D : List Value) : Prop where
 blk : Blk w o M b 103 (taskV x v (ratesI g t).length).toArray
 act : ∀ a, g.actors[t]? = some a → Act w o (M + 1) (M + 2) v.body a.tag a.params x.keep x.n
 ins : Ints w o (M + 3) v.ins (ratesI g t)
 outs : Ints w o (M + 4) v.outs (ratesO g t)
 src : ∃ gs, v.src = .slice (some ⟨gs, 0, none⟩) (ratesI g t).length (ratesI g t).length ∧ Blk w o (M + 5) gs 116 S.toArray
 dst : ∃ gd, v.dst = .slice (some ⟨gd, 0, none⟩) (ratesO g t).length (ratesO g t).length ∧ Blk w o (M + 6) gd 114 D.toArray
 slen : S.length = (ratesI g t).length
 dlen : D.length = (ratesO g t).length
 hand : RowsAt w o (M + 7) (M + 16) v.hand x.hand v.hvs
 gift : GiftAt w o (M + 8) (M + 32) x v
 few : (ratesI g t).length ≤ 16 ∧ (ratesO g t).length ≤ 16 ∧ x.hand.length ≤ 16 ∧ x.gift.length ≤ 16
theorem HalfT.turn {w w' : World} {o o' : Col} {C : Nat → Prop} {M b : Nat} {g : GGraph} {t : Nat} {x : TaskP} {v : TVals} {S D : List Value} (h : HalfT w o M b g t x v S D) (T : Turn o o' C w w') (hC : ∀ k, C k → ¬ MineT M k) : HalfT w' o' M b g t x v S D := by
 have hc : ∀ j, j < 48 → ¬ C (M + j) := fun j hj hcc => hC _ hcc ⟨by omega, by omega⟩
 have h0 : ¬ C M := hc 0 (by omega)
 obtain ⟨_, _, f3, f4⟩ := h.few
 obtain ⟨gs, e1, b1⟩ := h.src
 obtain ⟨gd, e2, b2⟩ := h.dst
 exact ⟨h.blk.turn T h0, fun a ha => (h.act a ha).turn T (hc 1 (by omega)) (hc 2 (by omega)), h.ins.turn T (hc 3 (by omega)), h.outs.turn T (hc 4 (by omega)), ⟨gs, e1, b1.turn T (hc 5 (by omega))⟩, ⟨gd, e2, b2.turn T (hc 6 (by omega))⟩, h.slen, h.dlen, h.hand.turn T (hc 7 (by omega)) (fun k hk => by rw [Nat.add_assoc]; exact hc _ (by omega)), h.gift.turn T (hc 8 (by omega)) (fun k hk => by rw [Nat.add_assoc]; exact hc _ (by omega)), h.few⟩
theorem HalfT.whole {w : World} {o : Col} {M b : Nat} {g : GGraph} {qs : Ptrs} {t : Nat} {x : TaskP} {v : TVals} {S D : List Value} (h : HalfT w o M b g t x v S D) (hS : S = (List.range (ratesI g t).length).map (srcV qs g t)) (hD : D = (List.range (ratesO g t).length).map (dstV qs g t)) : TaskAt w o M b g qs t x v := by
 obtain ⟨gs, e1, b1⟩ := h.src
 obtain ⟨gd, e2, b2⟩ := h.dst
 subst hS hD
 exact ⟨h.blk, h.act, h.ins, h.outs, by rw [e1]; exact b1.vals (by simp) (Nat.le_refl _), by rw [e2]; exact b2.vals (by simp) (Nat.le_refl _), h.hand, h.gift, h.few⟩
theorem HalfT.setSrc {w : World} {o : Col} {M b : Nat} {g : GGraph} {t : Nat} {x : TaskP} {v : TVals} {S D : List Value} (h : HalfT w o M b g t x v S D) {gs : Nat} (he : v.src = .slice (some ⟨gs, 0, none⟩) (ratesI g t).length (ratesI g t).length) (q : Nat) (u : Value) :
  HalfT (w.setCell ⟨gs, q, none⟩ u) o M b g t x v (S.set q u) D ∧ Turn o o (fun c => c = M + 5) w (w.setCell ⟨gs, q, none⟩ u) := by
 obtain ⟨gs', e1, b1⟩ := h.src
 rw [he] at e1
 cases e1
 obtain ⟨B, T⟩ := b1.set q u
 obtain ⟨gd, e2, b2⟩ := h.dst
 have no : ∀ j, j ≠ 5 → ¬ (M + j = M + 5) := fun j hj => by omega
 refine ⟨⟨h.blk.turn T (no 0 (by omega)), fun a ha => (h.act a ha).turn T (no 1 (by omega)) (no 2 (by omega)), h.ins.turn T (no 3 (by omega)), h.outs.turn T (no 4 (by omega)), ⟨gs, he, by rw [List.setIfInBounds_toArray] at B; exact B⟩, ⟨gd, e2, b2.turn T (no 6 (by omega))⟩, by rw [List.length_set]; exact h.slen, h.dlen, h.hand.turn T (no 7 (by omega)) (fun k hk => by omega), h.gift.turn T (no 8 (by omega)) (fun k hk => by omega), h.few⟩, T⟩
theorem HalfT.setDst {w : World} {o : Col} {M b : Nat} {g : GGraph} {t : Nat} {x : TaskP} {v : TVals} {S D : List Value} (h : HalfT w o M b g t x v S D) {gd : Nat} (he : v.dst = .slice (some ⟨gd, 0, none⟩) (ratesO g t).length (ratesO g t).length) (p : Nat) (u : Value) :
  HalfT (w.setCell ⟨gd, p, none⟩ u) o M b g t x v S (D.set p u) ∧ Turn o o (fun c => c = M + 6) w (w.setCell ⟨gd, p, none⟩ u) := by
 obtain ⟨gd', e2, b2⟩ := h.dst
 rw [he] at e2
 cases e2
 obtain ⟨B, T⟩ := b2.set p u
 obtain ⟨gs, e1, b1⟩ := h.src
 have no : ∀ j, j ≠ 6 → ¬ (M + j = M + 6) := fun j hj => by omega
 refine ⟨⟨h.blk.turn T (no 0 (by omega)), fun a ha => (h.act a ha).turn T (no 1 (by omega)) (no 2 (by omega)), h.ins.turn T (no 3 (by omega)), h.outs.turn T (no 4 (by omega)), ⟨gs, e1, b1.turn T (no 5 (by omega))⟩, ⟨gd, he, by rw [List.setIfInBounds_toArray] at B; exact B⟩, h.slen, by rw [List.length_set]; exact h.dlen, h.hand.turn T (no 7 (by omega)) (fun k hk => by omega), h.gift.turn T (no 8 (by omega)) (fun k hk => by omega), h.few⟩, T⟩
structure HalfR (w : World) (o : Col) (R b : Nat) (g : GGraph) (caps : List Int) (qs : Ptrs) (nT nE nI nO F B : Nat) (v : RVals) : Prop where
 blk : Blk w o R b 91 (rigV ⟨newRig g, none⟩ v).toArray
 tasks : Own w o (R + 1) 92 1 v.tasks nT ((List.range nT).map fun t => ptrV (v.tb t))
 edges : Own w o (R + 2) 112 1 v.edges nE ((List.range nE).map fun d => ptrV (qs d))
 inputs : Own w o (R + 3) 112 1 v.inputs nI ((List.range nI).map fun d => ptrV (qs (g.edges.length + d)))
 tapes : Own w o (R + 4) 119 1 v.tapes nO ((List.range nO).map fun d => ptrV (qs (g.edges.length + g.ins.length + d)))
 task : ∀ t, t < nT → HalfT w o (R + 100 + 64 * t) (v.tb t) g t (newTask g t) (v.tv t) (fromS qs g t F) (toS qs g t B)
 queue : ∀ d, d < nE ∨ (g.edges.length ≤ d ∧ d < g.edges.length + nI) → QAt w o (R + 4000 + d) (qs d) (capD caps d) ((newRig g).strs d) 256
 tape : ∀ d, g.edges.length + g.ins.length ≤ d → d < g.edges.length + g.ins.length + nO → Blk w o (R + 4000 + d) (qs d) 121 #[v.rows d] ∧ Own w o (R + 5000 + d) 3 1 (v.rows d) 0 []
 most : nT ≤ g.actors.length ∧ nE ≤ g.edges.length ∧ nI ≤ g.ins.length ∧ nO ≤ g.outs.length
 few : g.actors.length ≤ 32 ∧ g.edges.length ≤ 96 ∧ g.ins.length ≤ 16 ∧ g.outs.length ≤ 16
theorem HalfR.turn {w w' : World} {o o' : Col} {C : Nat → Prop} {R b : Nat} {g : GGraph} {caps : List Int} {qs : Ptrs} {nT nE nI nO F B : Nat} {v : RVals} (h : HalfR w o R b g caps qs nT nE nI nO F B v) (T : Turn o o' C w w') (hC : ∀ k, C k → MineR R k → R + 100 + 64 * nT ≤ k ∧ k < R + 4000) : HalfR w' o' R b g caps qs nT nE nI nO F B v := by
 have hc : ∀ j, j < 6000 → j < 100 + 64 * nT ∨ 4000 ≤ j → ¬ C (R + j) := fun j hj hn hcc => by
  have := hC _ hcc ⟨by omega, by omega⟩
  omega
 have h0 : ¬ C R := hc 0 (by omega) (by omega)
 obtain ⟨f1, f2, f3, f4⟩ := h.few
 obtain ⟨m1, m2, m3, m4⟩ := h.most
 refine ⟨h.blk.turn T h0, h.tasks.turn T (hc 1 (by omega) (by omega)), h.edges.turn T (hc 2 (by omega) (by omega)), h.inputs.turn T (hc 3 (by omega) (by omega)), h.tapes.turn T (hc 4 (by omega) (by omega)), fun t ht => (h.task t ht).turn T (fun k hk hm => ?_), fun d hd => (h.queue d hd).turn T (by rw [Nat.add_assoc]; exact hc _ (by omega) (by omega)), fun d hd hd2 => ⟨(h.tape d hd hd2).1.turn T (by rw [Nat.add_assoc]; exact hc _ (by omega) (by omega)), (h.tape d hd hd2).2.turn T (by rw [Nat.add_assoc]; exact hc _ (by omega) (by omega))⟩, h.most, h.few⟩
 unfold MineT at hm
 have := hC k hk ⟨by omega, by omega⟩
 omega
theorem HalfR.whole {w : World} {o : Col} {R b : Nat} {g : GGraph} {caps : List Int} {qs : Ptrs} {v : RVals} (h : HalfR w o R b g caps qs g.actors.length g.edges.length g.ins.length g.outs.length (g.edges.length + g.ins.length) (g.edges.length + g.ins.length + g.outs.length) v) (hS : Sound g) : RigAt w o R b g caps (bndD g 256 (fun _ => 256)) qs ⟨newRig g, none⟩ v := by
 refine ⟨h.blk, h.tasks.vals, h.edges.vals, h.inputs.vals, h.tapes.vals, fun t ht => (h.task t ht).whole (fromS_all fun q hq => hS.from_lt ht hq) (toS_all fun p hp => ?_), fun d hd => by rw [show bndD g 256 (fun _ => 256) d = 256 by unfold bndD; split <;> rfl]; exact h.queue d (by omega), fun d hd hd2 => ?_, h.few⟩
 ·
  rcases hS.to_lt ht hp with h | h <;> omega
 ·
  have e : (newRig g).strs d = [] := by
   unfold newRig
   simp only
   rw [if_neg (by omega)]
  rw [e]
  exact h.tape d hd hd2
theorem HalfR.addTask {w w' : World} {o o' : Col} {R b : Nat} {g : GGraph} {caps : List Int} {qs : Ptrs} {k : Nat} {v : RVals} {vt : Value} {tbk : Nat} {tvk : TVals} (h : HalfR w o R b g caps qs k 0 0 0 0 0 v) (hk : k < g.actors.length) (T : Turn o o' (fun c => c = R ∨ c = R + 1 ∨ MineT (R + 100 + 64 * k) c) w w')
  (hB : Blk w' o' R b 91 (rigV ⟨newRig g, none⟩ { v with tasks := vt }).toArray) (hO : Own w' o' (R + 1) 92 1 vt (k + 1) (((List.range k).map fun t => ptrV (v.tb t)) ++ [ptrV tbk])) (hT : HalfT w' o' (R + 100 + 64 * k) tbk g k (newTask g k) tvk (fromS qs g k 0) (toS qs g k 0)) :
  HalfR w' o' R b g caps qs (k + 1) 0 0 0 0 0 { v with tasks := vt, tb := upd v.tb k tbk, tv := upd v.tv k tvk } := by
 obtain ⟨f1, f2, f3, f4⟩ := h.few
 obtain ⟨m1, m2, m3, m4⟩ := h.most
 refine ⟨hB, ?_, h.edges.turn T (by unfold MineT; omega), h.inputs.turn T (by unfold MineT; omega), h.tapes.turn T (by unfold MineT; omega), fun t ht => ?_, fun d hd => by omega, fun d hd hd2 => by omega, ⟨hk, m2, m3, m4⟩, h.few⟩
 ·
  have e : ((List.range (k + 1)).map fun t => ptrV (upd v.tb k tbk t)) = ((List.range k).map fun t => ptrV (v.tb t)) ++ [ptrV tbk] := by
   rw [List.range_succ, List.map_append]
   congr 1
   ·
    refine List.map_congr_left fun t ht => ?_
    rw [upd_other (by have := List.mem_range.1 ht; omega)]
   ·
    simp [upd_same]
  rw [e]
  exact hO
 ·
  show HalfT w' o' (R + 100 + 64 * t) (upd v.tb k tbk t) g t (newTask g t) (upd v.tv k tvk t) _ _
  by_cases e : t = k
  ·
   subst e
   rw [upd_same, upd_same]
   exact hT
  ·
   rw [upd_other e, upd_other e]
   exact (h.task t (by omega)).turn T (fun c hc hm => by unfold MineT at hc hm; omega)
theorem HalfR.addEdge {w w' : World} {o o' : Col} {R b : Nat} {g : GGraph} {caps : List Int} {qs : Ptrs} {i q : Nat} {v : RVals} {ve : Value} (h : HalfR w o R b g caps qs g.actors.length i 0 0 i i v) (hi : i < g.edges.length) (T : Turn o o' (fun c => c = R ∨ c = R + 2) w w')
  (hB : Blk w' o' R b 91 (rigV ⟨newRig g, none⟩ { v with edges := ve }).toArray) (hO : Own w' o' (R + 2) 112 1 ve (i + 1) (((List.range i).map fun d => ptrV (qs d)) ++ [ptrV q])) (hQ : QAt w' o' (R + 4000 + i) q (capD caps i) (edgeAt g i).start 256) :
  HalfR w' o' R b g caps (upd qs i q) g.actors.length (i + 1) 0 0 i i { v with edges := ve } := by
 obtain ⟨f1, f2, f3, f4⟩ := h.few
 obtain ⟨m1, m2, m3, m4⟩ := h.most
 refine ⟨hB, h.tasks.turn T (by omega), ?_, ?_, ?_, fun t ht => ?_, fun d hd => ?_, fun d hd hd2 => by omega, ⟨m1, hi, m3, m4⟩, h.few⟩
 ·
  have e : ((List.range (i + 1)).map fun d => ptrV (upd qs i q d)) = ((List.range i).map fun d => ptrV (qs d)) ++ [ptrV q] := by
   rw [List.range_succ, List.map_append]
   congr 1
   ·
    refine List.map_congr_left fun t ht => ?_
    rw [upd_other (by have := List.mem_range.1 ht; omega)]
   ·
    simp [upd_same]
  rw [e]
  exact hO
 ·
  exact h.inputs.turn T (by omega)
 ·
  exact h.tapes.turn T (by omega)
 ·
  rw [fromS_upd q (Nat.le_refl _), toS_upd q (Nat.le_refl _)]
  exact (h.task t ht).turn T (fun c hc hm => by unfold MineT at hm; omega)
 ·
  by_cases e : d = i
  ·
   subst e
   have e2 : (newRig g).strs d = (edgeAt g d).start := by unfold newRig; simp only; rw [if_pos hi]
   rw [upd_same, e2]
   exact hQ
  ·
   rw [upd_other e]
   exact (h.queue d (by omega)).turn T (by omega)
theorem HalfR.addInput {w w' : World} {o o' : Col} {R b : Nat} {g : GGraph} {caps : List Int} {qs : Ptrs} {i q : Nat} {v : RVals} {ve : Value} (h : HalfR w o R b g caps qs g.actors.length g.edges.length i 0 (g.edges.length + i) (g.edges.length + i) v) (hi : i < g.ins.length) (T : Turn o o' (fun c => c = R ∨ c = R + 3) w w')
  (hB : Blk w' o' R b 91 (rigV ⟨newRig g, none⟩ { v with inputs := ve }).toArray) (hO : Own w' o' (R + 3) 112 1 ve (i + 1) (((List.range i).map fun d => ptrV (qs (g.edges.length + d))) ++ [ptrV q])) (hQ : QAt w' o' (R + 4000 + (g.edges.length + i)) q (capD caps (g.edges.length + i)) [] 256) :
  HalfR w' o' R b g caps (upd qs (g.edges.length + i) q) g.actors.length g.edges.length (i + 1) 0 (g.edges.length + i) (g.edges.length + i) { v with inputs := ve } := by
 obtain ⟨f1, f2, f3, f4⟩ := h.few
 obtain ⟨m1, m2, m3, m4⟩ := h.most
 refine ⟨hB, h.tasks.turn T (by omega), ?_, ?_, ?_, fun t ht => ?_, fun d hd => ?_, fun d hd hd2 => by omega, ⟨m1, m2, hi, m4⟩, h.few⟩
 ·
  have e : ((List.range g.edges.length).map fun d => ptrV (upd qs (g.edges.length + i) q d)) = (List.range g.edges.length).map fun d => ptrV (qs d) := by
   refine List.map_congr_left fun t ht => ?_
   rw [upd_other (by have := List.mem_range.1 ht; omega)]
  rw [e]
  exact h.edges.turn T (by omega)
 ·
  have e : ((List.range (i + 1)).map fun d => ptrV (upd qs (g.edges.length + i) q (g.edges.length + d))) = ((List.range i).map fun d => ptrV (qs (g.edges.length + d))) ++ [ptrV q] := by
   rw [List.range_succ, List.map_append]
   congr 1
   ·
    refine List.map_congr_left fun t ht => ?_
    rw [upd_other (by have := List.mem_range.1 ht; omega)]
   ·
    simp [upd_same]
  rw [e]
  exact hO
 ·
  exact h.tapes.turn T (by omega)
 ·
  rw [fromS_upd q (Nat.le_refl _), toS_upd q (Nat.le_refl _)]
  exact (h.task t ht).turn T (fun c hc hm => by unfold MineT at hm; omega)
 ·
  by_cases e : d = g.edges.length + i
  ·
   subst e
   have e2 : (newRig g).strs (g.edges.length + i) = [] := by unfold newRig; simp only; rw [if_neg (by omega)]
   rw [upd_same, e2]
   exact hQ
  ·
   rw [upd_other e]
   exact (h.queue d (by omega)).turn T (by omega)
theorem HalfR.addTape {w w' : World} {o o' : Col} {R b : Nat} {g : GGraph} {caps : List Int} {qs : Ptrs} {i q : Nat} {v : RVals} {ve : Value} (h : HalfR w o R b g caps qs g.actors.length g.edges.length g.ins.length i (g.edges.length + g.ins.length) (g.edges.length + g.ins.length + i) v) (hi : i < g.outs.length) (T : Turn o o' (fun c => c = R ∨ c = R + 4) w w')
  (hB : Blk w' o' R b 91 (rigV ⟨newRig g, none⟩ { v with tapes := ve }).toArray) (hO : Own w' o' (R + 4) 119 1 ve (i + 1) (((List.range i).map fun d => ptrV (qs (g.edges.length + g.ins.length + d))) ++ [ptrV q])) (hQ : Blk w' o' (R + 4000 + (g.edges.length + g.ins.length + i)) q 121 #[.slice none 0 0]) :
  HalfR w' o' R b g caps (upd qs (g.edges.length + g.ins.length + i) q) g.actors.length g.edges.length g.ins.length (i + 1) (g.edges.length + g.ins.length) (g.edges.length + g.ins.length + i) { v with tapes := ve, rows := upd v.rows (g.edges.length + g.ins.length + i) (.slice none 0 0) } := by
 obtain ⟨f1, f2, f3, f4⟩ := h.few
 obtain ⟨m1, m2, m3, m4⟩ := h.most
 refine ⟨hB, h.tasks.turn T (by omega), ?_, ?_, ?_, fun t ht => ?_, fun d hd => ?_, fun d hd hd2 => ?_, ⟨m1, m2, m3, hi⟩, h.few⟩
 ·
  have e : ((List.range g.edges.length).map fun d => ptrV (upd qs (g.edges.length + g.ins.length + i) q d)) = (List.range g.edges.length).map fun d => ptrV (qs d) := by
   refine List.map_congr_left fun t ht => ?_
   rw [upd_other (by have := List.mem_range.1 ht; omega)]
  rw [e]
  exact h.edges.turn T (by omega)
 ·
  have e : ((List.range g.ins.length).map fun d => ptrV (upd qs (g.edges.length + g.ins.length + i) q (g.edges.length + d))) = (List.range g.ins.length).map fun d => ptrV (qs (g.edges.length + d)) := by
   refine List.map_congr_left fun t ht => ?_
   rw [upd_other (by have := List.mem_range.1 ht; omega)]
  rw [e]
  exact h.inputs.turn T (by omega)
 ·
  have e : ((List.range (i + 1)).map fun d => ptrV (upd qs (g.edges.length + g.ins.length + i) q (g.edges.length + g.ins.length + d))) = ((List.range i).map fun d => ptrV (qs (g.edges.length + g.ins.length + d))) ++ [ptrV q] := by
   rw [List.range_succ, List.map_append]
   congr 1
   ·
    refine List.map_congr_left fun t ht => ?_
    rw [upd_other (by have := List.mem_range.1 ht; omega)]
   ·
    simp [upd_same]
  rw [e]
  exact hO
 ·
  rw [fromS_upd q (by omega), toS_upd q (Nat.le_refl _)]
  exact (h.task t ht).turn T (fun c hc hm => by unfold MineT at hm; omega)
 ·
  rw [upd_other (by omega)]
  exact (h.queue d hd).turn T (by omega)
 ·
  show Blk _ _ _ _ _ #[upd v.rows (g.edges.length + g.ins.length + i) (.slice none 0 0) d] ∧ Own _ _ _ _ _ (upd v.rows (g.edges.length + g.ins.length + i) (.slice none 0 0) d) _ _
  by_cases e : d = g.edges.length + g.ins.length + i
  ·
   subst e
   rw [upd_same, upd_same]
   exact ⟨hQ, Own.nil _ _ _ _ _⟩
  ·
   rw [upd_other e, upd_other e]
   obtain ⟨k1, k2⟩ := h.tape d hd (by omega)
   exact ⟨k1.turn T (by omega), k2.turn T (by omega)⟩
theorem HalfR.linkFrom {w : World} {o : Col} {R b : Nat} {g : GGraph} {caps : List Int} {qs : Ptrs} {nE nI nO F B : Nat} {v : RVals} (h : HalfR w o R b g caps qs g.actors.length nE nI nO F B v) {t q gs : Nat} (ht : t < g.actors.length) (hq : fromP g t q = F) (hF : F < g.edges.length + g.ins.length) (he : (v.tv t).src = .slice (some ⟨gs, 0, none⟩) (ratesI g t).length (ratesI g t).length) :
  HalfR (w.setCell ⟨gs, q, none⟩ (srcV qs g t q)) o R b g caps qs g.actors.length nE nI nO (F + 1) B v ∧ Turn o o (fun c => c = R + 100 + 64 * t + 5) w (w.setCell ⟨gs, q, none⟩ (srcV qs g t q)) := by
 obtain ⟨f1, f2, f3, f4⟩ := h.few
 obtain ⟨m1, m2, m3, m4⟩ := h.most
 obtain ⟨H, T⟩ := (h.task t ht).setSrc he q (srcV qs g t q)
 rw [fromS_set hq hF] at H
 refine ⟨⟨h.blk.turn T (by omega), h.tasks.turn T (by omega), h.edges.turn T (by omega), h.inputs.turn T (by omega), h.tapes.turn T (by omega), fun u hu => ?_, fun d hd => (h.queue d hd).turn T (by omega), fun d hd hd2 => ⟨(h.tape d hd hd2).1.turn T (by omega), (h.tape d hd hd2).2.turn T (by omega)⟩, h.most, h.few⟩, T⟩
 by_cases e : u = t
 ·
  subst e; exact H
 ·
  rw [← fromS_else hq e]
  exact (h.task u hu).turn T (fun c hc hm => by unfold MineT at hm; omega)
theorem HalfR.linkTo {w : World} {o : Col} {R b : Nat} {g : GGraph} {caps : List Int} {qs : Ptrs} {nE nI nO F B : Nat} {v : RVals} (h : HalfR w o R b g caps qs g.actors.length nE nI nO F B v) {t p gd : Nat} (ht : t < g.actors.length) (hp : toP g t p = B) (hB : B < g.edges.length + g.ins.length + g.outs.length) (he : (v.tv t).dst = .slice (some ⟨gd, 0, none⟩) (ratesO g t).length (ratesO g t).length) :
  HalfR (w.setCell ⟨gd, p, none⟩ (dstV qs g t p)) o R b g caps qs g.actors.length nE nI nO F (B + 1) v ∧ Turn o o (fun c => c = R + 100 + 64 * t + 6) w (w.setCell ⟨gd, p, none⟩ (dstV qs g t p)) := by
 obtain ⟨f1, f2, f3, f4⟩ := h.few
 obtain ⟨m1, m2, m3, m4⟩ := h.most
 obtain ⟨H, T⟩ := (h.task t ht).setDst he p (dstV qs g t p)
 rw [toS_set hp hB] at H
 refine ⟨⟨h.blk.turn T (by omega), h.tasks.turn T (by omega), h.edges.turn T (by omega), h.inputs.turn T (by omega), h.tapes.turn T (by omega), fun u hu => ?_, fun d hd => (h.queue d hd).turn T (by omega), fun d hd hd2 => ⟨(h.tape d hd hd2).1.turn T (by omega), (h.tape d hd hd2).2.turn T (by omega)⟩, h.most, h.few⟩, T⟩
 by_cases e : u = t
 ·
  subst e; exact H
 ·
  rw [← toS_else hp e]
  exact (h.task u hu).turn T (fun c hc hm => by unfold MineT at hm; omega)
theorem HalfR.pass {w : World} {o : Col} {R b : Nat} {g : GGraph} {caps : List Int} {qs : Ptrs} {nI nO F n m : Nat} {v : RVals} (h : HalfR w o R b g caps qs g.actors.length g.edges.length nI nO F (g.edges.length + n) v) (hS : Sound g) (hn : n ≤ g.ins.length) (hm : m ≤ g.ins.length) : HalfR w o R b g caps qs g.actors.length g.edges.length nI nO F (g.edges.length + m) v := by
 refine { h with task := fun t ht => ?_ }
 have hp : ∀ p, p < (ratesO g t).length → toP g t p < g.edges.length ∨ g.edges.length + g.ins.length ≤ toP g t p := fun p hp => by
  rcases hS.to_lt ht hp with h | h <;> omega
 rw [← toS_ins hp hm, toS_ins hp hn]
 exact h.task t ht
theorem new_ok {g : GGraph} (hS : Sound g) (hA : ActsOk g) (hs : ∀ e ∈ g.edges, ∀ x ∈ e.start, Fits x) : ROk g 256 (newRig g) ∧ ∀ d, ((newRig g).strs d).length ≤ bndD g 256 (fun _ => 256) d := by
 refine ⟨⟨fun t ht => ?_, fun d z hz => ?_⟩, fun d => ?_⟩
 ·
  have e : (newRig g).tasks t = beginP (ratesI g t).length (newTask g t) := rfl
  rw [e]
  refine begin_ok hA (fun z hz => ?_) (by simp [newTask]) (by simp [newTask])
  change z ∈ keepT g t at hz
  unfold keepT at hz
  rw [List.getElem?_eq_getElem ht] at hz
  exact (keep0_facts (hA.good _ (List.getElem_mem ht)) (hA.fits _ (List.getElem_mem ht))).1 z hz
 ·
  unfold newRig at hz
  simp only at hz
  split at hz
  ·
   rename_i hd
   unfold edgeAt at hz
   rw [List.getElem?_eq_getElem hd] at hz
   exact hs _ (List.getElem_mem hd) z hz
  ·
   cases hz
 ·
  rw [show bndD g 256 (fun _ => 256) d = 256 by unfold bndD; split <;> rfl]
  unfold newRig
  simp only
  split
  ·
   rename_i hd
   obtain ⟨_, _, _, _, _, _, h⟩ := hS.edge d hd
   unfold edgeAt
   rw [List.getElem?_eq_getElem hd]
   exact h
  ·
   simp
theorem OffRow.recolor {w : World} {o o' : Col} {c : Nat} {e : TypeId} {v : Value} {xs : List Value} (h : OffRow w o c e v xs) (ho : ∀ k, o k = c → o' k = c) : OffRow w o' c e v xs := by
 rcases h with h | ⟨g, off, cap, cur, h1, h2, h3, h⟩
 ·
  exact .inl h
 ·
  exact .inr ⟨g, off, cap, cur, h1, h2, ho _ h3, h⟩
theorem RigAt.recol {w : World} {o o' : Col} {R b : Nat} {g : GGraph} {caps : List Int} {N : Nat → Nat} {qs : Ptrs} {r : RunP} {v : RVals} (h : RigAt w o R b g caps N qs r v) (ho : ∀ k, MineR R (o k) → o' k = o k) : RigAt w o' R b g caps N qs r v := by
 have hc : ∀ j, j < 6000 → ∀ k, o k = R + j → o' k = R + j := fun j hj k hk => by rw [ho k (by unfold MineR; omega), hk]
 have h0 : ∀ k, o k = R → o' k = R := hc 0 (by omega)
 obtain ⟨f1, f2, f3, f4⟩ := h.few
 refine ⟨h.blk.recol (h0 _ h.blk.2), h.tasks.recolor (hc 1 (by omega)), h.edges.recolor (hc 2 (by omega)), h.inputs.recolor (hc 3 (by omega)), h.tapes.recolor (hc 4 (by omega)), fun t ht => ?_, fun d hd => ?_, fun d hd hd2 => ?_, h.few⟩
 ·
  have k := h.task t ht
  have kc : ∀ j, j < 48 → ∀ k, o k = R + 100 + 64 * t + j → o' k = R + 100 + 64 * t + j := fun j hj k hk => by
   have := hc (100 + 64 * t + j) (by omega) k (by omega)
   omega
  obtain ⟨e1, e2, e3, e4⟩ := k.few
  refine ⟨k.blk.recol (kc 0 (by omega) _ k.blk.2), fun a ha => (k.act a ha).recol (kc 1 (by omega)) (kc 2 (by omega)), k.ins.recolor (kc 3 (by omega)), k.outs.recolor (kc 4 (by omega)), k.src.recolor (kc 5 (by omega)), k.dst.recolor (kc 6 (by omega)), ⟨k.hand.len, k.hand.blk.recol (kc 7 (by omega) _ k.hand.blk.2), fun j hj => (k.hand.row j hj).recolor (by rw [Nat.add_assoc]; exact kc _ (by omega))⟩, ?_, k.few⟩
  rcases k.gift with z | ⟨z1, z2, z3, z4⟩
  ·
   exact .inl z
  ·
   exact .inr ⟨z1, z2.recol (fun j hj => kc 8 (by omega) _ (z2.2 j hj)), z3, fun j hj => (z4 j hj).recolor (by rw [Nat.add_assoc]; exact kc _ (by omega))⟩
 ·
  obtain ⟨r, q1, q2, q3⟩ := h.queue d hd
  have := hc (4000 + d) (by omega)
  exact ⟨r, q1, by rw [Nat.add_assoc]; exact this _ (by omega), fun k hk => by have := this k (by have := q3 k hk; omega); omega⟩
 ·
  obtain ⟨q1, q2⟩ := h.tape d hd hd2
  have a1 := hc (4000 + d) (by omega)
  have a2 := hc (5000 + d) (by omega)
  exact ⟨q1.recol (by have := a1 (qs d) (by have := q1.2; omega); omega), q2.recol (fun k hk => by have := a2 k (by have := q2.2 k hk; omega); omega)⟩
theorem RigOk.recol {w : World} {o o' : Col} {R b : Nat} {g : GGraph} {caps : List Int} {M : Nat} {J : Nat → Nat} {qs : Ptrs} {tb : Nat → Nat} {r : RunP} {v : RVals} (h : RigOk w o R b g caps M J qs tb r v) (ho : ∀ k, MineR R (o k) → o' k = o k) : RigOk w o' R b g caps M J qs tb r v := ⟨h.mem.recol ho, h.ok, h.len, h.ins, h.tbs⟩
end Go.Proofs.YtaholpfikcdhbaaGreat

/- The graph's checker in memory. No function in sight. -/
namespace Go.Proofs.YtaholpfikcdhbaaGreat
open Go.RowKit
open Go.Maps (Keyed IsMap Tidy)
def SeenAt (D : DataW Unit) (seen : List ByteArray) : Prop := IsMap D ∧ ∀ s : ByteArray, D.atKey (.string s.data.toList) (.lit (.int .i64 0)) = .lit (.int .i64 (if seen.any (fun x => decide (x = s)) then 1 else 0))
theorem smap_law : Keyed Tryz.prog 9 := Maps.string_keyed Tryz.underlying9
theorem int_zero (w : World) : (zeroValue 3).run Tryz.prog w = .ok (.int .i64 0) w := by kernel_rfl
theorem seen_start : SeenAt (.map []) [] := ⟨Maps.isMap_empty, fun _ => rfl⟩
theorem seen_next {D : DataW Unit} {seen : List ByteArray} (h : SeenAt D seen) (s : ByteArray) : SeenAt (D.put (.string s.data.toList) (.lit (.int .i64 1))) (seen ++ [s]) := by
 refine ⟨h.1.put _ _, fun t => ?_⟩
 by_cases e : s = t
 ·
  subst e
  rw [Maps.atKey_put_same h.1 (by trivial)]
  simp
 ·
  rw [Maps.atKey_put_other (fun e' => e (ByteArray.ext (Array.toList_inj.1 (by injection e' with e'; exact e'.symm)))), h.2 t]
  have : decide (s = t) = false := decide_eq_false e
  rw [List.any_append, List.any_cons, List.any_nil, this, Bool.or_false, Bool.or_false]
theorem map_turn {w w' : World} {o o' : Col} {C : Nat → Prop} {B n : Nat} {D : DataW Unit} (h : w.ownsMap Tryz.prog 9 (plainElem Tryz.prog 3) B n D) (T : Turn o o' C w w') (hc : ¬ C (o B)) : w'.ownsMap Tryz.prog 9 (plainElem Tryz.prog 3) B n D ∧ o' B = o B := by
 obtain ⟨es, clock, hb, r⟩ := h
 obtain ⟨h1, h2⟩ := T.block hb hc
 exact ⟨⟨es, clock, h1, r⟩, h2⟩
def bvs (l : List Bool) : List Value := l.map Value.bool
structure Side (w : World) (o : Col) (c d : Nat) (v : Value) (side : List (List Bool)) (gs : List Nat) : Prop where
 len : gs.length = side.length
 own : Own w o c 217 1 v side.length ((List.range side.length).map fun k => .slice (some ⟨gs[k]?.getD 0, 0, none⟩) (side[k]?.getD []).length (side[k]?.getD []).length)
 rows : ∀ k, k < side.length → Blk w o d (gs[k]?.getD 0) 4 (bvs (side[k]?.getD [])).toArray
 apart : ∀ i j, i < j → j < side.length → gs[i]?.getD 0 ≠ gs[j]?.getD 0
theorem Side.nil (w : World) (o : Col) (c d : Nat) : Side w o c d (.slice none 0 0) [] [] :=
 ⟨rfl, Own.nil _ _ _ _ _, fun k hk => by simp at hk, fun i j h hj => by simp at hj⟩
theorem Side.turn {w w' : World} {o o' : Col} {C : Nat → Prop} {c d : Nat} {v : Value} {side : List (List Bool)} {gs : List Nat} (h : Side w o c d v side gs) (T : Turn o o' C w w') (hc : ¬ C c) (hd : ¬ C d) : Side w' o' c d v side gs :=
 ⟨h.len, h.own.turn T hc, fun k hk => (h.rows k hk).turn T hd, h.apart⟩
def ChkC (x : Nat) : Prop := 1 ≤ x ∧ x ≤ 6
structure ChkV where
 name : ByteArray
 va : Value
 ve : Value
 vi : Value
 vo : Value
 vI : Value
 vO : Value
structure ChkAt (w : World) (o : Col) (C B : Nat) (X : ChkV) (k : Chk) : Prop where
 st : ∃ D n gI gO, Blk w o 1 C 176 #[.string X.name, X.va, X.ve, X.vi, X.vo, .map (some B), X.vI, X.vO] ∧ w.ownsMap Tryz.prog 9 (plainElem Tryz.prog 3) B n D ∧ o B = 2 ∧ SeenAt D k.seen ∧ n ≤ k.seen.length ∧ Side w o 3 4 X.vI k.ins gI ∧ Side w o 5 6 X.vO k.outs gO
theorem ChkAt.turn {w w' : World} {o o' : Col} {Cs : Nat → Prop} {C B : Nat} {X : ChkV} {k : Chk} (h : ChkAt w o C B X k) (T : Turn o o' Cs w w') (hc : ∀ x, ChkC x → ¬ Cs x) : ChkAt w' o' C B X k := by
 obtain ⟨D, n, gI, gO, h1, h2, h3, h4, h5, h6, h7⟩ := h.st
 obtain ⟨m1, m2⟩ := map_turn h2 T (by rw [h3]; exact hc 2 (by unfold ChkC; omega))
 exact ⟨D, n, gI, gO, h1.turn T (hc 1 (by unfold ChkC; omega)), m1, m2.trans h3, h4, h5, h6.turn T (hc 3 (by unfold ChkC; omega)) (hc 4 (by unfold ChkC; omega)), h7.turn T (hc 5 (by unfold ChkC; omega)) (hc 6 (by unfold ChkC; omega))⟩
theorem ChkAt.cells {w : World} {o : Col} {C B : Nat} {X : ChkV} {k : Chk} (h : ChkAt w o C B X k) :
  w.cell? ⟨C, 0, none⟩ = some (.string X.name) ∧ w.cell? ⟨C, 1, none⟩ = some X.va ∧ w.cell? ⟨C, 2, none⟩ = some X.ve ∧ w.cell? ⟨C, 3, none⟩ = some X.vi ∧ w.cell? ⟨C, 4, none⟩ = some X.vo ∧ w.cell? ⟨C, 5, none⟩ = some (.map (some B)) ∧ w.cell? ⟨C, 6, none⟩ = some X.vI ∧ w.cell? ⟨C, 7, none⟩ = some X.vO := by
 obtain ⟨D, n, gI, gO, h1, _⟩ := h.st
 exact ⟨h1.cell 0 _ rfl, h1.cell 1 _ rfl, h1.cell 2 _ rfl, h1.cell 3 _ rfl, h1.cell 4 _ rfl, h1.cell 5 _ rfl, h1.cell 6 _ rfl, h1.cell 7 _ rfl⟩
theorem ChkAt.froz {w : World} {o : Col} {C B : Nat} {X : ChkV} {k : Chk} (h : ChkAt w o C B X k) (i : Nat) : w.frozen? ⟨C, i, none⟩ = false := by
 obtain ⟨D, n, gI, gO, h1, _⟩ := h.st
 exact h1.frozen i
theorem ChkAt.drewN {w : World} {o : Col} {C B : Nat} {X : ChkV} {k : Chk} (h : ChkAt w o C B X k) (m : Nat) : ChkAt (w.drewN m) o C B X k := h.turn (Turn.of_quiet o ⟨m, rfl⟩) (fun _ _ h => h)
theorem ChkAt.below {w w' : World} {o : Col} {C B : Nat} {X : ChkV} {k : Chk} (h : ChkAt w o C B X k) (c : Nat) (hb : Below w.heap.size w w') : ChkAt w' (ext o w.heap.size c) C B X k := h.turn (Turn.of_below o c hb) (fun _ _ h => h)
theorem ChkAt.ins {w : World} {o : Col} {C B : Nat} {X : ChkV} {k : Chk} (h : ChkAt w o C B X k) : ∃ gI, Side w o 3 4 X.vI k.ins gI := by
 obtain ⟨D, n, gI, gO, h1, h2, h3, h4, h5, h6, h7⟩ := h.st
 exact ⟨gI, h6⟩
theorem ChkAt.outs {w : World} {o : Col} {C B : Nat} {X : ChkV} {k : Chk} (h : ChkAt w o C B X k) : ∃ gO, Side w o 5 6 X.vO k.outs gO := by
 obtain ⟨D, n, gI, gO, h1, h2, h3, h4, h5, h6, h7⟩ := h.st
 exact ⟨gO, h7⟩
theorem ChkAt.tookI {w w' : World} {o : Col} {C B : Nat} {X : ChkV} {k : Chk} {ins : List (List Bool)} (h : ChkAt w o C B X k) (T : Turn o o (fun x => x = 4) w w') {gI : List Nat} (hs : Side w' o 3 4 X.vI ins gI) : ChkAt w' o C B X ⟨k.seen, ins, k.outs⟩ := by
 obtain ⟨D, n, gI', gO, h1, h2, h3, h4, h5, h6, h7⟩ := h.st
 obtain ⟨m1, m2⟩ := map_turn h2 T (by rw [h3]; decide)
 exact ⟨D, n, gI, gO, h1.turn T (by decide), m1, m2.trans h3, h4, h5, hs, h7.turn T (by decide) (by decide)⟩
theorem ChkAt.tookO {w w' : World} {o : Col} {C B : Nat} {X : ChkV} {k : Chk} {outs : List (List Bool)} (h : ChkAt w o C B X k) (T : Turn o o (fun x => x = 6) w w') {gO : List Nat} (hs : Side w' o 5 6 X.vO outs gO) : ChkAt w' o C B X ⟨k.seen, k.ins, outs⟩ := by
 obtain ⟨D, n, gI, gO', h1, h2, h3, h4, h5, h6, h7⟩ := h.st
 obtain ⟨m1, m2⟩ := map_turn h2 T (by rw [h3]; decide)
 exact ⟨D, n, gI, gO, h1.turn T (by decide), m1, m2.trans h3, h4, h5, h6.turn T (by decide) (by decide), hs⟩
theorem results_tmp_row {P : Program} {fn : Func} {p u : Tmp} {ty : TypeId} (h : fn.results = #[.tmp u, .cell p ty]) (tmps : Array Value) (w : World) (g : Nat) (t : TypeId) (cs : Array Value) (fr : Nat × Nat) (d : TypeDesc)
  (hp : tmps.getD p undef = .pointer (some ⟨g, 0, none⟩)) (hg : w.heap[g]? = some (.cells cs t fr))
  (hu : P.underlying ty = some d) (hd : (match d with | .struct _ | .array _ _ => true | _ => false) = true) (hi : (P.info? ty).map (·.size) = some cs.size) :
  (results fn tmps).run P w = .ok (.tuple #[tmps.getD u undef, .agg cs]) w := by
 have hp' : tmps[p]?.getD undef = .pointer (some ⟨g, 0, none⟩) := by simpa using hp
 simp [results, h, hp', asAddr, Result.andThen, run_loadVar_row w g t ty cs fr d hg hu hd hi]
end Go.Proofs.YtaholpfikcdhbaaGreat

/- Names: the walk of lex.Name. -/
namespace Go.Proofs.YtaholpfikcdhbaaGreat
open Go.RowKit
theorem letter_any (w : World) (b : Int) : Calls Tryz.prog 110 #[.int .u8 b] w (SameW (.bool (letterP b)) w) := by
 unfold letterP
 by_cases h1 : 97 ≤ b
 ·
  rw [decide_eq_true h1, Bool.true_and]
  go_enter Tryz.func110, Tryz.ntmps110
  go_wp2
  go_ret
  exact ⟨rfl, rfl⟩
 ·
  rw [decide_eq_false h1, Bool.false_and]
  go_enter Tryz.func110, Tryz.ntmps110
  go_wp2
  go_ret
  exact ⟨rfl, rfl⟩
theorem digit_any (w : World) (b : Int) : Calls Tryz.prog 120 #[.int .u8 b] w (SameW (.bool (digitP b)) w) := by
 unfold digitP
 by_cases h1 : 48 ≤ b
 ·
  rw [decide_eq_true h1, Bool.true_and]
  go_enter Tryz.func120, Tryz.ntmps120
  go_wp2
  go_ret
  exact ⟨rfl, rfl⟩
 ·
  rw [decide_eq_false h1, Bool.false_and]
  go_enter Tryz.func120, Tryz.ntmps120
  go_wp2
  go_ret
  exact ⟨rfl, rfl⟩
theorem inside_any (w : World) (b : Int) : Calls Tryz.prog 113 #[.int .u8 b] w (SameW (.bool (insideP b)) w) := by
 unfold insideP
 obtain ⟨x, hx⟩ : ∃ x, letterP b = x := ⟨_, rfl⟩
 obtain ⟨y, hy⟩ : ∃ x, digitP b = x := ⟨_, rfl⟩
 rw [hx, hy]
 have HX := Lib.hid hx
 have HY := Lib.hid hy
 clear hx hy
 cases x
 ·
  cases y
  ·
   go_enter Tryz.func113, Tryz.ntmps113
   go_wp2_with fail
   refine (letter_any w b).mono ?_
   rintro e _ ⟨rfl, rfl⟩
   rw [HX.out]
   go_wp2_with fail
   refine (digit_any w b).mono ?_
   rintro e _ ⟨rfl, rfl⟩
   rw [HY.out]
   go_wp2
   go_ret
   exact ⟨by simp; rfl, rfl⟩
  ·
   go_enter Tryz.func113, Tryz.ntmps113
   go_wp2_with fail
   refine (letter_any w b).mono ?_
   rintro e _ ⟨rfl, rfl⟩
   rw [HX.out]
   go_wp2_with fail
   refine (digit_any w b).mono ?_
   rintro e _ ⟨rfl, rfl⟩
   rw [HY.out]
   go_wp2
   go_ret
   exact ⟨rfl, rfl⟩
 ·
  go_enter Tryz.func113, Tryz.ntmps113
  go_wp2_with fail
  refine (letter_any w b).mono ?_
  rintro e _ ⟨rfl, rfl⟩
  rw [HX.out]
  go_wp2
  go_ret
  exact ⟨by simp, rfl⟩
def Cur (w : World) (c : Nat) (s : ByteArray) (k : Nat) : Prop := w.heap[c]? = some (.cells #[.string s, .int .i64 k] 229 (0, 0))
theorem more_any (w : World) (c : Nat) (s : ByteArray) (k : Nat) (h : Cur w c s k) : Calls Tryz.prog 119 #[.pointer (some ⟨c, 0, none⟩)] w fun e w' => e = .returned (.bool (decide (k < s.size))) ∧ ∃ m, w' = w.drewN m := by
 have q0 := cells_row w _ h 0 _ rfl
 have q1 := cells_row w _ h 1 _ rfl
 by_cases hk : k < s.size
 ·
  have hki : (k : Int) < s.size := by omega
  rw [decide_eq_true hk]
  go_enter Tryz.func119, Tryz.ntmps119
  go_wp2
  go_quiet (fail)
  go_wp2
  go_ret
  exact ⟨rfl, _, rfl⟩
 ·
  have hki : ¬ (k : Int) < s.size := by omega
  rw [decide_eq_false hk]
  go_enter Tryz.func119, Tryz.ntmps119
  go_wp2
  go_quiet (fail)
  go_wp2
  go_ret
  exact ⟨rfl, _, rfl⟩
theorem peek_any (w : World) (c : Nat) (s : ByteArray) (h : Cur w c s 0) : Calls Tryz.prog 111 #[.pointer (some ⟨c, 0, none⟩), .int .i64 0] w fun e w' => e = .returned (.int .u8 (byteP s 0)) ∧ ∃ m, w' = w.drewN m := by
 have q0 := cells_row w _ h 0 _ rfl
 have q1 := cells_row w _ h 1 _ rfl
 unfold byteP
 by_cases hk : 0 < s.size
 ·
  have hki : (0 : Int) < s.size := by omega
  have hse : ¬ s = ByteArray.empty := fun e => by rw [e] at hk; exact absurd hk (by decide)
  rw [dif_pos hk]
  go_enter Tryz.func111, Tryz.ntmps111
  go_wp2
  go_quiet (fail)
  go_wp2
  go_quiet (fail)
  go_wp2
  go_ret
  exact ⟨rfl, _, World.drewN_drewN _ _ _⟩
 ·
  obtain rfl : s = ByteArray.empty := ByteArray.ext (Array.eq_empty_of_size_eq_zero (by have : s.data.size = s.size := rfl; omega))
  rw [dif_neg hk]
  clear hk
  go_enter Tryz.func111, Tryz.ntmps111
  go_wp2
  go_quiet (fail)
  go_wp2
  go_ret
  exact ⟨rfl, _, rfl⟩
end Go.Proofs.YtaholpfikcdhbaaGreat

/- Names: the walk of the cursor's while. -/
namespace Go.Proofs.YtaholpfikcdhbaaGreat
open Go.RowKit
theorem Cur.drewN {w : World} {c : Nat} {s : ByteArray} {k : Nat} (h : Cur w c s k) (m : Nat) : Cur (w.drewN m) c s k := h
def Stand (w wr : World) (c : Nat) (s : ByteArray) (k : Nat) : Prop := Cur wr c s k ∧ k ≤ s.size ∧ (∀ i, i < k → insideP (byteP s i) = true) ∧ Mods (fun b => b = c) w wr
theorem stand_next {s : ByteArray} {k : Nat} (h : ∀ i, i < k → insideP (byteP s i) = true) (hx : insideP (byteP s k) = true) : ∀ i, i < k + 1 → insideP (byteP s i) = true := fun i hi => by
 by_cases e : i = k
 ·
  rw [e]; exact hx
 ·
  exact h i (by omega)
theorem meas_next {n k : Nat} (h : k < n) : n - (((k + 1 : Nat) : Int)).toNat < n - ((k : Int)).toNat := by omega
set_option maxHeartbeats 1000000 in
theorem while_any (w : World) (c : Nat) (s : ByteArray) (hs : s.size ≤ 4611686018427387904) (h : Cur w c s 0) : Calls Tryz.prog 112 #[.pointer (some ⟨c, 0, none⟩), .func (.func 113) #[] #[]] w fun e w' =>
  ∃ m, e = .returned (.string (s.extract 0 m)) ∧ m ≤ s.size ∧ (∀ i, i < m → insideP (byteP s i) = true) ∧ (m < s.size → insideP (byteP s m) = false) ∧ Mods (fun b => b = c) w w' := by
 have q0 := cells_row w _ h 0 _ rfl
 have q1 := cells_row w _ h 1 _ rfl
 have HC := Lib.hid h
 have HS := Lib.hid hs
 clear h hs
 go_enter Tryz.func112, Tryz.ntmps112
 go_wp2_with fail
 clear q0 q1
 go_loopw [24] (fun _ wr => ∃ k, Stand w wr c s k) (fun _ wr => s.size - (match wr.cell? ⟨c, 1, none⟩ with | some (.int _ k) => k.toNat | _ => 0))
 case atStart => exact ⟨0, HC.out, Nat.zero_le _, fun i hi => absurd hi (by omega), Mods.refl _ _⟩
 case round =>
  obtain ⟨k, hcur, hk, hin, hmod⟩ := hrel
  have HCu := Lib.hid hcur
  have HIN := Lib.hid hin
  have HM := Lib.hid hmod
  have q0 := cells_row wr _ hcur 0 _ rfl
  have q1 := cells_row wr _ hcur 1 _ rfl
  have f1 := frozen_of_block hcur 1
  clear hcur hin hmod
  by_cases hlt : k < s.size
  ·
   have hlti : (k : Int) < s.size := by omega
   have hbt : byteP s k = ((s[k]'hlt).toNat : Int) := dif_pos hlt
   obtain ⟨x, hx⟩ : ∃ x, insideP (byteP s k) = x := ⟨_, rfl⟩
   have HX := Lib.hid hx
   have HBT := Lib.hid hbt
   have hsz := HS.out
   clear hx hbt
   go_wp2_with fail
   refine wp_region_soft (fun w' => Cur w' c s k ∧ ∃ m, w' = wr.drewN m) [0, 1, 2, 3, 4, 5, 6, 7, 8, 9, 10, 11, 12, 13, 14] [] (by kernel_rfl) (by kernel_rfl) rfl ⟨HCu.out, 1, rfl⟩ ?_
   simp only [pickOps, List.flatMap_cons, List.flatMap_nil, List.drop_succ_cons, List.drop_zero, List.take_succ_cons, List.take_zero, List.cons_append, List.nil_append, List.append_nil]
   repeat (first
    | (refine wpHead_skip (by rfl) ?_; (try simp only [Act.put, List.setIfInBounds_toArray, List.set_cons_zero, List.set_cons_succ]))
    | (refine wpHead_val ?_ (by rfl) ?_ ?_; rotate_left; (intro wz hz; (try dsimp only at hz); (first | (go_simp; done) | (go_simp; with_reducible rfl))); (try simp only [Act.put, List.setIfInBounds_toArray, List.set_cons_zero, List.set_cons_succ])))
   refine wpHead_call (.bool true) 119 #[.pointer (some ⟨c, 0, none⟩)] (by rfl) (fun wz => by go_simp) (fun wz hz => ?_) ?_
   ·
    obtain ⟨hc, m0, rfl⟩ := hz
    refine (more_any _ c s k hc).mono ?_
    rintro e wy ⟨rfl, m, rfl⟩
    exact ⟨by rw [decide_eq_true hlt], hc, m0 + m, World.drewN_drewN _ _ _⟩
   simp only [Act.put, List.setIfInBounds_toArray, List.set_cons_zero, List.set_cons_succ]
   repeat (first
    | (refine wpHead_skip (by rfl) ?_; (try simp only [Act.put, List.setIfInBounds_toArray, List.set_cons_zero, List.set_cons_succ]))
    | (refine wpHead_val ?_ (by rfl) ?_ ?_; rotate_left; (intro wz hz; have q0 := cells_row wz _ hz.1 0 _ rfl; have q1 := cells_row wz _ hz.1 1 _ rfl; (first | (go_simp; done) | (go_simp; with_reducible rfl))); (try simp only [Act.put, List.setIfInBounds_toArray, List.set_cons_zero, List.set_cons_succ])))
   refine wpHead_call (.bool x) 113 #[.int .u8 ((s[k]'hlt).toNat : Int)] (by rfl) (fun wz => by go_simp) (fun wz hz => ?_) ?_
   ·
    refine (inside_any _ _).mono ?_
    rintro e wy ⟨rfl, rfl⟩
    exact ⟨by rw [← HBT.out, HX.out], hz⟩
   simp only [Act.put, List.setIfInBounds_toArray, List.set_cons_zero, List.set_cons_succ]
   cases x with
   | true =>
    repeat (first
     | (refine wpHead_skip (by rfl) ?_; (try simp only [Act.put, List.setIfInBounds_toArray, List.set_cons_zero, List.set_cons_succ]))
     | (refine wpHead_val ?_ (by rfl) ?_ ?_; rotate_left; (intro wz hz; (try dsimp only at hz); (first | (go_simp; done) | (go_simp; with_reducible rfl))); (try simp only [Act.put, List.setIfInBounds_toArray, List.set_cons_zero, List.set_cons_succ])))
    refine wpHead_nil ?_
    intro w' hS
    obtain ⟨hc2, m0, rfl⟩ := hS
    have HC2 := Lib.hid hc2
    have q0 := cells_row _ _ hc2 0 _ rfl
    have q1 := cells_row _ _ hc2 1 _ rfl
    have f1 := frozen_of_block hc2 1
    clear hc2
    go_wp2
    have hc3 : Cur ((wr.drewN m0).setCell ⟨c, 1, none⟩ (.int .i64 ((k : Int) + 1))) c s (k + 1) := block_setCell HC2.out 1 (.int .i64 ((k : Int) + 1))
    have q1' := cells_row _ _ hc3 1 _ rfl
    have HC3 := Lib.hid hc3
    clear hc3
    go_roundw
    case rel => exact ⟨k + 1, HC3.out, hlt, stand_next HIN.out HX.out, (HM.out.drewN m0).setCell (p := ⟨c, 1, none⟩) (fun _ => rfl) _⟩
    case measure =>
     have e1 := cells_row _ _ HCu.out 1 _ rfl
     rw [q1', e1]
     exact meas_next hlt
   | false =>
    repeat (first
     | (refine wpHead_skip (by rfl) ?_; (try simp only [Act.put, List.setIfInBounds_toArray, List.set_cons_zero, List.set_cons_succ]))
     | (refine wpHead_val ?_ (by rfl) ?_ ?_; rotate_left; (intro wz hz; (try dsimp only at hz); (first | (go_simp; done) | (go_simp; with_reducible rfl))); (try simp only [Act.put, List.setIfInBounds_toArray, List.set_cons_zero, List.set_cons_succ])))
    refine wpHead_nil ?_
    intro w' hS
    obtain ⟨hc2, m0, rfl⟩ := hS
    have q0 := cells_row _ _ hc2 0 _ rfl
    have q1 := cells_row _ _ hc2 1 _ rfl
    go_wp2
    go_quiet (fail)
    go_wp2
    go_ret
    exact ⟨k, by first | rfl | simp, hk, HIN.out, fun _ => HX.out, ((HM.out.drewN m0).drewN _)⟩
  ·
   obtain rfl : k = s.size := by omega
   go_wp2_with fail
   refine wp_region_soft (fun w' => Cur w' c s s.size ∧ ∃ m, w' = wr.drewN m) [0, 1, 2, 3, 4, 5, 6, 7, 8, 9, 10, 11, 12, 13, 14] [] (by kernel_rfl) (by kernel_rfl) rfl ⟨HCu.out, 1, rfl⟩ ?_
   simp only [pickOps, List.flatMap_cons, List.flatMap_nil, List.drop_succ_cons, List.drop_zero, List.take_succ_cons, List.take_zero, List.cons_append, List.nil_append, List.append_nil]
   repeat (first
    | (refine wpHead_skip (by rfl) ?_; (try simp only [Act.put, List.setIfInBounds_toArray, List.set_cons_zero, List.set_cons_succ]))
    | (refine wpHead_val ?_ (by rfl) ?_ ?_; rotate_left; (intro wz hz; (try dsimp only at hz); (first | (go_simp; done) | (go_simp; with_reducible rfl))); (try simp only [Act.put, List.setIfInBounds_toArray, List.set_cons_zero, List.set_cons_succ])))
   refine wpHead_call (.bool false) 119 #[.pointer (some ⟨c, 0, none⟩)] (by rfl) (fun wz => by go_simp) (fun wz hz => ?_) ?_
   ·
    obtain ⟨hc, m0, rfl⟩ := hz
    refine (more_any _ c s s.size hc).mono ?_
    rintro e wy ⟨rfl, m, rfl⟩
    exact ⟨by rw [decide_eq_false (Nat.lt_irrefl _)], hc, m0 + m, World.drewN_drewN _ _ _⟩
   simp only [Act.put, List.setIfInBounds_toArray, List.set_cons_zero, List.set_cons_succ]
   repeat (first
    | (refine wpHead_skip (by rfl) ?_; (try simp only [Act.put, List.setIfInBounds_toArray, List.set_cons_zero, List.set_cons_succ]))
    | (refine wpHead_val ?_ (by rfl) ?_ ?_; rotate_left; (intro wz hz; (try dsimp only at hz); (first | (go_simp; done) | (go_simp; with_reducible rfl))); (try simp only [Act.put, List.setIfInBounds_toArray, List.set_cons_zero, List.set_cons_succ])))
   refine wpHead_nil ?_
   intro w' hS
   obtain ⟨hc2, m0, rfl⟩ := hS
   have q0 := cells_row _ _ hc2 0 _ rfl
   have q1 := cells_row _ _ hc2 1 _ rfl
   go_wp2
   go_quiet (fail)
   go_wp2
   go_ret
   exact ⟨s.size, by first | rfl | simp, Nat.le_refl _, HIN.out, fun h => absurd h (Nat.lt_irrefl _), ((HM.out.drewN m0).drewN _)⟩
end Go.Proofs.YtaholpfikcdhbaaGreat

/- Names: lex.Name, whole. -/
namespace Go.Proofs.YtaholpfikcdhbaaGreat
open Go.RowKit
theorem all_inside {s : ByteArray} (h : ∀ i, i < s.size → insideP (byteP s i) = true) : (List.range s.size).all (fun i => insideP (byteP s i)) = true := by
 rw [List.all_eq_true]
 exact fun i hi => h i (List.mem_range.1 hi)
theorem not_inside {s : ByteArray} {m : Nat} (hm : m < s.size) (h : insideP (byteP s m) = false) : (List.range s.size).all (fun i => insideP (byteP s i)) = false := by
 rw [List.all_eq_false]
 exact ⟨m, List.mem_range.2 hm, by rw [h]; simp⟩
theorem cur_new (w : World) (s : ByteArray) : Cur (w.alloc (.cells #[.string s, .int .i64 0] 229)) w.heap.size s 0 := heap_alloc_new w _
theorem below_cur {w w1 w2 : World} (h : w.heap.size < w1.heap.size) (hb : Below w.heap.size w w1) (hm : Mods (fun b => b = w.heap.size) w1 w2) : Below w.heap.size w w2 := hb.trans (hm.below (by omega) (fun k hk e => by omega))
set_option maxHeartbeats 1000000 in
theorem name_any (w : World) (s : ByteArray) (hs : s.size ≤ 4611686018427387904) : Calls Tryz.prog 96 #[.string s] w fun e w' => e = .returned (.bool (nameP s)) ∧ Below w.heap.size w w' := by
 obtain ⟨N, hN⟩ : ∃ N, nameP s = N := ⟨_, rfl⟩
 rw [hN]
 have HN := Lib.hid hN
 have HS := Lib.hid hs
 clear hN hs
 go_enter Tryz.func96, Tryz.ntmps96
 go_wp2_with fail
 have hC := cur_new w s
 have hb1 := (below_alloc w (.cells #[.string s, .int .i64 0] 229))
 refine (peek_any _ _ s hC).mono ?_
 rintro e w1 ⟨rfl, m1, rfl⟩
 go_wp2_with fail
 refine (letter_any _ _).mono ?_
 rintro e _ ⟨rfl, rfl⟩
 obtain ⟨x, hx⟩ : ∃ x, letterP (byteP s 0) = x := ⟨_, rfl⟩
 rw [hx]
 have HX := Lib.hid hx
 clear hx
 cases x with
 | false =>
  have e : N = false := by rw [← HN.out, nameP, HX.out]; rfl
  subst e
  go_wp2
  go_ret
  exact ⟨rfl, below_dr hb1⟩
 | true =>
  go_wp2_with fail
  refine (while_any _ _ s HS.out (hC.drewN _)).mono ?_
  rintro e w2 ⟨m, rfl, hm, hin, hout, hmod⟩
  have hb2 : Below w.heap.size w w2 := below_cur (by simp) (below_dr (n := m1) hb1) hmod
  have HB2 := Lib.hid hb2
  have hlen : (s.extract 0 m).size = m := by rw [ByteArray.size_extract]; omega
  clear hb2 hmod hb1 hC
  by_cases hms : m < s.size
  ·
   have e : N = false := by rw [← HN.out, nameP, not_inside hms (hout hms)]; simp
   subst e
   have hmi : ¬ (m : Int) = s.size := by omega
   clear hin hout
   go_wp2
   go_ret
   exact ⟨by simp, HB2.out⟩
  ·
   obtain rfl : m = s.size := by omega
   have hall := all_inside hin
   have hself : s.extract 0 s.size = s := by simp
   rw [hself]
   clear hin hout hself hlen
   by_cases h16 : s.size ≤ 16
   ·
    have e : N = true := by rw [← HN.out, nameP, HX.out, hall, decide_eq_true h16]; rfl
    subst e
    have h16i : (s.size : Int) ≤ 16 := by omega
    clear hall
    go_wp2
    go_ret
    exact ⟨by simp, HB2.out⟩
   ·
    have e : N = false := by rw [← HN.out, nameP, HX.out, hall, decide_eq_false h16]; rfl
    subst e
    have h16i : ¬ (s.size : Int) ≤ 16 := by omega
    clear hall
    go_wp2
    go_ret
    exact ⟨by simp; exact h16i, HB2.out⟩
end Go.Proofs.YtaholpfikcdhbaaGreat

/- The checker's name. -/
namespace Go.Proofs.YtaholpfikcdhbaaGreat
open Go.RowKit
open Go.Maps (Keyed IsMap Tidy)
theorem lt_max {n m : Nat} (h : n ≤ m) (hm : m ≤ 1000000) : n < maxLen := by unfold maxLen; omega
theorem size_max {n : Nat} (h : n ≤ 4611686018427387904) : n ≤ maxLen := by unfold maxLen; omega
set_option maxRecDepth 100000 in
set_option maxHeartbeats 1000000 in
theorem gname_any (w : World) (o : Col) (C B : Nat) (X : ChkV) (k : Chk) (s : ByteArray) (hs : s.size ≤ 4611686018427387904) (hk : k.seen.length ≤ 1000000) (h : ChkAt w o C B X k) :
  Calls Tryz.prog 97 #[.pointer (some ⟨C, 0, none⟩), .string s] w fun e w' => e = .returned (.int .i64 (nameE k.seen s)) ∧ ∃ o', Turn o o' (fun x => x = 2) w w' ∧ (nameE k.seen s = 0 → ChkAt w' o' C B X ⟨k.seen ++ [s], k.ins, k.outs⟩) := by
 obtain ⟨N, hN⟩ : ∃ N, nameE k.seen s = N := ⟨_, rfl⟩
 rw [hN]
 have HN := Lib.hid hN
 have HS := Lib.hid hs
 have HK := Lib.hid hk
 have HC := Lib.hid h
 clear hN hs hk h
 go_enter Tryz.func97, Tryz.ntmps97
 go_wp2_with fail
 refine (name_any _ s HS.out).mono ?_
 rintro e w1 ⟨rfl, hb1⟩
 have HB1 := Lib.hid hb1
 have HC1 := Lib.hid (HC.out.turn (Turn.of_below o 0 hb1) (fun _ _ h => h))
 obtain ⟨x, hx⟩ : ∃ x, nameP s = x := ⟨_, rfl⟩
 rw [hx]
 have HX := Lib.hid hx
 clear hx hb1 HC
 cases x with
 | false =>
  have e : N = 82 := by rw [← HN.out, nameE, HX.out]; rfl
  subst e
  go_wp2
  go_ret
  exact ⟨rfl, _, (Turn.of_below o 0 HB1.out).mono (fun _ h => h.elim), fun h => by cases h⟩
 | true =>
  obtain ⟨D, n, gI, gO, h1, h2, h3, h4, h5, h6, h7⟩ := HC1.out.st
  have q5 := h1.cell 5 (.map (some B)) rfl
  have H1 := Lib.hid h1
  have H2 := Lib.hid h2
  have H4 := Lib.hid h4
  have H5 := Lib.hid h5
  have H6 := Lib.hid h6
  have H7 := Lib.hid h7
  have H3 := Lib.hid h3
  clear h1 h2 h3 h4 h5 h6 h7
  have hml : s.size ≤ maxLen := size_max HS.out
  go_wp2_with (at_lookup; refine stop_here ?_)
  refine go_on ?_
  refine wpList_lookup_own_int _ rfl _ _ 173 rfl 9 3 .i64 smap_law Tryz.underlying173 Tryz.underlying3 (int_zero _) B n D rfl H2.out _ _ rfl (WideMaps.keyOf_string_mk Tryz.underlying9 hml) ?_
  intro c hat hwc
  have hc := H4.out.2 s
  rw [hat] at hc
  obtain ⟨y, hy⟩ : ∃ y, k.seen.any (fun x => decide (x = s)) = y := ⟨_, rfl⟩
  rw [hy] at hc
  have HY := Lib.hid hy
  clear hat hwc hy
  cases y with
  | true =>
   obtain rfl : c = 1 := by injection hc with h; injection h with _ h
   have e : N = 83 := by rw [← HN.out, nameE, HX.out, HY.out]; rfl
   subst e
   clear hc
   go_wp2
   go_ret
   exact ⟨rfl, _, (Turn.of_below o 0 HB1.out).mono (fun _ h => h.elim), fun h => by cases h⟩
  | false =>
   obtain rfl : c = 0 := by injection hc with h; injection h with _ h
   have e : N = 0 := by rw [← HN.out, nameE, HX.out, HY.out]; rfl
   subst e
   clear hc
   go_wp2_with (at_mapUpdate; refine stop_here ?_)
   refine go_on ?_
   refine wpList_mapUpdate_own _ rfl _ _ _ 173 rfl 9 3 smap_law Tryz.underlying173 _ B n D rfl H2.out (lt_max H5.out HK.out) _ _ _ rfl rfl (WideMaps.keyOf_string_mk Tryz.underlying9 hml) _ [] (plainElem_int Tryz.underlying3 (by decide)) ?_
   intro w2 hown2 hg2
   have T2 : Turn (ext o w.heap.size 0) (ext (ext o w.heap.size 0) w1.heap.size 0) (fun x => x = 2) w1 w2 := Turn.of_mods _ 0 ((Mods.refl (fun b => b = B) w1).grown hg2 (fun b hb _ => (Option.some.inj hb).symm)) (fun b _ e => by rw [e]; exact H3.out)
   have HT := Lib.hid (((Turn.of_below o 0 HB1.out).mono (D := fun x => x = 2) (fun _ h => h.elim)).trans T2 (fun x e => e))
   have hB2 : ext (ext o w.heap.size 0) w1.heap.size 0 B = 2 := (ext_old H2.out.lt).trans H3.out
   have HN2 : Hid (ChkAt w2 (ext (ext o w.heap.size 0) w1.heap.size 0) C B X ⟨k.seen ++ [s], k.ins, k.outs⟩) := Lib.hid ⟨_, _, gI, gO, H1.out.turn T2 (by decide), hown2, hB2, seen_next H4.out s, by have := H5.out; simp; omega, H6.out.turn T2 (by decide) (by decide), H7.out.turn T2 (by decide) (by decide)⟩
   clear hown2 hg2 T2 hB2
   go_wp2
   go_ret
   exact ⟨rfl, _, HT.out, HN2.out⟩
end Go.Proofs.YtaholpfikcdhbaaGreat

/- The checker's take. -/
namespace Go.Proofs.YtaholpfikcdhbaaGreat
open Go.RowKit
theorem bvs_get {l : List Bool} {k : Nat} (h : k < l.length) : (bvs l)[k]? = some (.bool (l[k]?.getD false)) := by simp [bvs, h]
theorem bvs_set (l : List Bool) (k : Nat) (b : Bool) : (bvs l).toArray.setIfInBounds k (.bool b) = (bvs (l.set k b)).toArray := by simp [bvs, List.map_set]
theorem Side.row {w : World} {o : Col} {c d : Nat} {ao : Option Addr} {n cap : Nat} {side : List (List Bool)} {gs : List Nat} (h : Side w o c d (.slice ao n cap) side gs) {a : Nat} (ha : a < side.length) :
  n = side.length ∧ n ≤ cap ∧ ∃ g, ao = some ⟨g, 0, none⟩ ∧ w.cell? ⟨g, a, none⟩ = some (.slice (some ⟨gs[a]?.getD 0, 0, none⟩) (side[a]?.getD []).length (side[a]?.getD []).length) := by
 obtain ⟨h1, h2, g, _, h4, h5, _, _⟩ := owns_cell h.own.1 (by simp; omega)
 exact ⟨h1, by omega, g, h4, h5 a _ (by simp [ha])⟩
theorem Side.take {w : World} {o : Col} {c d : Nat} {v : Value} {side : List (List Bool)} {gs : List Nat} (h : Side w o c d v side gs) (hcd : c ≠ d) {a p : Nat} (ha : a < side.length) :
  Turn o o (fun x => x = d) w (w.setCell ⟨gs[a]?.getD 0, p, none⟩ (.bool true)) ∧ Side (w.setCell ⟨gs[a]?.getD 0, p, none⟩ (.bool true)) o c d v (side.set a ((side[a]?.getD []).set p true)) gs := by
 have hb := h.rows a ha
 obtain ⟨s1, T⟩ := hb.set p (.bool true)
 rw [bvs_set] at s1
 refine ⟨T, ⟨by rw [List.length_set]; exact h.len, ?_, fun k hk => ?_, fun i j hij hj => h.apart i j hij (by simpa using hj)⟩⟩
 ·
  have h1 := h.own.turn T (fun e => hcd e)
  rw [List.length_set]
  have e : ((List.range side.length).map fun k => Value.slice (some ⟨gs[k]?.getD 0, 0, none⟩) ((side.set a ((side[a]?.getD []).set p true))[k]?.getD []).length ((side.set a ((side[a]?.getD []).set p true))[k]?.getD []).length) = (List.range side.length).map fun k => .slice (some ⟨gs[k]?.getD 0, 0, none⟩) (side[k]?.getD []).length (side[k]?.getD []).length := by
   refine List.map_congr_left fun k _ => ?_
   have e2 : ((side.set a ((side[a]?.getD []).set p true))[k]?.getD []).length = (side[k]?.getD []).length := by
    by_cases e : a = k
    ·
     subst e
     simp [ha]
    ·
     rw [List.getElem?_set_ne e]
   rw [e2]
  rw [e]
  exact h1
 ·
  rw [List.length_set] at hk
  by_cases e : a = k
  ·
   subst e
   rw [List.getElem?_set_self ha]
   exact s1
  ·
   rw [List.getElem?_set_ne e]
   have hr := h.rows k hk
   have hne : gs[k]?.getD 0 ≠ gs[a]?.getD 0 := by
    rcases Nat.lt_or_gt_of_ne e with h1 | h1
    ·
     exact (h.apart a k h1 hk).symm
    ·
     exact h.apart k a h1 ha
   exact ⟨block_setCell_ne hr.1 hne _, hr.2⟩
theorem side1_nat (side : List (List Bool)) (a : Nat) : side1 side (a : Int) = side[a]?.getD [] := by simp [side1]
set_option maxRecDepth 100000 in
set_option maxHeartbeats 1000000 in
theorem gtake_any (w : World) (o : Col) (c d : Nat) (v : Value) (side : List (List Bool)) (gs : List Nat) (a p : Int) (hcd : c ≠ d) (h : Side w o c d v side gs) :
  Calls Tryz.prog 98 #[v, .int .i64 a, .int .i64 p] w fun e w' => e = .returned (.int .i64 (takeE side a p)) ∧ Turn o o (fun x => x = d) w w' ∧ (takeE side a p = 0 → Side w' o c d v (takeS side a p) gs) := by
 obtain ⟨ao, cap, rfl⟩ := h.own.slice
 obtain ⟨N, hN⟩ : ∃ N, takeE side a p = N := ⟨_, rfl⟩
 rw [hN]
 have HN := Lib.hid hN
 have HS := Lib.hid h
 clear hN h
 have hT0 := Lib.hid (Turn.refl o (fun x => x = d) w)
 by_cases h1 : a < 0
 ·
  have e : N = 84 := by rw [← HN.out, takeE, if_pos (.inl h1)]
  subst e
  go_enter Tryz.func98, Tryz.ntmps98
  go_wp2
  go_ret
  exact ⟨rfl, by first | exact ⟨hT0.out, fun h => by cases h⟩ | exact hT0.out⟩
 obtain ⟨n, rfl⟩ : ∃ n : Nat, a = n := ⟨a.toNat, by omega⟩
 by_cases h2 : side.length ≤ n
 ·
  have h2i : (side.length : Int) ≤ n := by omega
  have e : N = 84 := by rw [← HN.out, takeE, if_pos (.inr h2i)]
  subst e
  go_enter Tryz.func98, Tryz.ntmps98
  go_wp2
  go_ret
  exact ⟨rfl, by first | exact ⟨hT0.out, fun h => by cases h⟩ | exact hT0.out⟩
 have hlt : n < side.length := by omega
 have hlti : (n : Int) < side.length := by omega
 obtain ⟨_, hcap, g, rfl, hc⟩ := HS.out.row hlt
 have hcapi : (side.length : Int) ≤ cap := by omega
 have hE : N = if p < 0 ∨ ((side[n]?.getD []).length : Int) ≤ p then 85 else if (side[n]?.getD [])[p.toNat]?.getD false then 86 else 0 := by
  rw [← HN.out, takeE, if_neg (by omega), side1_nat]
 have HE := Lib.hid hE
 obtain ⟨row, hrow⟩ : ∃ row, side[n]?.getD [] = row := ⟨_, rfl⟩
 rw [hrow] at HE hc
 have hblk := HS.out.rows n hlt
 rw [hrow] at hblk
 have HR := Lib.hid hrow
 clear hE hrow
 by_cases h3 : p < 0
 ·
  have e : N = 85 := by rw [HE.out, if_pos (.inl h3)]
  subst e
  go_enter Tryz.func98, Tryz.ntmps98
  go_wp2
  go_ret
  exact ⟨rfl, by first | exact ⟨hT0.out, fun h => by cases h⟩ | exact hT0.out⟩
 obtain ⟨q, rfl⟩ : ∃ q : Nat, p = q := ⟨p.toNat, by omega⟩
 by_cases h4 : row.length ≤ q
 ·
  have h4i : (row.length : Int) ≤ q := by omega
  have e : N = 85 := by rw [HE.out, if_pos (.inr h4i)]
  subst e
  go_enter Tryz.func98, Tryz.ntmps98
  go_wp2
  go_ret
  exact ⟨rfl, by first | exact ⟨hT0.out, fun h => by cases h⟩ | exact hT0.out⟩
 have h4i : (q : Int) < row.length := by omega
 have hq := hblk.cell q (.bool (row[q]?.getD false)) (by rw [List.getElem?_toArray]; exact bvs_get (by omega))
 have hfz := hblk.frozen q
 have hE2 : N = if row[q]?.getD false then 86 else 0 := by rw [HE.out, if_neg (by omega)]; rfl
 have HE2 := Lib.hid hE2
 clear hE2 hblk HE
 obtain ⟨b, hb⟩ : ∃ b, row[q]?.getD false = b := ⟨_, rfl⟩
 rw [hb] at hq HE2
 clear hb
 cases b with
 | true =>
  have e : N = 86 := HE2.out
  subst e
  go_enter Tryz.func98, Tryz.ntmps98
  go_wp2
  go_ret
  exact ⟨rfl, by first | exact ⟨hT0.out, fun h => by cases h⟩ | exact hT0.out⟩
 | false =>
  have e : N = 0 := HE2.out
  subst e
  obtain ⟨t1, t2⟩ := HS.out.take hcd (a := n) (p := q) hlt
  have T1 := Lib.hid t1
  have T2 : Hid (Side (w.setCell ⟨gs[n]?.getD 0, q, none⟩ (.bool true)) o c d (.slice (some ⟨g, 0, none⟩) side.length cap) (takeS side (n : Int) (q : Int)) gs) := Lib.hid (by simpa [takeS, side1_nat] using t2)
  clear t1 t2
  go_enter Tryz.func98, Tryz.ntmps98
  go_wp2
  go_ret
  exact ⟨rfl, T1.out, by first | exact T2.out | exact fun _ => T2.out⟩
end Go.Proofs.YtaholpfikcdhbaaGreat

/- The checker's ports: inputs, or outputs. -/
namespace Go.Proofs.YtaholpfikcdhbaaGreat
open Go.RowKit
def SpotRet (E : Int) (e : Ending) : Prop := ∃ a b c : Int, e = .returned (.tuple #[.int .i64 E, .agg #[.int .u8 a, .int .i64 b, .int .i64 c]])
def ChkRet (w : World) (o : Col) (C B : Nat) (X : ChkV) (E : Int) (k : Chk) (e : Ending) (w' : World) : Prop := SpotRet E e ∧ ∃ o', Turn o o' ChkC w w' ∧ (E = 0 → ChkAt w' o' C B X k)
def ChkP (x : Nat) : Prop := x = 2 ∨ x = 4 ∨ x = 6
def ChkRetP (w : World) (o : Col) (C B : Nat) (X : ChkV) (E : Int) (k : Chk) (e : Ending) (w' : World) : Prop := SpotRet E e ∧ ∃ o', Turn o o' ChkP w w' ∧ (E = 0 → ChkAt w' o' C B X k)
theorem Turn.late {o o1 : Col} {C : Nat → Prop} {w w1 w2 : World} (h : Turn o o1 C w w1) (c : Nat) (m : Mods (fun k => w.heap.size ≤ k) w1 w2) : Turn o (ext o1 w1.heap.size c) C w w2 := by
 refine ⟨h.mods.trans m (fun _ _ h => h) (fun n hn f => by omega), fun k hk => ?_⟩
 rw [ext_old (Nat.lt_of_lt_of_le hk h.size)]
 exact h.same k hk
theorem spot_set {w : World} {o : Col} {R : Nat} {a b c : Int} (h : Blk w o 7 R 147 #[.int .u8 0, .int .i64 0, .int .i64 0]) :
  (((w.setCell ⟨R, 0, none⟩ (.int .u8 a)).setCell ⟨R, 1, none⟩ (.int .i64 b)).setCell ⟨R, 2, none⟩ (.int .i64 c)).heap[R]? = some (.cells #[.int .u8 a, .int .i64 b, .int .i64 c] 147 (0, 0)) :=
 block_setCell (block_setCell (block_setCell h.1 0 (.int .u8 a)) 1 (.int .i64 b)) 2 (.int .i64 c)
theorem spot_mods {w : World} {N R : Nat} (h : N ≤ R) (a b c : Value) : Mods (fun k => N ≤ k) w (((w.setCell ⟨R, 0, none⟩ a).setCell ⟨R, 1, none⟩ b).setCell ⟨R, 2, none⟩ c) :=
 (((Mods.refl _ w).setCell (p := ⟨R, 0, none⟩) (fun _ => h) a).setCell (p := ⟨R, 1, none⟩) (fun _ => h) b).setCell (p := ⟨R, 2, none⟩) (fun _ => h) c
theorem spot_only (w : World) (R : Nat) (a b c : Value) : Mods (fun k => k = R) w (((w.setCell ⟨R, 0, none⟩ a).setCell ⟨R, 1, none⟩ b).setCell ⟨R, 2, none⟩ c) :=
 (((Mods.refl (fun k => k = R) w).setCell (p := ⟨R, 0, none⟩) (fun _ => rfl) a).setCell (p := ⟨R, 1, none⟩) (fun _ => rfl) b).setCell (p := ⟨R, 2, none⟩) (fun _ => rfl) c
theorem ChkAt.spot {w : World} {q : Col} {C B R : Nat} {X : ChkV} {k : Chk} {t : TypeId} {cs : Array Value} (h : ChkAt w q C B X k) (hR : Blk w q 7 R t cs) (a b c : Value) : ChkAt (((w.setCell ⟨R, 0, none⟩ a).setCell ⟨R, 1, none⟩ b).setCell ⟨R, 2, none⟩ c) (ext q w.heap.size 7) C B X k :=
 h.turn (Turn.of_mods (C := fun x => x = 7) q 7 (spot_only w R a b c) (fun b _ e => by subst e; exact hR.2)) (fun x hx e => by subst e; exact absurd hx (by unfold ChkC; omega))
theorem portsE_cons {seen : List ByteArray} {side : List (List Bool)} {l : List GPort} {j : Nat} (h : j < l.length) : portsE seen side (l.drop j) = if portE seen side l[j] ≠ 0 then portE seen side l[j] else portsE (seen ++ [l[j].name]) (takeS side l[j].actor l[j].port) (l.drop (j + 1)) := by
 rw [List.drop_eq_getElem_cons h, portsE]
theorem portsS_snoc {side : List (List Bool)} {l : List GPort} {j : Nat} (h : j < l.length) : portsS side (l.take (j + 1)) = takeS (portsS side (l.take j)) l[j].actor l[j].port := by
 rw [List.take_succ_eq_append_getElem h, portsS, List.foldl_append]; rfl
theorem portsN_snoc {seen : List ByteArray} {l : List GPort} {j : Nat} (h : j < l.length) : portsN seen (l.take (j + 1)) = portsN seen (l.take j) ++ [l[j].name] := by
 rw [List.take_succ_eq_append_getElem h, portsN, portsN, List.map_append, List.append_assoc]; rfl
theorem spot_new (w : World) (o : Col) (c : Nat) : Blk (w.alloc (.cells #[.int .u8 0, .int .i64 0, .int .i64 0] 147)) (ext o w.heap.size c) c w.heap.size 147 #[.int .u8 0, .int .i64 0, .int .i64 0] := ⟨heap_alloc_new w _, ext_new (Nat.le_refl _)⟩
theorem port_split {seen : List ByteArray} {side : List (List Bool)} {p : GPort} {r : Int} : (if portE seen side p ≠ 0 then portE seen side p else r) = if nameE seen p.name ≠ 0 then nameE seen p.name else if takeE side p.actor p.port ≠ 0 then takeE side p.actor p.port else r := by
 unfold portE
 by_cases h : nameE seen p.name = 0
 ·
  simp [h]
 ·
  simp [h]
theorem portsN_len {seen : List ByteArray} {l : List GPort} {j : Nat} (hj : j ≤ l.length) (h : seen.length + l.length ≤ 1000000) : (portsN seen (l.take j)).length ≤ 1000000 := by
 simp [portsN]; omega
set_option maxRecDepth 100000 in
set_option maxHeartbeats 2000000 in
theorem gports_in (w0 w : World) (o : Col) (C B : Nat) (X : ChkV) (k : Chk) (v : Value) (l : List GPort) (kd en : Int) (hv : Recs w0 3 PortR v l) (K : Kept w0.heap.size o w0 w) (hn : k.seen.length + l.length ≤ 1000000) (hs : ∀ p ∈ l, p.name.size ≤ 4611686018427387904) (h : ChkAt w o C B X k) :
  Calls Tryz.prog 81 #[.pointer (some ⟨C, 0, none⟩), v, X.vI, .int .u8 kd, .int .i64 en] w (ChkRetP w o C B X (portsE k.seen k.ins l) ⟨portsN k.seen l, portsS k.ins l, k.outs⟩) := by
 obtain ⟨ao, cap, rfl⟩ := hv.slice
 obtain ⟨E, hE⟩ : ∃ E, portsE k.seen k.ins l = E := ⟨_, rfl⟩
 rw [hE]
 have HE := Lib.hid (show portsE (portsN k.seen (l.take 0)) (portsS k.ins (l.take 0)) (l.drop 0) = E by simpa [portsN, portsS] using hE)
 have HV := Lib.hid hv
 have HN := Lib.hid hn
 have HSZ := Lib.hid hs
 have hbR := below_alloc w (.cells #[.int .u8 0, .int .i64 0, .int .i64 0] 147)
 have HT0 := Lib.hid ((Turn.of_below o 7 hbR).mono (D := ChkP) (fun _ h => h.elim))
 have HK0 := Lib.hid (K.of_below 7 hbR)
 have HC0 : Hid (ChkAt _ _ C B X ⟨portsN k.seen (l.take 0), portsS k.ins (l.take 0), k.outs⟩) := Lib.hid (by simpa [portsN, portsS] using h.below 7 hbR)
 have HR0 := Lib.hid (spot_new w o 7)
 clear hE hv hn hs K h hbR
 go_enter Tryz.func81, Tryz.ntmps81
 go_wp2_with fail
 obtain ⟨R, hR⟩ : ∃ R, w.heap.size = R := ⟨_, rfl⟩
 have HRE := Lib.hid hR
 rw [hR] at HR0 HT0 HK0 HC0 ⊢
 clear hR
 go_loopw [18] (fun i wr => ∃ (j : Nat) (q : Col), j ≤ l.length ∧ i = .int .i64 j ∧ Kept w0.heap.size q w0 wr ∧ Turn o q ChkP w wr ∧ Blk wr q 7 R 147 #[.int .u8 0, .int .i64 0, .int .i64 0] ∧ ChkAt wr q C B X ⟨portsN k.seen (l.take j), portsS k.ins (l.take j), k.outs⟩ ∧ portsE (portsN k.seen (l.take j)) (portsS k.ins (l.take j)) (l.drop j) = E) (fun i _ => l.length - (intOf i).toNat)
 case atStart => exact ⟨0, _, Nat.zero_le _, rfl, HK0.out, HT0.out, HR0.out, HC0.out, HE.out⟩
 case round =>
  clear HK0 HT0 HR0 HC0 HE
  obtain ⟨j, q, hj, rfl, hK, hT, hR, hC, hE⟩ := hrel
  have HK := Lib.hid hK
  have HT := Lib.hid hT
  have HR := Lib.hid hR
  have HC := Lib.hid hC
  have HE := Lib.hid hE
  clear hK hT hR hC hE
  by_cases hlt : j < l.length
  ·
   have hlti : (j : Int) < l.length := by omega
   obtain ⟨b0, off, rfl, hcap, hb0, hrec⟩ := (HV.out.below port_steady HK.out.below).at (by omega)
   obtain ⟨cs, hcs, hPR, hcl⟩ := hrec j hlt
   obtain rfl := hPR
   have c0 := hcl 0 (by omega)
   have c1 := hcl 1 (by omega)
   have c2 := hcl 2 (by omega)
   simp at c0 c1 c2
   have hcapi : (l.length : Int) ≤ cap := by omega
   clear hcl hcs hrec
   have hEc := HE.out
   rw [portsE_cons hlt] at hEc
   have HEC := Lib.hid hEc
   have HSn := Lib.hid (portsS_snoc (side := k.ins) hlt)
   have HNn := Lib.hid (portsN_snoc (seen := k.seen) hlt)
   have hpz := HSZ.out l[j] (List.getElem_mem hlt)
   generalize l[j] = p at *
   clear hEc
   rw [port_split] at HEC
   have hsl := portsN_len hj HN.out
   obtain ⟨sn, hsn⟩ : ∃ x, portsN k.seen (l.take j) = x := ⟨_, rfl⟩
   obtain ⟨sd, hsd⟩ : ∃ x, portsS k.ins (l.take j) = x := ⟨_, rfl⟩
   rw [hsn, hsd] at HEC HC
   rw [hsn] at HNn hsl
   rw [hsd] at HSn
   clear hsn hsd HE
   have hbX := below_alloc wr (.cells #[.string p.name, .int .i64 p.actor, .int .i64 p.port] 118)
   have hX : Blk (wr.alloc (.cells #[.string p.name, .int .i64 p.actor, .int .i64 p.port] 118)) (ext q wr.heap.size 8) 8 wr.heap.size 118 #[.string p.name, .int .i64 p.actor, .int .i64 p.port] := ⟨heap_alloc_new wr _, ext_new (Nat.le_refl _)⟩
   have hTX := (Turn.of_below q 8 hbX).mono (D := ChkP) (fun _ h => h.elim)
   have HK2 := Lib.hid (HK.out.of_below 8 hbX)
   have HT2 := Lib.hid (HT.out.trans hTX (fun _ h => h))
   have HR2 := Lib.hid (HR.out.turn (Turn.of_below q 8 hbX) (fun h => h))
   have HC2 := Lib.hid (HC.out.below 8 hbX)
   have HX := Lib.hid hX
   clear hbX hX hTX HK HT HR HC
   go_wp2_with fail
   refine (gname_any _ (ext q wr.heap.size 8) C B X ⟨sn, sd, k.outs⟩ p.name hpz hsl HC2.out).mono ?_
   rintro e w4 ⟨rfl, o4, T40, hC4⟩
   have T4 := T40.mono (D := ChkP) (fun x e => .inl e)
   have HK4 := Lib.hid (HK2.out.turn T4 (by unfold ChkP; omega))
   have HT4 := Lib.hid (HT2.out.trans T4 (fun _ h => h))
   have HR4 := Lib.hid (HR2.out.turn T4 (by unfold ChkP; omega))
   have HX4 := Lib.hid (HX.out.turn T4 (by unfold ChkP; omega))
   have HC4 := Lib.hid hC4
   clear T40 T4 hC4 HK2 HT2 HR2 HC2 HX
   obtain ⟨ne, hne⟩ : ∃ x, nameE sn p.name = x := ⟨_, rfl⟩
   rw [show nameE (Chk.seen ⟨sn, sd, k.outs⟩) p.name = ne from hne] at HC4 ⊢
   rw [hne] at HEC
   clear hne
   by_cases h0 : ne = 0
   ·
    subst h0
    have hC5 := HC4.out rfl
    obtain ⟨gI, hSI⟩ := hC5.ins
    have HC5 := Lib.hid hC5
    have HSI := Lib.hid hSI
    have x1 := HX4.out.cell 1 _ rfl
    have x2 := HX4.out.cell 2 _ rfl
    rw [if_neg (by simp)] at HEC
    clear hC5 hSI HC4
    go_wp2_with fail
    refine (gtake_any _ o4 3 4 X.vI sd gI p.actor p.port (by decide) HSI.out).mono ?_
    rintro e w5 ⟨rfl, T5, hS5⟩
    have HK5 := Lib.hid (HK4.out.turn T5 (by decide))
    have HT5 := Lib.hid (HT4.out.trans T5 (fun x e => by subst e; unfold ChkP; omega))
    have HR5 := Lib.hid (HR4.out.turn T5 (by decide))
    have HC6 := Lib.hid (fun (e : takeE sd p.actor p.port = 0) => HC5.out.tookI T5 (hS5 e))
    clear T5 hS5 HK4 HT4 HR4 HX4 HC5 HSI x1 x2
    obtain ⟨te, hte⟩ : ∃ x, takeE sd p.actor p.port = x := ⟨_, rfl⟩
    rw [hte] at HEC HC6 ⊢
    clear hte
    by_cases h0 : te = 0
    ·
     subst h0
     have HC7 := Lib.hid (HC6.out rfl)
     rw [if_neg (by simp)] at HEC
     have HE2 : Hid (portsE (portsN k.seen (l.take (j + 1))) (portsS k.ins (l.take (j + 1))) (l.drop (j + 1)) = E) := Lib.hid (by rw [HNn.out, HSn.out]; exact HEC.out)
     have HC8 : Hid (ChkAt w5 o4 C B X ⟨portsN k.seen (l.take (j + 1)), portsS k.ins (l.take (j + 1)), k.outs⟩) := Lib.hid (by rw [HNn.out, HSn.out]; exact HC7.out)
     have hnn := HN.out
     clear HC6 HC7 HEC
     go_wp2
     go_roundw
     case rel => exact ⟨j + 1, o4, hlt, by go_num, HK5.out, HT5.out, HR5.out, HC8.out, HE2.out⟩
     case measure => simp [intOf]; omega
    ·
     have e : E = te := by rw [← HEC.out, if_pos h0]
     subst e
     have z0 := HR5.out.cell 0 _ rfl
     have z1 := HR5.out.cell 1 _ rfl
     have z2 := HR5.out.cell 2 _ rfl
     have f0 := HR5.out.frozen 0
     have f1 := HR5.out.frozen 1
     have f2 := HR5.out.frozen 2
     go_wp2
     refine bodyPost_ret_by (results_tmp_row rfl _ _ _ _ _ _ _ rfl (spot_set HR5.out) Tryz.underlying147 rfl (by kernel_rfl)) rfl ?_
     exact ⟨⟨_, _, _, rfl⟩, _, HT5.out.late 7 (spot_mods (by have := HRE.out; omega) _ _ _), fun h => absurd h h0⟩
   ·
    have e : E = ne := by rw [← HEC.out, if_pos h0]
    subst e
    have z0 := HR4.out.cell 0 _ rfl
    have z1 := HR4.out.cell 1 _ rfl
    have z2 := HR4.out.cell 2 _ rfl
    have f0 := HR4.out.frozen 0
    have f1 := HR4.out.frozen 1
    have f2 := HR4.out.frozen 2
    go_wp2
    refine bodyPost_ret_by (results_tmp_row rfl _ _ _ _ _ _ _ rfl (spot_set HR4.out) Tryz.underlying147 rfl (by kernel_rfl)) rfl ?_
    exact ⟨⟨_, _, _, rfl⟩, _, HT4.out.late 7 (spot_mods (by have := HRE.out; omega) _ _ _), fun h => absurd h h0⟩
  ·
   obtain rfl : j = l.length := by omega
   have hfin := HE.out
   rw [List.drop_length, List.take_length] at hfin
   obtain rfl : E = 0 := hfin.symm
   have hC9 := HC.out
   rw [List.take_length, ] at hC9
   have HC9 := Lib.hid hC9
   clear hfin hC9
   have z0 := HR.out.cell 0 _ rfl
   have z1 := HR.out.cell 1 _ rfl
   have z2 := HR.out.cell 2 _ rfl
   have f0 := HR.out.frozen 0
   have f1 := HR.out.frozen 1
   have f2 := HR.out.frozen 2
   go_wp2
   refine bodyPost_ret_by (results_tmp_row rfl _ _ _ _ _ _ _ rfl (spot_set HR.out) Tryz.underlying147 rfl (by kernel_rfl)) rfl ?_
   exact ⟨⟨_, _, _, rfl⟩, _, HT.out.late 7 (spot_mods (by have := HRE.out; omega) _ _ _), fun _ => HC9.out.spot HR.out _ _ _⟩
end Go.Proofs.YtaholpfikcdhbaaGreat

/- The checker's head. -/
namespace Go.Proofs.YtaholpfikcdhbaaGreat
open Go.RowKit
def headL (s : ByteArray) (n1 n2 n3 n4 : Nat) : Int := if !nameP s then 82 else if n1 = 0 then 80 else if 32 < n1 then 81 else if 96 < n2 then 81 else if 16 < n3 then 81 else if 16 < n4 then 81 else 0
set_option maxRecDepth 100000 in
set_option maxHeartbeats 2000000 in
theorem ghead_any (w : World) (o : Col) (C B : Nat) (X : ChkV) (k : Chk) (a1 a2 a3 a4 : Option Addr) (n1 n2 n3 n4 c1 c2 c3 c4 : Nat) (h1 : X.va = .slice a1 n1 c1) (h2 : X.ve = .slice a2 n2 c2) (h3 : X.vi = .slice a3 n3 c3) (h4 : X.vo = .slice a4 n4 c4) (hs : X.name.size ≤ 4611686018427387904) (h : ChkAt w o C B X k) :
  Calls Tryz.prog 78 #[.pointer (some ⟨C, 0, none⟩)] w (ChkRet w o C B X (headL X.name n1 n2 n3 n4) k) := by
 obtain ⟨E, hE⟩ : ∃ E, headL X.name n1 n2 n3 n4 = E := ⟨_, rfl⟩
 rw [hE]
 have HE := Lib.hid hE
 have HS := Lib.hid hs
 have hbR := below_alloc w (.cells #[.int .u8 0, .int .i64 0, .int .i64 0] 147)
 have hC0 := h.below 7 hbR
 obtain ⟨q0, q1, q2, q3, q4, _⟩ := hC0.cells
 rw [h1] at q1
 rw [h2] at q2
 rw [h3] at q3
 rw [h4] at q4
 have HT0 := Lib.hid ((Turn.of_below o 7 hbR).mono (D := ChkC) (fun _ h => h.elim))
 have HC0 := Lib.hid hC0
 have HR0 := Lib.hid (spot_new w o 7)
 clear hE hs h hbR hC0 h1 h2 h3 h4
 go_enter Tryz.func78, Tryz.ntmps78
 go_wp2_with fail
 obtain ⟨R, hR⟩ : ∃ R, w.heap.size = R := ⟨_, rfl⟩
 have HRE := Lib.hid hR
 have hbG := below_alloc (w.alloc (.cells #[.int .u8 0, .int .i64 0, .int .i64 0] 147)) (.cells #[.string X.name, .slice a1 n1 c1, .slice a2 n2 c2, .slice a3 n3 c3, .slice a4 n4 c4] 26)
 have hG := heap_alloc_new (w.alloc (.cells #[.int .u8 0, .int .i64 0, .int .i64 0] 147)) (.cells #[.string X.name, .slice a1 n1 c1, .slice a2 n2 c2, .slice a3 n3 c3, .slice a4 n4 c4] 26)
 rw [World.size_alloc] at hG
 have HT1 := Lib.hid (HT0.out.trans ((Turn.of_below _ 8 hbG).mono (D := ChkC) (fun _ h => h.elim)) (fun _ h => h))
 have HR1 := Lib.hid (HR0.out.turn (Turn.of_below _ 8 hbG) (fun h => h))
 have HC1 := Lib.hid (HC0.out.below 8 hbG)
 have HG := Lib.hid hG
 rw [hR] at HR1 HT1 HC1 HG
 clear hbG hG q0 q1 q2 q3 q4 HT0 HC0 HR0
 refine (name_any _ X.name HS.out).mono ?_
 rintro e w2 ⟨rfl, hb2⟩
 have HT2 := Lib.hid (HT1.out.trans ((Turn.of_below _ 9 hb2).mono (D := ChkC) (fun _ h => h.elim)) (fun _ h => h))
 have HR2 := Lib.hid (HR1.out.turn (Turn.of_below _ 9 hb2) (fun h => h))
 have HC2 := Lib.hid (HC1.out.below 9 hb2)
 have hG2 := block_mods HG.out (Mods.of_below hb2 (fun _ => False)) (fun h => h)
 have q1 := cells_row w2 _ hG2 1 _ rfl
 have q2 := cells_row w2 _ hG2 2 _ rfl
 have q3 := cells_row w2 _ hG2 3 _ rfl
 have q4 := cells_row w2 _ hG2 4 _ rfl
 clear hb2 hG2 HT1 HR1 HC1 HG
 obtain ⟨np, hnp⟩ : ∃ x, nameP X.name = x := ⟨_, rfl⟩
 rw [hnp, hR]
 have HNP := Lib.hid hnp
 clear hnp hR
 cases np with
 | false =>
  have e : E = 82 := by rw [← HE.out, headL, HNP.out]; simp []
  subst e
  have z0 := HR2.out.cell 0 _ rfl
  have z1 := HR2.out.cell 1 _ rfl
  have z2 := HR2.out.cell 2 _ rfl
  have f0 := HR2.out.frozen 0
  have f1 := HR2.out.frozen 1
  have f2 := HR2.out.frozen 2
  go_wp2
  refine bodyPost_ret_by (results_tmp_row rfl _ _ _ _ _ _ _ rfl (spot_set HR2.out) Tryz.underlying147 rfl (by kernel_rfl)) rfl ?_
  exact ⟨⟨_, _, _, rfl⟩, _, HT2.out.late 7 (spot_mods (by have := HRE.out; omega) _ _ _), fun h => by cases h⟩
 | true =>
  by_cases d1 : n1 = 0
  ·
   have d1i : ((n1 : Int) == 0) = true := by rw [beq_iff_eq]; omega
   have e : E = 80 := by rw [← HE.out, headL, HNP.out]; simp [d1]
   subst e
   have z0 := HR2.out.cell 0 _ rfl
   have z1 := HR2.out.cell 1 _ rfl
   have z2 := HR2.out.cell 2 _ rfl
   have f0 := HR2.out.frozen 0
   have f1 := HR2.out.frozen 1
   have f2 := HR2.out.frozen 2
   go_wp2
   refine bodyPost_ret_by (results_tmp_row rfl _ _ _ _ _ _ _ rfl (spot_set HR2.out) Tryz.underlying147 rfl (by kernel_rfl)) rfl ?_
   exact ⟨⟨_, _, _, rfl⟩, _, HT2.out.late 7 (spot_mods (by have := HRE.out; omega) _ _ _), fun h => by cases h⟩
  have d1i : ((n1 : Int) == 0) = false := by rw [beq_eq_false_iff_ne]; omega
  by_cases d2 : 32 < n1
  ·
   have d2i : (32 : Int) < n1 := by omega
   have e : E = 81 := by rw [← HE.out, headL, HNP.out]; simp [d1, d2]
   subst e
   have z0 := HR2.out.cell 0 _ rfl
   have z1 := HR2.out.cell 1 _ rfl
   have z2 := HR2.out.cell 2 _ rfl
   have f0 := HR2.out.frozen 0
   have f1 := HR2.out.frozen 1
   have f2 := HR2.out.frozen 2
   go_wp2
   refine bodyPost_ret_by (results_tmp_row rfl _ _ _ _ _ _ _ rfl (spot_set HR2.out) Tryz.underlying147 rfl (by kernel_rfl)) rfl ?_
   exact ⟨⟨_, _, _, rfl⟩, _, HT2.out.late 7 (spot_mods (by have := HRE.out; omega) _ _ _), fun h => by cases h⟩
  have d2i : ¬ (32 : Int) < n1 := by omega
  by_cases d3 : 96 < n2
  ·
   have d3i : (96 : Int) < n2 := by omega
   have e : E = 81 := by rw [← HE.out, headL, HNP.out]; simp [d1, d2, d3]
   subst e
   have z0 := HR2.out.cell 0 _ rfl
   have z1 := HR2.out.cell 1 _ rfl
   have z2 := HR2.out.cell 2 _ rfl
   have f0 := HR2.out.frozen 0
   have f1 := HR2.out.frozen 1
   have f2 := HR2.out.frozen 2
   go_wp2
   refine bodyPost_ret_by (results_tmp_row rfl _ _ _ _ _ _ _ rfl (spot_set HR2.out) Tryz.underlying147 rfl (by kernel_rfl)) rfl ?_
   exact ⟨⟨_, _, _, rfl⟩, _, HT2.out.late 7 (spot_mods (by have := HRE.out; omega) _ _ _), fun h => by cases h⟩
  have d3i : ¬ (96 : Int) < n2 := by omega
  by_cases d4 : 16 < n3
  ·
   have d4i : (16 : Int) < n3 := by omega
   have e : E = 81 := by rw [← HE.out, headL, HNP.out]; simp [d1, d2, d3, d4]
   subst e
   have z0 := HR2.out.cell 0 _ rfl
   have z1 := HR2.out.cell 1 _ rfl
   have z2 := HR2.out.cell 2 _ rfl
   have f0 := HR2.out.frozen 0
   have f1 := HR2.out.frozen 1
   have f2 := HR2.out.frozen 2
   go_wp2
   refine bodyPost_ret_by (results_tmp_row rfl _ _ _ _ _ _ _ rfl (spot_set HR2.out) Tryz.underlying147 rfl (by kernel_rfl)) rfl ?_
   exact ⟨⟨_, _, _, rfl⟩, _, HT2.out.late 7 (spot_mods (by have := HRE.out; omega) _ _ _), fun h => by cases h⟩
  have d4i : ¬ (16 : Int) < n3 := by omega
  by_cases d5 : 16 < n4
  ·
   have d5i : (16 : Int) < n4 := by omega
   have e : E = 81 := by rw [← HE.out, headL, HNP.out]; simp [d1, d2, d3, d4, d5]
   subst e
   have z0 := HR2.out.cell 0 _ rfl
   have z1 := HR2.out.cell 1 _ rfl
   have z2 := HR2.out.cell 2 _ rfl
   have f0 := HR2.out.frozen 0
   have f1 := HR2.out.frozen 1
   have f2 := HR2.out.frozen 2
   go_wp2
   refine bodyPost_ret_by (results_tmp_row rfl _ _ _ _ _ _ _ rfl (spot_set HR2.out) Tryz.underlying147 rfl (by kernel_rfl)) rfl ?_
   exact ⟨⟨_, _, _, rfl⟩, _, HT2.out.late 7 (spot_mods (by have := HRE.out; omega) _ _ _), fun h => by cases h⟩
  have d5i : ¬ (16 : Int) < n4 := by omega
  have e : E = 0 := by rw [← HE.out, headL, HNP.out]; simp [d1, d2, d3, d4, d5]
  subst e
  have z0 := HR2.out.cell 0 _ rfl
  have z1 := HR2.out.cell 1 _ rfl
  have z2 := HR2.out.cell 2 _ rfl
  have f0 := HR2.out.frozen 0
  have f1 := HR2.out.frozen 1
  have f2 := HR2.out.frozen 2
  go_wp2
  refine bodyPost_ret_by (results_tmp_row rfl _ _ _ _ _ _ _ rfl (spot_set HR2.out) Tryz.underlying147 rfl (by kernel_rfl)) rfl ?_
  exact ⟨⟨_, _, _, rfl⟩, _, HT2.out.late 7 (spot_mods (by have := HRE.out; omega) _ _ _), fun _ => HC2.out.spot HR2.out _ _ _⟩
end Go.Proofs.YtaholpfikcdhbaaGreat

/- The checker's edges. -/
namespace Go.Proofs.YtaholpfikcdhbaaGreat
open Go.RowKit
theorem edgesE_cons {c : Chk} {l : List GEdge} {j : Nat} (h : j < l.length) : edgesE c (l.drop j) = if edgeE c l[j] ≠ 0 then edgeE c l[j] else edgesE (edgeC c l[j]) (l.drop (j + 1)) := by
 rw [List.drop_eq_getElem_cons h, edgesE]
theorem edgesC_snoc {c : Chk} {l : List GEdge} {j : Nat} (h : j < l.length) : edgesC c (l.take (j + 1)) = edgeC (edgesC c (l.take j)) l[j] := by
 rw [List.take_succ_eq_append_getElem h, edgesC, List.foldl_append]; rfl
theorem edge_split {c : Chk} {e : GEdge} {r : Int} : (if edgeE c e ≠ 0 then edgeE c e else r) = if takeE c.outs e.src e.sport ≠ 0 then takeE c.outs e.src e.sport else if takeE c.ins e.dst e.dport ≠ 0 then takeE c.ins e.dst e.dport else if 256 < e.start.length then 88 else r := by
 unfold edgeE
 by_cases h : takeE c.outs e.src e.sport = 0
 ·
  by_cases h2 : takeE c.ins e.dst e.dport = 0
  ·
   by_cases h3 : 256 < e.start.length
   ·
    simp [h, h2, h3]
   ·
    simp [h, h2, h3]
  ·
   simp [h, h2]
 ·
  simp [h]
set_option maxRecDepth 100000 in
set_option maxHeartbeats 2000000 in
theorem gedges_any (w0 w : World) (o : Col) (C B : Nat) (X : ChkV) (k : Chk) (l : List GEdge) (hv : Recs w0 5 EdgeR X.ve l) (K : Kept w0.heap.size o w0 w) (hn : l.length ≤ 1000000) (h : ChkAt w o C B X k) :
  Calls Tryz.prog 80 #[.pointer (some ⟨C, 0, none⟩)] w (ChkRet w o C B X (edgesE k l) (edgesC k l)) := by
 obtain ⟨ao, cap, hve⟩ := hv.slice
 rw [hve] at hv
 obtain ⟨E, hE⟩ : ∃ E, edgesE k l = E := ⟨_, rfl⟩
 rw [hE]
 have HE := Lib.hid (show edgesE (edgesC k (l.take 0)) (l.drop 0) = E by simpa [edgesC] using hE)
 have HV := Lib.hid hv
 have HVE := Lib.hid hve
 have HN := Lib.hid hn
 have hbR := below_alloc w (.cells #[.int .u8 0, .int .i64 0, .int .i64 0] 147)
 have HT0 := Lib.hid ((Turn.of_below o 7 hbR).mono (D := ChkC) (fun _ h => h.elim))
 have HK0 := Lib.hid (K.of_below 7 hbR)
 have hC0 := h.below 7 hbR
 have q2 := hC0.cells.2.2.1
 rw [hve] at q2
 have HC0 : Hid (ChkAt _ _ C B X (edgesC k (l.take 0))) := Lib.hid (by simpa [edgesC] using hC0)
 have HR0 := Lib.hid (spot_new w o 7)
 clear hE hv hve hn K h hbR hC0
 go_enter Tryz.func80, Tryz.ntmps80
 go_wp2_with fail
 clear q2
 obtain ⟨R, hR⟩ : ∃ R, w.heap.size = R := ⟨_, rfl⟩
 have HRE := Lib.hid hR
 rw [hR] at HR0 HT0 HK0 HC0 ⊢
 clear hR
 go_loopw [14] (fun i wr => ∃ (j : Nat) (q : Col), j ≤ l.length ∧ i = .int .i64 j ∧ Kept w0.heap.size q w0 wr ∧ Turn o q ChkC w wr ∧ Blk wr q 7 R 147 #[.int .u8 0, .int .i64 0, .int .i64 0] ∧ ChkAt wr q C B X (edgesC k (l.take j)) ∧ edgesE (edgesC k (l.take j)) (l.drop j) = E) (fun i _ => l.length - (intOf i).toNat)
 case atStart => exact ⟨0, _, Nat.zero_le _, rfl, HK0.out, HT0.out, HR0.out, HC0.out, HE.out⟩
 case round =>
  clear HK0 HT0 HR0 HC0 HE
  obtain ⟨j, q, hj, rfl, hK, hT, hR, hC, hE⟩ := hrel
  have HK := Lib.hid hK
  have HT := Lib.hid hT
  have HR := Lib.hid hR
  have HC := Lib.hid hC
  have HE := Lib.hid hE
  clear hK hT hR hC hE
  by_cases hlt : j < l.length
  ·
   have hlti : (j : Int) < l.length := by omega
   obtain ⟨b0, off, rfl, hcap, hb0, hrec⟩ := (HV.out.below edge_steady HK.out.below).at (by omega)
   obtain ⟨cs, hcs, hPR, hcl⟩ := hrec j hlt
   obtain ⟨xs, rfl, hst⟩ := hPR
   have c0 := hcl 0 (by omega)
   have c1 := hcl 1 (by omega)
   have c2 := hcl 2 (by omega)
   have c3 := hcl 3 (by omega)
   have c4 := hcl 4 (by omega)
   simp at c0 c1 c2 c3 c4
   have hcapi : (l.length : Int) ≤ cap := by omega
   have hEc := HE.out
   rw [edgesE_cons hlt] at hEc
   have HEC := Lib.hid hEc
   have HCn := Lib.hid (edgesC_snoc (c := k) hlt)
   have hst2 : Has wr xs (ivs l[j].start) := hst
   obtain ⟨sa, sc, hxs⟩ := Ints.slice hst2
   subst hxs
   clear hcl hcs hrec hst hst2 hEc HE
   generalize l[j] = p at *
   rw [edge_split] at HEC
   obtain ⟨kk, hkk⟩ : ∃ x, edgesC k (l.take j) = x := ⟨_, rfl⟩
   rw [hkk] at HEC HC HCn
   clear hkk
   have hbX := below_alloc wr (.cells #[.int .i64 p.src, .int .i64 p.sport, .int .i64 p.dst, .int .i64 p.dport, .slice sa p.start.length sc] 107)
   have hX : Blk (wr.alloc (.cells #[.int .i64 p.src, .int .i64 p.sport, .int .i64 p.dst, .int .i64 p.dport, .slice sa p.start.length sc] 107)) (ext q wr.heap.size 8) 8 wr.heap.size 107 #[.int .i64 p.src, .int .i64 p.sport, .int .i64 p.dst, .int .i64 p.dport, .slice sa p.start.length sc] := ⟨heap_alloc_new wr _, ext_new (Nat.le_refl _)⟩
   have hTX := (Turn.of_below q 8 hbX).mono (D := ChkC) (fun _ h => h.elim)
   have HK2 := Lib.hid (HK.out.of_below 8 hbX)
   have HT2 := Lib.hid (HT.out.trans hTX (fun _ h => h))
   have HR2 := Lib.hid (HR.out.turn (Turn.of_below q 8 hbX) (fun h => h))
   have HC2 := Lib.hid (HC.out.below 8 hbX)
   have HX := Lib.hid hX
   have y0 := hX.cell 0 _ rfl
   have y1 := hX.cell 1 _ rfl
   have y7 := HC2.out.cells.2.2.2.2.2.2.2
   obtain ⟨gO, hSO⟩ := HC2.out.outs
   have HSO := Lib.hid hSO
   clear hbX hX hTX HK HT HR HC hSO
   go_wp2_with fail
   refine wp_region_lex (fun w' => w'.cell? ⟨C, 7, none⟩ = some X.vO ∧ w'.cell? ⟨wr.heap.size, 0, none⟩ = some (.int .i64 p.src) ∧ w'.cell? ⟨wr.heap.size, 1, none⟩ = some (.int .i64 p.sport)) [0, 1, 2, 3, 4, 5, 6, 7] [8, 9] (by kernel_rfl) (by kernel_rfl) rfl (fun _ _ hx h => ⟨hx.cell h.1, hx.cell h.2.1, hx.cell h.2.2⟩) ⟨y7, y0, y1⟩ ?_
   intro Q' hQ'
   simp only [pickOps, List.flatMap_cons, List.flatMap_nil, List.drop_succ_cons, List.drop_zero, List.take_succ_cons, List.take_zero, List.cons_append, List.nil_append, List.append_nil]
   repeat (first
    | (refine wpReads_skip (by rfl) ?_; (try simp only [Act.put, List.setIfInBounds_toArray, List.set_cons_zero, List.set_cons_succ]))
    | (refine wpReads_cons ?_ (by rfl) (by rfl) ?_ ?_; rotate_left; (intro wz hz; (try dsimp only at hz); go_simp; try with_reducible rfl); (try simp only [Act.put, List.setIfInBounds_toArray, List.set_cons_zero, List.set_cons_succ]))
    | (refine wpReads_any ?_ (by rfl) ?_ ?_; rotate_left; (intro wz; go_simp; try with_reducible rfl); (try simp only [Act.put, List.setIfInBounds_toArray, List.set_cons_zero, List.set_cons_succ])))
   refine wpReads_nil ?_
   go_wp2_with fail
   refine (gtake_any _ (ext q wr.heap.size 8) 5 6 X.vO kk.outs gO p.src p.sport (by decide) (HSO.out.turn (Turn.of_quiet _ ⟨1, rfl⟩) (fun h => h) (fun h => h))).mono ?_
   rintro e w5 ⟨rfl, T5, hS5⟩
   have T6 := ((Turn.of_quiet (ext q wr.heap.size 8) ⟨1, rfl⟩).mono (D := fun x => x = 6) (fun _ h => h.elim)).trans T5 (fun _ h => h)
   have HK5 := Lib.hid (HK2.out.turn T6 (by decide))
   have HT5 := Lib.hid (HT2.out.trans T6 (fun x e => by subst e; unfold ChkC; omega))
   have HR5 := Lib.hid (HR2.out.turn T6 (by decide))
   have HX5 := Lib.hid (HX.out.turn T6 (by decide))
   have HC5 := Lib.hid (fun (e : takeE kk.outs p.src p.sport = 0) => HC2.out.tookO T6 (hS5 e))
   clear T5 T6 hS5 HK2 HT2 HR2 HX HC2 HSO y0 y1 y7
   generalize ext q wr.heap.size 8 = q5 at *
   obtain ⟨te, hte⟩ : ∃ x, takeE kk.outs p.src p.sport = x := ⟨_, rfl⟩
   rw [hte] at HEC HC5 ⊢
   clear hte
   by_cases h0 : te = 0
   ·
    subst h0
    have hC6 := HC5.out rfl
    have HC6 := Lib.hid hC6
    obtain ⟨gI, hSI⟩ := hC6.ins
    have HSI := Lib.hid hSI
    have y2 := HX5.out.cell 2 _ rfl
    have y3 := HX5.out.cell 3 _ rfl
    have y6 := hC6.cells.2.2.2.2.2.2.1
    rw [if_neg (by simp)] at HEC
    clear hC6 hSI HC5
    go_wp2_with fail
    refine wp_region_lex (fun w' => w'.cell? ⟨C, 6, none⟩ = some X.vI ∧ w'.cell? ⟨wr.heap.size, 2, none⟩ = some (.int .i64 p.dst) ∧ w'.cell? ⟨wr.heap.size, 3, none⟩ = some (.int .i64 p.dport)) [0, 1, 2, 3, 4, 5, 6, 7] [8, 9] (by kernel_rfl) (by kernel_rfl) rfl (fun _ _ hx h => ⟨hx.cell h.1, hx.cell h.2.1, hx.cell h.2.2⟩) ⟨y6, y2, y3⟩ ?_
    intro Q' hQ'
    simp only [pickOps, List.flatMap_cons, List.flatMap_nil, List.drop_succ_cons, List.drop_zero, List.take_succ_cons, List.take_zero, List.cons_append, List.nil_append, List.append_nil]
    repeat (first
     | (refine wpReads_skip (by rfl) ?_; (try simp only [Act.put, List.setIfInBounds_toArray, List.set_cons_zero, List.set_cons_succ]))
     | (refine wpReads_cons ?_ (by rfl) (by rfl) ?_ ?_; rotate_left; (intro wz hz; (try dsimp only at hz); go_simp; try with_reducible rfl); (try simp only [Act.put, List.setIfInBounds_toArray, List.set_cons_zero, List.set_cons_succ]))
     | (refine wpReads_any ?_ (by rfl) ?_ ?_; rotate_left; (intro wz; go_simp; try with_reducible rfl); (try simp only [Act.put, List.setIfInBounds_toArray, List.set_cons_zero, List.set_cons_succ])))
    refine wpReads_nil ?_
    go_wp2_with fail
    refine (gtake_any _ q5 3 4 X.vI kk.ins gI p.dst p.dport (by decide) (HSI.out.turn (Turn.of_quiet _ ⟨1, rfl⟩) (fun h => h) (fun h => h))).mono ?_
    rintro e w7 ⟨rfl, T7, hS7⟩
    have T8 := ((Turn.of_quiet q5 ⟨1, rfl⟩).mono (D := fun x => x = 4) (fun _ h => h.elim)).trans T7 (fun _ h => h)
    have HK7 := Lib.hid (HK5.out.turn T8 (by decide))
    have HT7 := Lib.hid (HT5.out.trans T8 (fun x e => by subst e; unfold ChkC; omega))
    have HR7 := Lib.hid (HR5.out.turn T8 (by decide))
    have HX7 := Lib.hid (HX5.out.turn T8 (by decide))
    have HC7 := Lib.hid (fun (e : takeE kk.ins p.dst p.dport = 0) => HC6.out.tookI T8 (hS7 e))
    clear T7 T8 hS7 HK5 HT5 HR5 HX5 HC6 HSI y2 y3 y6
    obtain ⟨te, hte⟩ : ∃ x, takeE kk.ins p.dst p.dport = x := ⟨_, rfl⟩
    rw [hte] at HEC HC7 ⊢
    clear hte
    by_cases h0 : te = 0
    ·
     subst h0
     have HC8 : Hid (ChkAt w7 q5 C B X (edgeC kk p)) := Lib.hid (HC7.out rfl)
     rw [if_neg (by simp)] at HEC
     have y4 := HX7.out.cell 4 _ rfl
     by_cases h256 : 256 < p.start.length
     ·
      have h2i : (256 : Int) < p.start.length := by omega
      have e : E = 88 := by rw [← HEC.out, if_pos h256]
      subst e
      have z0 := HR7.out.cell 0 _ rfl
      have z1 := HR7.out.cell 1 _ rfl
      have z2 := HR7.out.cell 2 _ rfl
      have f0 := HR7.out.frozen 0
      have f1 := HR7.out.frozen 1
      have f2 := HR7.out.frozen 2
      go_wp2
      refine bodyPost_ret_by (results_tmp_row rfl _ _ _ _ _ _ _ rfl (spot_set HR7.out) Tryz.underlying147 rfl (by kernel_rfl)) rfl ?_
      exact ⟨⟨_, _, _, rfl⟩, _, HT7.out.late 7 (spot_mods (by have := HRE.out; omega) _ _ _), fun h => by cases h⟩
     ·
      have h2i : ¬ (256 : Int) < p.start.length := by omega
      rw [if_neg h256] at HEC
      have HE2 : Hid (edgesE (edgesC k (l.take (j + 1))) (l.drop (j + 1)) = E) := Lib.hid (by rw [HCn.out]; exact HEC.out)
      have HC9 : Hid (ChkAt w7 q5 C B X (edgesC k (l.take (j + 1)))) := Lib.hid (by rw [HCn.out]; exact HC8.out)
      have hnn := HN.out
      clear HC7 HC8 HEC
      go_wp2
      go_roundw
      case rel => exact ⟨j + 1, q5, hlt, by go_num, HK7.out, HT7.out, HR7.out, HC9.out, HE2.out⟩
      case measure => simp [intOf]; omega
    ·
     have e : E = te := by rw [← HEC.out, if_pos h0]
     subst e
     have z0 := HR7.out.cell 0 _ rfl
     have z1 := HR7.out.cell 1 _ rfl
     have z2 := HR7.out.cell 2 _ rfl
     have f0 := HR7.out.frozen 0
     have f1 := HR7.out.frozen 1
     have f2 := HR7.out.frozen 2
     go_wp2
     refine bodyPost_ret_by (results_tmp_row rfl _ _ _ _ _ _ _ rfl (spot_set HR7.out) Tryz.underlying147 rfl (by kernel_rfl)) rfl ?_
     exact ⟨⟨_, _, _, rfl⟩, _, HT7.out.late 7 (spot_mods (by have := HRE.out; omega) _ _ _), fun h => absurd h h0⟩
   ·
    have e : E = te := by rw [← HEC.out, if_pos h0]
    subst e
    have z0 := HR5.out.cell 0 _ rfl
    have z1 := HR5.out.cell 1 _ rfl
    have z2 := HR5.out.cell 2 _ rfl
    have f0 := HR5.out.frozen 0
    have f1 := HR5.out.frozen 1
    have f2 := HR5.out.frozen 2
    go_wp2
    refine bodyPost_ret_by (results_tmp_row rfl _ _ _ _ _ _ _ rfl (spot_set HR5.out) Tryz.underlying147 rfl (by kernel_rfl)) rfl ?_
    exact ⟨⟨_, _, _, rfl⟩, _, HT5.out.late 7 (spot_mods (by have := HRE.out; omega) _ _ _), fun h => absurd h h0⟩
  ·
   obtain rfl : j = l.length := by omega
   have hfin := HE.out
   rw [List.drop_length, List.take_length] at hfin
   obtain rfl : E = 0 := hfin.symm
   have hC9 := HC.out
   rw [List.take_length] at hC9
   have HC9 := Lib.hid hC9
   clear hfin hC9
   have z0 := HR.out.cell 0 _ rfl
   have z1 := HR.out.cell 1 _ rfl
   have z2 := HR.out.cell 2 _ rfl
   have f0 := HR.out.frozen 0
   have f1 := HR.out.frozen 1
   have f2 := HR.out.frozen 2
   go_wp2
   refine bodyPost_ret_by (results_tmp_row rfl _ _ _ _ _ _ _ rfl (spot_set HR.out) Tryz.underlying147 rfl (by kernel_rfl)) rfl ?_
   exact ⟨⟨_, _, _, rfl⟩, _, HT.out.late 7 (spot_mods (by have := HRE.out; omega) _ _ _), fun _ => HC9.out.spot HR.out _ _ _⟩
end Go.Proofs.YtaholpfikcdhbaaGreat

/- The checker's ports: outputs. -/
namespace Go.Proofs.YtaholpfikcdhbaaGreat
open Go.RowKit
set_option maxRecDepth 100000 in
set_option maxHeartbeats 2000000 in
theorem gports_out (w0 w : World) (o : Col) (C B : Nat) (X : ChkV) (k : Chk) (v : Value) (l : List GPort) (kd en : Int) (hv : Recs w0 3 PortR v l) (K : Kept w0.heap.size o w0 w) (hn : k.seen.length + l.length ≤ 1000000) (hs : ∀ p ∈ l, p.name.size ≤ 4611686018427387904) (h : ChkAt w o C B X k) :
  Calls Tryz.prog 81 #[.pointer (some ⟨C, 0, none⟩), v, X.vO, .int .u8 kd, .int .i64 en] w (ChkRetP w o C B X (portsE k.seen k.outs l) ⟨portsN k.seen l, k.ins, portsS k.outs l⟩) := by
 obtain ⟨ao, cap, rfl⟩ := hv.slice
 obtain ⟨E, hE⟩ : ∃ E, portsE k.seen k.outs l = E := ⟨_, rfl⟩
 rw [hE]
 have HE := Lib.hid (show portsE (portsN k.seen (l.take 0)) (portsS k.outs (l.take 0)) (l.drop 0) = E by simpa [portsN, portsS] using hE)
 have HV := Lib.hid hv
 have HN := Lib.hid hn
 have HSZ := Lib.hid hs
 have hbR := below_alloc w (.cells #[.int .u8 0, .int .i64 0, .int .i64 0] 147)
 have HT0 := Lib.hid ((Turn.of_below o 7 hbR).mono (D := ChkP) (fun _ h => h.elim))
 have HK0 := Lib.hid (K.of_below 7 hbR)
 have HC0 : Hid (ChkAt _ _ C B X ⟨portsN k.seen (l.take 0), k.ins, portsS k.outs (l.take 0)⟩) := Lib.hid (by simpa [portsN, portsS] using h.below 7 hbR)
 have HR0 := Lib.hid (spot_new w o 7)
 clear hE hv hn hs K h hbR
 go_enter Tryz.func81, Tryz.ntmps81
 go_wp2_with fail
 obtain ⟨R, hR⟩ : ∃ R, w.heap.size = R := ⟨_, rfl⟩
 have HRE := Lib.hid hR
 rw [hR] at HR0 HT0 HK0 HC0 ⊢
 clear hR
 go_loopw [18] (fun i wr => ∃ (j : Nat) (q : Col), j ≤ l.length ∧ i = .int .i64 j ∧ Kept w0.heap.size q w0 wr ∧ Turn o q ChkP w wr ∧ Blk wr q 7 R 147 #[.int .u8 0, .int .i64 0, .int .i64 0] ∧ ChkAt wr q C B X ⟨portsN k.seen (l.take j), k.ins, portsS k.outs (l.take j)⟩ ∧ portsE (portsN k.seen (l.take j)) (portsS k.outs (l.take j)) (l.drop j) = E) (fun i _ => l.length - (intOf i).toNat)
 case atStart => exact ⟨0, _, Nat.zero_le _, rfl, HK0.out, HT0.out, HR0.out, HC0.out, HE.out⟩
 case round =>
  clear HK0 HT0 HR0 HC0 HE
  obtain ⟨j, q, hj, rfl, hK, hT, hR, hC, hE⟩ := hrel
  have HK := Lib.hid hK
  have HT := Lib.hid hT
  have HR := Lib.hid hR
  have HC := Lib.hid hC
  have HE := Lib.hid hE
  clear hK hT hR hC hE
  by_cases hlt : j < l.length
  ·
   have hlti : (j : Int) < l.length := by omega
   obtain ⟨b0, off, rfl, hcap, hb0, hrec⟩ := (HV.out.below port_steady HK.out.below).at (by omega)
   obtain ⟨cs, hcs, hPR, hcl⟩ := hrec j hlt
   obtain rfl := hPR
   have c0 := hcl 0 (by omega)
   have c1 := hcl 1 (by omega)
   have c2 := hcl 2 (by omega)
   simp at c0 c1 c2
   have hcapi : (l.length : Int) ≤ cap := by omega
   clear hcl hcs hrec
   have hEc := HE.out
   rw [portsE_cons hlt] at hEc
   have HEC := Lib.hid hEc
   have HSn := Lib.hid (portsS_snoc (side := k.outs) hlt)
   have HNn := Lib.hid (portsN_snoc (seen := k.seen) hlt)
   have hpz := HSZ.out l[j] (List.getElem_mem hlt)
   generalize l[j] = p at *
   clear hEc
   rw [port_split] at HEC
   have hsl := portsN_len hj HN.out
   obtain ⟨sn, hsn⟩ : ∃ x, portsN k.seen (l.take j) = x := ⟨_, rfl⟩
   obtain ⟨sd, hsd⟩ : ∃ x, portsS k.outs (l.take j) = x := ⟨_, rfl⟩
   rw [hsn, hsd] at HEC HC
   rw [hsn] at HNn hsl
   rw [hsd] at HSn
   clear hsn hsd HE
   have hbX := below_alloc wr (.cells #[.string p.name, .int .i64 p.actor, .int .i64 p.port] 118)
   have hX : Blk (wr.alloc (.cells #[.string p.name, .int .i64 p.actor, .int .i64 p.port] 118)) (ext q wr.heap.size 8) 8 wr.heap.size 118 #[.string p.name, .int .i64 p.actor, .int .i64 p.port] := ⟨heap_alloc_new wr _, ext_new (Nat.le_refl _)⟩
   have hTX := (Turn.of_below q 8 hbX).mono (D := ChkP) (fun _ h => h.elim)
   have HK2 := Lib.hid (HK.out.of_below 8 hbX)
   have HT2 := Lib.hid (HT.out.trans hTX (fun _ h => h))
   have HR2 := Lib.hid (HR.out.turn (Turn.of_below q 8 hbX) (fun h => h))
   have HC2 := Lib.hid (HC.out.below 8 hbX)
   have HX := Lib.hid hX
   clear hbX hX hTX HK HT HR HC
   go_wp2_with fail
   refine (gname_any _ (ext q wr.heap.size 8) C B X ⟨sn, k.ins, sd⟩ p.name hpz hsl HC2.out).mono ?_
   rintro e w4 ⟨rfl, o4, T40, hC4⟩
   have T4 := T40.mono (D := ChkP) (fun x e => .inl e)
   have HK4 := Lib.hid (HK2.out.turn T4 (by unfold ChkP; omega))
   have HT4 := Lib.hid (HT2.out.trans T4 (fun _ h => h))
   have HR4 := Lib.hid (HR2.out.turn T4 (by unfold ChkP; omega))
   have HX4 := Lib.hid (HX.out.turn T4 (by unfold ChkP; omega))
   have HC4 := Lib.hid hC4
   clear T40 T4 hC4 HK2 HT2 HR2 HC2 HX
   obtain ⟨ne, hne⟩ : ∃ x, nameE sn p.name = x := ⟨_, rfl⟩
   rw [show nameE (Chk.seen ⟨sn, k.ins, sd⟩) p.name = ne from hne] at HC4 ⊢
   rw [hne] at HEC
   clear hne
   by_cases h0 : ne = 0
   ·
    subst h0
    have hC5 := HC4.out rfl
    obtain ⟨gI, hSI⟩ := hC5.outs
    have HC5 := Lib.hid hC5
    have HSI := Lib.hid hSI
    have x1 := HX4.out.cell 1 _ rfl
    have x2 := HX4.out.cell 2 _ rfl
    rw [if_neg (by simp)] at HEC
    clear hC5 hSI HC4
    go_wp2_with fail
    refine (gtake_any _ o4 5 6 X.vO sd gI p.actor p.port (by decide) HSI.out).mono ?_
    rintro e w5 ⟨rfl, T5, hS5⟩
    have HK5 := Lib.hid (HK4.out.turn T5 (by decide))
    have HT5 := Lib.hid (HT4.out.trans T5 (fun x e => by subst e; unfold ChkP; omega))
    have HR5 := Lib.hid (HR4.out.turn T5 (by decide))
    have HC6 := Lib.hid (fun (e : takeE sd p.actor p.port = 0) => HC5.out.tookO T5 (hS5 e))
    clear T5 hS5 HK4 HT4 HR4 HX4 HC5 HSI x1 x2
    obtain ⟨te, hte⟩ : ∃ x, takeE sd p.actor p.port = x := ⟨_, rfl⟩
    rw [hte] at HEC HC6 ⊢
    clear hte
    by_cases h0 : te = 0
    ·
     subst h0
     have HC7 := Lib.hid (HC6.out rfl)
     rw [if_neg (by simp)] at HEC
     have HE2 : Hid (portsE (portsN k.seen (l.take (j + 1))) (portsS k.outs (l.take (j + 1))) (l.drop (j + 1)) = E) := Lib.hid (by rw [HNn.out, HSn.out]; exact HEC.out)
     have HC8 : Hid (ChkAt w5 o4 C B X ⟨portsN k.seen (l.take (j + 1)), k.ins, portsS k.outs (l.take (j + 1))⟩) := Lib.hid (by rw [HNn.out, HSn.out]; exact HC7.out)
     have hnn := HN.out
     clear HC6 HC7 HEC
     go_wp2
     go_roundw
     case rel => exact ⟨j + 1, o4, hlt, by go_num, HK5.out, HT5.out, HR5.out, HC8.out, HE2.out⟩
     case measure => simp [intOf]; omega
    ·
     have e : E = te := by rw [← HEC.out, if_pos h0]
     subst e
     have z0 := HR5.out.cell 0 _ rfl
     have z1 := HR5.out.cell 1 _ rfl
     have z2 := HR5.out.cell 2 _ rfl
     have f0 := HR5.out.frozen 0
     have f1 := HR5.out.frozen 1
     have f2 := HR5.out.frozen 2
     go_wp2
     refine bodyPost_ret_by (results_tmp_row rfl _ _ _ _ _ _ _ rfl (spot_set HR5.out) Tryz.underlying147 rfl (by kernel_rfl)) rfl ?_
     exact ⟨⟨_, _, _, rfl⟩, _, HT5.out.late 7 (spot_mods (by have := HRE.out; omega) _ _ _), fun h => absurd h h0⟩
   ·
    have e : E = ne := by rw [← HEC.out, if_pos h0]
    subst e
    have z0 := HR4.out.cell 0 _ rfl
    have z1 := HR4.out.cell 1 _ rfl
    have z2 := HR4.out.cell 2 _ rfl
    have f0 := HR4.out.frozen 0
    have f1 := HR4.out.frozen 1
    have f2 := HR4.out.frozen 2
    go_wp2
    refine bodyPost_ret_by (results_tmp_row rfl _ _ _ _ _ _ _ rfl (spot_set HR4.out) Tryz.underlying147 rfl (by kernel_rfl)) rfl ?_
    exact ⟨⟨_, _, _, rfl⟩, _, HT4.out.late 7 (spot_mods (by have := HRE.out; omega) _ _ _), fun h => absurd h h0⟩
  ·
   obtain rfl : j = l.length := by omega
   have hfin := HE.out
   rw [List.drop_length, List.take_length] at hfin
   obtain rfl : E = 0 := hfin.symm
   have hC9 := HC.out
   rw [List.take_length, ] at hC9
   have HC9 := Lib.hid hC9
   clear hfin hC9
   have z0 := HR.out.cell 0 _ rfl
   have z1 := HR.out.cell 1 _ rfl
   have z2 := HR.out.cell 2 _ rfl
   have f0 := HR.out.frozen 0
   have f1 := HR.out.frozen 1
   have f2 := HR.out.frozen 2
   go_wp2
   refine bodyPost_ret_by (results_tmp_row rfl _ _ _ _ _ _ _ rfl (spot_set HR.out) Tryz.underlying147 rfl (by kernel_rfl)) rfl ?_
   exact ⟨⟨_, _, _, rfl⟩, _, HT.out.late 7 (spot_mods (by have := HRE.out; omega) _ _ _), fun _ => HC9.out.spot HR.out _ _ _⟩
end Go.Proofs.YtaholpfikcdhbaaGreat

/- A row more on a side of the checker. -/
namespace Go.Proofs.YtaholpfikcdhbaaGreat
open Go.RowKit
theorem info_bool : (Tryz.prog.info? 4).map (fun i => (i.zero, i.size, i.bytes)) = some (some (.bool false), 1, 1) := by kernel_rfl
theorem info_bools : (Tryz.prog.info? 217).map (fun i => (i.zero, i.size, i.bytes)) = some (some (.slice none 0 0), 1, 24) := by kernel_rfl
theorem made_bools (n : Nat) : madeCells (Value.cells (.bool false)) (n * 1) = (bvs (List.replicate n false)).toArray := by
 rw [Nat.mul_one]
 apply Array.toList_inj.1
 simp [madeCells, Value.cells, bvs, Nat.mod_one, List.map_const']
theorem make_bools (w : World) (n : Nat) (h : n ≤ 1000) : (Instr.makeSlice 217 (.int .i64 (n : Int)) (.int .i64 (n : Int))).run Tryz.prog w = .ok (.slice (some ⟨w.heap.size, 0, none⟩) n n) (w.alloc (.cells (bvs (List.replicate n false)).toArray 4)) := by
 obtain ⟨i0, hi, hz0, hz1, hz2⟩ := info_parts info_bool
 have hr := run_make (P := Tryz.prog) (w := w) 217 4 i0 _ Tryz.underlying217 hi hz0 .i64 .i64 (n : Int) (n : Int) (by omega) (Int.le_refl _) (by rw [hz2]; omega) (by omega)
 rw [hz1] at hr
 simp only [Int.toNat_natCast] at hr
 rw [hr, made_bools]
def ext2 (o : Col) (n d c : Nat) : Col := fun k => if k < n then o k else if k = n then d else c
theorem ext2_old {o : Col} {n d c k : Nat} (h : k < n) : ext2 o n d c k = o k := by simp [ext2, h]
theorem ext2_at {o : Col} {n d c : Nat} : ext2 o n d c n = d := by simp [ext2]
theorem ext2_new {o : Col} {n d c k : Nat} (h : n < k) : ext2 o n d c k = c := by simp [ext2, Nat.not_lt.2 (Nat.le_of_lt h), Nat.ne_of_gt h]
def rowsV (side : List (List Bool)) (gs : List Nat) : List Value := (List.range side.length).map fun k => .slice (some ⟨gs[k]?.getD 0, 0, none⟩) (side[k]?.getD []).length (side[k]?.getD []).length
theorem rowsV_snoc {side : List (List Bool)} {gs : List Nat} (h : gs.length = side.length) (r : List Bool) (g : Nat) : rowsV (side ++ [r]) (gs ++ [g]) = rowsV side gs ++ [.slice (some ⟨g, 0, none⟩) r.length r.length] := by
 unfold rowsV
 rw [List.length_append, List.length_singleton, List.range_succ, List.map_append]
 congr 1
 ·
  refine List.map_congr_left fun k hk => ?_
  have hk' := List.mem_range.1 hk
  rw [List.getElem?_append_left (by omega), List.getElem?_append_left hk']
 ·
  simp [← h]
theorem Side.push {w w2 : World} {o : Col} {c d : Nat} {v v' : Value} {side : List (List Bool)} {gs : List Nat} (h : Side w o c d v side gs) (hcd : c ≠ d) (n : Nat) {tmp : Obj}
  (k1 : w2.ownsRow 0 217 1 v' (side.length + 1) (rowsV side gs ++ [.slice (some ⟨w.heap.size, 0, none⟩) n n])) (k2 : ((w.alloc (.cells (bvs (List.replicate n false)).toArray 4)).alloc tmp).grownBy w2 v.ownBlock)
  (k4 : v'.ownBlock = v.ownBlock ∨ v'.ownBlock = some ((w.alloc (.cells (bvs (List.replicate n false)).toArray 4)).alloc tmp).heap.size) :
  Turn o (ext2 o w.heap.size d c) (fun x => x = c) w w2 ∧ Side w2 (ext2 o w.heap.size d c) c d v' (side ++ [List.replicate n false]) (gs ++ [w.heap.size]) := by
 have hown := fun b (hb : v.ownBlock = some b) => h.own.1.lt b hb
 have T : Turn o (ext2 o w.heap.size d c) (fun x => x = c) w w2 :=
  ⟨((((Mods.refl (fun b => v.ownBlock = some b) w).alloc _).alloc tmp).grown k2 (fun b hb _ => hb)).mono (fun b _ hb => h.own.2 b hb), fun k hk => ext2_old hk⟩
 refine ⟨T, ⟨by simp [h.len], ⟨?_, fun b hb => ?_⟩, fun k hk => ?_, fun i j hij hj => ?_⟩⟩
 ·
  have e := rowsV_snoc h.len (List.replicate n false) w.heap.size
  rw [List.length_replicate] at e
  have e2 : (side ++ [List.replicate n false]).length = side.length + 1 := by simp
  rw [e2]
  rw [← e] at k1
  unfold rowsV at k1
  rw [e2] at k1
  exact k1
 ·
  rcases k4 with k4 | k4
  ·
   rw [k4] at hb
   rw [ext2_old (hown b hb).2]
   exact h.own.2 b hb
  ·
   rw [k4] at hb
   have := Option.some.inj hb
   simp at this
   exact ext2_new (by omega)
 ·
  have hk' : k < side.length + 1 := by simpa using hk
  by_cases e : k < side.length
  ·
   rw [List.getElem?_append_left (by have := h.len; omega), List.getElem?_append_left e]
   exact (h.rows k e).turn T (fun e => hcd e.symm)
  ·
   obtain rfl : k = side.length := by omega
   have e1 : (gs ++ [w.heap.size])[side.length]?.getD 0 = w.heap.size := by rw [← h.len]; simp
   have e2 : (side ++ [List.replicate n false])[side.length]?.getD [] = List.replicate n false := by simp
   rw [e1, e2]
   exact ⟨block_grown (block_alloc (heap_alloc_new w _) tmp) k2 (fun e => by have := (hown _ e).2; omega), ext2_at⟩
 ·
  have hj' : j < side.length + 1 := by simpa using hj
  have hi : i < side.length := by omega
  have e1 : (gs ++ [w.heap.size])[i]?.getD 0 = gs[i]?.getD 0 := by rw [List.getElem?_append_left (by have := h.len; omega)]
  rw [e1]
  by_cases e : j < side.length
  ·
   rw [List.getElem?_append_left (by have := h.len; omega)]
   exact h.apart i j hij e
  ·
   obtain rfl : j = side.length := by omega
   have e2 : (gs ++ [w.heap.size])[side.length]?.getD 0 = w.heap.size := by rw [← h.len]; simp
   rw [e2]
   have := (h.rows i hi).lt
   omega
theorem ChkAt.pushI {w w2 : World} {o : Col} {C B : Nat} {X : ChkV} {k : Chk} (h : ChkAt w o C B X k) {gI : List Nat} (hs : Side w o 3 4 X.vI k.ins gI) (n : Nat) {tmp : Obj} {v' : Value}
  (k1 : w2.ownsRow 0 217 1 v' (k.ins.length + 1) (rowsV k.ins gI ++ [.slice (some ⟨w.heap.size, 0, none⟩) n n])) (k2 : ((w.alloc (.cells (bvs (List.replicate n false)).toArray 4)).alloc tmp).grownBy w2 X.vI.ownBlock)
  (k4 : v'.ownBlock = X.vI.ownBlock ∨ v'.ownBlock = some ((w.alloc (.cells (bvs (List.replicate n false)).toArray 4)).alloc tmp).heap.size) :
  (w2.cell? ⟨C, 6, none⟩ = some X.vI ∧ w2.frozen? ⟨C, 6, none⟩ = false) ∧ Turn o (ext2 o w.heap.size 4 3) ChkC w (w2.setCell ⟨C, 6, none⟩ v') ∧ ChkAt (w2.setCell ⟨C, 6, none⟩ v') (ext2 o w.heap.size 4 3) C B ⟨X.name, X.va, X.ve, X.vi, X.vo, v', X.vO⟩ ⟨k.seen, k.ins ++ [List.replicate n false], k.outs⟩ := by
 obtain ⟨D, m, gI', gO, h1, h2, h3, h4, h5, h6, h7⟩ := h.st
 obtain ⟨T, S⟩ := hs.push (by decide) n k1 k2 k4
 obtain ⟨m1, m2⟩ := map_turn h2 T (by rw [h3]; decide)
 have b1 := h1.turn T (by decide)
 have b7 := h7.turn T (by decide) (by decide)
 obtain ⟨b2, T2⟩ := b1.set 6 v'
 obtain ⟨m3, m4⟩ := map_turn m1 T2 (by rw [m2, h3]; decide)
 refine ⟨⟨b1.cell 6 _ rfl, b1.frozen 6⟩, (T.mono (fun x e => by subst e; unfold ChkC; omega)).trans T2 (fun x e => by subst e; unfold ChkC; omega), D, m, _, gO, ?_, m3, m2.trans h3, h4, h5, S.turn T2 (by decide) (by decide), b7.turn T2 (by decide) (by decide)⟩
 exact b2
theorem ChkAt.pushO {w w2 : World} {o : Col} {C B : Nat} {X : ChkV} {k : Chk} (h : ChkAt w o C B X k) {gO : List Nat} (hs : Side w o 5 6 X.vO k.outs gO) (n : Nat) {tmp : Obj} {v' : Value}
  (k1 : w2.ownsRow 0 217 1 v' (k.outs.length + 1) (rowsV k.outs gO ++ [.slice (some ⟨w.heap.size, 0, none⟩) n n])) (k2 : ((w.alloc (.cells (bvs (List.replicate n false)).toArray 4)).alloc tmp).grownBy w2 X.vO.ownBlock)
  (k4 : v'.ownBlock = X.vO.ownBlock ∨ v'.ownBlock = some ((w.alloc (.cells (bvs (List.replicate n false)).toArray 4)).alloc tmp).heap.size) :
  (w2.cell? ⟨C, 7, none⟩ = some X.vO ∧ w2.frozen? ⟨C, 7, none⟩ = false) ∧ Turn o (ext2 o w.heap.size 6 5) ChkC w (w2.setCell ⟨C, 7, none⟩ v') ∧ ChkAt (w2.setCell ⟨C, 7, none⟩ v') (ext2 o w.heap.size 6 5) C B ⟨X.name, X.va, X.ve, X.vi, X.vo, X.vI, v'⟩ ⟨k.seen, k.ins, k.outs ++ [List.replicate n false]⟩ := by
 obtain ⟨D, m, gI, gO', h1, h2, h3, h4, h5, h6, h7⟩ := h.st
 obtain ⟨T, S⟩ := hs.push (by decide) n k1 k2 k4
 obtain ⟨m1, m2⟩ := map_turn h2 T (by rw [h3]; decide)
 have b1 := h1.turn T (by decide)
 have b6 := h6.turn T (by decide) (by decide)
 obtain ⟨b2, T2⟩ := b1.set 7 v'
 obtain ⟨m3, m4⟩ := map_turn m1 T2 (by rw [m2, h3]; decide)
 refine ⟨⟨b1.cell 7 _ rfl, b1.frozen 7⟩, (T.mono (fun x e => by subst e; unfold ChkC; omega)).trans T2 (fun x e => by subst e; unfold ChkC; omega), D, m, gI, _, ?_, m3, m2.trans h3, h4, h5, b6.turn T2 (by decide) (by decide), S.turn T2 (by decide) (by decide)⟩
 exact b2
end Go.Proofs.YtaholpfikcdhbaaGreat

/- The checker's actors. -/
namespace Go.Proofs.YtaholpfikcdhbaaGreat
open Go.RowKit
def ChkRetA (w : World) (o : Col) (C B : Nat) (X : ChkV) (E : Int) (k : Chk) (e : Ending) (w' : World) : Prop := SpotRet E e ∧ ∃ o' vI vO, Turn o o' ChkC w w' ∧ (E = 0 → ChkAt w' o' C B ⟨X.name, X.va, X.ve, X.vi, X.vo, vI, vO⟩ k)
theorem actorsE_cons {c : Chk} {l : List GActor} {j : Nat} (h : j < l.length) : actorsE c (l.drop j) = if actorE c.seen l[j] ≠ 0 then actorE c.seen l[j] else actorsE (actorC c l[j]) (l.drop (j + 1)) := by
 rw [List.drop_eq_getElem_cons h, actorsE]
theorem actorsC_snoc {c : Chk} {l : List GActor} {j : Nat} (h : j < l.length) : actorsC c (l.take (j + 1)) = actorC (actorsC c (l.take j)) l[j] := by
 rw [List.take_succ_eq_append_getElem h, actorsC, List.foldl_append]; rfl
theorem actorsC_seen (l : List GActor) : ∀ c : Chk, (actorsC c l).seen = c.seen ++ l.map GActor.name := by
 induction l with
 | nil => intro c; simp [actorsC]
 | cons a r ih => intro c; rw [show actorsC c (a :: r) = actorsC (actorC c a) r from rfl, ih]; simp [actorC]
theorem actorsC_rows (l : List GActor) : ∀ c : Chk, (actorsC c l).ins.length = c.ins.length + l.length ∧ (actorsC c l).outs.length = c.outs.length + l.length := by
 induction l with
 | nil => intro c; simp [actorsC]
 | cons a r ih => intro c; rw [show actorsC c (a :: r) = actorsC (actorC c a) r from rfl, (ih _).1, (ih _).2]; simp [actorC]; omega
theorem shape_len {t : Int} {ps : List Int} (h : goodP t ps) : (insP t ps).length ≤ 16 ∧ (outsP t ps).length ≤ 16 := by
 have h1 : oneP ps 16 → (hd ps).toNat ≤ 16 := fun h => by unfold oneP at h; omega
 have h2 : pairP ps → (hd ps).toNat ≤ 16 := fun h => by unfold pairP at h; omega
 unfold goodP at h
 rcases h with ⟨rfl, h⟩ | ⟨rfl, h⟩ | ⟨rfl, h⟩ | ⟨rfl, h⟩ | ⟨rfl, h⟩ | ⟨rfl, h⟩ | ⟨rfl, h⟩ | ⟨rfl, h⟩ | ⟨rfl, h⟩ | ⟨rfl, h⟩ | ⟨rfl, h⟩ <;> simp [insP, outsP] <;> first | (have := h1 h; omega) | (have := h2 h; omega) | skip
set_option maxRecDepth 100000 in
set_option maxHeartbeats 4000000 in
theorem gactors_any (w0 w : World) (o : Col) (C B : Nat) (X : ChkV) (k : Chk) (l : List GActor) (hv : Recs w0 3 ActorR X.va l) (K : Kept w0.heap.size o w0 w) (hn : k.seen.length + l.length ≤ 1000000) (hi0 : k.ins.length + l.length ≤ 1000000) (ho0 : k.outs.length + l.length ≤ 1000000)
  (hs : ∀ p ∈ l, p.name.size ≤ 4611686018427387904 ∧ p.params.length ≤ 17600000000000) (h : ChkAt w o C B X k) :
  Calls Tryz.prog 79 #[.pointer (some ⟨C, 0, none⟩)] w (ChkRetA w o C B X (actorsE k l) (actorsC k l)) := by
 obtain ⟨i1, bi, bz0, bz1, bz2⟩ := info_parts info_bools
 obtain ⟨ao, cap, hve⟩ := hv.slice
 rw [hve] at hv
 obtain ⟨E, hE⟩ : ∃ E, actorsE k l = E := ⟨_, rfl⟩
 rw [hE]
 have HE := Lib.hid (show actorsE (actorsC k (l.take 0)) (l.drop 0) = E by simpa [actorsC] using hE)
 have HV := Lib.hid hv
 have HVE := Lib.hid hve
 have HN := Lib.hid hn
 have HI := Lib.hid hi0
 have HO := Lib.hid ho0
 have HSZ := Lib.hid hs
 have hbR := below_alloc w (.cells #[.int .u8 0, .int .i64 0, .int .i64 0] 147)
 have HT0 := Lib.hid ((Turn.of_below o 7 hbR).mono (D := ChkC) (fun _ h => h.elim))
 have HK0 := Lib.hid (K.of_below 7 hbR)
 have hC0 := h.below 7 hbR
 have q1 := hC0.cells.2.1
 rw [hve] at q1
 have HC0 : Hid (ChkAt _ _ C B X (actorsC k (l.take 0))) := Lib.hid (by simpa [actorsC] using hC0)
 have HR0 := Lib.hid (spot_new w o 7)
 clear hE hv hve hn hi0 ho0 hs K h hbR hC0
 go_enter Tryz.func79, Tryz.ntmps79
 go_wp2_with fail
 clear q1
 obtain ⟨R, hR⟩ : ∃ R, w.heap.size = R := ⟨_, rfl⟩
 have HRE := Lib.hid hR
 rw [hR] at HR0 HT0 HK0 HC0 ⊢
 clear hR
 go_loopw [15] (fun i wr => ∃ (j : Nat) (q : Col) (vI vO : Value), j ≤ l.length ∧ i = .int .i64 j ∧ Kept w0.heap.size q w0 wr ∧ Turn o q ChkC w wr ∧ Blk wr q 7 R 147 #[.int .u8 0, .int .i64 0, .int .i64 0] ∧ ChkAt wr q C B ⟨X.name, X.va, X.ve, X.vi, X.vo, vI, vO⟩ (actorsC k (l.take j)) ∧ actorsE (actorsC k (l.take j)) (l.drop j) = E) (fun i _ => l.length - (intOf i).toNat)
 case atStart => exact ⟨0, _, X.vI, X.vO, Nat.zero_le _, rfl, HK0.out, HT0.out, HR0.out, HC0.out, HE.out⟩
 case round =>
  clear HK0 HT0 HR0 HC0 HE
  obtain ⟨j, q, vI, vO, hj, rfl, hK, hT, hR, hC, hE⟩ := hrel
  have HK := Lib.hid hK
  have HT := Lib.hid hT
  have HR := Lib.hid hR
  have HC := Lib.hid hC
  have HE := Lib.hid hE
  clear hK hT hR hC hE
  by_cases hlt : j < l.length
  ·
   have hlti : (j : Int) < l.length := by omega
   obtain ⟨b0, off, rfl, hcap, hb0, hrec⟩ := HV.out.at (by omega)
   obtain ⟨cs, hcs, hPR, hcl⟩ := hrec j hlt
   obtain ⟨xs, rfl, hst⟩ := hPR
   have c0 := cell_later HK.out.below (hcl 0 (by omega))
   have c1 := cell_later HK.out.below (hcl 1 (by omega))
   have c2 := cell_later HK.out.below (hcl 2 (by omega))
   simp at c0 c1 c2
   have hcapi : (l.length : Int) ≤ cap := by omega
   have hEc := HE.out
   rw [actorsE_cons hlt] at hEc
   have HEC := Lib.hid hEc
   have HCn := Lib.hid (actorsC_snoc (c := k) hlt)
   have hpz := HSZ.out l[j] (List.getElem_mem hlt)
   have hsl : (actorsC k (l.take j)).seen.length ≤ 1000000 := by rw [actorsC_seen]; have := HN.out; simp; omega
   have hil : (actorsC k (l.take j)).ins.length ≤ 1000000 := by rw [(actorsC_rows _ _).1]; have := HI.out; simp; omega
   have hol : (actorsC k (l.take j)).outs.length ≤ 1000000 := by rw [(actorsC_rows _ _).2]; have := HO.out; simp; omega
   have hst2 : Has w0 xs (ivs l[j].params) := hst
   obtain ⟨sa, sc, hxs⟩ := Ints.slice hst2
   subst hxs
   have HST := Lib.hid hst2
   clear hcl hcs hrec hst hst2 hEc HE
   generalize l[j] = p at *
   obtain ⟨kk, hkk⟩ : ∃ x, actorsC k (l.take j) = x := ⟨_, rfl⟩
   rw [hkk] at HEC HC HCn hsl hil hol
   clear hkk
   have hbX := below_alloc wr (.cells #[.string p.name, .int .u8 p.tag, .slice sa p.params.length sc] 96)
   have hX : Blk (wr.alloc (.cells #[.string p.name, .int .u8 p.tag, .slice sa p.params.length sc] 96)) (ext q wr.heap.size 8) 8 wr.heap.size 96 #[.string p.name, .int .u8 p.tag, .slice sa p.params.length sc] := ⟨heap_alloc_new wr _, ext_new (Nat.le_refl _)⟩
   have hTX := (Turn.of_below q 8 hbX).mono (D := ChkC) (fun _ h => h.elim)
   have HK2 := Lib.hid (HK.out.of_below 8 hbX)
   have HT2 := Lib.hid (HT.out.trans hTX (fun _ h => h))
   have HR2 := Lib.hid (HR.out.turn (Turn.of_below q 8 hbX) (fun h => h))
   have HC2 := Lib.hid (HC.out.below 8 hbX)
   have HX := Lib.hid hX
   clear hbX hX hTX HK HT HR HC
   go_wp2_with fail
   refine (gname_any _ (ext q wr.heap.size 8) C B _ kk p.name hpz.1 hsl HC2.out).mono ?_
   rintro e w4 ⟨rfl, o4, T40, hC4⟩
   have T4 := T40.mono (D := ChkC) (fun x e => by subst e; unfold ChkC; omega)
   have HK4 := Lib.hid (HK2.out.turn T4 (by unfold ChkC; omega))
   have HT4 := Lib.hid (HT2.out.trans T4 (fun _ h => h))
   have HR4 := Lib.hid (HR2.out.turn T4 (by unfold ChkC; omega))
   have HX4 := Lib.hid (HX.out.turn T4 (by unfold ChkC; omega))
   have HC4 := Lib.hid hC4
   clear T40 T4 hC4 HK2 HT2 HR2 HC2 HX
   obtain ⟨ne, hne⟩ : ∃ x, nameE kk.seen p.name = x := ⟨_, rfl⟩
   rw [hne] at HC4 ⊢
   have HNE := Lib.hid hne
   clear hne
   by_cases h0 : ne = 0
   ·
    subst h0
    have HC5 := Lib.hid (HC4.out rfl)
    have x1 := HX4.out.cell 1 _ rfl
    have x2 := HX4.out.cell 2 _ rfl
    have HP4 : Hid (Has w4 (.slice sa p.params.length sc) (ivs p.params)) := Lib.hid (HST.out.below HK4.out.below)
    clear HC4
    go_wp2_with fail
    by_cases hg : goodP p.tag p.params
    ·
     have HG := Lib.hid hg
     have HSL := Lib.hid (shape_len hg)
     refine (of_ok _ p.tag sa _ sc p.params hg hpz.2 HP4.out).mono ?_
     rintro e w5 ⟨vi, vo, rfl, p1, p2, hb5⟩
     obtain ⟨a1, c1', rfl⟩ := owns_slice p1
     obtain ⟨a2, c2', rfl⟩ := owns_slice p2
     have HK5 := Lib.hid (HK4.out.of_below 9 hb5)
     have HT5 := Lib.hid (HT4.out.trans ((Turn.of_below o4 9 hb5).mono (D := ChkC) (fun _ h => h.elim)) (fun _ h => h))
     have HR5 := Lib.hid (HR4.out.turn (Turn.of_below o4 9 hb5) (fun h => h))
     have HC6 := Lib.hid (HC5.out.below 9 hb5)
     clear p1 p2 hb5 HK4 HT4 HR4 HX4 HC5 HP4 x1 x2 hg
     generalize ext o4 w4.heap.size 9 = q5 at *
     obtain ⟨n1, hn1⟩ : ∃ n, (insP p.tag p.params).length = n := ⟨_, rfl⟩
     obtain ⟨n2, hn2⟩ : ∃ n, (outsP p.tag p.params).length = n := ⟨_, rfl⟩
     have HN1 := Lib.hid hn1
     have HN2 := Lib.hid hn2
     rw [hn1, hn2] at HSL ⊢
     have hn16 := HSL.out
     clear hn1 hn2 HSL
     go_wp2_with fail
     obtain ⟨gI, hSI⟩ := HC6.out.ins
     have hown := hSI.own.1
     obtain ⟨ia, ic, hIv⟩ := hSI.own.slice
     have y6 := HC6.out.cells.2.2.2.2.2.2.1
     have hFZ := HC6.out.froz 6
     rw [hIv] at y6 hown
     have hr := make_bools (w5).drew n1 (by omega)
     have HSI := Lib.hid hSI
     have HIV := Lib.hid hIv
     have hlen := hil
     clear hSI hIv
     have y6a := ca (o := .cells (bvs (List.replicate n1 false)).toArray 4) (w := w5) y6
     refine wp_region_rest (fun w' => w'.cell? ⟨C, 6, none⟩ = some (.slice ia kk.ins.length ic)) [0, 1, 2, 3, 4, 5, 6] [7, 9] 6 (by kernel_rfl) (by kernel_rfl) rfl y6 ?_
     intro Q' hQ'
     simp only [pickOps, List.flatMap_cons, List.flatMap_nil, List.drop_succ_cons, List.drop_zero, List.take_succ_cons, List.take_zero, List.cons_append, List.nil_append, List.append_nil]
     repeat (first
      | (refine wpReads_skip (by rfl) ?_; (try simp only [Act.put, List.setIfInBounds_toArray, List.set_cons_zero, List.set_cons_succ]))
      | (refine wpReads_cons ?_ (by rfl) (by rfl) ?_ ?_; rotate_left; (intro wz hz; (try dsimp only at hz); go_simp; try with_reducible rfl); (try simp only [Act.put, List.setIfInBounds_toArray, List.set_cons_zero, List.set_cons_succ]))
      | (refine wpReads_any ?_ (by rfl) ?_ ?_; rotate_left; (intro wz; go_simp; try with_reducible rfl); (try simp only [Act.put, List.setIfInBounds_toArray, List.set_cons_zero, List.set_cons_succ])))
     refine wpReads_nil ?_
     refine wpAnyT_one (i := 7) (by kernel_rfl) ?_
     simp only [pickOps, List.flatMap_cons, List.flatMap_nil, List.drop_succ_cons, List.drop_zero, List.take_succ_cons, List.take_zero, List.append_nil]
     go_wp2
     refine ⟨by first | exact fun _ _ => y6a | exact fun _ => y6a, ?_⟩
     refine wpAnyT_one (i := 8) (by kernel_rfl) ?_
     simp only [pickOps, List.flatMap_cons, List.flatMap_nil, List.drop_succ_cons, List.drop_zero, List.take_succ_cons, List.take_zero, List.append_nil]
     go_wp2
     refine ⟨by first | exact fun _ h => ca h | exact fun _ => ca y6a, ?_⟩
     refine wpAnyT_one (i := 9) (by kernel_rfl) ?_
     simp only [pickOps, List.flatMap_cons, List.flatMap_nil, List.drop_succ_cons, List.drop_zero, List.take_succ_cons, List.take_zero, List.append_nil]
     go_wp2_with (at_builtin; refine stop_here ?_)
     refine go_on ?_
     have hown2 : (((w5).alloc (.cells (bvs (List.replicate n1 false)).toArray 4)).alloc (.cells #[.slice (some ⟨(w5).heap.size, 0, none⟩) n1 n1] 217)).ownsRow 0 217 1 (.slice ia kk.ins.length ic) kk.ins.length (rowsV kk.ins gI) := (hown.alloc _).alloc _
     refine wpList_app rfl _ _ 174 rfl 0 217 i1 _ 1 24 Tryz.underlying174 bi bz0 bz1 bz2 rfl (.slice ia kk.ins.length ic) kk.ins.length _ rfl hown2 (some ⟨(w5).heap.size + 1, 0, none⟩) 1 1 [.slice (some ⟨(w5).heap.size, 0, none⟩) n1 n1] rfl rfl (fun h => by cases h) (by simpa using news_alloc ((w5).alloc (.cells (bvs (List.replicate n1 false)).toArray 4)) [.slice (some ⟨(w5).heap.size, 0, none⟩) n1 n1] 217) (by simp [Value.oneCell']) (by unfold maxLen; omega) (grow_ok (by omega)) (Nat.zero_le _) ?_
     intro v7 w7 k1 k20 _ k4
     have k2 : (((w5).alloc (.cells (bvs (List.replicate n1 false)).toArray 4)).alloc (.cells #[.slice (some ⟨(w5).heap.size, 0, none⟩) n1 n1] 217)).grownBy w7 (Value.slice ia kk.ins.length ic).ownBlock := ⟨k20.os, k20.tape, k20.output, k20.size, k20.block⟩
     have k4' : v7.ownBlock = (Value.slice ia kk.ins.length ic).ownBlock ∨ v7.ownBlock = some (((w5).alloc (.cells (bvs (List.replicate n1 false)).toArray 4)).alloc (.cells #[.slice (some ⟨(w5).heap.size, 0, none⟩) n1 n1] 217)).heap.size := k4
     obtain ⟨s7, c7, rfl⟩ := owns_slice k1
     obtain ⟨⟨z6, zf⟩, TP, CP⟩ := HC6.out.pushI HSI.out n1 k1 (by rw [HIV.out]; exact k2) (by rw [HIV.out]; exact k4')
     rw [HIV.out] at z6
     have HK7 := Lib.hid (HK5.out.turn TP (by unfold ChkC; omega))
     have HT7 := Lib.hid (HT5.out.trans TP (fun _ h => h))
     have HR7 := Lib.hid (HR5.out.turn TP (by unfold ChkC; omega))
     have HC7 := Lib.hid CP
     clear TP CP k1 k2 k20 k4 k4' hown hown2 hr y6 y6a hFZ HK5 HT5 HR5 HC6 HSI
     refine ⟨by first | exact fun _ _ => z6 | exact fun _ => z6, ?_⟩
     refine wpAnyT_list (ks := [10, 11, 12]) (fun _ _ hx h => hx.cell h) (by kernel_rfl) ?_
     simp only [pickOps, List.flatMap_cons, List.flatMap_nil, List.drop_succ_cons, List.drop_zero, List.take_succ_cons, List.take_zero, List.cons_append, List.nil_append, List.append_nil]
     go_wp2_with fail
     clear HIV z6 zf
     generalize w7.setCell ⟨C, 6, none⟩ (.slice s7 (kk.ins.length + 1) c7) = w8 at *
     generalize ext2 q5 w5.heap.size 4 3 = q8 at *
     obtain ⟨gO, hSI⟩ := HC7.out.outs
     have hown := hSI.own.1
     obtain ⟨ia, ic, hIv⟩ := hSI.own.slice
     have y6 := HC7.out.cells.2.2.2.2.2.2.2
     have hFZ := HC7.out.froz 7
     rw [hIv] at y6 hown
     have hr := make_bools (w8).drew n2 (by omega)
     have HSI := Lib.hid hSI
     have HIV := Lib.hid hIv
     have hlen := hol
     clear hSI hIv
     have y6a := ca (o := .cells (bvs (List.replicate n2 false)).toArray 4) (w := w8) y6
     refine wp_region_rest (fun w' => w'.cell? ⟨C, 7, none⟩ = some (.slice ia kk.outs.length ic)) [0, 1, 2, 3, 4, 5, 6] [7, 9] 6 (by kernel_rfl) (by kernel_rfl) rfl y6 ?_
     intro Q' hQ'
     simp only [pickOps, List.flatMap_cons, List.flatMap_nil, List.drop_succ_cons, List.drop_zero, List.take_succ_cons, List.take_zero, List.cons_append, List.nil_append, List.append_nil]
     repeat (first
      | (refine wpReads_skip (by rfl) ?_; (try simp only [Act.put, List.setIfInBounds_toArray, List.set_cons_zero, List.set_cons_succ]))
      | (refine wpReads_cons ?_ (by rfl) (by rfl) ?_ ?_; rotate_left; (intro wz hz; (try dsimp only at hz); go_simp; try with_reducible rfl); (try simp only [Act.put, List.setIfInBounds_toArray, List.set_cons_zero, List.set_cons_succ]))
      | (refine wpReads_any ?_ (by rfl) ?_ ?_; rotate_left; (intro wz; go_simp; try with_reducible rfl); (try simp only [Act.put, List.setIfInBounds_toArray, List.set_cons_zero, List.set_cons_succ])))
     refine wpReads_nil ?_
     refine wpAnyT_one (i := 7) (by kernel_rfl) ?_
     simp only [pickOps, List.flatMap_cons, List.flatMap_nil, List.drop_succ_cons, List.drop_zero, List.take_succ_cons, List.take_zero, List.append_nil]
     go_wp2
     refine ⟨by first | exact fun _ _ => y6a | exact fun _ => y6a, ?_⟩
     refine wpAnyT_one (i := 8) (by kernel_rfl) ?_
     simp only [pickOps, List.flatMap_cons, List.flatMap_nil, List.drop_succ_cons, List.drop_zero, List.take_succ_cons, List.take_zero, List.append_nil]
     go_wp2
     refine ⟨by first | exact fun _ h => ca h | exact fun _ => ca y6a, ?_⟩
     refine wpAnyT_one (i := 9) (by kernel_rfl) ?_
     simp only [pickOps, List.flatMap_cons, List.flatMap_nil, List.drop_succ_cons, List.drop_zero, List.take_succ_cons, List.take_zero, List.append_nil]
     go_wp2_with (at_builtin; refine stop_here ?_)
     refine go_on ?_
     have hown2 : (((w8).alloc (.cells (bvs (List.replicate n2 false)).toArray 4)).alloc (.cells #[.slice (some ⟨(w8).heap.size, 0, none⟩) n2 n2] 217)).ownsRow 0 217 1 (.slice ia kk.outs.length ic) kk.outs.length (rowsV kk.outs gO) := (hown.alloc _).alloc _
     refine wpList_app rfl _ _ 174 rfl 0 217 i1 _ 1 24 Tryz.underlying174 bi bz0 bz1 bz2 rfl (.slice ia kk.outs.length ic) kk.outs.length _ rfl hown2 (some ⟨(w8).heap.size + 1, 0, none⟩) 1 1 [.slice (some ⟨(w8).heap.size, 0, none⟩) n2 n2] rfl rfl (fun h => by cases h) (by simpa using news_alloc ((w8).alloc (.cells (bvs (List.replicate n2 false)).toArray 4)) [.slice (some ⟨(w8).heap.size, 0, none⟩) n2 n2] 217) (by simp [Value.oneCell']) (by unfold maxLen; omega) (grow_ok (by omega)) (Nat.zero_le _) ?_
     intro v7 w7 k1 k20 _ k4
     have k2 : (((w8).alloc (.cells (bvs (List.replicate n2 false)).toArray 4)).alloc (.cells #[.slice (some ⟨(w8).heap.size, 0, none⟩) n2 n2] 217)).grownBy w7 (Value.slice ia kk.outs.length ic).ownBlock := ⟨k20.os, k20.tape, k20.output, k20.size, k20.block⟩
     have k4' : v7.ownBlock = (Value.slice ia kk.outs.length ic).ownBlock ∨ v7.ownBlock = some (((w8).alloc (.cells (bvs (List.replicate n2 false)).toArray 4)).alloc (.cells #[.slice (some ⟨(w8).heap.size, 0, none⟩) n2 n2] 217)).heap.size := k4
     obtain ⟨s9, c9, rfl⟩ := owns_slice k1
     obtain ⟨⟨z6, zf⟩, TP, CP⟩ := HC7.out.pushO HSI.out n2 k1 (by rw [HIV.out]; exact k2) (by rw [HIV.out]; exact k4')
     rw [HIV.out] at z6
     have HK9 := Lib.hid (HK7.out.turn TP (by unfold ChkC; omega))
     have HT9 := Lib.hid (HT7.out.trans TP (fun _ h => h))
     have HR9 := Lib.hid (HR7.out.turn TP (by unfold ChkC; omega))
     have HC9 := Lib.hid CP
     clear TP CP k1 k2 k20 k4 k4' hown hown2 hr y6 y6a hFZ HK7 HT7 HR7 HC7 HSI
     refine ⟨by first | exact fun _ _ => z6 | exact fun _ => z6, ?_⟩
     refine wpAnyT_list (ks := [10, 11, 12]) (fun _ _ hx h => hx.cell h) (by kernel_rfl) ?_
     simp only [pickOps, List.flatMap_cons, List.flatMap_nil, List.drop_succ_cons, List.drop_zero, List.take_succ_cons, List.take_zero, List.cons_append, List.nil_append, List.append_nil]
     have hEE : E = actorsE (actorC kk p) (l.drop (j + 1)) := by rw [← HEC.out, actorE, HNE.out]; simp [HG.out]
     have HEE := Lib.hid hEE
     have HAC : Hid (actorC kk p = ⟨kk.seen ++ [p.name], kk.ins ++ [List.replicate n1 false], kk.outs ++ [List.replicate n2 false]⟩) := Lib.hid (by rw [← HN1.out, ← HN2.out]; rfl)
     clear hEE
     have hnn := HN.out
     go_wp2
     go_roundw
     case rel => exact ⟨j + 1, _, _, _, hlt, by go_num, HK9.out, HT9.out, HR9.out, by rw [HCn.out, HAC.out]; exact HC9.out, by rw [HCn.out]; exact HEE.out.symm⟩
     case measure => simp [intOf]; omega
    ·
     have HG := Lib.hid hg
     refine (of_no _ p.tag sa _ sc p.params hg hpz.2 HP4.out).mono ?_
     rintro e w5 ⟨he, hb5⟩
     obtain ⟨x, hx⟩ : ∃ x, errP p.tag = x := ⟨_, rfl⟩
     obtain ⟨z, hz⟩ : ∃ z : Nat, z = 0 := ⟨_, rfl⟩
     have hz16 : z ≤ 16 := by omega
     have he' : e = .returned (.tuple #[.slice none z 0, .slice none z 0, .int .i64 x]) := by rw [he, hz, hx]
     subst he'
     clear he hz
     have HK5 := Lib.hid (HK4.out.of_below 9 hb5)
     have HT5 := Lib.hid (HT4.out.trans ((Turn.of_below o4 9 hb5).mono (D := ChkC) (fun _ h => h.elim)) (fun _ h => h))
     have HR5 := Lib.hid (HR4.out.turn (Turn.of_below o4 9 hb5) (fun h => h))
     have HC6 := Lib.hid (HC5.out.below 9 hb5)
     clear hb5 HK4 HT4 HR4 HX4 HC5 HP4 x1 x2 hg
     generalize ext o4 w4.heap.size 9 = q5 at *
     have hx0 : ¬ x = 0 := by rw [← hx]; unfold errP; split <;> decide
     have hEE : E = x := by rw [← HEC.out, actorE, HNE.out]; simp [HG.out, hx, hx0]
     subst hEE
     clear hx
     go_wp2_with fail
     obtain ⟨gI, hSI⟩ := HC6.out.ins
     have hown := hSI.own.1
     obtain ⟨ia, ic, hIv⟩ := hSI.own.slice
     have y6 := HC6.out.cells.2.2.2.2.2.2.1
     have hFZ := HC6.out.froz 6
     rw [hIv] at y6 hown
     have hr := make_bools (w5).drew z (by omega)
     have HSI := Lib.hid hSI
     have HIV := Lib.hid hIv
     have hlen := hil
     clear hSI hIv
     have y6a := ca (o := .cells (bvs (List.replicate z false)).toArray 4) (w := w5) y6
     refine wp_region_rest (fun w' => w'.cell? ⟨C, 6, none⟩ = some (.slice ia kk.ins.length ic)) [0, 1, 2, 3, 4, 5, 6] [7, 9] 6 (by kernel_rfl) (by kernel_rfl) rfl y6 ?_
     intro Q' hQ'
     simp only [pickOps, List.flatMap_cons, List.flatMap_nil, List.drop_succ_cons, List.drop_zero, List.take_succ_cons, List.take_zero, List.cons_append, List.nil_append, List.append_nil]
     repeat (first
      | (refine wpReads_skip (by rfl) ?_; (try simp only [Act.put, List.setIfInBounds_toArray, List.set_cons_zero, List.set_cons_succ]))
      | (refine wpReads_cons ?_ (by rfl) (by rfl) ?_ ?_; rotate_left; (intro wz hz; (try dsimp only at hz); go_simp; try with_reducible rfl); (try simp only [Act.put, List.setIfInBounds_toArray, List.set_cons_zero, List.set_cons_succ]))
      | (refine wpReads_any ?_ (by rfl) ?_ ?_; rotate_left; (intro wz; go_simp; try with_reducible rfl); (try simp only [Act.put, List.setIfInBounds_toArray, List.set_cons_zero, List.set_cons_succ])))
     refine wpReads_nil ?_
     refine wpAnyT_one (i := 7) (by kernel_rfl) ?_
     simp only [pickOps, List.flatMap_cons, List.flatMap_nil, List.drop_succ_cons, List.drop_zero, List.take_succ_cons, List.take_zero, List.append_nil]
     go_wp2
     refine ⟨by first | exact fun _ _ => y6a | exact fun _ => y6a, ?_⟩
     refine wpAnyT_one (i := 8) (by kernel_rfl) ?_
     simp only [pickOps, List.flatMap_cons, List.flatMap_nil, List.drop_succ_cons, List.drop_zero, List.take_succ_cons, List.take_zero, List.append_nil]
     go_wp2
     refine ⟨by first | exact fun _ h => ca h | exact fun _ => ca y6a, ?_⟩
     refine wpAnyT_one (i := 9) (by kernel_rfl) ?_
     simp only [pickOps, List.flatMap_cons, List.flatMap_nil, List.drop_succ_cons, List.drop_zero, List.take_succ_cons, List.take_zero, List.append_nil]
     go_wp2_with (at_builtin; refine stop_here ?_)
     refine go_on ?_
     have hown2 : (((w5).alloc (.cells (bvs (List.replicate z false)).toArray 4)).alloc (.cells #[.slice (some ⟨(w5).heap.size, 0, none⟩) z z] 217)).ownsRow 0 217 1 (.slice ia kk.ins.length ic) kk.ins.length (rowsV kk.ins gI) := (hown.alloc _).alloc _
     refine wpList_app rfl _ _ 174 rfl 0 217 i1 _ 1 24 Tryz.underlying174 bi bz0 bz1 bz2 rfl (.slice ia kk.ins.length ic) kk.ins.length _ rfl hown2 (some ⟨(w5).heap.size + 1, 0, none⟩) 1 1 [.slice (some ⟨(w5).heap.size, 0, none⟩) z z] rfl rfl (fun h => by cases h) (by simpa using news_alloc ((w5).alloc (.cells (bvs (List.replicate z false)).toArray 4)) [.slice (some ⟨(w5).heap.size, 0, none⟩) z z] 217) (by simp [Value.oneCell']) (by unfold maxLen; omega) (grow_ok (by omega)) (Nat.zero_le _) ?_
     intro v7 w7 k1 k20 _ k4
     have k2 : (((w5).alloc (.cells (bvs (List.replicate z false)).toArray 4)).alloc (.cells #[.slice (some ⟨(w5).heap.size, 0, none⟩) z z] 217)).grownBy w7 (Value.slice ia kk.ins.length ic).ownBlock := ⟨k20.os, k20.tape, k20.output, k20.size, k20.block⟩
     have k4' : v7.ownBlock = (Value.slice ia kk.ins.length ic).ownBlock ∨ v7.ownBlock = some (((w5).alloc (.cells (bvs (List.replicate z false)).toArray 4)).alloc (.cells #[.slice (some ⟨(w5).heap.size, 0, none⟩) z z] 217)).heap.size := k4
     obtain ⟨s7, c7, rfl⟩ := owns_slice k1
     obtain ⟨⟨z6, zf⟩, TP, CP⟩ := HC6.out.pushI HSI.out z k1 (by rw [HIV.out]; exact k2) (by rw [HIV.out]; exact k4')
     rw [HIV.out] at z6
     have HK7 := Lib.hid (HK5.out.turn TP (by unfold ChkC; omega))
     have HT7 := Lib.hid (HT5.out.trans TP (fun _ h => h))
     have HR7 := Lib.hid (HR5.out.turn TP (by unfold ChkC; omega))
     have HC7 := Lib.hid CP
     clear TP CP k1 k2 k20 k4 k4' hown hown2 hr y6 y6a hFZ HK5 HT5 HR5 HC6 HSI
     refine ⟨by first | exact fun _ _ => z6 | exact fun _ => z6, ?_⟩
     refine wpAnyT_list (ks := [10, 11, 12]) (fun _ _ hx h => hx.cell h) (by kernel_rfl) ?_
     simp only [pickOps, List.flatMap_cons, List.flatMap_nil, List.drop_succ_cons, List.drop_zero, List.take_succ_cons, List.take_zero, List.cons_append, List.nil_append, List.append_nil]
     go_wp2_with fail
     clear HIV z6 zf
     generalize w7.setCell ⟨C, 6, none⟩ (.slice s7 (kk.ins.length + 1) c7) = w8 at *
     generalize ext2 q5 w5.heap.size 4 3 = q8 at *
     obtain ⟨gO, hSI⟩ := HC7.out.outs
     have hown := hSI.own.1
     obtain ⟨ia, ic, hIv⟩ := hSI.own.slice
     have y6 := HC7.out.cells.2.2.2.2.2.2.2
     have hFZ := HC7.out.froz 7
     rw [hIv] at y6 hown
     have hr := make_bools (w8).drew z (by omega)
     have HSI := Lib.hid hSI
     have HIV := Lib.hid hIv
     have hlen := hol
     clear hSI hIv
     have y6a := ca (o := .cells (bvs (List.replicate z false)).toArray 4) (w := w8) y6
     refine wp_region_rest (fun w' => w'.cell? ⟨C, 7, none⟩ = some (.slice ia kk.outs.length ic)) [0, 1, 2, 3, 4, 5, 6] [7, 9] 6 (by kernel_rfl) (by kernel_rfl) rfl y6 ?_
     intro Q' hQ'
     simp only [pickOps, List.flatMap_cons, List.flatMap_nil, List.drop_succ_cons, List.drop_zero, List.take_succ_cons, List.take_zero, List.cons_append, List.nil_append, List.append_nil]
     repeat (first
      | (refine wpReads_skip (by rfl) ?_; (try simp only [Act.put, List.setIfInBounds_toArray, List.set_cons_zero, List.set_cons_succ]))
      | (refine wpReads_cons ?_ (by rfl) (by rfl) ?_ ?_; rotate_left; (intro wz hz; (try dsimp only at hz); go_simp; try with_reducible rfl); (try simp only [Act.put, List.setIfInBounds_toArray, List.set_cons_zero, List.set_cons_succ]))
      | (refine wpReads_any ?_ (by rfl) ?_ ?_; rotate_left; (intro wz; go_simp; try with_reducible rfl); (try simp only [Act.put, List.setIfInBounds_toArray, List.set_cons_zero, List.set_cons_succ])))
     refine wpReads_nil ?_
     refine wpAnyT_one (i := 7) (by kernel_rfl) ?_
     simp only [pickOps, List.flatMap_cons, List.flatMap_nil, List.drop_succ_cons, List.drop_zero, List.take_succ_cons, List.take_zero, List.append_nil]
     go_wp2
     refine ⟨by first | exact fun _ _ => y6a | exact fun _ => y6a, ?_⟩
     refine wpAnyT_one (i := 8) (by kernel_rfl) ?_
     simp only [pickOps, List.flatMap_cons, List.flatMap_nil, List.drop_succ_cons, List.drop_zero, List.take_succ_cons, List.take_zero, List.append_nil]
     go_wp2
     refine ⟨by first | exact fun _ h => ca h | exact fun _ => ca y6a, ?_⟩
     refine wpAnyT_one (i := 9) (by kernel_rfl) ?_
     simp only [pickOps, List.flatMap_cons, List.flatMap_nil, List.drop_succ_cons, List.drop_zero, List.take_succ_cons, List.take_zero, List.append_nil]
     go_wp2_with (at_builtin; refine stop_here ?_)
     refine go_on ?_
     have hown2 : (((w8).alloc (.cells (bvs (List.replicate z false)).toArray 4)).alloc (.cells #[.slice (some ⟨(w8).heap.size, 0, none⟩) z z] 217)).ownsRow 0 217 1 (.slice ia kk.outs.length ic) kk.outs.length (rowsV kk.outs gO) := (hown.alloc _).alloc _
     refine wpList_app rfl _ _ 174 rfl 0 217 i1 _ 1 24 Tryz.underlying174 bi bz0 bz1 bz2 rfl (.slice ia kk.outs.length ic) kk.outs.length _ rfl hown2 (some ⟨(w8).heap.size + 1, 0, none⟩) 1 1 [.slice (some ⟨(w8).heap.size, 0, none⟩) z z] rfl rfl (fun h => by cases h) (by simpa using news_alloc ((w8).alloc (.cells (bvs (List.replicate z false)).toArray 4)) [.slice (some ⟨(w8).heap.size, 0, none⟩) z z] 217) (by simp [Value.oneCell']) (by unfold maxLen; omega) (grow_ok (by omega)) (Nat.zero_le _) ?_
     intro v7 w7 k1 k20 _ k4
     have k2 : (((w8).alloc (.cells (bvs (List.replicate z false)).toArray 4)).alloc (.cells #[.slice (some ⟨(w8).heap.size, 0, none⟩) z z] 217)).grownBy w7 (Value.slice ia kk.outs.length ic).ownBlock := ⟨k20.os, k20.tape, k20.output, k20.size, k20.block⟩
     have k4' : v7.ownBlock = (Value.slice ia kk.outs.length ic).ownBlock ∨ v7.ownBlock = some (((w8).alloc (.cells (bvs (List.replicate z false)).toArray 4)).alloc (.cells #[.slice (some ⟨(w8).heap.size, 0, none⟩) z z] 217)).heap.size := k4
     obtain ⟨s9, c9, rfl⟩ := owns_slice k1
     obtain ⟨⟨z6, zf⟩, TP, CP⟩ := HC7.out.pushO HSI.out z k1 (by rw [HIV.out]; exact k2) (by rw [HIV.out]; exact k4')
     rw [HIV.out] at z6
     have HK9 := Lib.hid (HK7.out.turn TP (by unfold ChkC; omega))
     have HT9 := Lib.hid (HT7.out.trans TP (fun _ h => h))
     have HR9 := Lib.hid (HR7.out.turn TP (by unfold ChkC; omega))
     have HC9 := Lib.hid CP
     clear TP CP k1 k2 k20 k4 k4' hown hown2 hr y6 y6a hFZ HK7 HT7 HR7 HC7 HSI
     refine ⟨by first | exact fun _ _ => z6 | exact fun _ => z6, ?_⟩
     refine wpAnyT_list (ks := [10, 11, 12]) (fun _ _ hx h => hx.cell h) (by kernel_rfl) ?_
     simp only [pickOps, List.flatMap_cons, List.flatMap_nil, List.drop_succ_cons, List.drop_zero, List.take_succ_cons, List.take_zero, List.cons_append, List.nil_append, List.append_nil]
     have z0 := HR9.out.cell 0 _ rfl
     have z1 := HR9.out.cell 1 _ rfl
     have z2 := HR9.out.cell 2 _ rfl
     have f0 := HR9.out.frozen 0
     have f1 := HR9.out.frozen 1
     have f2 := HR9.out.frozen 2
     go_wp2
     refine bodyPost_ret_by (results_tmp_row rfl _ _ _ _ _ _ _ rfl (spot_set HR9.out) Tryz.underlying147 rfl (by kernel_rfl)) rfl ?_
     exact ⟨⟨_, _, _, rfl⟩, _, vI, vO, HT9.out.late 7 (spot_mods (by have := HRE.out; omega) _ _ _), fun h => absurd h hx0⟩
   ·
    have e : E = ne := by rw [← HEC.out, actorE, HNE.out, if_pos h0, if_pos h0]
    subst e
    have z0 := HR4.out.cell 0 _ rfl
    have z1 := HR4.out.cell 1 _ rfl
    have z2 := HR4.out.cell 2 _ rfl
    have f0 := HR4.out.frozen 0
    have f1 := HR4.out.frozen 1
    have f2 := HR4.out.frozen 2
    go_wp2
    refine bodyPost_ret_by (results_tmp_row rfl _ _ _ _ _ _ _ rfl (spot_set HR4.out) Tryz.underlying147 rfl (by kernel_rfl)) rfl ?_
    exact ⟨⟨_, _, _, rfl⟩, _, vI, vO, HT4.out.late 7 (spot_mods (by have := HRE.out; omega) _ _ _), fun h => absurd h h0⟩
  ·
   obtain rfl : j = l.length := by omega
   have hfin := HE.out
   rw [List.drop_length, List.take_length] at hfin
   obtain rfl : E = 0 := hfin.symm
   have hC9 := HC.out
   rw [List.take_length] at hC9
   have HC9 := Lib.hid hC9
   clear hfin hC9
   have z0 := HR.out.cell 0 _ rfl
   have z1 := HR.out.cell 1 _ rfl
   have z2 := HR.out.cell 2 _ rfl
   have f0 := HR.out.frozen 0
   have f1 := HR.out.frozen 1
   have f2 := HR.out.frozen 2
   go_wp2
   refine bodyPost_ret_by (results_tmp_row rfl _ _ _ _ _ _ _ rfl (spot_set HR.out) Tryz.underlying147 rfl (by kernel_rfl)) rfl ?_
   exact ⟨⟨_, _, _, rfl⟩, _, vI, vO, HT.out.late 7 (spot_mods (by have := HRE.out; omega) _ _ _), fun _ => HC9.out.spot HR.out _ _ _⟩
end Go.Proofs.YtaholpfikcdhbaaGreat
