/- How many tokens an edge has, plainly; blocks that nobody passes. No function in sight. -/
import Derived.Test.YtaholpfikcdhbaaGreatDynRoomZ3
import Derived.Test.YtaholpfikcdhbaaGreatDynRoomZ1
import Derived.Test.YtaholpfikcdhbaaGreatDynRoomZ2
namespace Go.Proofs.YtaholpfikcdhbaaGreat
def takenN (g : GGraph) (t : Nat) (x : TaskP) (q : Nat) : Int := rI g t q * x.whole + lenAt x.hand q
def givenN (g : GGraph) (t : Nat) (x : TaskP) (p : Nat) : Int := rO g t p * x.whole + (if x.gives then rO g t p - lenAt x.gift p else 0)
theorem rI_out {g : GGraph} {t q : Nat} (h : (ratesI g t).length ≤ q) : rI g t q = 0 := by
 unfold rI
 rw [List.getElem?_eq_none h]
 rfl
theorem rO_out {g : GGraph} {t q : Nat} (h : (ratesO g t).length ≤ q) : rO g t q = 0 := by
 unfold rO
 rw [List.getElem?_eq_none h]
 rfl
theorem mul_succ' (a : Int) (n : Nat) : a * ((n + 1 : Nat) : Int) = a * n + a := by
 rw [Int.natCast_add, Int.mul_add]
 simp
theorem finish_cnt {g : GGraph} {t : Nat} {x : TaskP} (hg : x.gives = true) (hh : ∀ q, q < (ratesI g t).length → lenAt x.hand q = rI g t q) (hl : x.hand.length = (ratesI g t).length) (h1 : ∀ p, p < x.port → lenAt x.gift p = 0) (hgl : x.gift.length = (ratesO g t).length) :
  (∀ q, takenN g t (finishP (ratesI g t).length (ratesO g t).length x) q = takenN g t x q) ∧ ∀ p, givenN g t (finishP (ratesI g t).length (ratesO g t).length x) p = givenN g t x p := by
 unfold finishP
 split
 ·
  rename_i hp
  refine ⟨fun q => ?_, fun p => ?_⟩
  ·
   show rI g t q * ((x.whole + 1 : Nat) : Int) + lenAt (List.replicate (ratesI g t).length []) q = rI g t q * x.whole + lenAt x.hand q
   rw [lenAt_rep, mul_succ']
   by_cases hq : q < (ratesI g t).length
   ·
    rw [hh q hq]; omega
   ·
    rw [rI_out (by omega), lenAt_out (by omega)]; omega
  ·
   show rO g t p * ((x.whole + 1 : Nat) : Int) + (if false = true then _ else 0) = rO g t p * x.whole + (if x.gives = true then rO g t p - lenAt x.gift p else 0)
   rw [hg, if_neg (by decide), if_pos rfl, mul_succ']
   by_cases hq : p < (ratesO g t).length
   ·
    rw [h1 p (by omega)]; omega
   ·
    rw [rO_out (by omega), lenAt_out (by omega)]; omega
 ·
  exact ⟨fun _ => rfl, fun _ => rfl⟩
theorem took_cnt {g : GGraph} {t s : Nat} {x : TaskP} {v : Int} (h : TOk g t s x) (_hgv : x.gives = false) (hp : x.port < (ratesI g t).length) :
  (∀ q, takenN g t (tookP (rI g t x.port) x v) q = takenN g t x q + if q = x.port then 1 else 0) ∧ ∀ p, givenN g t (tookP (rI g t x.port) x v) p = givenN g t x p := by
 have hh : x.port < x.hand.length := by rw [h.hlen]; exact hp
 refine ⟨fun q => ?_, fun p => rfl⟩
 show rI g t q * x.whole + lenAt (x.hand.set x.port ((x.hand[x.port]?.getD []) ++ [v])) q = rI g t q * x.whole + lenAt x.hand q + _
 rw [lenAt_set hh]
 split
 ·
  rename_i e
  subst e
  unfold lenAt
  rw [List.length_append]
  simp
  omega
 ·
  omega
theorem gave_cnt {g : GGraph} {t s : Nat} {x : TaskP} (h : TOk g t s x) (hgv : x.gives = true) :
  (∀ q, takenN g t (gaveP (ratesI g t).length (ratesO g t).length x) q = takenN g t x q) ∧ ∀ p, givenN g t (gaveP (ratesI g t).length (ratesO g t).length x) p = givenN g t x p + if p = x.port then 1 else 0 := by
 obtain ⟨g1, g2, g3, g4, g5, g6, g7⟩ := h.give hgv
 have hgl : x.port < x.gift.length := by rw [g2]; exact g1
 obtain ⟨r, hr⟩ : ∃ r, (x.gift[x.port]?.getD []) = r := ⟨_, rfl⟩
 have hrl : lenAt x.gift x.port = (r.length : Int) := by rw [← hr]; rfl
 have hl : ∀ q, lenAt (x.gift.set x.port r.tail) q = if q = x.port then (r.tail.length : Int) else lenAt x.gift q := fun q => lenAt_set hgl
 have e1 : r.tail.length = r.length - 1 := List.length_tail
 unfold gaveP
 rw [hr]
 obtain ⟨f1, f2⟩ := finish_cnt (g := g) (t := t) (x := { x with gift := x.gift.set x.port r.tail, port := if r.tail = [] then x.port + 1 else x.port }) hgv g3 h.hlen (fun p hp => by
  show lenAt (x.gift.set x.port r.tail) p = 0
  rw [hl]
  have hp : p < (if r.tail = [] then x.port + 1 else x.port) := hp
  split at hp
  ·
   rename_i e
   split
   ·
    rw [e]; rfl
   ·
    exact g4 p (by omega)
  ·
   rw [if_neg (by omega)]; exact g4 p hp) (by show (x.gift.set x.port r.tail).length = _; rw [List.length_set, g2])
 refine ⟨fun q => by rw [f1]; rfl, fun p => ?_⟩
 rw [f2]
 show rO g t p * x.whole + (if x.gives = true then rO g t p - lenAt (x.gift.set x.port r.tail) p else 0) = rO g t p * x.whole + (if x.gives = true then rO g t p - lenAt x.gift p else 0) + _
 rw [hgv, if_pos rfl, if_pos rfl, hl]
 split
 ·
  rename_i e
  rw [e, hrl]
  omega
 ·
  omega
theorem fired_cnt {g : GGraph} {t s : Nat} {x : TaskP} (hg : ActsOk g) (ht : t < g.actors.length) (h : TOk g t s x) (hgv : x.gives = false) (hp : ¬ x.port < (ratesI g t).length) (he : (shotP g t x).err = 0) :
  (∀ q, takenN g t (firedP (ratesI g t).length (ratesO g t).length x (shotP g t x)) q = takenN g t x q) ∧ ∀ p, givenN g t (firedP (ratesI g t).length (ratesO g t).length x (shotP g t x)) p = givenN g t x p := by
 obtain ⟨t1, t2, t3, t4, t5⟩ := h.take hgv
 have hpe : x.port = (ratesI g t).length := by omega
 have ha : g.actors[t]? = some g.actors[t] := List.getElem?_eq_getElem ht
 have hgood := hg.good _ (List.getElem_mem ht)
 have eO : ratesO g t = outsP g.actors[t].tag g.actors[t].params := by unfold ratesO; rw [ha]
 have eS : shotP g t x = shot g.actors[t].tag g.actors[t].params x.keep x.n x.hand := by unfold shotP; rw [ha]
 have hsh : (shotP g t x).outs.map (fun l => (l.length : Int)) = outsP g.actors[t].tag g.actors[t].params := by
  rw [eS] at he ⊢
  unfold shot at he ⊢
  split at he
  ·
   rename_i hfit
   rw [if_pos hfit]
   split at he
   ·
    rename_i outs keep' hr
    simp only
    exact reck_lens hgood hfit hr
   ·
    cases he
  ·
   cases he
 have holen : (shotP g t x).outs.length = (ratesO g t).length := by have := congrArg List.length hsh; rw [List.length_map] at this; rw [eO]; exact this
 have hol : ∀ p, lenAt (shotP g t x).outs p = rO g t p := fun p => by
  by_cases hp : p < (ratesO g t).length
  ·
   have h1 := congrArg (fun l : List Int => l[p]?.getD 0) hsh
   unfold lenAt rO
   rw [eO, ← h1, List.getElem?_map, List.getElem?_eq_getElem (by rw [holen]; exact hp)]
   rfl
  ·
   rw [lenAt_out (by omega), rO_out (by omega)]
 unfold firedP
 obtain ⟨f1, f2⟩ := finish_cnt (g := g) (t := t) (x := { x with keep := (shotP g t x).keep, n := (shotP g t x).n, gift := (shotP g t x).outs, gives := true, port := 0 }) rfl (fun q hq => t3 q (by rw [hpe]; exact hq)) h.hlen (fun p hp => absurd hp (Nat.not_lt_zero _)) holen
 refine ⟨fun q => by rw [f1]; rfl, fun p => ?_⟩
 rw [f2]
 show rO g t p * x.whole + (if true = true then rO g t p - lenAt (shotP g t x).outs p else 0) = rO g t p * x.whole + (if x.gives = true then rO g t p - lenAt x.gift p else 0)
 rw [hol, hgv, if_pos rfl, if_neg (by decide)]
 omega
structure Wired (g : GGraph) : Prop where
 ends : ∀ k (h : k < g.edges.length), ∃ u p v q : Nat, g.edges[k].src = u ∧ g.edges[k].sport = p ∧ g.edges[k].dst = v ∧ g.edges[k].dport = q ∧ u < g.actors.length ∧ v < g.actors.length ∧ p < (ratesO g u).length ∧ q < (ratesI g v).length ∧ toP g u p = k ∧ fromP g v q = k
def edgeAt (g : GGraph) (k : Nat) : GEdge := g.edges[k]?.getD ⟨0, 0, 0, 0, []⟩
def Cnt (g : GGraph) (caps : List Int) (r : RigP) : Prop := ∀ k, k < g.edges.length →
 ((r.strs k).length : Int) = (edgeAt g k).start.length + givenN g (edgeAt g k).src.toNat (r.tasks (edgeAt g k).src.toNat) (edgeAt g k).sport.toNat - takenN g (edgeAt g k).dst.toNat (r.tasks (edgeAt g k).dst.toNat) (edgeAt g k).dport.toNat ∧
 (((r.strs k).length : Int) ≤ caps[k]?.getD 0 ∨ ((r.strs k).length : Int) ≤ (edgeAt g k).start.length)
theorem to_edge {g : GGraph} {t p k : Nat} (hk : k < g.edges.length) (h : toP g t p = k) : (edgeAt g k).src = t ∧ (edgeAt g k).sport = p := by
 unfold toP at h
 cases h1 : g.edges.findIdx? (fun e => decide (e.src = (t : Int)) && decide (e.sport = (p : Int))) with
 | some i =>
  rw [h1] at h
  simp only at h
  subst h
  obtain ⟨hi, hp, _⟩ := List.findIdx?_eq_some_iff_getElem.1 h1
  simp at hp
  unfold edgeAt
  rw [List.getElem?_eq_getElem hi]
  exact hp
 | none =>
  rw [h1] at h
  cases h2 : g.outs.findIdx? (fun e => decide (e.actor = (t : Int)) && decide (e.port = (p : Int))) with
  | some i => rw [h2] at h; simp only at h; omega
  | none => rw [h2] at h; simp only at h; omega
theorem from_edge {g : GGraph} {t p k : Nat} (hk : k < g.edges.length) (h : fromP g t p = k) : (edgeAt g k).dst = t ∧ (edgeAt g k).dport = p := by
 unfold fromP at h
 cases h1 : g.edges.findIdx? (fun e => decide (e.dst = (t : Int)) && decide (e.dport = (p : Int))) with
 | some i =>
  rw [h1] at h
  simp only at h
  subst h
  obtain ⟨hi, hp, _⟩ := List.findIdx?_eq_some_iff_getElem.1 h1
  simp at hp
  unfold edgeAt
  rw [List.getElem?_eq_getElem hi]
  exact hp
 | none =>
  rw [h1] at h
  cases h2 : g.ins.findIdx? (fun e => decide (e.actor = (t : Int)) && decide (e.port = (p : Int))) with
  | some i => rw [h2] at h; simp only at h; omega
  | none => rw [h2] at h; simp only at h; omega
theorem Cnt.step {g : GGraph} {caps : List Int} {s t : Nat} {r r1 : RigP} (hg : ActsOk g) (hw : Wired g) (hcl : caps.length = g.edges.length) (hR : ROk g s r) (h : Cnt g caps r) (hs : stepP g caps r t = .goes r1) : Cnt g caps r1 := by
 obtain ⟨ht, kd⟩ := step_kind.1 hs
 have hT := hR.task t ht
 intro k hk
 obtain ⟨u, p, v, q, e1, e2, e3, e4, hu, hv, hp, hq, w1, w2⟩ := hw.ends k hk
 have hE : edgeAt g k = g.edges[k] := by unfold edgeAt; rw [List.getElem?_eq_getElem hk]; rfl
 obtain ⟨h1, h2⟩ := h k hk
 rw [hE, e1, e2, e3, e4] at h1
 rw [hE] at h2
 rw [hE, e1, e2, e3, e4]
 simp only [Int.toNat_natCast] at h1 ⊢
 -- a task's turn
 have gv : ∀ (x : TaskP), (∀ p', givenN g t x p' = givenN g t (r.tasks t) p') → givenN g u (upd r.tasks t x u) p = givenN g u (r.tasks u) p := fun x hx => by
  by_cases e : u = t
  ·
   subst e; rw [upd_same, hx]
  ·
   rw [upd_other e]
 have tk : ∀ (x : TaskP), (∀ q', takenN g t x q' = takenN g t (r.tasks t) q') → takenN g v (upd r.tasks t x v) q = takenN g v (r.tasks v) q := fun x hx => by
  by_cases e : v = t
  ·
   subst e; rw [upd_same, hx]
  ·
   rw [upd_other e]
 cases kd with
 | give x hgv hf hx =>
  subst hx
  obtain ⟨c1, c2⟩ := gave_cnt hT hgv
  simp only
  rw [tk _ c1]
  by_cases hd : toP g t (r.tasks t).port = k
  ·
   obtain ⟨f1, f2⟩ := to_edge hk hd
   rw [hE, e1] at f1
   rw [hE, e2] at f2
   obtain rfl : u = t := by omega
   obtain rfl : p = (r.tasks u).port := by omega
   rw [hd, upd_same, upd_same, c2, if_pos rfl, List.length_append]
   refine ⟨by simp; omega, ?_⟩
   unfold fullP at hf
   rw [hd] at hf
   left
   rw [List.getElem?_eq_getElem (by omega)] at hf ⊢
   simp at hf ⊢
   omega
  ·
   rw [upd_other (Ne.symm hd)]
   have : givenN g u (upd r.tasks t (gaveP (ratesI g t).length (ratesO g t).length (r.tasks t)) u) p = givenN g u (r.tasks u) p := by
    by_cases e : u = t
    ·
     subst e
     rw [upd_same, c2, if_neg (fun e => hd (by rw [← e]; exact w1))]
     omega
    ·
     rw [upd_other e]
   rw [this]
   exact ⟨h1, h2⟩
 | take x v' l hgv hpo hvv hx =>
  subst hx
  obtain ⟨c1, c2⟩ := took_cnt (v := v') hT hgv hpo
  rw [show (ratesI g t)[(r.tasks t).port]?.getD 0 = rI g t (r.tasks t).port from rfl]
  simp only
  rw [gv _ c2]
  by_cases hd : fromP g t (r.tasks t).port = k
  ·
   obtain ⟨f1, f2⟩ := from_edge hk hd
   rw [hE, e3] at f1
   rw [hE, e4] at f2
   obtain rfl : v = t := by omega
   obtain rfl : q = (r.tasks v).port := by omega
   rw [hd] at hvv
   rw [hvv] at h1 h2
   rw [hd, upd_same, upd_same]
   rw [c1, if_pos rfl]
   simp at h1 h2 ⊢
   refine ⟨by omega, ?_⟩
   rcases h2 with h2 | h2
   ·
    left; omega
   ·
    right; omega
  ·
   rw [upd_other (Ne.symm hd)]
   have : takenN g v (upd r.tasks t (tookP (rI g t (r.tasks t).port) (r.tasks t) v') v) q = takenN g v (r.tasks v) q := by
    by_cases e : v = t
    ·
     subst e
     rw [upd_same, c1, if_neg (fun e => hd (by rw [← e]; exact w2))]
     omega
    ·
     rw [upd_other e]
   rw [this]
   exact ⟨h1, h2⟩
 | fire x hgv hpo he hx =>
  subst hx
  obtain ⟨c1, c2⟩ := fired_cnt hg ht hT hgv hpo he
  simp only
  rw [gv _ c2, tk _ c1]
  exact ⟨h1, h2⟩
end Go.Proofs.YtaholpfikcdhbaaGreat

/- What a sound graph has, plainly: each port has its one stream. No function in sight. -/
namespace Go.Proofs.YtaholpfikcdhbaaGreat
theorem errP_nz (t : Int) : errP t ≠ 0 := by rcases errP_some' t with h | h <;> rw [h] <;> decide
 where errP_some' (t : Int) : errP t = 60 ∨ errP t = 61 := by unfold errP; split <;> simp
theorem actorsR_good {g : GGraph} : ∀ (l : List GActor) (i : Nat), actorsR g i l = 0 → ∀ a ∈ l, goodP a.tag a.params
 | [], _, _, _, h => by cases h
 | x :: r, i, h, a, ha => by
  rw [actorsR] at h
  split at h
  ·
   rename_i hne; exact absurd h hne
  ·
   rename_i hne
   rcases List.mem_cons.1 ha with rfl | ha
   ·
    unfold actorR at hne
    split at hne
    ·
     rename_i h1; exact absurd h1 hne
    ·
     split at hne
     ·
      rename_i h2; exact h2
     ·
      exact absurd (errP_nz a.tag) hne
   ·
    exact actorsR_good r (i + 1) h a ha
theorem edgesR_at {g : GGraph} : ∀ (l : List GEdge) (i : Nat), edgesR g i l = 0 → ∀ k (h : k < l.length), edgeR g (i + k) l[k] = 0
 | [], _, _, k, h => by simp at h
 | x :: r, i, h, k, hk => by
  rw [edgesR] at h
  split at h
  ·
   rename_i hne; exact absurd h hne
  ·
   rename_i hne
   cases k with
   | zero => show edgeR g i x = 0; omega
   | succ k =>
    have := edgesR_at r (i + 1) h k (by simpa using hk)
    rw [show i + 1 + k = i + (k + 1) by omega] at this
    exact this
theorem insR_at {g : GGraph} : ∀ (l : List GPort) (i : Nat), insR g i l = 0 → ∀ k (h : k < l.length), inR g (i + k) l[k] = 0
 | [], _, _, k, h => by simp at h
 | x :: r, i, h, k, hk => by
  rw [insR] at h
  split at h
  ·
   rename_i hne; exact absurd h hne
  ·
   rename_i hne
   cases k with
   | zero => show inR g i x = 0; omega
   | succ k =>
    have := insR_at r (i + 1) h k (by simpa using hk)
    rw [show i + 1 + k = i + (k + 1) by omega] at this
    exact this
theorem outsR_at {g : GGraph} : ∀ (l : List GPort) (i : Nat), outsR g i l = 0 → ∀ k (h : k < l.length), outR g (i + k) l[k] = 0
 | [], _, _, k, h => by simp at h
 | x :: r, i, h, k, hk => by
  rw [outsR] at h
  split at h
  ·
   rename_i hne; exact absurd h hne
  ·
   rename_i hne
   cases k with
   | zero => show outR g i x = 0; omega
   | succ k =>
    have := outsR_at r (i + 1) h k (by simpa using hk)
    rw [show i + 1 + k = i + (k + 1) by omega] at this
    exact this
theorem endR_ok {g : GGraph} {L : Nat → List Int} {a p : Int} {b : Bool} (h : endR g L a p b = 0) : (0 ≤ a ∧ a < g.actors.length) ∧ (0 ≤ p ∧ p < (L a.toNat).length) ∧ b = false := by
 unfold endR at h
 split at h
 ·
  cases h
 split at h
 ·
  cases h
 split at h
 ·
  cases h
 ·
  rename_i h1 h2 h3
  exact ⟨by omega, by omega, by simpa using h3⟩
structure Sound (g : GGraph) : Prop where
 head : headE g = 0
 good : ∀ a ∈ g.actors, goodP a.tag a.params
 edge : ∀ k (h : k < g.edges.length), (0 ≤ g.edges[k].src ∧ g.edges[k].src < g.actors.length) ∧ (0 ≤ g.edges[k].sport ∧ g.edges[k].sport < (ratesO g g.edges[k].src.toNat).length) ∧ outT g k 0 g.edges[k].src g.edges[k].sport = false ∧
  (0 ≤ g.edges[k].dst ∧ g.edges[k].dst < g.actors.length) ∧ (0 ≤ g.edges[k].dport ∧ g.edges[k].dport < (ratesI g g.edges[k].dst.toNat).length) ∧ inT g k 0 g.edges[k].dst g.edges[k].dport = false ∧ g.edges[k].start.length ≤ 256
 ins : ∀ k (h : k < g.ins.length), (0 ≤ g.ins[k].actor ∧ g.ins[k].actor < g.actors.length) ∧ (0 ≤ g.ins[k].port ∧ g.ins[k].port < (ratesI g g.ins[k].actor.toNat).length) ∧ inT g g.edges.length k g.ins[k].actor g.ins[k].port = false
 outs : ∀ k (h : k < g.outs.length), (0 ≤ g.outs[k].actor ∧ g.outs[k].actor < g.actors.length) ∧ (0 ≤ g.outs[k].port ∧ g.outs[k].port < (ratesO g g.outs[k].actor.toNat).length) ∧ outT g g.edges.length k g.outs[k].actor g.outs[k].port = false
 allI : ∀ t q, t < g.actors.length → q < (ratesI g t).length → inT g g.edges.length g.ins.length t q = true
 allO : ∀ t q, t < g.actors.length → q < (ratesO g t).length → outT g g.edges.length g.outs.length t q = true
theorem sound_of {g : GGraph} (h : checkE g = 0) : Sound g := by
 rw [← ref_graph] at h
 unfold refE at h
 split at h
 ·
  rename_i h1; exact absurd h h1
 rename_i h1
 split at h
 ·
  rename_i h2; exact absurd h h2
 rename_i h2
 split at h
 ·
  rename_i h3; exact absurd h h3
 rename_i h3
 split at h
 ·
  rename_i h4; exact absurd h h4
 rename_i h4
 split at h
 ·
  rename_i h5; exact absurd h h5
 rename_i h5
 have q2 : actorsR g 0 g.actors = 0 := by omega
 have q3 : edgesR g 0 g.edges = 0 := by omega
 have q4 : insR g 0 g.ins = 0 := by omega
 have q5 : outsR g 0 g.outs = 0 := by omega
 refine ⟨by omega, actorsR_good _ 0 q2, fun k hk => ?_, fun k hk => ?_, fun k hk => ?_, fun t q ht hq => ?_, fun t q ht hq => ?_⟩
 ·
  have e := edgesR_at g.edges 0 q3 k hk
  rw [Nat.zero_add] at e
  unfold edgeR at e
  split at e
  ·
   rename_i e1; exact absurd e e1
  split at e
  ·
   rename_i e1; exact absurd e e1
  split at e
  ·
   cases e
  rename_i e1 e2 e3
  obtain ⟨a1, a2, a3⟩ := endR_ok (show endR g (ratesO g) g.edges[k].src g.edges[k].sport (outT g k 0 g.edges[k].src g.edges[k].sport) = 0 by omega)
  obtain ⟨b1, b2, b3⟩ := endR_ok (show endR g (ratesI g) g.edges[k].dst g.edges[k].dport (inT g k 0 g.edges[k].dst g.edges[k].dport) = 0 by omega)
  exact ⟨a1, a2, a3, b1, b2, b3, by omega⟩
 ·
  have e := insR_at g.ins 0 q4 k hk
  rw [Nat.zero_add] at e
  unfold inR at e
  split at e
  ·
   rename_i e1; exact absurd e e1
  ·
   exact endR_ok e
 ·
  have e := outsR_at g.outs 0 q5 k hk
  rw [Nat.zero_add] at e
  unfold outR at e
  split at e
  ·
   rename_i e1; exact absurd e e1
  ·
   exact endR_ok e
 all_goals
  unfold openR at h
  split at h
  ·
   cases h
  rename_i h6
  rw [List.any_eq_true] at h6
  have h7 : openR1 g t = false := by
   cases e : openR1 g t with
   | false => rfl
   | true => exact absurd ⟨t, List.mem_range.2 ht, e⟩ h6
  unfold openR1 at h7
  rw [Bool.or_eq_false_iff, List.any_eq_false, List.any_eq_false] at h7
 ·
  have := h7.1 q (List.mem_range.2 hq)
  simpa using this
 ·
  have := h7.2 q (List.mem_range.2 hq)
  simpa using this
theorem findIdx_first {α : Type} {l : List α} {p : α → Bool} {k : Nat} (hk : k < l.length) (h : p l[k] = true) (hf : (l.take k).any p = false) : l.findIdx? p = some k := by
 rw [List.findIdx?_eq_some_iff_getElem]
 refine ⟨hk, h, fun j hj => ?_⟩
 rw [List.any_eq_false] at hf
 have hjl : j < l.length := by omega
 exact hf l[j] (List.mem_take_iff_getElem.2 ⟨j, by omega, rfl⟩)
theorem Sound.to_edge {g : GGraph} (h : Sound g) {k : Nat} (hk : k < g.edges.length) : toP g g.edges[k].src.toNat g.edges[k].sport.toNat = k := by
 obtain ⟨a1, a2, a3, _⟩ := h.edge k hk
 unfold toP
 rw [findIdx_first (k := k) hk (by simp; omega) ?_]
 unfold outT at a3
 simp only [List.take_zero, List.any_nil, Bool.or_false] at a3
 rw [Int.toNat_of_nonneg a1.1, Int.toNat_of_nonneg a2.1]
 exact a3
theorem Sound.from_edge {g : GGraph} (h : Sound g) {k : Nat} (hk : k < g.edges.length) : fromP g g.edges[k].dst.toNat g.edges[k].dport.toNat = k := by
 obtain ⟨_, _, _, a1, a2, a3, _⟩ := h.edge k hk
 unfold fromP
 rw [findIdx_first (k := k) hk (by simp; omega) ?_]
 unfold inT at a3
 simp only [List.take_zero, List.any_nil, Bool.or_false] at a3
 rw [Int.toNat_of_nonneg a1.1, Int.toNat_of_nonneg a2.1]
 exact a3
theorem Sound.wired {g : GGraph} (h : Sound g) : Wired g := ⟨fun k hk => by
 obtain ⟨a1, a2, _, b1, b2, _, _⟩ := h.edge k hk
 exact ⟨_, _, _, _, (Int.toNat_of_nonneg a1.1).symm, (Int.toNat_of_nonneg a2.1).symm, (Int.toNat_of_nonneg b1.1).symm, (Int.toNat_of_nonneg b2.1).symm, by omega, by omega, by omega, by omega, h.to_edge hk, h.from_edge hk⟩⟩
theorem Sound.from_in {g : GGraph} (h : Sound g) {k : Nat} (hk : k < g.ins.length) : fromP g g.ins[k].actor.toNat g.ins[k].port.toNat = g.edges.length + k := by
 obtain ⟨a1, a2, a3⟩ := h.ins k hk
 unfold inT at a3
 rw [Bool.or_eq_false_iff, List.take_length] at a3
 unfold fromP
 rw [Int.toNat_of_nonneg a1.1, Int.toNat_of_nonneg a2.1]
 have e : g.edges.findIdx? (fun e => decide (e.dst = g.ins[k].actor) && decide (e.dport = g.ins[k].port)) = none := by
  rw [List.findIdx?_eq_none_iff]
  intro x hx
  have := List.any_eq_false.1 a3.1 x hx
  simpa using this
 rw [e]
 simp only
 rw [findIdx_first (k := k) hk (by simp) a3.2]
theorem Sound.to_out {g : GGraph} (h : Sound g) {k : Nat} (hk : k < g.outs.length) : toP g g.outs[k].actor.toNat g.outs[k].port.toNat = g.edges.length + g.ins.length + k := by
 obtain ⟨a1, a2, a3⟩ := h.outs k hk
 unfold outT at a3
 rw [Bool.or_eq_false_iff, List.take_length] at a3
 unfold toP
 rw [Int.toNat_of_nonneg a1.1, Int.toNat_of_nonneg a2.1]
 have e : g.edges.findIdx? (fun e => decide (e.src = g.outs[k].actor) && decide (e.sport = g.outs[k].port)) = none := by
  rw [List.findIdx?_eq_none_iff]
  intro x hx
  have := List.any_eq_false.1 a3.1 x hx
  simpa using this
 rw [e]
 simp only
 rw [findIdx_first (k := k) hk (by simp) a3.2]
theorem Sound.from_lt {g : GGraph} (h : Sound g) {t q : Nat} (ht : t < g.actors.length) (hq : q < (ratesI g t).length) : fromP g t q < g.edges.length + g.ins.length := by
 have hI := h.allI t q ht hq
 unfold inT at hI
 rw [List.take_length, List.take_length] at hI
 unfold fromP
 cases h1 : g.edges.findIdx? (fun e => decide (e.dst = (t : Int)) && decide (e.dport = (q : Int))) with
 | some i =>
  obtain ⟨hi, _⟩ := List.findIdx?_eq_some_iff_getElem.1 h1
  simp only
  omega
 | none =>
  cases h2 : g.ins.findIdx? (fun e => decide (e.actor = (t : Int)) && decide (e.port = (q : Int))) with
  | some i =>
   obtain ⟨hi, _⟩ := List.findIdx?_eq_some_iff_getElem.1 h2
   simp only
   omega
  | none =>
   rw [List.findIdx?_eq_none_iff] at h1 h2
   rw [Bool.or_eq_true, List.any_eq_true, List.any_eq_true] at hI
   rcases hI with ⟨x, hx, hp⟩ | ⟨x, hx, hp⟩
   ·
    rw [h1 x hx] at hp; cases hp
   ·
    rw [h2 x hx] at hp; cases hp
theorem Sound.to_lt {g : GGraph} (h : Sound g) {t q : Nat} (ht : t < g.actors.length) (hq : q < (ratesO g t).length) : toP g t q < g.edges.length ∨ (g.edges.length + g.ins.length ≤ toP g t q ∧ toP g t q < g.edges.length + g.ins.length + g.outs.length) := by
 have hI := h.allO t q ht hq
 unfold outT at hI
 rw [List.take_length, List.take_length] at hI
 unfold toP
 cases h1 : g.edges.findIdx? (fun e => decide (e.src = (t : Int)) && decide (e.sport = (q : Int))) with
 | some i =>
  obtain ⟨hi, _⟩ := List.findIdx?_eq_some_iff_getElem.1 h1
  simp only
  omega
 | none =>
  cases h2 : g.outs.findIdx? (fun e => decide (e.actor = (t : Int)) && decide (e.port = (q : Int))) with
  | some i =>
   obtain ⟨hi, _⟩ := List.findIdx?_eq_some_iff_getElem.1 h2
   simp only
   omega
  | none =>
   rw [List.findIdx?_eq_none_iff] at h1 h2
   rw [Bool.or_eq_true, List.any_eq_true, List.any_eq_true] at hI
   rcases hI with ⟨x, hx, hp⟩ | ⟨x, hx, hp⟩
   ·
    rw [h1 x hx] at hp; cases hp
   ·
    rw [h2 x hx] at hp; cases hp
end Go.Proofs.YtaholpfikcdhbaaGreat

/- A queue of ints: what each call makes of it. -/
namespace Go.Proofs.YtaholpfikcdhbaaGreat
open Go.RowKit
set_option maxRecDepth 100000 in
set_option maxHeartbeats 1000000 in
theorem ilen_any (w : World) (b : Nat) (sa : Option Addr) (n cap : Nat) (g : Nat) (hg : g ≤ n) (hn : n ≤ maxLen)
  (h1 : w.cell? ⟨b, 1, none⟩ = some (.slice sa n cap))
  (h2 : w.cell? ⟨b, 2, none⟩ = some (.int .i64 g)) :
  Calls Tryz.prog 61 #[.pointer (some ⟨b, 0, none⟩)] w fun e w' => e = .returned (.int .i64 ((n : Int) - g)) ∧ ∃ m, w' = w.drewN m := by
 unfold maxLen at hn
 go_enter Tryz.func61, Tryz.ntmps61
 go_wp2
 go_quiet (fail)
 go_wp2
 go_ret
 exact ⟨rfl, _, rfl⟩
set_option maxRecDepth 100000 in
set_option maxHeartbeats 1000000 in
theorem iroom_any (w : World) (b : Nat) (C : Int) (sa : Option Addr) (n cap : Nat) (g : Nat) (hg : g ≤ n) (hn : n ≤ maxLen)
  (hC : 0 ≤ C) (hC' : C ≤ 9223372036854775807)
  (h0 : w.cell? ⟨b, 0, none⟩ = some (.int .i64 C))
  (h1 : w.cell? ⟨b, 1, none⟩ = some (.slice sa n cap))
  (h2 : w.cell? ⟨b, 2, none⟩ = some (.int .i64 g)) :
  Calls Tryz.prog 95 #[.pointer (some ⟨b, 0, none⟩)] w fun e w' => e = .returned (.int .i64 (max 0 (C - ((n : Int) - g)))) ∧ ∃ m, w' = w.drewN m := by
 unfold maxLen at hn
 go_enter Tryz.func95, Tryz.ntmps95
 go_wp2
 go_quiet ((go_at_call 61; go_must (exact Calls.quiet_of (ilen_any _ _ _ _ _ _ hg hn h1 h2))))
 go_wp2
 all_goals
  go_ret
  exact ⟨ret_int (by show _ = max _ _; omega), _, rfl⟩
theorem infoq3 : (Tryz.prog.info? 3).map (fun i => (i.zero, i.size, i.bytes)) = some (some (.int .i64 0), 1, 8) := by kernel_rfl
set_option maxRecDepth 100000 in
set_option maxHeartbeats 1000000 in
theorem iput_yes (w : World) (b : Nat) (C X : Int) (v : Value) (n : Nat) (xs : List Value) (g : Nat) (hg : g ≤ n) (hn : n < 27000000000000) (base : Nat) (hb : base ≤ w.heap.size)
  (hC : 0 ≤ C) (hC' : C ≤ 9223372036854775807) (hroom : (n : Int) - g < C)
  (hQ : w.heap[b]? = some (.cells #[.int .i64 C, v, .int .i64 g] 158 (0, 0)))
  (hown : w.ownsRow base 3 1 v n xs) (hvb : v.ownBlock ≠ some b) :
  Calls Tryz.prog 74 #[.pointer (some ⟨b, 0, none⟩), .int .i64 X] w fun e w' => e = .returned (.bool true) ∧ Mods (fun k => k = b ∨ v.ownBlock = some k) w w' ∧
   ∃ v', w'.heap[b]? = some (.cells #[.int .i64 C, v', .int .i64 g] 158 (0, 0)) ∧ w'.ownsRow base 3 1 v' (n + 1) (xs ++ [.int .i64 X]) ∧ (v'.ownBlock = v.ownBlock ∨ ∃ k, v'.ownBlock = some k ∧ w.heap.size ≤ k) := by
 obtain ⟨sa, cap, rfl⟩ := owns_slice hown
 obtain ⟨i0, hi, hz0, hz1, hz2⟩ := info_parts infoq3
 have h0 := cells_row w b hQ 0 (.int .i64 C) rfl
 have h1 := cells_row w b hQ 1 (.slice sa n cap) rfl
 have h2 := cells_row w b hQ 2 (.int .i64 g) rfl
 have hbw := block_lt hQ
 go_enter Tryz.func74, Tryz.ntmps74
 go_wp2_with fail
 refine (iroom_any _ b C sa n cap g hg (by unfold maxLen; omega) hC hC' h0 h1 h2).mono ?_
 rintro e w' ⟨rfl, m, rfl⟩
 have Hn := Lib.hid hn
 clear hn
 go_wp2_with (at_builtin; refine stop_here ?_)
 refine go_on ?_
 refine wpList_app rfl _ _ 27 rfl base 3 i0 _ 1 8 Tryz.underlying27 hi hz0 hz1 hz2 rfl (.slice sa n cap) n xs rfl (hown.alloc (.cells #[.int .i64 X] 3)) (some ⟨w.heap.size, 0, none⟩) 1 1 [.int .i64 X] rfl rfl (fun h => by cases h) (news_alloc w [.int .i64 X] 3) (by simp [Value.oneCell']) (by have := Hn.out; unfold maxLen; omega) (grow_ok (by have := Hn.out; omega)) (size_le_alloc hb _) ?_
 intro v' w2 g1 g20 _ g4
 obtain ⟨sa', cap', rfl⟩ := owns_slice g1
 have g2 : (w.alloc (.cells #[.int .i64 X] 3)).grownBy w2 (Value.slice sa n cap).ownBlock := ⟨g20.os, g20.tape, g20.output, g20.size, g20.block⟩
 clear g20
 have hQ3 := block_grown (block_alloc hQ (.cells #[.int .i64 X] 3)) g2 hvb
 have c4 := cells_row w2 b hQ3 1 (.slice sa n cap) rfl
 have f4 := frozen_of_block hQ3 1
 go_wp2
 have hm2 : Mods (fun k => k = b ∨ (Value.slice sa n cap).ownBlock = some k) w w2 := ((Mods.refl _ _).alloc (.cells #[.int .i64 X] 3)).grown g2 (fun k hk _ => .inr hk)
 go_ret
 refine ⟨rfl, hm2.setCell (fun _ => .inl rfl) _, _, ?_, ownsRow_setCell_other g1 ?_ _, ?_⟩
 ·
  exact block_setCell hQ3 1 _
 ·
  rcases g4 with g4 | g4
  ·
   rw [g4]; exact hvb
  ·
   rw [g4]; intro h; have := Option.some.inj h; simp at this; omega
 ·
  rcases g4 with g4 | g4
  ·
   exact .inl g4
  ·
   exact .inr ⟨_, g4, by simp⟩
set_option maxRecDepth 100000 in
set_option maxHeartbeats 1000000 in
theorem itake_a (w : World) (b : Nat) (C X : Int) (v : Value) (n g : Nat) (xs : List Value) (base : Nat) (hn : n ≤ 27000000000000) (hg : g < n) (hg2 : g < 32)
  (hQ : w.heap[b]? = some (.cells #[.int .i64 C, v, .int .i64 g] 158 (0, 0)))
  (hown : w.ownsRow base 3 1 v n xs) (hvb : v.ownBlock ≠ some b) (hx : xs[g]? = some (.int .i64 X)) :
  Calls Tryz.prog 144 #[.pointer (some ⟨b, 0, none⟩)] w fun e w' => e = .returned (.tuple #[.int .i64 X, .bool true]) ∧ Mods (fun k => k = b) w w' ∧
   w'.heap[b]? = some (.cells #[.int .i64 C, v, .int .i64 (g + 1 : Nat)] 158 (0, 0)) := by
 obtain ⟨sa, cap, rfl⟩ := owns_slice hown
 obtain ⟨_, hnc, gl, hgl, rfl, hcl, hfl, hltl⟩ := owns_cell hown (by have := (List.getElem?_eq_some_iff.1 hx).1; omega)
 have hbl : b ≠ gl := fun h => hvb (by simp [Value.ownBlock, h])
 have h1 := cells_row w b hQ 1 (.slice (some ⟨gl, 0, none⟩) n cap) rfl
 have h2 := cells_row w b hQ 2 (.int .i64 g) rfl
 have f2 := frozen_of_block hQ 2
 have f1 := frozen_of_block hQ 1
 have hX := hcl g _ hx
 have hbw := block_lt hQ
 have hlg : (g : Int) < n := by omega
 have hd : decide ((32 : Int) < (g : Int) + 1) = false := by simp; omega
 go_enter Tryz.func144, Tryz.ntmps144
 go_wp2_with fail
 refine (ilen_any _ b (some ⟨gl, 0, none⟩) n cap g (by omega) (by unfold maxLen; omega) h1 h2).mono ?_
 rintro e w' ⟨rfl, m, rfl⟩
 clear hfl
 have hcl' := Lib.hid hcl
 clear hcl
 go_wp2
 go_quiet (fail)
 go_wp2
 go_quiet (fail)
 go_wp2
 go_ret2
 refine ⟨rfl, ?_, ?_⟩
 ·
  repeat (first | exact Mods.refl _ _ | refine Mods.setCell ?_ (by first | (intro h; simp at h; done) | (intro _; rfl)) _ | refine Mods.alloc ?_ _ | refine Mods.drewN ?_ _ | refine Mods.drew ?_)
 ·
  exact block_setCell hQ 2 _
set_option maxRecDepth 100000 in
set_option maxHeartbeats 1000000 in
theorem itake_b (w : World) (b : Nat) (C X : Int) (v : Value) (n g : Nat) (xs : List Value) (base : Nat) (hn : n ≤ 27000000000000) (hg : g < n) (hg2 : 32 ≤ g) (hg3 : 2 * (g + 1) ≤ n)
  (hQ : w.heap[b]? = some (.cells #[.int .i64 C, v, .int .i64 g] 158 (0, 0)))
  (hown : w.ownsRow base 3 1 v n xs) (hvb : v.ownBlock ≠ some b) (hx : xs[g]? = some (.int .i64 X)) :
  Calls Tryz.prog 144 #[.pointer (some ⟨b, 0, none⟩)] w fun e w' => e = .returned (.tuple #[.int .i64 X, .bool true]) ∧ Mods (fun k => k = b) w w' ∧
   w'.heap[b]? = some (.cells #[.int .i64 C, v, .int .i64 (g + 1 : Nat)] 158 (0, 0)) := by
 obtain ⟨sa, cap, rfl⟩ := owns_slice hown
 obtain ⟨_, hnc, gl, hgl, rfl, hcl, hfl, hltl⟩ := owns_cell hown (by have := (List.getElem?_eq_some_iff.1 hx).1; omega)
 have hbl : b ≠ gl := fun h => hvb (by simp [Value.ownBlock, h])
 have h1 := cells_row w b hQ 1 (.slice (some ⟨gl, 0, none⟩) n cap) rfl
 have h2 := cells_row w b hQ 2 (.int .i64 g) rfl
 have f2 := frozen_of_block hQ 2
 have f1 := frozen_of_block hQ 1
 have hX := hcl g _ hx
 have hbw := block_lt hQ
 have hlg : (g : Int) < n := by omega
 have hd : decide ((32 : Int) < (g : Int) + 1) = true := by simp; omega
 have hd2 : decide ((n : Int) < 2 * ((g : Int) + 1)) = false := by simp; omega
 go_enter Tryz.func144, Tryz.ntmps144
 go_wp2_with fail
 refine (ilen_any _ b (some ⟨gl, 0, none⟩) n cap g (by omega) (by unfold maxLen; omega) h1 h2).mono ?_
 rintro e w' ⟨rfl, m, rfl⟩
 clear hfl
 have hcl' := Lib.hid hcl
 clear hcl
 go_wp2
 go_quiet (fail)
 go_wp2
 go_quiet (fail)
 go_wp2
 go_ret2
 refine ⟨rfl, ?_, ?_⟩
 ·
  repeat (first | exact Mods.refl _ _ | refine Mods.setCell ?_ (by first | (intro h; simp at h; done) | (intro _; rfl)) _ | refine Mods.alloc ?_ _ | refine Mods.drewN ?_ _ | refine Mods.drew ?_)
 ·
  exact block_setCell hQ 2 _
set_option maxRecDepth 100000 in
set_option maxHeartbeats 1600000 in
theorem itake_c (w : World) (b : Nat) (C X : Int) (v : Value) (n g : Nat) (xs : List Value) (base : Nat) (hn : n ≤ 27000000000000) (hg : g < n) (hg2 : 32 ≤ g) (hg3 : n < 2 * (g + 1)) (hb : base ≤ w.heap.size) (hone : ∀ u ∈ xs, u.oneCell' = true)
  (hQ : w.heap[b]? = some (.cells #[.int .i64 C, v, .int .i64 g] 158 (0, 0)))
  (hown : w.ownsRow base 3 1 v n xs) (hvb : v.ownBlock ≠ some b) (hx : xs[g]? = some (.int .i64 X)) :
  Calls Tryz.prog 144 #[.pointer (some ⟨b, 0, none⟩)] w fun e w' => e = .returned (.tuple #[.int .i64 X, .bool true]) ∧ Mods (fun k => k = b) w w' ∧
   ∃ v', w'.heap[b]? = some (.cells #[.int .i64 C, v', .int .i64 0] 158 (0, 0)) ∧ w'.ownsRow base 3 1 v' (n - (g + 1)) (xs.drop (g + 1)) ∧ (∃ k, v'.ownBlock = some k ∧ w.heap.size ≤ k) := by
 obtain ⟨sa, cap, rfl⟩ := owns_slice hown
 obtain ⟨_, hnc, gl, hgl, rfl, hcl, hfl, hltl⟩ := owns_cell hown (by have := (List.getElem?_eq_some_iff.1 hx).1; omega)
 have hbl : b ≠ gl := fun h => hvb (by simp [Value.ownBlock, h])
 have h1 := cells_row w b hQ 1 (.slice (some ⟨gl, 0, none⟩) n cap) rfl
 have h2 := cells_row w b hQ 2 (.int .i64 g) rfl
 have f2 := frozen_of_block hQ 2
 have f1 := frozen_of_block hQ 1
 have hX := hcl g _ hx
 have hbw := block_lt hQ
 have hlg : (g : Int) < n := by omega
 have hd : decide ((32 : Int) < (g : Int) + 1) = true := by simp; omega
 have hd2 : decide ((n : Int) < 2 * ((g : Int) + 1)) = true := by simp; omega
 obtain ⟨i0, hi, hz0, hz1, hz2⟩ := info_parts infoq3
 go_enter Tryz.func144, Tryz.ntmps144
 go_wp2_with fail
 refine (ilen_any _ b (some ⟨gl, 0, none⟩) n cap g (by omega) (by unfold maxLen; omega) h1 h2).mono ?_
 rintro e w' ⟨rfl, m, rfl⟩
 clear hfl
 have hcl' := Lib.hid hcl
 clear hcl
 go_wp2
 go_quiet (fail)
 go_wp2
 go_quiet (fail)
 go_wp2
 refine name_world (fun w2 => w2.heap[b]? = some (.cells #[.int .i64 C, .slice (some ⟨gl, 0, none⟩) n cap, .int .i64 (g + 1)] 158 (0, 0)) ∧ Mods (fun k => k = b) w w2 ∧ (∀ j u, xs[j]? = some u → w2.cell? ⟨gl, j, none⟩ = some u)) ?_ ?_
 ·
  refine ⟨block_setCell hQ 2 _, ?_, fun j u hu => ?_⟩
  ·
   repeat (first | exact Mods.refl _ _ | refine Mods.setCell ?_ (by first | (intro h; simp at h; done) | (intro _; rfl)) _ | refine Mods.alloc ?_ _ | refine Mods.drewN ?_ _ | refine Mods.drew ?_)
  ·
   rw [← hcl'.out j u hu]
   exact World.cell?_of_block (w := w) (Below.heap_setCell w _ _ gl hbl.symm)
 clear h1 h2 f2 f1 hX
 rintro w2 ⟨hQ2, hm2, hcl2⟩
 have h3 := cells_row w2 b hQ2 1 (.slice (some ⟨gl, 0, none⟩) n cap) rfl
 have h4 := cells_row w2 b hQ2 2 (.int .i64 (g + 1)) rfl
 have hw2 := block_lt hQ2
 have hb2 : base ≤ w2.heap.size := Nat.le_trans hb hm2.size
 have hle : (g : Int) + 1 ≤ n := by omega
 have hg0 : (0 : Int) ≤ (g : Int) + 1 := by omega
 by_cases hcg : cap = g + 1
 ·
  obtain rfl : n = g + 1 := by omega
  subst hcg
  refine wp_region_lex (fun w' => w'.cell? ⟨b, 1, none⟩ = some (.slice (some ⟨gl, 0, none⟩) (g + 1) (g + 1)) ∧ w'.cell? ⟨b, 2, none⟩ = some (.int .i64 (g + 1))) [0, 2, 3, 4, 5, 6, 7, 8, 9, 10] [1, 11, 12, 13, 14] (by kernel_rfl) (by kernel_rfl) rfl (fun _ _ hx h => ⟨hx.cell h.1, hx.cell h.2⟩) ⟨h3, h4⟩ ?_
  intro Q' hQ'
  simp only [pickOps, List.flatMap_cons, List.flatMap_nil, List.drop_succ_cons, List.drop_zero, List.take_succ_cons, List.take_zero, List.cons_append, List.nil_append, List.append_nil]
  repeat (first
   | (refine wpReads_skip (by rfl) ?_; (try simp only [Act.put, List.setIfInBounds_toArray, List.set_cons_zero, List.set_cons_succ]))
   | (refine wpReads_cons ?_ (by rfl) (by rfl) ?_ ?_; rotate_left; (intro wz hz; (try dsimp only at hz); go_simp; try with_reducible rfl); (try simp only [Act.put, List.setIfInBounds_toArray, List.set_cons_zero, List.set_cons_succ]))
   | (refine wpReads_any ?_ (by rfl) ?_ ?_; rotate_left; (intro wz; go_simp; try with_reducible rfl); (try simp only [Act.put, List.setIfInBounds_toArray, List.set_cons_zero, List.set_cons_succ])))
  refine wpReads_nil ?_
  refine wpList_plain rfl fun K hK => ?_
  go_simp
  refine hK _ _ ?_
  clear hK K
  have hown0 := World.ownsRow_made (e := 3) (size := 1) w2 #[] 0 hb2 (Nat.zero_le _) rfl
  refine wpList_app rfl _ _ 27 rfl base 3 i0 _ 1 8 Tryz.underlying27 hi hz0 hz1 hz2 rfl (.slice (some ⟨w2.heap.size, 0, none⟩) 0 0) 0 [] rfl hown0 (some ⟨gl, 0, none⟩) 0 _ [] rfl rfl (fun h => by cases h)
   (fun _ _ _ _ hu => by simp at hu) (fun u hu => by simp at hu) (by unfold maxLen; omega) (grow_ok (by omega)) (size_le_alloc hb2 _) ?_
  intro v' w3 g1 g20 _ g4
  have g2 := grown_drew g20
  clear g20
  simp only [Nat.zero_add, List.nil_append] at g1
  obtain ⟨sa', cap', rfl⟩ := owns_slice g1
  have hdrop : xs.drop (g + 1) = [] := List.drop_eq_nil_of_le (by rw [hown.1]; omega)
  have hne3 : (Value.slice (some ⟨w2.heap.size, 0, none⟩) 0 0).ownBlock ≠ some b := fun h => by have := Option.some.inj h; simp at this; omega
  have hQ3 := block_grown (block_alloc hQ2 (.cells #[] 3)) g2 hne3
  have hm3 : Mods (fun k => k = b) w w3 := (hm2.alloc (.cells #[] 3)).grown g2 (fun k hk hlt => by have := Option.some.inj hk; have := hm2.size; simp at *; omega)
  have c31 := cells_row w3 b hQ3 1 (.slice (some ⟨gl, 0, none⟩) (g + 1) (g + 1)) rfl
  have c32 := cells_row w3 b hQ3 2 (.int .i64 (g + 1)) rfl
  have f31 := frozen_of_block hQ3 1
  have f32 := frozen_of_block hQ3 2
  have hvo : ∃ k, (Value.slice sa' 0 cap').ownBlock = some k ∧ w2.heap.size ≤ k := by
   rcases g4 with g4 | g4
   ·
    exact ⟨_, g4, Nat.le_refl _⟩
   ·
    exact ⟨_, g4, by simp⟩
  have hsz2 := hm2.size
  clear hQ2 h3 h4 g2 g4 hown hcl2 hown0 hQ
  go_wp2
  go_ret2
  refine ⟨rfl, ?_, _, block_setCell (block_setCell hQ3 1 _) 2 _, ?_, ?_⟩
  ·
   repeat (first | exact hm3 | refine Mods.setCell ?_ (by intro _; rfl) _)
  ·
   obtain ⟨k, hk, hk2⟩ := hvo
   have hkb : k ≠ b := by omega
   repeat (first | exact g1 | refine ownsRow_setCell_other ?_ (by rw [hk]; intro h; exact hkb (Option.some.inj h)) _)
  ·
   obtain ⟨k, hk, hk2⟩ := hvo
   exact ⟨k, hk, by omega⟩
 have hcgi : ¬ (cap : Int) = (g : Int) + 1 := by omega
 refine wp_region_lex (fun w' => w'.cell? ⟨b, 1, none⟩ = some (.slice (some ⟨gl, 0, none⟩) n cap) ∧ w'.cell? ⟨b, 2, none⟩ = some (.int .i64 (g + 1))) [0, 2, 3, 4, 5, 6, 7, 8, 9, 10] [1, 11, 12, 13, 14] (by kernel_rfl) (by kernel_rfl) rfl (fun _ _ hx h => ⟨hx.cell h.1, hx.cell h.2⟩) ⟨h3, h4⟩ ?_
 intro Q' hQ'
 simp only [pickOps, List.flatMap_cons, List.flatMap_nil, List.drop_succ_cons, List.drop_zero, List.take_succ_cons, List.take_zero, List.cons_append, List.nil_append, List.append_nil]
 repeat (first
  | (refine wpReads_skip (by rfl) ?_; (try simp only [Act.put, List.setIfInBounds_toArray, List.set_cons_zero, List.set_cons_succ]))
  | (refine wpReads_cons ?_ (by rfl) (by rfl) ?_ ?_; rotate_left; (intro wz hz; (try dsimp only at hz); go_simp; try with_reducible rfl); (try simp only [Act.put, List.setIfInBounds_toArray, List.set_cons_zero, List.set_cons_succ]))
  | (refine wpReads_any ?_ (by rfl) ?_ ?_; rotate_left; (intro wz; go_simp; try with_reducible rfl); (try simp only [Act.put, List.setIfInBounds_toArray, List.set_cons_zero, List.set_cons_succ])))
 refine wpReads_nil ?_
 refine wpList_plain rfl fun K hK => ?_
 go_simp
 refine hK _ _ ?_
 clear hK K
 have hown0 := World.ownsRow_made (e := 3) (size := 1) w2 #[] 0 hb2 (Nat.zero_le _) rfl
 refine wpList_app rfl _ _ 27 rfl base 3 i0 _ 1 8 Tryz.underlying27 hi hz0 hz1 hz2 rfl (.slice (some ⟨w2.heap.size, 0, none⟩) 0 0) 0 [] rfl hown0 (some ⟨gl, g + 1, none⟩) (n - (g + 1)) _ (xs.drop (g + 1)) rfl (by rw [List.length_drop, hown.1]; omega) (fun h => by cases h)
  (by exact cells_slice (fun j u hu => ca (hcl2 j u hu)) rfl) (fun u hu => hone u (List.mem_of_mem_drop hu)) (by unfold maxLen; omega) (grow_ok (by omega)) (size_le_alloc hb2 _) ?_
 intro v' w3 g1 g20 _ g4
 have g2 := grown_drew g20
 clear g20
 simp only [Nat.zero_add, List.nil_append] at g1
 obtain ⟨sa', cap', rfl⟩ := owns_slice g1
 have hne3 : (Value.slice (some ⟨w2.heap.size, 0, none⟩) 0 0).ownBlock ≠ some b := fun h => by have := Option.some.inj h; simp at this; omega
 have hQ3 := block_grown (block_alloc hQ2 (.cells #[] 3)) g2 hne3
 have hm3 : Mods (fun k => k = b) w w3 := (hm2.alloc (.cells #[] 3)).grown g2 (fun k hk hlt => by have := Option.some.inj hk; have := hm2.size; simp at *; omega)
 have c31 := cells_row w3 b hQ3 1 (.slice (some ⟨gl, 0, none⟩) n cap) rfl
 have c32 := cells_row w3 b hQ3 2 (.int .i64 (g + 1)) rfl
 have f31 := frozen_of_block hQ3 1
 have f32 := frozen_of_block hQ3 2
 have hvo : ∃ k, (Value.slice sa' (n - (g + 1)) cap').ownBlock = some k ∧ w2.heap.size ≤ k := by
  rcases g4 with g4 | g4
  ·
   exact ⟨_, g4, Nat.le_refl _⟩
  ·
   exact ⟨_, g4, by simp⟩
 have hsz2 := hm2.size
 clear hQ2 h3 h4 g2 g4 hown hcl2 hown0 hQ
 go_wp2
 go_ret2
 refine ⟨rfl, ?_, _, block_setCell (block_setCell hQ3 1 _) 2 _, ?_, ?_⟩
 ·
  repeat (first | exact hm3 | refine Mods.setCell ?_ (by intro _; rfl) _)
 ·
  obtain ⟨k, hk, hk2⟩ := hvo
  have hkb : k ≠ b := by omega
  repeat (first | exact g1 | refine ownsRow_setCell_other ?_ (by rw [hk]; intro h; exact hkb (Option.some.inj h)) _)
 ·
  obtain ⟨k, hk, hk2⟩ := hvo
  exact ⟨k, hk, by omega⟩
set_option maxRecDepth 100000 in
set_option maxHeartbeats 1000000 in
theorem inew_no (w : World) (C : Int) (x : Value) (h : C < 0) :
  Calls Tryz.prog 46 #[.int .i64 C, x] w fun e w' => e = .returned (.tuple #[.pointer none, .int .i64 240]) ∧ w' = w := by
 go_enter Tryz.func46, Tryz.ntmps46
 go_wp2
 go_ret2
 exact ⟨rfl, rfl⟩
set_option maxRecDepth 100000 in
set_option maxHeartbeats 1000000 in
theorem inew_yes (w : World) (C : Int) (ao : Option Addr) (m c : Nat) (news : List Value) (hC : 0 ≤ C) (hl : news.length = m * 1) (hnone : ao = none → m = 0) (hnews : ∀ ad, ao = some ad → ∀ j u, news[j]? = some u → w.cell? (ad.add j) = some u) (h1 : ∀ u ∈ news, u.oneCell' = true)
  (hn : m ≤ 27000000000000) :
  Calls Tryz.prog 46 #[.int .i64 C, .slice ao m c] w fun e w' => ∃ b v, e = .returned (.tuple #[.pointer (some ⟨b, 0, none⟩), .int .i64 0]) ∧ Below w.heap.size w w' ∧ w.heap.size ≤ b ∧
   w'.heap[b]? = some (.cells #[.int .i64 C, v, .int .i64 0] 158 (0, 0)) ∧ w'.ownsRow w.heap.size 3 1 v m news ∧ v.ownBlock ≠ some b ∧ v.ownBlock ≠ none := by
 obtain ⟨i0, hi, hz0, hz1, hz2⟩ := info_parts infoq3
 have hnC : ¬ C < 0 := by omega
 have Hn := Lib.hid hn
 clear hn
 go_enter Tryz.func46, Tryz.ntmps46
 go_wp2_with (at_builtin; refine stop_here ?_)
 refine go_on ?_
 have hown0 := World.ownsRow_made (e := 3) (size := 1) w #[] 0 (Nat.le_refl _) (Nat.zero_le _) rfl
 refine wpList_app rfl _ _ 27 rfl w.heap.size 3 i0 _ 1 8 Tryz.underlying27 hi hz0 hz1 hz2 rfl (.slice (some ⟨w.heap.size, 0, none⟩) 0 0) 0 [] rfl hown0 ao m c news rfl hl hnone (fun ad had j u hu => ca (hnews ad had j u hu)) h1 (by have := Hn.out; unfold maxLen; omega) (grow_ok (by have := Hn.out; omega)) (size_le_alloc (Nat.le_refl _) _) ?_
 intro v' w2 g1 g2 _ g4
 simp only [Nat.zero_add, List.nil_append] at g1
 obtain ⟨sa', cap', rfl⟩ := owns_slice g1
 have hlt := g1.lt
 go_wp2
 go_ret2
 refine ⟨w2.heap.size, _, rfl, ?_, ?_, heap_alloc_new w2 _, g1.alloc _, ?_, by rcases g4 with g4 | g4 <;> rw [g4] <;> simp [Value.ownBlock]⟩
 ·
  exact (((Below.refl _ _).alloc (Nat.le_refl _) _).grown g2 (by simp) (fun k hk => by simp [Value.ownBlock] at hk; omega)).alloc (by have := g2.size; simp at this; omega) _
 ·
  have := g2.size; simp at this; omega
 ·
  intro h
  have := (hlt _ h).2
  omega
def IQ (w : World) (base b : Nat) (C : Int) (l : List Int) (r : Option Nat) (N : Nat) : Prop :=
 ∃ (v : Value) (g : Nat) (zs : List Int), w.heap[b]? = some (.cells #[.int .i64 C, v, .int .i64 (g : Int)] 158 (0, 0)) ∧ w.ownsRow base 3 1 v zs.length (zs.map (Value.int .i64)) ∧ g ≤ zs.length ∧ zs.drop g = l ∧
  v.ownBlock = r ∧ r ≠ some b ∧ zs.length ≤ N ∧ 0 ≤ C ∧ C ≤ 9223372036854775807 ∧ base ≤ b ∧ r ≠ none
theorem IQ.frame {w w' : World} {base b : Nat} {C : Int} {l : List Int} {r : Option Nat} {N : Nat} {F : Nat → Prop} (h : IQ w base b C l r N) (hm : Mods F w w') (hb : ¬ F b) (hr : ∀ k, r = some k → ¬ F k) : IQ w' base b C l r N := by
 obtain ⟨v, g, zs, h1, h2, h3, h4, h5, h6⟩ := h
 exact ⟨v, g, zs, block_mods h1 hm hb, owns_kept h2 hm (fun k hk => hr k (h5 ▸ hk)), h3, h4, h5, h6⟩
theorem IQ.drewN {w : World} {base b : Nat} {C : Int} {l : List Int} {r : Option Nat} {N : Nat} (h : IQ w base b C l r N) (m : Nat) : IQ (w.drewN m) base b C l r N := h
theorem IQ.lt {w : World} {base b : Nat} {C : Int} {l : List Int} {r : Option Nat} {N : Nat} (h : IQ w base b C l r N) : b < w.heap.size ∧ base ≤ b ∧ (∀ k, r = some k → base ≤ k ∧ k < w.heap.size ∧ k ≠ b) ∧ 0 ≤ C ∧ C ≤ 9223372036854775807 ∧ l.length ≤ N := by
 obtain ⟨v, g, zs, h1, h2, h3, h4, h5, h6, h7, h8, h9, h10, h11⟩ := h
 refine ⟨block_lt h1, h10, fun k hk => ⟨(h2.lt k (h5.trans hk)).1, (h2.lt k (h5.trans hk)).2, fun e => h6 (by rw [hk, e])⟩, h8, h9, ?_⟩
 rw [← h4, List.length_drop]; omega
theorem IQ.mono {w : World} {base b : Nat} {C : Int} {l : List Int} {r : Option Nat} {N N' : Nat} (h : IQ w base b C l r N) (hN : N ≤ N') : IQ w base b C l r N' := by
 obtain ⟨v, g, zs, h1, h2, h3, h4, h5, h6, h7, h8⟩ := h
 exact ⟨v, g, zs, h1, h2, h3, h4, h5, h6, Nat.le_trans h7 hN, h8⟩
theorem IQ.parts {w : World} {base b : Nat} {C : Int} {l : List Int} {r : Option Nat} {N : Nat} (h : IQ w base b C l r N) : ∃ (sa : Option Addr) (n cap g : Nat), g ≤ n ∧ n - g = l.length ∧ n ≤ N ∧
  w.cell? ⟨b, 0, none⟩ = some (.int .i64 C) ∧ w.cell? ⟨b, 1, none⟩ = some (.slice sa n cap) ∧ w.cell? ⟨b, 2, none⟩ = some (.int .i64 (g : Int)) := by
 obtain ⟨v, g, zs, h1, h2, h3, h4, h5, h6, h7, h8⟩ := h
 obtain ⟨sa, cap, rfl⟩ := owns_slice h2
 exact ⟨sa, zs.length, cap, g, h3, by rw [← h4, List.length_drop], h7, cells_row w b h1 0 _ rfl, cells_row w b h1 1 _ rfl, cells_row w b h1 2 _ rfl⟩
theorem ints_one (zs : List Int) : ∀ u ∈ zs.map (Value.int .i64), u.oneCell' = true := ints_oneCell .i64 zs
theorem iq_len {w : World} {base b : Nat} {C : Int} {l : List Int} {r : Option Nat} {N : Nat} (h : IQ w base b C l r N) (hN : N ≤ 27000000000000) :
  Calls Tryz.prog 61 #[.pointer (some ⟨b, 0, none⟩)] w fun e w' => e = .returned (.int .i64 (l.length : Int)) ∧ ∃ m, w' = w.drewN m := by
 obtain ⟨sa, n, cap, g, hg, hl, hn, _, c1, c2⟩ := h.parts
 refine (ilen_any w b sa n cap g hg (by unfold maxLen; omega) c1 c2).mono ?_
 rintro e w' ⟨rfl, m, rfl⟩
 exact ⟨ret_int (by omega), m, rfl⟩
theorem iq_room {w : World} {base b : Nat} {C : Int} {l : List Int} {r : Option Nat} {N : Nat} (h : IQ w base b C l r N) (hN : N ≤ 27000000000000) :
  Calls Tryz.prog 95 #[.pointer (some ⟨b, 0, none⟩)] w fun e w' => e = .returned (.int .i64 (max 0 (C - (l.length : Int)))) ∧ ∃ m, w' = w.drewN m := by
 obtain ⟨sa, n, cap, g, hg, hl, hn, c0, c1, c2⟩ := h.parts
 obtain ⟨_, _, _, hC, hC', _⟩ := h.lt
 refine (iroom_any w b C sa n cap g hg (by unfold maxLen; omega) hC hC' c0 c1 c2).mono ?_
 rintro e w' ⟨rfl, m, rfl⟩
 exact ⟨ret_int (by show max _ _ = max _ _; omega), m, rfl⟩
theorem iq_put_yes {w : World} {base b : Nat} {C X : Int} {l : List Int} {r : Option Nat} {N : Nat} (h : IQ w base b C l r N) (hN : N < 27000000000000) (hb : base ≤ w.heap.size) (hf : (l.length : Int) < C) :
  Calls Tryz.prog 74 #[.pointer (some ⟨b, 0, none⟩), .int .i64 X] w fun e w' => e = .returned (.bool true) ∧ ∃ r', IQ w' base b C (l ++ [X]) r' (N + 1) ∧ Mods (fun k => k = b ∨ r = some k) w w' ∧ (r' = r ∨ ∃ k, r' = some k ∧ w.heap.size ≤ k) := by
 obtain ⟨v, g, zs, h1, h2, h3, h4, h5, h6, h7, h8, h9, h10, h11⟩ := h
 have hl : zs.length - g = l.length := by rw [← h4, List.length_drop]
 refine (iput_yes w b C X v zs.length (zs.map (Value.int .i64)) g h3 (by omega) base hb h8 h9 (by omega) h1 h2 (by rw [h5]; exact h6)).mono ?_
 rintro e w' ⟨rfl, hm, v', q1, q2, q3⟩
 subst h5
 refine ⟨rfl, v'.ownBlock, ⟨v', g, zs ++ [X], q1, by simpa using q2, by simp; omega, ?_, rfl, ?_, by simp; omega, h8, h9, h10, (by rcases q3 with q3 | ⟨k, q3, _⟩ <;> rw [q3] <;> first | exact h11 | simp)⟩, hm, q3⟩
 ·
  rw [List.drop_append_of_le_length h3, h4]
 ·
  rcases q3 with q3 | ⟨k, q3, q4⟩
  ·
   rw [q3]; exact h6
  ·
   rw [q3]; intro e; have := Option.some.inj e; have := block_lt h1; omega
theorem drop_cons {zs l : List Int} {g : Nat} {x : Int} (h : zs.drop g = x :: l) : g < zs.length ∧ zs[g]? = some x ∧ zs.drop (g + 1) = l := by
 have hlt : g < zs.length := by
  rcases Nat.lt_or_ge g zs.length with h1 | h1
  ·
   exact h1
  ·
   rw [List.drop_eq_nil_of_le h1] at h; cases h
 rw [List.drop_eq_getElem_cons hlt] at h
 injection h with h1 h2
 exact ⟨hlt, by rw [List.getElem?_eq_getElem hlt, h1], h2⟩
theorem iq_take_cons {w : World} {base b : Nat} {C x : Int} {l : List Int} {r : Option Nat} {N : Nat} (h : IQ w base b C (x :: l) r N) (hN : N ≤ 27000000000000) (hb : base ≤ w.heap.size) :
  Calls Tryz.prog 144 #[.pointer (some ⟨b, 0, none⟩)] w fun e w' => e = .returned (.tuple #[.int .i64 x, .bool true]) ∧ ∃ r', IQ w' base b C l r' N ∧ Mods (fun k => k = b) w w' ∧ (r' = r ∨ ∃ k, r' = some k ∧ w.heap.size ≤ k) := by
 obtain ⟨v, g, zs, h1, h2, h3, h4, h5, h6, h7, h8, h9, h10, h11⟩ := h
 obtain ⟨hg, hx, hd⟩ := drop_cons h4
 have hx' : (zs.map (Value.int .i64))[g]? = some (.int .i64 x) := by simp [hx]
 have keep : ∀ (e : Ending) (w' : World), (e = .returned (.tuple #[.int .i64 x, .bool true]) ∧ Mods (fun k => k = b) w w' ∧ w'.heap[b]? = some (.cells #[.int .i64 C, v, .int .i64 (g + 1 : Nat)] 158 (0, 0))) →
   e = .returned (.tuple #[.int .i64 x, .bool true]) ∧ ∃ r', IQ w' base b C l r' N ∧ Mods (fun k => k = b) w w' ∧ (r' = r ∨ ∃ k, r' = some k ∧ w.heap.size ≤ k) := by
  rintro e w' ⟨rfl, hm, q1⟩
  exact ⟨rfl, r, ⟨v, g + 1, zs, q1, owns_kept h2 hm (fun k hk e => h6 (by rw [← h5, hk, e])), hg, hd, h5, h6, h7, h8, h9, h10, h11⟩, hm, .inl rfl⟩
 by_cases c1 : g < 32
 ·
  exact (itake_a w b C x v zs.length g _ base (by omega) hg c1 h1 h2 (by rw [h5]; exact h6) hx').mono keep
 ·
  by_cases c2 : 2 * (g + 1) ≤ zs.length
  ·
   exact (itake_b w b C x v zs.length g _ base (by omega) hg (by omega) c2 h1 h2 (by rw [h5]; exact h6) hx').mono keep
  ·
   refine (itake_c w b C x v zs.length g _ base (by omega) hg (by omega) (by omega) hb (ints_one zs) h1 h2 (by rw [h5]; exact h6) hx').mono ?_
   rintro e w' ⟨rfl, hm, v', q1, q2, k, q3, q4⟩
   have hbw := block_lt h1
   refine ⟨rfl, some k, ⟨v', 0, l, by simpa using q1, ?_, Nat.zero_le _, rfl, q3, fun e => by have := Option.some.inj e; omega, ?_, h8, h9, h10, by simp⟩, hm, .inr ⟨k, rfl, q4⟩⟩
   ·
    have : zs.length - (g + 1) = l.length := by rw [← hd, List.length_drop]
    rw [this, ← List.map_drop, hd] at q2
    exact q2
   ·
    rw [← hd, List.length_drop]; omega
theorem iq_new_no (w : World) (C : Int) (x : Value) (h : C < 0) :
 Calls Tryz.prog 46 #[.int .i64 C, x] w fun e w' => e = .returned (.tuple #[.pointer none, .int .i64 240]) ∧ w' = w := inew_no w C x h
theorem iq_new_yes (w : World) (C : Int) (ao : Option Addr) (c : Nat) (zs : List Int) (hC : 0 ≤ C) (hC' : C ≤ 9223372036854775807) (hnone : ao = none → zs.length = 0) (hnews : ∀ ad, ao = some ad → ∀ j u, (zs.map (Value.int .i64))[j]? = some u → w.cell? (ad.add j) = some u) (hn : zs.length ≤ 27000000000000) :
  Calls Tryz.prog 46 #[.int .i64 C, .slice ao zs.length c] w fun e w' => ∃ b r, e = .returned (.tuple #[.pointer (some ⟨b, 0, none⟩), .int .i64 0]) ∧ Below w.heap.size w w' ∧ IQ w' w.heap.size b C zs r zs.length := by
 refine (inew_yes w C ao zs.length c (zs.map (Value.int .i64)) hC (by simp) hnone hnews (ints_one zs) hn).mono ?_
 rintro e w' ⟨b, v, rfl, hb, hbb, q1, q2, q3, q4⟩
 exact ⟨b, v.ownBlock, rfl, hb, v, 0, zs, by simpa using q1, q2, Nat.zero_le _, rfl, rfl, q3, Nat.le_refl _, hC, hC', hbb, q4⟩
end Go.Proofs.YtaholpfikcdhbaaGreat

/- Rows that begin somewhere in their block: a list of the call's own whose front is cut off, and append onto it. No function in sight. -/
namespace Go.Proofs.YtaholpfikcdhbaaGreat
open Go.RowKit
def OffRow (w : World) (o : Col) (c : Nat) (e : TypeId) (v : Value) (xs : List Value) : Prop :=
 (xs = [] ∧ v = .slice none 0 0) ∨
 ∃ g off cap cur, v = .slice (some ⟨g, off, none⟩) xs.length cap ∧ w.heap[g]? = some (.cells cur e (0, 0)) ∧ o g = c ∧ xs.length ≤ cap ∧ off + cap ≤ cur.size ∧ cap ≤ maxLen ∧ (cur.toList.drop off).take xs.length = xs
theorem OffRow.nil (w : World) (o : Col) (c : Nat) (e : TypeId) : OffRow w o c e (.slice none 0 0) [] := .inl ⟨rfl, rfl⟩
theorem OffRow.turn {w w' : World} {o o' : Col} {C : Nat → Prop} {c : Nat} {e : TypeId} {v : Value} {xs : List Value} (h : OffRow w o c e v xs) (T : Turn o o' C w w') (hc : ¬ C c) : OffRow w' o' c e v xs := by
 rcases h with h | ⟨g, off, cap, cur, h1, h2, h3, h4, h5, h6, h7⟩
 ·
  exact .inl h
 ·
  obtain ⟨k1, k2⟩ := T.block h2 (by rw [h3]; exact hc)
  exact .inr ⟨g, off, cap, cur, h1, k1, k2.trans h3, h4, h5, h6, h7⟩
theorem OffRow.slice {w : World} {o : Col} {c : Nat} {e : TypeId} {v : Value} {xs : List Value} (h : OffRow w o c e v xs) : ∃ ao cap, v = .slice ao xs.length cap := by
 rcases h with ⟨rfl, h⟩ | ⟨g, off, cap, cur, h1, _⟩
 ·
  exact ⟨none, 0, h⟩
 ·
  exact ⟨_, _, h1⟩
theorem OffRow.vals {w : World} {o : Col} {c : Nat} {e : TypeId} {v : Value} {xs : List Value} (h : OffRow w o c e v xs) : Vals w o c v xs := by
 rcases h with ⟨rfl, h⟩ | ⟨g, off, cap, cur, h1, h2, h3, h4, h5, h6, h7⟩
 ·
  exact .inl ⟨rfl, _, _, h⟩
 ·
  by_cases hp : 0 < xs.length
  ·
   refine .inr ⟨hp, g, off, cap, h1, h4, block_lt h2, h3, fun k hk => ?_⟩
   have h8 : xs[k]? = cur.toList[off + k]? := by
    rw [← h7, List.getElem?_take_of_lt hk, List.getElem?_drop]
   have h9 : off + k < cur.size := by omega
   rw [h8]
   refine cells_row w g h2 (off + k) _ ?_
   rw [← Array.getElem?_toList]
   rw [List.getElem?_eq_getElem (by simpa using h9)]
   rfl
  ·
   have : xs = [] := List.eq_nil_of_length_eq_zero (by omega)
   subst this
   exact .inl ⟨rfl, _, _, h1⟩
theorem OffRow.drop {w : World} {o : Col} {c : Nat} {e : TypeId} {g off n cap : Nat} {xs : List Value} (h : OffRow w o c e (.slice (some ⟨g, off, none⟩) n cap) xs) {k : Nat} (hk : k ≤ xs.length) (_hc : cap ≠ k) : OffRow w o c e (.slice (some ⟨g, off + k, none⟩) (n - k) (cap - k)) (xs.drop k) := by
 rcases h with ⟨_, h⟩ | ⟨g, off, cap, cur, h1, h2, h3, h4, h5, h6, h7⟩
 ·
  cases h
 ·
  cases h1
  refine .inr ⟨g, off + k, cap - k, cur, by rw [List.length_drop], h2, h3, by rw [List.length_drop]; omega, by omega, by omega, ?_⟩
  rw [List.length_drop, ← List.drop_drop, ← List.drop_take, h7]
theorem OffRow.empty {w : World} {o : Col} {c : Nat} {e : TypeId} {g off n cap : Nat} {xs : List Value} (h : OffRow w o c e (.slice (some ⟨g, off, none⟩) n cap) xs) : OffRow w o c e (.slice (some ⟨g, off, none⟩) 0 0) [] := by
 rcases h with ⟨_, h⟩ | ⟨g, off, cap, cur, h1, h2, h3, h4, h5, h6, h7⟩
 ·
  cases h
 ·
  cases h1
  exact .inr ⟨g, off, 0, cur, rfl, h2, h3, Nat.le_refl _, by omega, by omega, rfl⟩
theorem OffRow.of_own {w : World} {o : Col} {c : Nat} {e : TypeId} {v : Value} {n : Nat} {xs : List Value} (h : Own w o c e 1 v n xs) : OffRow w o c e v xs := by
 obtain ⟨⟨hl, h⟩, ho⟩ := h
 rw [Nat.mul_one] at hl
 rcases h with ⟨rfl, h⟩ | ⟨g, cap, cur, rfl, _, h2, h3, h4, h5, h6⟩
 ·
  exact .inl ⟨List.eq_nil_of_length_eq_zero (by omega), rfl⟩
 ·
  refine .inr ⟨g, 0, cap, cur, by rw [hl], h2, ho g rfl, by omega, by omega, h4, ?_⟩
  rw [Nat.mul_one] at h6
  rw [List.drop_zero, hl, h6]
theorem run_room_off {P : Program} (w : World) (t ty e : TypeId) (i : TypeInfo) (ht : P.underlying t = some (.slice e)) (hi : P.info? e = some i) (h1s : i.size = 1)
  (g off sLen sCap : Nat) (cur : Array Value) (hg : w.heap[g]? = some (.cells cur e (0, 0)))
  (a : Addr) (m c : Nat) (news : List Value) (hl : news.length = m) (hnews : ∀ j u, news[j]? = some u → w.cell? (a.add j) = some u) (h1 : ∀ u ∈ news, u.oneCell' = true)
  (hroom : sLen + m ≤ sCap) (hfit : off + sCap ≤ cur.size) :
  (Builtin.append_ #[t, t] ty #[.slice (some ⟨g, off, none⟩) sLen sCap, .slice (some a) m c]).run P w =
   .ok (.slice (some ⟨g, off, none⟩) (sLen + m) sCap) (w.setRow g (cur.toList.take (off + sLen) ++ news ++ cur.toList.drop (off + sLen + news.length)).toArray) := by
 have hf := run_firstCells_some (P := P) w i.size m a m c news (by rw [h1s, hl, Nat.mul_one]) hnews
 have hst := run_storeCells_at P g (off + sLen) e news 0 cur w hg (by omega) h1
 simp only [Nat.add_zero] at hst
 rw [h1s] at hf
 simp [Builtin.append_, run_underlying ht, sizeOf, typeInfo, hi, Builtin.lenOf, hroom, hf, Addr.add_lit, hst, h1s]
theorem run_app_off {P : Program} (w : World) (o : Col) (k : Nat) (t ty e : TypeId) (i : TypeInfo) (z : Value) (bytes : Nat) (ht : P.underlying t = some (.slice e)) (hi : P.info? e = some i) (hz : i.zero = some z)
  (hsize : i.size = 1) (hby : i.bytes = bytes) (hzs : z.cells.size = 1)
  (v : Value) (xs : List Value) (hown : OffRow w o k e v xs)
  (ao : Option Addr) (m c : Nat) (news : List Value) (hl : news.length = m) (hnone : ao = none → m = 0) (hnews : ∀ a, ao = some a → ∀ j u, news[j]? = some u → w.cell? (a.add j) = some u) (h1 : ∀ u ∈ news, u.oneCell' = true)
  (h63 : xs.length + m ≤ maxLen) (hgrow : ∀ old, old < xs.length + m → Builtin.nextslicecap (xs.length + m) old * bytes ≤ 281474976710656) :
  ∃ v' w', (Builtin.append_ #[t, t] ty #[v, .slice ao m c]).run P w = .ok v' w' ∧ Turn o (ext o w.heap.size k) (fun x => x = k) w w' ∧ OffRow w' (ext o w.heap.size k) k e v' (xs ++ news) := by
 have T0 : Turn o (ext o w.heap.size k) (fun x => x = k) w w := ⟨Mods.refl _ _, fun j hj => ext_old hj⟩
 have hlo : (xs ++ news).length = xs.length + m := by rw [List.length_append, hl]
 cases ao with
 | none =>
  obtain rfl := hnone rfl
  have hn : news = [] := List.eq_nil_of_length_eq_zero hl
  subst hn
  rw [List.append_nil]
  refine ⟨v, w, ?_, T0, ?_⟩
  ·
   rcases hown with ⟨rfl, rfl⟩ | ⟨g, off, cap, cur, rfl, h2, h3, h4, h5, h6, h7⟩
   ·
    simp [Builtin.append_, run_underlying ht, sizeOf, typeInfo, hi, Builtin.lenOf, Builtin.firstCells]
   ·
    simp [Builtin.append_, run_underlying ht, sizeOf, typeInfo, hi, Builtin.lenOf, Builtin.firstCells, h4, storeCells]
  ·
   rcases hown with h | ⟨g, off, cap, cur, h1, h2, h3, h⟩
   ·
    exact .inl h
   ·
    exact .inr ⟨g, off, cap, cur, h1, h2, (ext_old (block_lt h2)).trans h3, h⟩
 | some a =>
  have hnews := hnews a rfl
  have hsmall : xs.length + m ≤ 9223372036854775807 := by simp only [maxLen] at h63; omega
  have grown : ∀ (old : Nat), old < xs.length + m →
    Turn o (ext o w.heap.size k) (fun x => x = k) w (w.drew.alloc (.cells (xs.toArray ++ news.toArray ++ Builtin.zeroCells z.cells (grownCap w (xs.length + m) old e - (xs.length + m))) e)) ∧
    OffRow (w.drew.alloc (.cells (xs.toArray ++ news.toArray ++ Builtin.zeroCells z.cells (grownCap w (xs.length + m) old e - (xs.length + m))) e)) (ext o w.heap.size k) k e (.slice (some ⟨w.heap.size, 0, none⟩) (xs.length + m) (grownCap w (xs.length + m) old e)) (xs ++ news) := by
   intro old ho
   have hge := grownCap_ge w (xs.length + m) old e
   have hcm : grownCap w (xs.length + m) old e ≤ maxLen := grownCap_le_maxLen w (xs.length + m) old e h63
   have hb : Below w.heap.size w (w.drew.alloc (.cells (xs.toArray ++ news.toArray ++ Builtin.zeroCells z.cells (grownCap w (xs.length + m) old e - (xs.length + m))) e)) := ⟨rfl, rfl, rfl, by simp, fun k hk => Below.heap_alloc w.drew _ k (by simpa using hk)⟩
   refine ⟨(Turn.of_below o k hb).mono (fun _ h => h.elim), .inr ⟨w.heap.size, 0, _, _, by rw [hlo], heap_alloc_new w.drew _, ext_new (Nat.le_refl _), by rw [hlo]; exact hge, ?_, hcm, ?_⟩⟩
   ·
    simp only [Array.size_append, List.size_toArray, size_zeroCells, hzs, hl]
    omega
   ·
    simp only [Array.toList_append, List.append_assoc, List.drop_zero]
    rw [← List.append_assoc]
    exact List.take_left
  rcases hown with ⟨rfl, rfl⟩ | ⟨g, off, cap, cur, rfl, h2, h3, h4, h5, h6, h7⟩
  ·
   by_cases hm : m = 0
   ·
    subst hm
    have hn : news = [] := List.eq_nil_of_length_eq_zero hl
    subst hn
    refine ⟨.slice none 0 0, w, ?_, T0, OffRow.nil _ _ _ _⟩
    simp [Builtin.append_, run_underlying ht, sizeOf, typeInfo, hi, Builtin.lenOf, Builtin.firstCells, loadCells, loadCellsFrom]
   ·
    have hb0 := hgrow 0 (by simp; omega)
    simp only [List.length_nil, Nat.zero_add, nextslicecap_zero (need := m) (by omega)] at hb0
    have hr := run_append_nil (P := P) w t ty e i z ht hi hz a m c news (by rw [hsize, hl, Nat.mul_one]) hnews (by omega) (by have := hsmall; simp at this; omega) (by rw [hby]; exact hb0)
    have hgr := grown 0 (by simp; omega)
    simp only [List.length_nil, Nat.zero_add, List.nil_append, Array.empty_append] at hgr ⊢
    exact ⟨_, _, hr, hgr.1, hgr.2⟩
  ·
   by_cases hroom : xs.length + m ≤ cap
   ·
    have hr := run_room_off (P := P) w t ty e i ht hi hsize g off xs.length cap cur h2 a m c news hl hnews h1 hroom h5
    have hm : Mods (fun j => j = g) w (w.setRow g (cur.toList.take (off + xs.length) ++ news ++ cur.toList.drop (off + xs.length + news.length)).toArray) := ⟨rfl, rfl, rfl, by simp, fun j _ hj => setRow_other w g j _ hj⟩
    refine ⟨_, _, hr, Turn.of_mods o k hm (fun j _ e => by rw [e]; exact h3), .inr ⟨g, off, cap, _, by rw [hlo], setRow_heap w g cur _ e _ h2, (ext_old (block_lt h2)).trans h3, by rw [hlo]; exact hroom, ?_, h6, ?_⟩⟩
    ·
     simp only [List.size_toArray, List.length_append, List.length_take, List.length_drop, Array.length_toList]
     omega
    ·
     simp only [hlo]
     have e1 : (cur.toList.take (off + xs.length)).drop off = xs := by rw [List.drop_take, Nat.add_sub_cancel_left, h7]
     have hlt : (cur.toList.take (off + xs.length)).length = off + xs.length := by
      have hcl : cur.toList.length = cur.size := Array.length_toList
      rw [List.length_take]
      omega
     rw [List.append_assoc, List.drop_append_of_le_length (by rw [hlt]; omega), e1, ← List.append_assoc, ← hlo]
     exact List.take_left
   ·
    have holds : ∀ j u, xs[j]? = some u → w.cell? ((⟨g, off, none⟩ : Addr).add j) = some u := fun j u hu => by
     have hj := (List.getElem?_eq_some_iff.1 hu).1
     rw [Addr.add_lit]
     refine cells_row w g h2 (off + j) u ?_
     rw [← h7, List.getElem?_take_of_lt hj, List.getElem?_drop] at hu
     rw [← Array.getElem?_toList]
     exact hu
    have hr := run_append_grow (P := P) w t ty e i z ht hi hz ⟨g, off, none⟩ xs.length cap xs (by rw [hsize, Nat.mul_one]) holds a m c news (by rw [hsize, hl, Nat.mul_one]) hnews (by omega) (by omega) (by rw [hby]; exact hgrow cap (by omega))
    have hgr := grown cap (by omega)
    exact ⟨_, _, hr, hgr.1, hgr.2⟩
theorem wpList_app_off {P : Program} {w : World} {ops : Array Oper} {rest : List Oper} {op : Oper} {a : Go.Act} {Q : Exit → Go.Act → World → Prop} (hgd : op.guard = none) (s x : Operand) (t : TypeId)
  (ho : op.op = .call { callee := .builtin .append, args := #[s, x], argTypes := #[t, t] })
  (o : Col) (k : Nat) (e : TypeId) (i : TypeInfo) (z : Value) (bytes : Nat) (ht : P.underlying t = some (.slice e)) (hi : P.info? e = some i) (hz : i.zero = some z)
  (hsize : i.size = 1) (hby : i.bytes = bytes) (hzs : z.cells.size = 1)
  (v : Value) (xs : List Value) (hs : a.eval s = v) (hown : OffRow w o k e v xs)
  (ao : Option Addr) (m c : Nat) (news : List Value) (hx : a.eval x = .slice ao m c) (hl : news.length = m) (hnone : ao = none → m = 0) (hnews : ∀ ad, ao = some ad → ∀ j u, news[j]? = some u → w.cell? (ad.add j) = some u) (h1 : ∀ u ∈ news, u.oneCell' = true)
  (h63 : xs.length + m ≤ maxLen) (hgrow : ∀ old, old < xs.length + m → Builtin.nextslicecap (xs.length + m) old * bytes ≤ 281474976710656)
  (h : ∀ v' w', Turn o (ext o w.heap.size k) (fun x => x = k) w w' → OffRow w' (ext o w.heap.size k) k e v' (xs ++ news) → wpList P ops Q rest (a.put op.dst v') w') : wpList P ops Q (op :: rest) a w := by
 refine wpList_plain hgd fun K hK => ?_
 obtain ⟨v', w', hr, h2, h3⟩ := run_app_off (P := P) w o k t op.type e i z bytes ht hi hz hsize hby hzs v xs hown ao m c news hl hnone hnews h1 h63 hgrow
 unfold Oper.wp execOp
 simp only [ho, resolve, invoke, builtin, Sem.run_bind, Sem.run_pure, Result.andThen_ok, List.map_toArray, List.map_cons, List.map_nil, hs, hx, hr]
 exact hK _ _ (h v' w' h2 h3)
end Go.Proofs.YtaholpfikcdhbaaGreat

/- A rig in memory. No function in sight. -/
namespace Go.Proofs.YtaholpfikcdhbaaGreat
open Go.RowKit
def QAt (w : World) (o : Col) (c b : Nat) (C : Int) (l : List Int) (N : Nat) : Prop := ∃ r, IQ w 0 b C l r N ∧ o b = c ∧ ∀ k, r = some k → o k = c
theorem QAt.turn {w w' : World} {o o' : Col} {C : Nat → Prop} {c b : Nat} {cap : Int} {l : List Int} {N : Nat} (h : QAt w o c b cap l N) (T : Turn o o' C w w') (hc : ¬ C c) : QAt w' o' c b cap l N := by
 obtain ⟨r, h1, h2, h3⟩ := h
 obtain ⟨hb, _, hr, _⟩ := h1.lt
 refine ⟨r, h1.frame T.mods (by rw [h2]; exact hc) (fun k hk => by rw [h3 k hk]; exact hc), (T.same b hb).trans h2, fun k hk => (T.same k (hr k hk).2.1).trans (h3 k hk)⟩
theorem QAt.mono {w : World} {o : Col} {c b : Nat} {cap : Int} {l : List Int} {N N' : Nat} (h : QAt w o c b cap l N) (hN : N ≤ N') : QAt w o c b cap l N' := by
 obtain ⟨r, h1, h2, h3⟩ := h
 exact ⟨r, h1.mono hN, h2, h3⟩
structure TVals where
 body : Nat
 src : Value
 dst : Value
 ins : Value
 outs : Value
 hand : Nat
 hvs : List Value
 gift : Value
 gvs : List Value
abbrev Ptrs := Nat → Nat
def srcV (qs : Ptrs) (g : GGraph) (t q : Nat) : Value := .iface 112 (.agg #[.pointer (some ⟨qs (fromP g t q), 0, none⟩)])
def dstV (qs : Ptrs) (g : GGraph) (t p : Nat) : Value := if toP g t p < g.edges.length then .iface 112 (.agg #[.pointer (some ⟨qs (toP g t p), 0, none⟩)]) else .iface 119 (.pointer (some ⟨qs (toP g t p), 0, none⟩))
structure RowsAt (w : World) (o : Col) (c d g : Nat) (l : List (List Int)) (vs : List Value) : Prop where
 len : vs.length = l.length
 blk : Blk w o c g 27 vs.toArray
 row : ∀ k (h : k < l.length), OffRow w o (d + k) 3 (vs[k]'(by rw [len]; exact h)) (ivs l[k])
theorem RowsAt.turn {w w' : World} {o o' : Col} {C : Nat → Prop} {c d g : Nat} {l : List (List Int)} {vs : List Value} (h : RowsAt w o c d g l vs) (T : Turn o o' C w w') (hc : ¬ C c) (hd : ∀ k, k < l.length → ¬ C (d + k)) : RowsAt w' o' c d g l vs :=
 ⟨h.len, h.blk.turn T hc, fun k hk => (h.row k hk).turn T (hd k hk)⟩
def taskV (x : TaskP) (v : TVals) (nI : Nat) : List Value := [.pointer (some ⟨v.body, 0, none⟩), v.src, v.dst, v.ins, v.outs, .slice (some ⟨v.hand, 0, none⟩) nI nI, v.gift, .int .i64 (x.port : Int), .bool x.gives, .int .i64 (x.whole : Int)]
def GiftAt (w : World) (o : Col) (c d : Nat) (x : TaskP) (v : TVals) : Prop :=
 (x.gives = false ∧ v.gift = .slice none 0 0) ∨ (x.gives = true ∧ Own w o c 27 1 v.gift x.gift.length v.gvs ∧ v.gvs.length = x.gift.length ∧ ∀ k (h : k < x.gift.length), OffRow w o (d + k) 3 (v.gvs[k]?.getD undef) (ivs x.gift[k]))
theorem GiftAt.turn {w w' : World} {o o' : Col} {C : Nat → Prop} {c d : Nat} {x : TaskP} {v : TVals} (h : GiftAt w o c d x v) (T : Turn o o' C w w') (hc : ¬ C c) (hd : ∀ k, k < x.gift.length → ¬ C (d + k)) : GiftAt w' o' c d x v := by
 rcases h with h | ⟨h1, h4, h5, h6⟩
 ·
  exact .inl h
 ·
  exact .inr ⟨h1, h4.turn T hc, h5, fun k hk => (h6 k hk).turn T (hd k hk)⟩
structure TaskAt (w : World) (o : Col) (M b : Nat) (g : GGraph) (qs : Ptrs) (t : Nat) (x : TaskP) (v : TVals) : Prop where
 blk : Blk w o M b 103 (taskV x v (ratesI g t).length).toArray
 act : ∀ a, g.actors[t]? = some a → Act w o (M + 1) (M + 2) v.body a.tag a.params x.keep x.n
 ins : Ints w o (M + 3) v.ins (ratesI g t)
 outs : Ints w o (M + 4) v.outs (ratesO g t)
 src : Vals w o (M + 5) v.src ((List.range (ratesI g t).length).map (srcV qs g t))
 dst : Vals w o (M + 6) v.dst ((List.range (ratesO g t).length).map (dstV qs g t))
 hand : RowsAt w o (M + 7) (M + 16) v.hand x.hand v.hvs
 gift : GiftAt w o (M + 8) (M + 32) x v
 few : (ratesI g t).length ≤ 16 ∧ (ratesO g t).length ≤ 16 ∧ x.hand.length ≤ 16 ∧ x.gift.length ≤ 16
def MineT (M x : Nat) : Prop := M ≤ x ∧ x < M + 48
theorem TaskAt.turn {w w' : World} {o o' : Col} {C : Nat → Prop} {M b : Nat} {g : GGraph} {qs : Ptrs} {t : Nat} {x : TaskP} {v : TVals} (h : TaskAt w o M b g qs t x v) (T : Turn o o' C w w') (hC : ∀ k, C k → ¬ MineT M k) : TaskAt w' o' M b g qs t x v := by
 have hc : ∀ j, j < 48 → ¬ C (M + j) := fun j hj hcc => hC _ hcc ⟨by omega, by omega⟩
 have h0 : ¬ C M := hc 0 (by omega)
 obtain ⟨_, _, f3, f4⟩ := h.few
 exact ⟨h.blk.turn T h0, fun a ha => (h.act a ha).turn T (hc 1 (by omega)) (hc 2 (by omega)), h.ins.turn T (hc 3 (by omega)), h.outs.turn T (hc 4 (by omega)), h.src.turn T (hc 5 (by omega)), h.dst.turn T (hc 6 (by omega)), h.hand.turn T (hc 7 (by omega)) (fun k hk => by rw [Nat.add_assoc]; exact hc _ (by omega)), h.gift.turn T (hc 8 (by omega)) (fun k hk => by rw [Nat.add_assoc]; exact hc _ (by omega)), h.few⟩
structure RVals where
 tasks : Value
 edges : Value
 inputs : Value
 tapes : Value
 tb : Nat → Nat
 tv : Nat → TVals
 rows : Nat → Value
def capD (caps : List Int) (d : Nat) : Int := caps[d]?.getD 9223372036854775807
def rigV (r : RunP) (v : RVals) : List Value := [v.tasks, v.edges, v.inputs, v.tapes, .int .i64 (match r.failed with | some t => (t : Int) | none => -1)]
def ptrV (b : Nat) : Value := .pointer (some ⟨b, 0, none⟩)
def bndD (g : GGraph) (M : Nat) (J : Nat → Nat) (d : Nat) : Nat := if g.edges.length ≤ d ∧ d < g.edges.length + g.ins.length then J (d - g.edges.length) else M
def stepN (g : GGraph) (N : Nat → Nat) (d : Nat) : Nat := if g.edges.length ≤ d ∧ d < g.edges.length + g.ins.length then N d else N d + 1
theorem stepN_le (g : GGraph) (N : Nat → Nat) (d : Nat) : N d ≤ stepN g N d := by unfold stepN; split <;> omega
theorem stepN_edge {g : GGraph} {N : Nat → Nat} {d : Nat} (h : d < g.edges.length) : stepN g N d = N d + 1 := by unfold stepN; rw [if_neg (by omega)]
theorem stepN_bnd (g : GGraph) (M : Nat) (J : Nat → Nat) : stepN g (bndD g M J) = bndD g (M + 1) J := by
 funext d
 unfold stepN bndD
 split <;> rfl
theorem bndD_mono {g : GGraph} {M M' : Nat} {J : Nat → Nat} (h : M ≤ M') (d : Nat) : bndD g M J d ≤ bndD g M' J d := by unfold bndD; split <;> omega
theorem bndD_tape {g : GGraph} {M : Nat} {J : Nat → Nat} {d : Nat} (h : g.edges.length + g.ins.length ≤ d) : bndD g M J d = M := by unfold bndD; rw [if_neg (by omega)]
theorem bndD_edge {g : GGraph} {M : Nat} {J : Nat → Nat} {d : Nat} (h : d < g.edges.length) : bndD g M J d = M := by unfold bndD; rw [if_neg (by omega)]
theorem bndD_in {g : GGraph} {M : Nat} {J : Nat → Nat} {k : Nat} (h : k < g.ins.length) : bndD g M J (g.edges.length + k) = J k := by unfold bndD; rw [if_pos (by omega), Nat.add_sub_cancel_left]
structure RigAt (w : World) (o : Col) (R b : Nat) (g : GGraph) (caps : List Int) (N : Nat → Nat) (qs : Ptrs) (r : RunP) (v : RVals) : Prop where
 blk : Blk w o R b 91 (rigV r v).toArray
 tasks : Vals w o (R + 1) v.tasks ((List.range g.actors.length).map fun t => ptrV (v.tb t))
 edges : Vals w o (R + 2) v.edges ((List.range g.edges.length).map fun d => ptrV (qs d))
 inputs : Vals w o (R + 3) v.inputs ((List.range g.ins.length).map fun d => ptrV (qs (g.edges.length + d)))
 tapes : Vals w o (R + 4) v.tapes ((List.range g.outs.length).map fun d => ptrV (qs (g.edges.length + g.ins.length + d)))
 task : ∀ t, t < g.actors.length → TaskAt w o (R + 100 + 64 * t) (v.tb t) g qs t (r.rig.tasks t) (v.tv t)
 queue : ∀ d, d < g.edges.length + g.ins.length → QAt w o (R + 4000 + d) (qs d) (capD caps d) (r.rig.strs d) (N d)
 tape : ∀ d, g.edges.length + g.ins.length ≤ d → d < g.edges.length + g.ins.length + g.outs.length → Blk w o (R + 4000 + d) (qs d) 121 #[v.rows d] ∧ Own w o (R + 5000 + d) 3 1 (v.rows d) (r.rig.strs d).length (ivs (r.rig.strs d))
 few : g.actors.length ≤ 32 ∧ g.edges.length ≤ 96 ∧ g.ins.length ≤ 16 ∧ g.outs.length ≤ 16
def MineR (R x : Nat) : Prop := R ≤ x ∧ x < R + 6000
theorem RigAt.turn {w w' : World} {o o' : Col} {C : Nat → Prop} {R b : Nat} {g : GGraph} {caps : List Int} {N : Nat → Nat} {qs : Ptrs} {r : RunP} {v : RVals} (h : RigAt w o R b g caps N qs r v) (T : Turn o o' C w w') (hC : ∀ k, C k → ¬ MineR R k) : RigAt w' o' R b g caps N qs r v := by
 have hc : ∀ j, j < 6000 → ¬ C (R + j) := fun j hj hcc => hC _ hcc ⟨by omega, by omega⟩
 have h0 : ¬ C R := hc 0 (by omega)
 obtain ⟨f1, f2, f3, f4⟩ := h.few
 refine ⟨h.blk.turn T h0, h.tasks.turn T (hc 1 (by omega)), h.edges.turn T (hc 2 (by omega)), h.inputs.turn T (hc 3 (by omega)), h.tapes.turn T (hc 4 (by omega)), fun t ht => (h.task t ht).turn T (fun k hk hm => hC k hk ⟨?_, ?_⟩), fun d hd => (h.queue d hd).turn T (by rw [Nat.add_assoc]; exact hc _ (by omega)), fun d hd hd2 => ⟨(h.tape d hd hd2).1.turn T (by rw [Nat.add_assoc]; exact hc _ (by omega)), (h.tape d hd hd2).2.turn T (by rw [Nat.add_assoc]; exact hc _ (by omega))⟩, h.few⟩
 ·
  unfold MineT at hm; omega
 ·
  unfold MineT at hm; omega
end Go.Proofs.YtaholpfikcdhbaaGreat

/- Channels and tapes: their calls. -/
namespace Go.Proofs.YtaholpfikcdhbaaGreat
open Go.RowKit
theorem disp_waits (b : Nat) (w : World) : (method 363 112 (.agg #[.pointer (some ⟨b, 0, none⟩)]) "pianola/dyn.waits").run Tryz.prog w = .ok (143, .agg #[.pointer (some ⟨b, 0, none⟩)]) w := by kernel_rfl
theorem disp_take (b : Nat) (w : World) : (method 363 112 (.agg #[.pointer (some ⟨b, 0, none⟩)]) "pianola/dyn.take").run Tryz.prog w = .ok (142, .agg #[.pointer (some ⟨b, 0, none⟩)]) w := by kernel_rfl
theorem disp_cfull (b : Nat) (w : World) : (method 363 112 (.agg #[.pointer (some ⟨b, 0, none⟩)]) "pianola/dyn.full").run Tryz.prog w = .ok (141, .agg #[.pointer (some ⟨b, 0, none⟩)]) w := by kernel_rfl
theorem disp_cgive (b : Nat) (w : World) : (method 363 112 (.agg #[.pointer (some ⟨b, 0, none⟩)]) "pianola/dyn.give").run Tryz.prog w = .ok (59, .agg #[.pointer (some ⟨b, 0, none⟩)]) w := by kernel_rfl
theorem disp_tfull (b : Nat) (w : World) : (method 363 119 (.pointer (some ⟨b, 0, none⟩)) "pianola/dyn.full").run Tryz.prog w = .ok (145, .pointer (some ⟨b, 0, none⟩)) w := by kernel_rfl
theorem disp_tgive (b : Nat) (w : World) : (method 363 119 (.pointer (some ⟨b, 0, none⟩)) "pianola/dyn.give").run Tryz.prog w = .ok (146, .pointer (some ⟨b, 0, none⟩)) w := by kernel_rfl
set_option maxHeartbeats 400000 in
theorem cwaits_any {w : World} {o : Col} {c b : Nat} {C : Int} {l : List Int} {N : Nat} (h : QAt w o c b C l N) (hN : N ≤ 27000000000000) : Calls Tryz.prog 143 #[.agg #[.pointer (some ⟨b, 0, none⟩)]] w (Tells (.bool (decide (l.length = 0))) w) := by
 have hli : ((l.length : Int) == 0) = decide (l.length = 0) := by
  by_cases h : l.length = 0
  ·
   rw [decide_eq_true h, beq_iff_eq]; omega
  ·
   rw [decide_eq_false h, beq_eq_false_iff_ne]; omega
 generalize decide (l.length = 0) = z at hli ⊢
 have hbx := below_alloc w (.cells #[.pointer (some ⟨b, 0, none⟩)] 112)
 have x0 := cells_row _ _ (heap_alloc_new w (.cells #[.pointer (some ⟨b, 0, none⟩)] 112)) 0 _ rfl
 have hq := h.turn (Turn.of_below o 7 hbx) (fun h => h)
 obtain ⟨r, hi, hb, hr⟩ := hq
 have HB := Lib.hid hbx
 have HI := Lib.hid hi
 clear hbx h hi
 go_enter Tryz.func143, Tryz.ntmps143
 go_wp2_with fail
 refine (iq_len HI.out hN).mono ?_
 rintro e w1 ⟨rfl, m, rfl⟩
 clear hb hr HI hN
 go_wp2
 go_ret
 exact ⟨rfl, below_dr (n := m) HB.out⟩
set_option maxHeartbeats 400000 in
theorem cfull_any {w : World} {o : Col} {c b : Nat} {C : Int} {l : List Int} {N : Nat} (h : QAt w o c b C l N) (hN : N ≤ 27000000000000) : Calls Tryz.prog 141 #[.agg #[.pointer (some ⟨b, 0, none⟩)]] w (Tells (.bool (decide (C ≤ l.length))) w) := by
 have hli : (max 0 (C - (l.length : Int)) == 0) = decide (C ≤ l.length) := by
  by_cases h : C ≤ l.length
  ·
   rw [decide_eq_true h, beq_iff_eq]; omega
  ·
   rw [decide_eq_false h, beq_eq_false_iff_ne]; omega
 generalize decide (C ≤ (l.length : Int)) = z at hli ⊢
 have hbx := below_alloc w (.cells #[.pointer (some ⟨b, 0, none⟩)] 112)
 have x0 := cells_row _ _ (heap_alloc_new w (.cells #[.pointer (some ⟨b, 0, none⟩)] 112)) 0 _ rfl
 have hq := h.turn (Turn.of_below o 7 hbx) (fun h => h)
 obtain ⟨r, hi, hb, hr⟩ := hq
 have HB := Lib.hid hbx
 have HI := Lib.hid hi
 clear hbx h hi
 go_enter Tryz.func141, Tryz.ntmps141
 go_wp2_with fail
 refine (iq_room HI.out hN).mono ?_
 rintro e w1 ⟨rfl, m, rfl⟩
 clear hb hr HI hN
 generalize max 0 (C - (l.length : Int)) = R at hli ⊢
 go_wp2
 go_ret
 exact ⟨rfl, below_dr (n := m) HB.out⟩
def Gave (w : World) (o : Col) (c b : Nat) (C : Int) (l : List Int) (N : Nat) (v : Value) (e : Ending) (w' : World) : Prop := ∃ o', e = .returned v ∧ Turn o o' (fun x => x = c) w w' ∧ QAt w' o' c b C l N
theorem qat_of {w w' : World} {o : Col} {c b : Nat} {C : Int} {l : List Int} {N : Nat} {r r' : Option Nat} {F : Nat → Prop} (hi : IQ w' 0 b C l r' N) (hm : Mods F w w') (hF : ∀ k, k < w.heap.size → F k → o k = c) (hbl : b < w.heap.size) (hb : o b = c) (hr : ∀ k, r = some k → o k = c ∧ k < w.heap.size) (h4 : r' = r ∨ ∃ k, r' = some k ∧ w.heap.size ≤ k) :
  Turn o (ext o w.heap.size c) (fun x => x = c) w w' ∧ QAt w' (ext o w.heap.size c) c b C l N := by
 refine ⟨⟨hm.mono hF, fun k hk => ext_old hk⟩, r', hi, (ext_old hbl).trans hb, fun k hk => ?_⟩
 rcases h4 with rfl | ⟨k', e1, e2⟩
 ·
  obtain ⟨h1, h2⟩ := hr k hk
  exact (ext_old h2).trans h1
 ·
  rw [e1] at hk
  cases hk
  exact ext_new e2
set_option maxHeartbeats 400000 in
theorem cgive_any {w : World} {o : Col} {c b : Nat} {C : Int} {l : List Int} {N : Nat} (X : Int) (h : QAt w o c b C l N) (hN : N < 27000000000000) (hl : (l.length : Int) < C) : Calls Tryz.prog 59 #[.agg #[.pointer (some ⟨b, 0, none⟩)], .int .i64 X] w (Gave w o c b C (l ++ [X]) (N + 1) (.tuple #[])) := by
 obtain ⟨r0, hi0, hb0, hr0⟩ := h
 obtain ⟨l1, _, l3, _⟩ := hi0.lt
 have hbx := below_alloc w (.cells #[.pointer (some ⟨b, 0, none⟩)] 112)
 have x0 := cells_row _ _ (heap_alloc_new w (.cells #[.pointer (some ⟨b, 0, none⟩)] 112)) 0 _ rfl
 have hm0 := (Mods.refl (fun k => k = b ∨ r0 = some k) w).alloc (.cells #[.pointer (some ⟨b, 0, none⟩)] 112)
 have hi1 := hi0.frame ((Mods.refl (fun _ => False) w).alloc (.cells #[.pointer (some ⟨b, 0, none⟩)] 112)) (fun h => h) (fun _ _ h => h)
 have HI := Lib.hid hi1
 have HM := Lib.hid hm0
 have HS := Lib.hid hbx.size
 have HL := Lib.hid (And.intro l1 (And.intro hb0 (And.intro hr0 l3)))
 clear hi0 hb0 hr0 l1 l3 hbx hm0 hi1
 go_enter Tryz.func59, Tryz.ntmps59
 go_wp2_with fail
 refine (iq_put_yes HI.out hN (Nat.zero_le _) hl).mono ?_
 rintro e w1 ⟨rfl, r', hq, hm, h4⟩
 have HQ := Lib.hid hq
 have HM2 := Lib.hid hm
 have H4 := Lib.hid h4
 clear hq hm h4 x0 hl
 go_wp2
 go_end0
 obtain ⟨l1, hb0, hr0, l3⟩ := HL.out
 obtain ⟨T, Q⟩ := qat_of (r := r0) HQ.out (HM.out.trans HM2.out (fun _ _ h => h) (fun _ _ h => h)) (fun k hk hF => by
  rcases hF with rfl | hF
  ·
   exact hb0
  ·
   exact hr0 k hF) l1 hb0 (fun k hk => ⟨hr0 k hk, (l3 k hk).2.1⟩) (by
  rcases H4.out with h | ⟨k, h, hk⟩
  ·
   exact .inl h
  ·
   exact .inr ⟨k, h, Nat.le_trans HS.out hk⟩)
 exact ⟨_, rfl, T, Q⟩
set_option maxHeartbeats 400000 in
theorem ctake_any {w : World} {o : Col} {c b : Nat} {C x : Int} {l : List Int} {N : Nat} (h : QAt w o c b C (x :: l) N) (hN : N ≤ 27000000000000) : Calls Tryz.prog 142 #[.agg #[.pointer (some ⟨b, 0, none⟩)]] w (Gave w o c b C l N (.int .i64 x)) := by
 obtain ⟨r0, hi0, hb0, hr0⟩ := h
 obtain ⟨l1, _, l3, _⟩ := hi0.lt
 have hbx := below_alloc w (.cells #[.pointer (some ⟨b, 0, none⟩)] 112)
 have x0 := cells_row _ _ (heap_alloc_new w (.cells #[.pointer (some ⟨b, 0, none⟩)] 112)) 0 _ rfl
 have hm0 := (Mods.refl (fun k => k = b) w).alloc (.cells #[.pointer (some ⟨b, 0, none⟩)] 112)
 have hi1 := hi0.frame ((Mods.refl (fun _ => False) w).alloc (.cells #[.pointer (some ⟨b, 0, none⟩)] 112)) (fun h => h) (fun _ _ h => h)
 have HI := Lib.hid hi1
 have HM := Lib.hid hm0
 have HS := Lib.hid hbx.size
 have HL := Lib.hid (And.intro l1 (And.intro hb0 (And.intro hr0 l3)))
 clear hi0 hb0 hr0 l1 l3 hbx hm0 hi1
 go_enter Tryz.func142, Tryz.ntmps142
 go_wp2_with fail
 refine (iq_take_cons HI.out hN (Nat.zero_le _)).mono ?_
 rintro e w1 ⟨rfl, r', hq, hm, h4⟩
 have HQ := Lib.hid hq
 have HM2 := Lib.hid hm
 have H4 := Lib.hid h4
 clear hq hm h4 x0
 go_wp2
 go_ret
 obtain ⟨l1, hb0, hr0, l3⟩ := HL.out
 obtain ⟨T, Q⟩ := qat_of (r := r0) HQ.out (HM.out.trans HM2.out (fun _ _ h => h) (fun _ _ h => h)) (fun k hk hF => by rw [show k = b from hF]; exact hb0) l1 hb0 (fun k hk => ⟨hr0 k hk, (l3 k hk).2.1⟩) (by
  rcases H4.out with h | ⟨k, h, hk⟩
  ·
   exact .inl h
  ·
   exact .inr ⟨k, h, Nat.le_trans HS.out hk⟩)
 exact ⟨_, rfl, T, Q⟩
theorem tfull_any (w : World) (b : Nat) : Calls Tryz.prog 145 #[.pointer (some ⟨b, 0, none⟩)] w (SameW (.bool false) w) := by
 go_enter Tryz.func145, Tryz.ntmps145
 go_wp2
 go_ret
 exact ⟨rfl, rfl⟩
end Go.Proofs.YtaholpfikcdhbaaGreat

/- A task: begin, finish. -/
namespace Go.Proofs.YtaholpfikcdhbaaGreat
open Go.RowKit
theorem mk_rows (n : Nat) (hn : n ≤ 100000) (w : World) : (Instr.makeSlice 28 (.int .i64 (n : Int)) (.int .i64 (n : Int))).run Tryz.prog w = .ok (.slice (some ⟨w.heap.size, 0, none⟩) n n) (w.alloc (.cells (List.replicate n (.slice none 0 0)).toArray 27)) := by
 obtain ⟨i0, hi, hz0, hz1, hz2⟩ := info_parts info_ints
 have h := run_make (P := Tryz.prog) (w := w) 28 27 i0 _ Tryz.underlying28 hi hz0 .i64 .i64 n n (by omega) (Int.le_refl _) (by rw [hz2]; omega) (by omega)
 have e : madeCells (Value.cells (.slice none 0 0)) (n * 1) = (List.replicate n (.slice none 0 0)).toArray := by rw [← made_rows n]
 rw [h, Int.toNat_natCast, hz1, e]
def TaskRet (w : World) (o : Col) (M b : Nat) (g : GGraph) (qs : Ptrs) (t : Nat) (x' : TaskP) (e : Ending) (w' : World) : Prop := ∃ o' v', e = .returned (.tuple #[]) ∧ Turn o o' (MineT M) w w' ∧ TaskAt w' o' M b g qs t x' v'
theorem mineT_self (M : Nat) : ∀ x, x = M → MineT M x := fun x h => by subst h; unfold MineT; omega
set_option maxRecDepth 100000 in
set_option maxHeartbeats 1000000 in
theorem tbegin_any {w : World} {o : Col} {M b : Nat} {g : GGraph} {qs : Ptrs} {t : Nat} {x : TaskP} {v : TVals} (h : TaskAt w o M b g qs t x v) : Calls Tryz.prog 45 #[.pointer (some ⟨b, 0, none⟩)] w (TaskRet w o M b g qs t (beginP (ratesI g t).length x)) := by
 have H := Lib.hid h
 obtain ⟨ia, ic, hia⟩ := h.ins.slice
 have hb := h.blk
 unfold taskV at hb
 rw [hia] at hb
 have HIA := Lib.hid hia
 obtain ⟨n, hn⟩ : ∃ x, (ratesI g t).length = x := ⟨_, rfl⟩
 have HN := Lib.hid hn
 have hn16 : n ≤ 16 := by rw [← hn]; exact h.few.1
 rw [hn] at hb
 have hmk := mk_rows n (by omega) w
 obtain ⟨zi, hzi⟩ : ∃ x, (List.replicate n (Value.slice none 0 0)).toArray = x := ⟨_, rfl⟩
 rw [hzi] at hmk
 have HZI := Lib.hid hzi
 have c3 := hb.cell 3 _ rfl
 have hba := below_alloc w (.cells zi 27)
 have T1 := Turn.of_below o (M + 7) hba
 have hb1 := hb.turn T1 (fun h => h)
 have c5 := hb1.cell 5 _ rfl
 have c6 := hb1.cell 6 _ rfl
 have c7 := hb1.cell 7 _ rfl
 have c8 := hb1.cell 8 _ rfl
 have f5 := hb1.frozen 5
 have f6 := hb1.frozen 6
 have f7 := hb1.frozen 7
 have f8 := hb1.frozen 8
 have HB1 := Lib.hid hb1
 have HT1 := Lib.hid T1
 clear h hb hn hia hba T1 hb1 hzi hn16
 go_enter Tryz.func45, Tryz.ntmps45
 go_wp2
 go_end0
 have h := H.out
 have hn := HN.out
 have hzi := HZI.out
 have hia := HIA.out
 have T1 := HT1.out
 have B0 := HB1.out
 obtain ⟨B1, S1⟩ := B0.set 5 (.slice (some ⟨w.heap.size, 0, none⟩) n n)
 obtain ⟨B2, S2⟩ := B1.set 6 (.slice none 0 0)
 obtain ⟨B3, S3⟩ := B2.set 7 (.int .i64 0)
 obtain ⟨B4, S4⟩ := B3.set 8 (.bool false)
 have S := ((S1.trans S2 (fun _ h => h)).trans S3 (fun _ h => h)).trans S4 (fun _ h => h)
 have TT := (T1.mono (D := fun x => x = M) (fun _ h => h.elim)).trans S (fun _ h => h)
 have N0 : Blk (w.alloc (.cells zi 27)) (ext o w.heap.size (M + 7)) (M + 7) w.heap.size 27 zi := ⟨heap_alloc_new w _, ext_new (Nat.le_refl _)⟩
 have N1 := N0.turn S (fun h => by omega)
 refine ⟨_, { v with hand := w.heap.size, hvs := List.replicate n (.slice none 0 0), gift := .slice none 0 0, gvs := [] }, rfl, TT.mono (mineT_self M), ?_⟩
 have hC : ∀ j, 0 < j → ¬ (M + j = M) := fun j hj => by omega
 refine ⟨?_, fun a ha => (h.act a ha).turn TT (hC 1 (by omega)) (hC 2 (by omega)), h.ins.turn TT (hC 3 (by omega)), h.outs.turn TT (hC 4 (by omega)), h.src.turn TT (hC 5 (by omega)), h.dst.turn TT (hC 6 (by omega)), ⟨?_, ?_, fun k hk => ?_⟩, .inl ⟨rfl, rfl⟩, ?_⟩
 ·
  have hcs : #[Value.pointer (some ⟨v.body, 0, none⟩), v.src, v.dst, .slice ia n ic, v.outs, .slice (some ⟨w.heap.size, 0, none⟩) n n, .slice none 0 0, .int .i64 0, .bool false, .int .i64 (x.whole : Int)] = (taskV (beginP (ratesI g t).length x) { v with hand := w.heap.size, hvs := List.replicate n (.slice none 0 0), gift := .slice none 0 0, gvs := [] } (ratesI g t).length).toArray := by
   rw [hn] at hia ⊢
   unfold taskV beginP
   simp [hia]
  rw [← hcs]
  exact B4
 ·
  show (List.replicate n (Value.slice none 0 0)).length = (List.replicate (ratesI g t).length []).length
  simp [hn]
 ·
  show Blk _ _ _ _ _ (List.replicate n (Value.slice none 0 0)).toArray
  rw [hzi]
  exact N1
 ·
  have : k < n := by
   have : (beginP (ratesI g t).length x).hand.length = (ratesI g t).length := by simp [beginP]
   omega
  have e1 : (beginP (ratesI g t).length x).hand[k] = [] := by simp [beginP]
  rw [e1]
  simp only [List.getElem_replicate]
  exact OffRow.nil _ _ _ _
 ·
  obtain ⟨f1, f2, f3, f4⟩ := h.few
  refine ⟨f1, f2, ?_, Nat.zero_le _⟩
  simp only [beginP, List.length_replicate]
  omega
end Go.Proofs.YtaholpfikcdhbaaGreat

/- A task: finish. -/
namespace Go.Proofs.YtaholpfikcdhbaaGreat
open Go.RowKit
theorem TaskAt.drewN {w : World} {o : Col} {M b : Nat} {g : GGraph} {qs : Ptrs} {t : Nat} {x : TaskP} {v : TVals} (h : TaskAt w o M b g qs t x v) (m : Nat) : TaskAt (w.drewN m) o M b g qs t x v := h.turn ((Turn.refl o (fun _ => False) w).drewN m) (fun _ h => h.elim)
theorem TaskAt.fields {w : World} {o : Col} {M b : Nat} {g : GGraph} {qs : Ptrs} {t : Nat} {x x' : TaskP} {v : TVals} (h : TaskAt w o M b g qs t x v) {i : Nat} {u : Value} (hb : (taskV x v (ratesI g t).length).toArray.setIfInBounds i u = (taskV x' v (ratesI g t).length).toArray) (hk : x'.keep = x.keep) (hn : x'.n = x.n) (hh : x'.hand = x.hand) (hg : x'.gift = x.gift) (hs : x'.gives = x.gives) :
  TaskAt (w.setCell ⟨b, i, none⟩ u) o M b g qs t x' v ∧ Turn o o (fun c => c = M) w (w.setCell ⟨b, i, none⟩ u) := by
 obtain ⟨B, S⟩ := h.blk.set i u
 rw [hb] at B
 have hC : ∀ j, 0 < j → ¬ (M + j = M) := fun j hj => by omega
 refine ⟨⟨B, fun a ha => by rw [hk, hn]; exact (h.act a ha).turn S (hC 1 (by omega)) (hC 2 (by omega)), h.ins.turn S (hC 3 (by omega)), h.outs.turn S (hC 4 (by omega)), h.src.turn S (hC 5 (by omega)), h.dst.turn S (hC 6 (by omega)), ?_, ?_, by rw [hh, hg]; exact h.few⟩, S⟩
 ·
  rw [hh]
  exact h.hand.turn S (hC 7 (by omega)) (fun k _ => by omega)
 ·
  have k := h.gift.turn S (hC 8 (by omega)) (fun k _ => by omega)
  unfold GiftAt at k ⊢
  rw [hs, hg]
  exact k
set_option maxRecDepth 100000 in
set_option maxHeartbeats 1000000 in
theorem tfinish_any {w : World} {o : Col} {M b : Nat} {g : GGraph} {qs : Ptrs} {t : Nat} {x : TaskP} {v : TVals} (h : TaskAt w o M b g qs t x v) (hw : x.whole < 4611686018427387904) (_hp : x.port ≤ 1000) : Calls Tryz.prog 63 #[.pointer (some ⟨b, 0, none⟩)] w (TaskRet w o M b g qs t (finishP (ratesI g t).length (ratesO g t).length x)) := by
 have H := Lib.hid h
 obtain ⟨oa, oc, hoa⟩ := h.outs.slice
 have hb := h.blk
 unfold taskV at hb
 rw [hoa] at hb
 have HOA := Lib.hid hoa
 obtain ⟨n, hn⟩ : ∃ x, (ratesO g t).length = x := ⟨_, rfl⟩
 have hn16 : n ≤ 16 := by rw [← hn]; exact h.few.2.1
 have HN := Lib.hid hn
 rw [hn] at hb ⊢
 have c4 := hb.cell 4 _ rfl
 have c7 := hb.cell 7 _ rfl
 have c9 := hb.cell 9 _ rfl
 have f9 := hb.frozen 9
 obtain ⟨p, hpe⟩ : ∃ p, x.port = p := ⟨_, rfl⟩
 obtain ⟨W, hW⟩ : ∃ p, (x.whole : Int) = p := ⟨_, rfl⟩
 have HW := Lib.hid hW
 have HPE := Lib.hid hpe
 unfold finishP
 have hwr : IntKind.i64.wrap (W + 1) = W + 1 := IntWalk.i64_in _ (by omega)
 rw [hpe] at c7 _hp ⊢
 rw [hW] at c9
 have HB := Lib.hid hb
 clear hoa hn hb hpe hW h
 by_cases hpn : p = n
 ·
  rw [if_pos hpn]
  have hpi : ((p : Int) == (n : Int)) = true := by rw [beq_iff_eq]; omega
  have HS := Lib.hid (fun (m : Nat) => (H.out.drewN m).fields (x' := { x with whole := x.whole + 1 }) (i := 9) (u := .int .i64 (W + 1)) (by rw [← HW.out]; unfold taskV; simp) rfl rfl rfl rfl rfl)
  clear hpn
  go_enter Tryz.func63, Tryz.ntmps63
  go_wp2
  go_quiet (fail)
  rename_i m
  go_wp2_with fail
  refine (tbegin_any (HS.out _).1).mono ?_
  rintro e w2 ⟨o', v', rfl, T, TA⟩
  have HT := Lib.hid T
  have HTA := Lib.hid TA
  clear T TA
  go_wp2
  go_end0
  exact ⟨o', v', rfl, (((Turn.refl o (MineT M) w).drewN _).trans ((HS.out _).2.mono (mineT_self M)) (fun _ h => h)).trans HT.out (fun _ h => h), HTA.out⟩
 ·
  rw [if_neg hpn]
  have hpi : ((p : Int) == (n : Int)) = false := by rw [beq_eq_false_iff_ne]; omega
  clear hpn
  go_enter Tryz.func63, Tryz.ntmps63
  go_wp2
  go_quiet (fail)
  go_wp2
  go_end0
  exact ⟨o, v, rfl, (Turn.refl o (MineT M) w).drewN _, H.out.drewN _⟩
end Go.Proofs.YtaholpfikcdhbaaGreat

/- A task: ready. -/
namespace Go.Proofs.YtaholpfikcdhbaaGreat
open Go.RowKit
structure Linked (g : GGraph) : Prop where
 out : ∀ t p, t < g.actors.length → p < (ratesO g t).length → toP g t p < g.edges.length ∨ (g.edges.length + g.ins.length ≤ toP g t p ∧ toP g t p < g.edges.length + g.ins.length + g.outs.length)
 inn : ∀ t q, t < g.actors.length → q < (ratesI g t).length → fromP g t q < g.edges.length + g.ins.length
theorem ready_gives {g : GGraph} {caps : List Int} {s : RigP} {t : Nat} (ht : t < g.actors.length) (h : (s.tasks t).gives = true) : isReady g caps s t = !(fullP caps s (toP g t (s.tasks t).port)) := by
 unfold isReady stepP
 rw [if_neg (by omega), if_pos h]
 cases hf : fullP caps s (toP g t (s.tasks t).port) <;> simp
theorem ready_takes {g : GGraph} {caps : List Int} {s : RigP} {t : Nat} (ht : t < g.actors.length) (h : (s.tasks t).gives = false) (hp : (s.tasks t).port < (ratesI g t).length) : isReady g caps s t = !(decide ((s.strs (fromP g t (s.tasks t).port)).length = 0)) := by
 unfold isReady stepP
 rw [if_neg (by omega), if_neg (by simp [h]), if_pos hp]
 cases hs : s.strs (fromP g t (s.tasks t).port) <;> simp
theorem ready_fires {g : GGraph} {caps : List Int} {s : RigP} {t : Nat} (ht : t < g.actors.length) (h : (s.tasks t).gives = false) (hp : ¬ (s.tasks t).port < (ratesI g t).length) : isReady g caps s t = true := by
 unfold isReady stepP
 rw [if_neg (by omega), if_neg (by simp [h]), if_neg hp]
 by_cases he : (shotP g t (s.tasks t)).err ≠ 0
 ·
  rw [if_pos he]
 ·
  rw [if_neg he]
theorem full_edge {caps : List Int} {s : RigP} {d : Nat} (hd : d < caps.length) : fullP caps s d = decide (capD caps d ≤ (s.strs d).length) := by
 unfold fullP capD
 rw [List.getElem?_eq_getElem hd]
 rfl
theorem full_tape {caps : List Int} {s : RigP} {d : Nat} (hd : caps.length ≤ d) : fullP caps s d = false := by
 unfold fullP
 rw [List.getElem?_eq_none hd]
theorem QAt.below {w w' : World} {o : Col} {c b : Nat} {C : Int} {l : List Int} {N : Nat} (h : QAt w o c b C l N) (hb : Below w.heap.size w w') : QAt w' (ext o w.heap.size 0) c b C l N := h.turn (Turn.of_below o 0 hb) (fun h => h)
set_option maxRecDepth 100000 in
set_option maxHeartbeats 2000000 in
theorem tready_gives {w : World} {b gd fd cd n p : Nat} {ch : Value} {z : Bool} (c8 : w.cell? ⟨b, 8, none⟩ = some (.bool true)) (c1 : w.cell? ⟨b, 2, none⟩ = some (.slice (some ⟨gd, fd, none⟩) n cd)) (c7 : w.cell? ⟨b, 7, none⟩ = some (.int .i64 (p : Int))) (ce : w.cell? ⟨gd, fd + p, none⟩ = some ch) (hp : p < n) (hcd : n ≤ cd)
  (hch : (∃ q, ch = .iface 112 (.agg #[.pointer (some ⟨q, 0, none⟩)]) ∧ ∀ w', Below w.heap.size w w' → Calls Tryz.prog 141 #[.agg #[.pointer (some ⟨q, 0, none⟩)]] w' (Tells (.bool z) w')) ∨ (∃ q, ch = .iface 119 (.pointer (some ⟨q, 0, none⟩)) ∧ z = false)) :
  Calls Tryz.prog 39 #[.pointer (some ⟨b, 0, none⟩)] w (Tells (.bool (!z)) w) := by
 have hpi : (p : Int) < n := by omega
 have hci : (n : Int) ≤ cd := by omega
 rcases hch with ⟨q, rfl, hq⟩ | ⟨q, rfl, rfl⟩
 ·
  have hd := disp_cfull q
  have HQ := Lib.hid hq
  clear hq
  go_enter Tryz.func39, Tryz.ntmps39
  go_wp2_with fail
  refine wp_region_lex (fun w' => w'.cell? ⟨b, 2, none⟩ = some (.slice (some ⟨gd, fd, none⟩) n cd) ∧ w'.cell? ⟨b, 7, none⟩ = some (.int .i64 (p : Int)) ∧ w'.cell? ⟨gd, fd + p, none⟩ = some (.iface 112 (.agg #[.pointer (some ⟨q, 0, none⟩)]))) [0, 1, 2, 3, 4, 5, 6, 7, 8, 9] [10, 11, 12] (by kernel_rfl) (by kernel_rfl) rfl (fun _ _ hx h => ⟨hx.cell h.1, hx.cell h.2.1, hx.cell h.2.2⟩) ⟨c1, c7, ce⟩ ?_
  intro Q' hQ'
  simp only [pickOps, List.flatMap_cons, List.flatMap_nil, List.drop_succ_cons, List.drop_zero, List.take_succ_cons, List.take_zero, List.cons_append, List.nil_append, List.append_nil]
  repeat (first
   | (refine wpReads_skip (by rfl) ?_; (try simp only [Act.put, List.setIfInBounds_toArray, List.set_cons_zero, List.set_cons_succ]))
   | (refine wpReads_cons ?_ (by rfl) (by rfl) ?_ ?_; rotate_left; (intro wz hz; (try dsimp only at hz); go_simp; try with_reducible rfl); (try simp only [Act.put, List.setIfInBounds_toArray, List.set_cons_zero, List.set_cons_succ]))
   | (refine wpReads_any ?_ (by rfl) ?_ ?_; rotate_left; (intro wz; go_simp; try with_reducible rfl); (try simp only [Act.put, List.setIfInBounds_toArray, List.set_cons_zero, List.set_cons_succ])))
  refine wpReads_nil ?_
  go_wp2_with fail
  refine (HQ.out _ (Below.drew (Below.refl _ _))).mono ?_
  rintro e w2 ⟨rfl, h2⟩
  have H2 := Lib.hid h2
  clear h2
  go_wp2_with fail
  go_ret
  exact ⟨rfl, (Below.drew (Below.refl _ _)).trans H2.out⟩
 ·
  have hd := disp_tfull q
  go_enter Tryz.func39, Tryz.ntmps39
  go_wp2_with fail
  refine wp_region_lex (fun w' => w'.cell? ⟨b, 2, none⟩ = some (.slice (some ⟨gd, fd, none⟩) n cd) ∧ w'.cell? ⟨b, 7, none⟩ = some (.int .i64 (p : Int)) ∧ w'.cell? ⟨gd, fd + p, none⟩ = some (.iface 119 (.pointer (some ⟨q, 0, none⟩)))) [0, 1, 2, 3, 4, 5, 6, 7, 8, 9] [10, 11, 12] (by kernel_rfl) (by kernel_rfl) rfl (fun _ _ hx h => ⟨hx.cell h.1, hx.cell h.2.1, hx.cell h.2.2⟩) ⟨c1, c7, ce⟩ ?_
  intro Q' hQ'
  simp only [pickOps, List.flatMap_cons, List.flatMap_nil, List.drop_succ_cons, List.drop_zero, List.take_succ_cons, List.take_zero, List.cons_append, List.nil_append, List.append_nil]
  repeat (first
   | (refine wpReads_skip (by rfl) ?_; (try simp only [Act.put, List.setIfInBounds_toArray, List.set_cons_zero, List.set_cons_succ]))
   | (refine wpReads_cons ?_ (by rfl) (by rfl) ?_ ?_; rotate_left; (intro wz hz; (try dsimp only at hz); go_simp; try with_reducible rfl); (try simp only [Act.put, List.setIfInBounds_toArray, List.set_cons_zero, List.set_cons_succ]))
   | (refine wpReads_any ?_ (by rfl) ?_ ?_; rotate_left; (intro wz; go_simp; try with_reducible rfl); (try simp only [Act.put, List.setIfInBounds_toArray, List.set_cons_zero, List.set_cons_succ])))
  refine wpReads_nil ?_
  go_wp2_with fail
  refine (tfull_any _ _).mono ?_
  rintro e w2 ⟨rfl, rfl⟩
  go_wp2_with fail
  go_ret
  exact ⟨rfl, Below.drew (Below.refl _ _)⟩
set_option maxRecDepth 100000 in
set_option maxHeartbeats 2000000 in
theorem tready_takes {w : World} {b gd fd cd n p q k ik : Nat} {ia : Option Addr} {z : Bool} (c8 : w.cell? ⟨b, 8, none⟩ = some (.bool false)) (c1 : w.cell? ⟨b, 1, none⟩ = some (.slice (some ⟨gd, fd, none⟩) n cd)) (c7 : w.cell? ⟨b, 7, none⟩ = some (.int .i64 (p : Int))) (ce : w.cell? ⟨gd, fd + p, none⟩ = some (.iface 112 (.agg #[.pointer (some ⟨q, 0, none⟩)]))) (c3 : w.cell? ⟨b, 3, none⟩ = some (.slice ia k ik)) (hk : p < k) (hp : p < n) (hcd : n ≤ cd)
  (hq : ∀ w', Below w.heap.size w w' → Calls Tryz.prog 143 #[.agg #[.pointer (some ⟨q, 0, none⟩)]] w' (Tells (.bool z) w')) :
  Calls Tryz.prog 39 #[.pointer (some ⟨b, 0, none⟩)] w (Tells (.bool (!z)) w) := by
 have hpi : (p : Int) < n := by omega
 have hci : (n : Int) ≤ cd := by omega
 have hpk : ((p : Int) == (k : Int)) = false := by rw [beq_eq_false_iff_ne]; omega
 have hd := disp_waits q
 have HQ := Lib.hid hq
 clear hq hk
 go_enter Tryz.func39, Tryz.ntmps39
 go_wp2_with fail
 refine wp_region_lex (fun w' => w'.cell? ⟨b, 1, none⟩ = some (.slice (some ⟨gd, fd, none⟩) n cd) ∧ w'.cell? ⟨b, 7, none⟩ = some (.int .i64 (p : Int)) ∧ w'.cell? ⟨gd, fd + p, none⟩ = some (.iface 112 (.agg #[.pointer (some ⟨q, 0, none⟩)])) ∧ w'.cell? ⟨b, 3, none⟩ = some (.slice ia k ik)) [0, 1, 2, 3, 4, 5, 6, 7, 8, 9, 10, 11, 12, 13, 14, 15, 16, 17, 18, 19, 20] [21, 22, 23, 24] (by kernel_rfl) (by kernel_rfl) rfl (fun _ _ hx h => ⟨hx.cell h.1, hx.cell h.2.1, hx.cell h.2.2.1, hx.cell h.2.2.2⟩) ⟨c1, c7, ce, c3⟩ ?_
 intro Q' hQ'
 simp only [pickOps, List.flatMap_cons, List.flatMap_nil, List.drop_succ_cons, List.drop_zero, List.take_succ_cons, List.take_zero, List.cons_append, List.nil_append, List.append_nil]
 repeat (first
  | (refine wpReads_skip (by rfl) ?_; (try simp only [Act.put, List.setIfInBounds_toArray, List.set_cons_zero, List.set_cons_succ]))
  | (refine wpReads_cons ?_ (by rfl) (by rfl) ?_ ?_; rotate_left; (intro wz hz; (try dsimp only at hz); go_simp; try with_reducible rfl); (try simp only [Act.put, List.setIfInBounds_toArray, List.set_cons_zero, List.set_cons_succ]))
  | (refine wpReads_any ?_ (by rfl) ?_ ?_; rotate_left; (intro wz; go_simp; try with_reducible rfl); (try simp only [Act.put, List.setIfInBounds_toArray, List.set_cons_zero, List.set_cons_succ])))
 refine wpReads_nil ?_
 go_wp2_with fail
 refine (HQ.out _ (Below.drew (Below.refl _ _))).mono ?_
 rintro e w2 ⟨rfl, h2⟩
 have H2 := Lib.hid h2
 clear h2
 go_wp2_with fail
 go_ret
 exact ⟨rfl, (Below.drew (Below.refl _ _)).trans H2.out⟩
set_option maxRecDepth 100000 in
set_option maxHeartbeats 2000000 in
theorem tready_fires {w : World} {b p ik : Nat} {ia : Option Addr} (c8 : w.cell? ⟨b, 8, none⟩ = some (.bool false)) (c7 : w.cell? ⟨b, 7, none⟩ = some (.int .i64 (p : Int))) (c3 : w.cell? ⟨b, 3, none⟩ = some (.slice ia p ik)) :
  Calls Tryz.prog 39 #[.pointer (some ⟨b, 0, none⟩)] w (Tells (.bool true) w) := by
 go_enter Tryz.func39, Tryz.ntmps39
 go_wp2_with fail
 refine wp_region_lex (fun w' => w'.cell? ⟨b, 7, none⟩ = some (.int .i64 (p : Int)) ∧ w'.cell? ⟨b, 3, none⟩ = some (.slice ia p ik)) [0, 1, 2, 3, 4, 5, 6, 7, 8, 9, 10, 11, 12, 13, 14, 15, 16, 17, 18, 19, 20] [21, 22, 23, 24] (by kernel_rfl) (by kernel_rfl) rfl (fun _ _ hx h => ⟨hx.cell h.1, hx.cell h.2⟩) ⟨c7, c3⟩ ?_
 intro Q' hQ'
 simp only [pickOps, List.flatMap_cons, List.flatMap_nil, List.drop_succ_cons, List.drop_zero, List.take_succ_cons, List.take_zero, List.cons_append, List.nil_append, List.append_nil]
 repeat (first
  | (refine wpReads_skip (by rfl) ?_; (try simp only [Act.put, List.setIfInBounds_toArray, List.set_cons_zero, List.set_cons_succ]))
  | (refine wpReads_cons ?_ (by rfl) (by rfl) ?_ ?_; rotate_left; (intro wz hz; (try dsimp only at hz); go_simp; try with_reducible rfl); (try simp only [Act.put, List.setIfInBounds_toArray, List.set_cons_zero, List.set_cons_succ]))
  | (refine wpReads_any ?_ (by rfl) ?_ ?_; rotate_left; (intro wz; go_simp; try with_reducible rfl); (try simp only [Act.put, List.setIfInBounds_toArray, List.set_cons_zero, List.set_cons_succ])))
 refine wpReads_nil ?_
 go_wp2_with fail
 go_ret
 exact ⟨rfl, Below.drew (Below.refl _ _)⟩
end Go.Proofs.YtaholpfikcdhbaaGreat

/- A task: ready, over the rig in memory. -/
namespace Go.Proofs.YtaholpfikcdhbaaGreat
open Go.RowKit
theorem vals_at {w : World} {o : Col} {c : Nat} {v : Value} {vs : List Value} (h : Vals w o c v vs) {k : Nat} (hk : k < vs.length) : ∃ g off cap, v = .slice (some ⟨g, off, none⟩) vs.length cap ∧ vs.length ≤ cap ∧ w.cell? ⟨g, off + k, none⟩ = some vs[k] := by
 obtain ⟨ao, cap, rfl⟩ := h.slice
 obtain ⟨g, off, rfl, _, h2, _, _, h5⟩ := h.at (by omega)
 exact ⟨g, off, cap, rfl, h2, by rw [h5 k hk, List.getElem?_eq_getElem hk]; rfl⟩
theorem tready_any {w : World} {o : Col} {R b : Nat} {g : GGraph} {caps : List Int} {N : Nat → Nat} {s : Nat} {qs : Ptrs} {r : RunP} {v : RVals} (h : RigAt w o R b g caps N qs r v) (hL : Linked g) (hcl : caps.length = g.edges.length) (hK : ROk g s r.rig) (hN : ∀ d, N d ≤ 27000000000000) {t : Nat} (ht : t < g.actors.length) :
  Calls Tryz.prog 39 #[ptrV (v.tb t)] w (Tells (.bool (isReady g caps r.rig t)) w) := by
 have hT := h.task t ht
 have hO := hK.task t ht
 have hb := hT.blk
 unfold taskV at hb
 have c8 := hb.cell 8 _ rfl
 have c7 := hb.cell 7 _ rfl
 by_cases hg : (r.rig.tasks t).gives = true
 ·
  rw [ready_gives ht hg]
  have hp := (hO.give hg).1
  obtain ⟨gd, fd, cd, e1, e2, e3⟩ := vals_at hT.dst (k := (r.rig.tasks t).port) (by simpa using hp)
  have c1 := hb.cell 2 _ rfl
  rw [hg] at c8
  simp only [List.length_map, List.length_range, List.getElem_map, List.getElem_range] at e1 e2 e3
  change w.cell? _ = some (v.tv t).dst at c1
  rw [e1] at c1
  refine tready_gives c8 c1 c7 e3 hp e2 ?_
  unfold dstV
  by_cases hd : toP g t (r.rig.tasks t).port < g.edges.length
  ·
   rw [if_pos hd, full_edge (by omega)]
   refine .inl ⟨_, rfl, fun w' hw' => ?_⟩
   exact cfull_any ((h.queue _ (by omega)).below hw') (hN _)
  ·
   rw [if_neg hd, full_tape (by omega)]
   exact .inr ⟨_, rfl, rfl⟩
 ·
  have hg : (r.rig.tasks t).gives = false := by simpa using hg
  rw [hg] at c8
  obtain ⟨ia, ic, hia⟩ := hT.ins.slice
  have c3 := hb.cell 3 _ rfl
  change w.cell? _ = some (v.tv t).ins at c3
  rw [hia] at c3
  by_cases hp : (r.rig.tasks t).port < (ratesI g t).length
  ·
   rw [ready_takes ht hg hp]
   obtain ⟨gd, fd, cd, e1, e2, e3⟩ := vals_at hT.src (k := (r.rig.tasks t).port) (by simpa using hp)
   have c1 := hb.cell 1 _ rfl
   simp only [List.length_map, List.length_range, List.getElem_map, List.getElem_range] at e1 e2 e3
   change w.cell? _ = some (v.tv t).src at c1
   rw [e1] at c1
   exact tready_takes c8 c1 c7 e3 c3 hp hp e2 (fun w' hw' => cwaits_any ((h.queue _ (hL.inn t _ ht hp)).below hw') (hN _))
  ·
   rw [ready_fires ht hg hp]
   have he : (r.rig.tasks t).port = (ratesI g t).length := by have := (hO.take hg).2.1; omega
   rw [← he] at c3
   exact tready_fires c8 c7 c3
end Go.Proofs.YtaholpfikcdhbaaGreat

/- A tape: give. -/
namespace Go.Proofs.YtaholpfikcdhbaaGreat
open Go.RowKit
def TapeAt (w : World) (o : Col) (c d b : Nat) (v : Value) (l : List Int) : Prop := Blk w o c b 121 #[v] ∧ Own w o d 3 1 v l.length (ivs l)
def TGave (w : World) (o : Col) (c d b : Nat) (l : List Int) (e : Ending) (w' : World) : Prop := ∃ o' v', e = .returned (.tuple #[]) ∧ Turn o o' (fun x => x = c ∨ x = d) w w' ∧ TapeAt w' o' c d b v' l
set_option maxRecDepth 100000 in
set_option maxHeartbeats 1000000 in
theorem tgive_any {w : World} {o : Col} {c d b : Nat} {v : Value} {l : List Int} (X : Int) (h : TapeAt w o c d b v l) (hcd : c ≠ d) (hl : l.length < 27000000000000) : Calls Tryz.prog 146 #[.pointer (some ⟨b, 0, none⟩), .int .i64 X] w (TGave w o c d b (l ++ [X])) := by
 obtain ⟨hB, hO⟩ := h
 obtain ⟨sa, cap, rfl⟩ := hO.slice
 obtain ⟨i0, hi, hz0, hz1, hz2⟩ := info_parts info_int
 have h0 := hB.cell 0 _ rfl
 have hvb : (Value.slice sa l.length cap).ownBlock ≠ some b := fun hh => hcd (by rw [← hB.2, hO.2 _ hh])
 obtain ⟨n, hn⟩ : ∃ x, l.length = x := ⟨_, rfl⟩
 rw [hn] at h0 hO hl hvb
 have HN := Lib.hid hn
 have HB := Lib.hid hB
 have HO := Lib.hid hO
 have Hl := Lib.hid hl
 rw [hn] at hB
 have HB' := Lib.hid hB
 clear hB hO hl hn
 go_enter Tryz.func146, Tryz.ntmps146
 go_wp2_with (at_builtin; refine stop_here ?_)
 refine go_on ?_
 refine wpList_app rfl _ _ 27 rfl 0 3 i0 _ 1 8 Tryz.underlying27 hi hz0 hz1 hz2 rfl (.slice sa n cap) n (ivs l) rfl (HO.out.1.alloc (.cells #[.int .i64 X] 3)) (some ⟨w.heap.size, 0, none⟩) 1 1 [.int .i64 X] rfl rfl (fun h => by cases h) (news_alloc w [.int .i64 X] 3) (by simp [Value.oneCell']) (by have := Hl.out; unfold maxLen; omega) (grow_ok (by have := Hl.out; omega)) (Nat.zero_le _) ?_
 intro v' w2 g1 g20 _ g4
 obtain ⟨sa', cap', rfl⟩ := owns_slice g1
 have g2 : (w.alloc (.cells #[.int .i64 X] 3)).grownBy w2 (Value.slice sa n cap).ownBlock := ⟨g20.os, g20.tape, g20.output, g20.size, g20.block⟩
 clear g20
 have hQ3 := block_grown (block_alloc HB'.out.1 (.cells #[.int .i64 X] 3)) g2 hvb
 have c4 := cells_row w2 b hQ3 0 (.slice sa n cap) rfl
 have f4 := frozen_of_block hQ3 0
 have hm2 : Mods (fun k => k = b ∨ (Value.slice sa n cap).ownBlock = some k) w w2 := ((Mods.refl _ _).alloc (.cells #[.int .i64 X] 3)).grown g2 (fun k hk _ => .inr hk)
 have HM2 := Lib.hid hm2
 have HG1 := Lib.hid g1
 have HG2 := Lib.hid g2
 have HG4 := Lib.hid g4
 have HQ3 := Lib.hid hQ3
 clear hm2 g1 g2 g4 hQ3
 go_wp2
 go_end0
 have hbl := HB'.out.lt
 have ho := HO.out
 have hnew : ∀ k, (Value.slice sa' (n + 1) cap').ownBlock = some k → (ext o w.heap.size d) k = d := fun k hk => by
  rcases HG4.out with g4 | g4
  ·
   rw [g4] at hk
   rw [ext_old (ho.1.lt _ hk).2]
   exact ho.2 k hk
  ·
   rw [g4] at hk
   cases hk
   exact ext_new (by simp)
 refine ⟨ext o w.heap.size d, _, rfl, ⟨(HM2.out.setCell (fun _ => .inl rfl) _).mono (fun k hk hF => ?_), fun k hk => ext_old hk⟩, ⟨block_setCell HQ3.out 0 _, (ext_old hbl).trans HB'.out.2⟩, ?_, hnew⟩
 ·
  rcases hF with rfl | hF
  ·
   exact .inl HB'.out.2
  ·
   exact .inr (ho.2 k hF)
 ·
  have e1 : (l ++ [X]).length = n + 1 := by rw [List.length_append, HN.out]; rfl
  have e2 : ivs (l ++ [X]) = ivs l ++ [.int .i64 X] := by simp [ivs]
  rw [e1, e2]
  refine ownsRow_setCell_other HG1.out ?_ _
  rcases HG4.out with g4 | g4
  ·
   rw [g4]; exact hvb
  ·
   rw [g4]; intro h; have := Option.some.inj h; simp at this; omega
end Go.Proofs.YtaholpfikcdhbaaGreat

/- A task's rows: what it gives, what it holds. No function in sight. -/
namespace Go.Proofs.YtaholpfikcdhbaaGreat
open Go.RowKit
theorem Own.setAt {w : World} {o : Col} {c : Nat} {e : TypeId} {size g cap n : Nat} {xs : List Value} (h : Own w o c e size (.slice (some ⟨g, 0, none⟩) n cap) n xs) {i : Nat} (_hi : i < xs.length) (u : Value) :
  Own (w.setCell ⟨g, i, none⟩ u) o c e size (.slice (some ⟨g, 0, none⟩) n cap) n (xs.set i u) ∧ Turn o o (fun x => x = c) w (w.setCell ⟨g, i, none⟩ u) := by
 obtain ⟨⟨hl, h⟩, ho⟩ := h
 rcases h with ⟨h, _⟩ | ⟨g', cap', cur, h1, hb, h2, h3, h4, h5, h6⟩
 ·
  cases h
 ·
  cases h1
  refine ⟨⟨⟨by rw [List.length_set]; exact hl, .inr ⟨g, cap, cur.setIfInBounds i u, rfl, hb, block_setCell h2 i u, h3, h4, by rw [Array.size_setIfInBounds]; exact h5, ?_⟩⟩, ho⟩, ⟨(Mods.refl (fun k => o k = c) w).setCell (p := ⟨g, i, none⟩) (fun _ => ho g rfl) u, fun _ _ => rfl⟩⟩
  rw [Array.toList_setIfInBounds, List.take_set, h6]
theorem Own.frozenAt {w : World} {o : Col} {c : Nat} {e : TypeId} {size g cap n m : Nat} {xs : List Value} (h : Own w o c e size (.slice (some ⟨g, 0, none⟩) n cap) m xs) (i : Nat) : w.frozen? ⟨g, i, none⟩ = false := by
 obtain ⟨⟨hl, h⟩, ho⟩ := h
 rcases h with ⟨h, _⟩ | ⟨g', cap', cur, h1, hb, h2, h3, h4, h5, h6⟩
 ·
  cases h
 ·
  cases h1
  exact frozen_of_block h2 i
theorem Own.addr {w : World} {o : Col} {c : Nat} {e : TypeId} {size n : Nat} {v : Value} {xs : List Value} (h : Own w o c e size v n xs) (hp : 0 < n) : ∃ g cap, v = .slice (some ⟨g, 0, none⟩) n cap ∧ n ≤ cap ∧ w.heap[g]?.isSome = true := by
 rcases h.1.2 with ⟨_, h0⟩ | ⟨g, cap, cur, h1, hb, h2, h3, _⟩
 ·
  omega
 ·
  exact ⟨g, cap, h1, h3, by rw [h2]; rfl⟩
theorem Own.cellAt {w : World} {o : Col} {c : Nat} {e : TypeId} {size g n cap : Nat} {xs : List Value} (h : Own w o c e size (.slice (some ⟨g, 0, none⟩) n cap) n xs) {i : Nat} {u : Value} (hu : xs[i]? = some u) : w.cell? ⟨g, i, none⟩ = some u := by
 have := h.1.cells (g := g) rfl i u hu
 rw [Addr.add_lit] at this
 simpa using this
theorem GiftAt.some {w : World} {o : Col} {c d : Nat} {x : TaskP} {v : TVals} (h : GiftAt w o c d x v) (hp : 0 < x.gift.length) : (x.gives = false ∧ v.gift = .slice none 0 0) ∨ (x.gives = true ∧ ∃ g cap, v.gift = .slice (some ⟨g, 0, none⟩) x.gift.length cap ∧ x.gift.length ≤ cap ∧ Own w o c 27 1 v.gift x.gift.length v.gvs ∧ v.gvs.length = x.gift.length ∧ ∀ k (h : k < x.gift.length), OffRow w o (d + k) 3 (v.gvs[k]?.getD undef) (ivs x.gift[k])) := by
 rcases h with h | ⟨h1, h2, h3, h4⟩
 ·
  exact .inl h
 ·
  obtain ⟨g, cap, e1, e2, _⟩ := h2.addr hp
  exact .inr ⟨h1, g, cap, e1, e2, h2, h3, h4⟩
theorem OffRow.cut {w : World} {o : Col} {c : Nat} {e : TypeId} {g off n cap : Nat} {xs : List Value} (h : OffRow w o c e (.slice (some ⟨g, off, none⟩) n cap) xs) {k : Nat} (hk : k ≤ xs.length) : OffRow w o c e (.slice (if cap = k then some ⟨g, off, none⟩ else some ⟨g, off + k, none⟩) (n - k) (cap - k)) (xs.drop k) := by
 by_cases hc : cap = k
 ·
  rw [if_pos hc]
  have h0 := h.empty
  rcases h with ⟨_, h⟩ | ⟨g', off', cap', cur, h1, h2, h3, h4, _⟩
  ·
   cases h
  ·
   cases h1
   have e : k = xs.length := by omega
   rw [show xs.length - k = 0 by omega, show cap - k = 0 by omega, e, List.drop_length]
   exact h0
 ·
  rw [if_neg hc]
  exact h.drop hk hc
theorem OffRow.some {w : World} {o : Col} {c : Nat} {e : TypeId} {v : Value} {xs : List Value} (h : OffRow w o c e v xs) (hp : 0 < xs.length) : ∃ g off cap, v = .slice (some ⟨g, off, none⟩) xs.length cap ∧ xs.length ≤ cap ∧ cap ≤ maxLen := by
 rcases h with ⟨rfl, _⟩ | ⟨g, off, cap, cur, h1, _, _, h4, _, h6, _⟩
 ·
  simp at hp
 ·
  exact ⟨g, off, cap, h1, h4, h6⟩
theorem TaskAt.giftSet {w : World} {o : Col} {M b : Nat} {g : GGraph} {qs : Ptrs} {t : Nat} {x : TaskP} {v : TVals} (h : TaskAt w o M b g qs t x v) (hg : x.gives = true) {g0 cap : Nat} (hv : v.gift = .slice (some ⟨g0, 0, none⟩) x.gift.length cap) {p : Nat} (hp : p < x.gift.length) {u : Value} {l : List Int} (hu : OffRow w o (M + 32 + p) 3 u (ivs l)) :
  TaskAt (w.setCell ⟨g0, p, none⟩ u) o M b g qs t { x with gift := x.gift.set p l } { v with gvs := v.gvs.set p u } ∧ Turn o o (fun c => c = M + 8) w (w.setCell ⟨g0, p, none⟩ u) := by
 rcases h.gift.some (by omega) with k | ⟨k1, g1, cap1, k2, k3, k4, k5, k6⟩
 ·
  rw [hg] at k
  cases k.1
 ·
  rw [hv] at k2
  simp only [Value.slice.injEq, Option.some.injEq, Addr.mk.injEq] at k2
  obtain ⟨⟨rfl, -⟩, -, rfl⟩ := k2
  rw [hv] at k4
  obtain ⟨B, S⟩ := k4.setAt (i := p) (by omega) u
  have hC : ∀ j, j ≠ 8 → ¬ (M + j = M + 8) := fun j hj => by omega
  obtain ⟨f1, f2, f3, f4⟩ := h.few
  refine ⟨⟨?_, fun a ha => (h.act a ha).turn S (hC 1 (by omega)) (hC 2 (by omega)), h.ins.turn S (hC 3 (by omega)), h.outs.turn S (hC 4 (by omega)), h.src.turn S (hC 5 (by omega)), h.dst.turn S (hC 6 (by omega)), h.hand.turn S (hC 7 (by omega)) (fun k _ => by omega), .inr ⟨k1, ?_, ?_, fun k hk => ?_⟩, f1, f2, f3, by simpa using f4⟩, S⟩
  ·
   exact h.blk.turn S (by omega)
  ·
   show Own _ _ _ _ _ v.gift (x.gift.set p l).length _
   rw [List.length_set, hv]
   exact B
  ·
   show (v.gvs.set p u).length = (x.gift.set p l).length
   simp [k5]
  ·
   have hk' : k < x.gift.length := by simpa using hk
   show OffRow _ _ _ _ ((v.gvs.set p u)[k]?.getD undef) (ivs (x.gift.set p l)[k])
   by_cases e : p = k
   ·
    subst e
    rw [List.getElem?_set_self (by omega), List.getElem_set_self]
    exact hu.turn S (by omega)
   ·
    rw [List.getElem?_set_ne e, List.getElem_set_ne e]
    exact (k6 k hk').turn S (by omega)
theorem TaskAt.handApp {w w7 : World} {o o7 : Col} {M b : Nat} {g : GGraph} {qs : Ptrs} {t : Nat} {x : TaskP} {v : TVals} (h : TaskAt w o M b g qs t x v) {p : Nat} (hp : p < x.hand.length) (T : Turn o o7 (fun c => c = M + 16 + p) w w7) {u : Value} {l : List Int} (hu : OffRow w7 o7 (M + 16 + p) 3 u (ivs l)) :
  TaskAt (w7.setCell ⟨v.hand, p, none⟩ u) o7 M b g qs t { x with hand := x.hand.set p l } { v with hvs := v.hvs.set p u } ∧ Turn o7 o7 (fun c => c = M + 7) w7 (w7.setCell ⟨v.hand, p, none⟩ u) := by
 obtain ⟨f1, f2, f3, f4⟩ := h.few
 obtain ⟨B, S⟩ := (h.hand.blk.turn T (by omega)).set p u
 have TS := (T.mono (D := fun c => c = M + 16 + p ∨ c = M + 7) (fun c hc => .inl hc)).trans (S.mono (D := fun c => c = M + 16 + p ∨ c = M + 7) (fun c hc => .inr hc)) (fun _ h => h)
 have hC : ∀ j, j ≠ 7 → j < 16 → ¬ (M + j = M + 16 + p ∨ M + j = M + 7) := fun j hj hj2 => by omega
 refine ⟨⟨h.blk.turn TS (by omega), fun a ha => (h.act a ha).turn TS (hC 1 (by omega) (by omega)) (hC 2 (by omega) (by omega)), h.ins.turn TS (hC 3 (by omega) (by omega)), h.outs.turn TS (hC 4 (by omega) (by omega)), h.src.turn TS (hC 5 (by omega) (by omega)), h.dst.turn TS (hC 6 (by omega) (by omega)), ⟨?_, ?_, fun k hk => ?_⟩, h.gift.turn TS (hC 8 (by omega) (by omega)) (fun k _ => by omega), f1, f2, by simpa using f3, f4⟩, S⟩
 ·
  show (v.hvs.set p u).length = (x.hand.set p l).length
  simp [h.hand.len]
 ·
  show Blk _ _ _ _ _ (v.hvs.set p u).toArray
  simpa using B
 ·
  have hk' : k < x.hand.length := by simpa using hk
  have hkv : k < v.hvs.length := by rw [h.hand.len]; exact hk'
  show OffRow _ _ _ _ ((v.hvs.set p u)[k]'(by simpa using hkv)) (ivs (x.hand.set p l)[k])
  by_cases e : p = k
  ·
   subst e
   rw [List.getElem_set_self, List.getElem_set_self]
   exact hu.turn S (by omega)
  ·
   rw [List.getElem_set_ne e, List.getElem_set_ne e]
   exact (h.hand.row k hk').turn TS (by omega)
end Go.Proofs.YtaholpfikcdhbaaGreat

/- A region that draws its order: what only reads, one call, what only looks at its answer, the rest in whatever order. No program in sight. -/
namespace Go.Proofs.YtaholpfikcdhbaaGreat
section
variable {P : Program} {md : Region.Mode} {ops : Array Oper} {Q : Exit → Go.Act → World → Prop} {S : World → Prop}
theorem closedL_setAll : ∀ (r : List Nat) (listed : Array Bool), closedL md ops listed → stageHead md ops (fun _ => true) r listed = true → closedL md ops (setAll listed r)
 | [], _, h, _ => h
 | i :: r, listed, h, hB => by
  simp only [stageHead, Bool.and_eq_true] at hB
  obtain ⟨⟨hrdy, _⟩, hB'⟩ := hB
  have hrdy' : i ∈ Region.ready md ops listed := by simpa using hrdy
  exact closedL_setAll r _ (closedL_set h hrdy') hB'
theorem wpReads_mono {Q' : Go.Act → Prop} {Q : Go.Act → Prop} (hq : ∀ a, Q a → Q' a) : ∀ (l : List Oper) (a : Go.Act), wpReads P ops S Q l a → wpReads P ops S Q' l a
 | [], a, h => hq a h
 | _ :: r, _, ⟨v, hy, hk⟩ => ⟨v, hy, wpReads_mono hq r _ hk⟩
theorem wpOp_of_listK {i : Nat} {K K0 : Go.Act → World → Prop} {a : Go.Act} {w : World} (hi : i < ops.size) (hK : ∀ a w, K0 a w → K a w) (h : wpList P ops (EndK Q K0) (pickOps ops [i]) a w) : wpOp P ops Q i K a w := by
 have ho : ops[i]? = some ops[i] := Array.getElem?_eq_getElem hi
 rw [pick_one ho []] at h
 have hw : wpOp P ops (EndK Q K0) i (wpList P ops (EndK Q K0) (pickOps ops [])) a w := by unfold wpOp; simp only [ho]; exact h
 exact wpOp_endK (fun a' w' h' => hK a' w' h') hw
def midOK (md : Region.Mode) (ops : Array Oper) (r1 : List Nat) (k : Nat) (r2 M : List Nat) : Bool :=
 Region.noSelect ops && ((r1 ++ r2).all fun i => anyAt ops i || (List.range ops.size).all fun j => madeB ops j || (r1 ++ r2).contains j || M.contains j || behindB md ops ops.size j i) &&
 stageHead md ops (fun _ => true) r1 (Array.replicate ops.size false) && decide (Region.ready md ops (setAll (Array.replicate ops.size false) r1) = [k]) &&
 stageHead md ops (fun _ => true) r2 ((setAll (Array.replicate ops.size false) r1).setIfInBounds k true)
theorem wp_region_mid {id : Nat} {l : List Oper} {a : Go.Act} {w : World} (S : World → Prop) (r1 : List Nat) (k : Nat) (r2 M : List Nat) (n : Nat) (hm : P.follows .mixedOrders = true)
  (hB : midOK .any l.toArray r1 k r2 M = true) (hlen : r1.length + ((r2.length + n) + 1) = l.length) (hS : S w.drew)
  (h : ∀ Q' : Exit → Go.Act → World → Prop, (∀ a w, Q .normal a w → Q' .normal a w) → wpReads P l.toArray S (fun a' => wpList P l.toArray (EndK Q' fun a1 w1 => S w1 ∧ wpReads P l.toArray S (fun a2 => wpAnyT P .any l.toArray Q' S (bsOf l.toArray (r1 ++ r2) M) n (setAll ((setAll (Array.replicate l.length false) r1).setIfInBounds k true) r2) a2 w1) (pickOps l.toArray r2) a1) (pickOps l.toArray [k]) a' w.drew) (pickOps l.toArray r1) a) :
  (Code.region id l.toArray true).wp P Q a w := by
 refine wp_region_noPanic ?_
 refine wp_region_any hm ?_
 simp only [midOK, Bool.and_eq_true, List.all_eq_true, List.mem_range, Bool.or_eq_true, decide_eq_true_eq] at hB
 obtain ⟨⟨⟨⟨hsel, hbe⟩, h1⟩, hk⟩, h2⟩ := hB
 refine wpAny_of_T (S := S) (B := bsOf l.toArray (r1 ++ r2) M) _ _ _ _ ?_
 have hbe' : ∀ i ∈ (r1 ++ r2), anyAt l.toArray i = false → ∀ j, j < l.toArray.size → madeB l.toArray j = true ∨ (r1 ++ r2).contains j = true ∨ M.contains j = true ∨ behindB .any l.toArray l.toArray.size j i = true := fun i hi hany j hj => by
  rcases hbe i hi with h0 | h0
  ·
   rw [hany] at h0; cases h0
  rcases h0 j hj with ((h1 | h1) | h1) | h1
  ·
   exact .inl h1
  ·
   exact .inr (.inl h1)
  ·
   exact .inr (.inr (.inl h1))
  ·
   exact .inr (.inr (.inr h1))
 have hcl0 : closedL .any l.toArray (Array.replicate l.toArray.size false) := fun j oj _ hl => by rw [getD_replicate_false] at hl; cases hl
 have hcl1 := closedL_setAll r1 _ hcl0 h1
 have hkr : k ∈ Region.ready .any l.toArray (setAll (Array.replicate l.toArray.size false) r1) := by rw [hk]; simp
 have hcl2 := closedL_set hcl1 hkr
 have hh := h (NoPanic Q) (fun _ _ h => NoPanic.normal h)
 have key := wpAnyT_reads (P := P) (md := .any) (Q := NoPanic Q) (S := S) (reads := r1 ++ r2) (M := M) (n := (r2.length + n) + 1) hsel (fun c a a' w h => h) hbe' r1 (Array.replicate l.toArray.size false) a { w with drawn := w.drawn + 1 } (fun i hi => by simp [hi]) hcl0 h1 hS
 rw [hlen] at key
 have hk' : Region.ready .any l.toArray (setAll (Array.replicate l.toArray.size false) r1) = [k] := hk
 have go : wpReads P l.toArray S (fun a' => wpAnyT P .any l.toArray (NoPanic Q) S (bsOf l.toArray (r1 ++ r2) M) (r2.length + n + 1) (setAll (Array.replicate l.toArray.size false) r1) a' { w with drawn := w.drawn + 1 }) (pickOps l.toArray r1) a := by
  refine wpReads_mono (fun a' ha' => ?_) _ _ hh
  refine ⟨fun h0 => (by rw [h0] at hk'; cases hk'), fun j hj => ?_⟩
  rw [hk'] at hj
  obtain rfl : j = k := by simpa using hj
  refine wpOp_of_listK (ready_lt hkr) (fun a1 w1 h1' => ?_) ha'
  obtain ⟨hS1, hr2⟩ := h1'
  refine ⟨fun _ _ => hS1, ?_⟩
  exact wpAnyT_reads (P := P) (md := .any) (Q := NoPanic Q) (S := S) (reads := r1 ++ r2) (M := M) (n := n) hsel (fun c a a' w h => h) hbe' r2 _ a1 w1 (fun i hi => by simp [hi]) hcl2 h2 hS1 (by simpa using hr2)
 have := key go
 simpa using this
end
end Go.Proofs.YtaholpfikcdhbaaGreat

/- A task: a step that gives. -/
namespace Go.Proofs.YtaholpfikcdhbaaGreat
open Go.RowKit
def StepT (w : World) (o : Col) (C : Nat → Prop) (F : Col → World → Prop) (M b : Nat) (g : GGraph) (qs : Ptrs) (t : Nat) (x' : TaskP) (e : Ending) (w' : World) : Prop :=
 ∃ o2 w2 o' v', e = .returned (.bool true) ∧ Turn o o2 C w w2 ∧ F o2 w2 ∧ Turn o2 o' (MineT M) w2 w' ∧ TaskAt w' o' M b g qs t x' v'
def CallT (w : World) (o : Col) (C : Nat → Prop) (F : Col → World → Prop) (v : Value) (e : Ending) (w' : World) : Prop := ∃ o', e = .returned v ∧ Turn o o' C w w' ∧ F o' w'
set_option maxRecDepth 100000 in
set_option maxHeartbeats 2000000 in
theorem tstep_gives {w : World} {o : Col} {M b s : Nat} {g : GGraph} {qs : Ptrs} {t : Nat} {x : TaskP} {v : TVals} {C : Nat → Prop} {F : Col → World → Prop} {f : FuncId} {ty : TypeId} {cv : Value} (h : TaskAt w o M b g qs t x v) (hg : x.gives = true) (hO : TOk g t s x) (hs : s < 4611686018427387904)
  (hd : ∀ w, (method 363 ty cv "pianola/dyn.give").run Tryz.prog w = .ok (f, cv) w) (hcf : ∀ (args : Array Value) (w : World), (callFunc f args).run Tryz.prog w = .ok (.enter f args) w) (hv : dstV qs g t x.port = .iface ty cv) (hC : ∀ k, C k → ¬ MineT M k)
  (hcall : Calls Tryz.prog f #[cv, .int .i64 (nextP x)] w.drew (CallT w.drew o C F (.tuple #[]))) :
  Calls Tryz.prog 40 #[.pointer (some ⟨b, 0, none⟩)] w (StepT w o C F M b g qs t (gaveP (ratesI g t).length (ratesO g t).length x)) := by
 obtain ⟨hp, hgl, -, -, -, hl1, hl2⟩ := hO.give hg
 have hwh : x.whole < 4611686018427387904 := by have := hO.whole; omega
 have hb := h.blk
 unfold taskV at hb
 have c8 := hb.cell 8 _ rfl
 have c7 := hb.cell 7 _ rfl
 have c2 := hb.cell 2 _ rfl
 have c6 := hb.cell 6 _ rfl
 change w.cell? _ = some v.dst at c2
 change w.cell? _ = some v.gift at c6
 change w.cell? _ = some (.bool x.gives) at c8
 rw [hg] at c8
 obtain ⟨gd, fd, cd, e1, e2, e3⟩ := vals_at h.dst (k := x.port) (by simpa using hp)
 simp only [List.length_map, List.length_range, List.getElem_map, List.getElem_range] at e1 e2 e3
 rw [e1] at c2
 rw [hv] at e3
 have hgift := h.gift.some (by omega)
 rcases hgift with k | ⟨k1, g1, cap1, k2, k3, k4, k5, k6⟩
 ·
  rw [hg] at k
  cases k.1
 ·
  rw [k2] at c6
  have hpg : x.port < x.gift.length := by omega
  have k6p := k6 x.port hpg
  obtain ⟨z, zs, hz⟩ : ∃ z zs, x.gift[x.port] = z :: zs := by
   have : lenAt x.gift x.port = (x.gift[x.port].length : Int) := by unfold lenAt; rw [List.getElem?_eq_getElem hpg]; rfl
   cases hh : x.gift[x.port] with
   | nil => rw [this, hh] at hl1; simp at hl1
   | cons z zs => exact ⟨z, zs, rfl⟩
  have hgd : x.gift[x.port]?.getD [] = z :: zs := by rw [List.getElem?_eq_getElem hpg, hz]; rfl
  have hnx : nextP x = z := by unfold nextP; rw [hgd]; rfl
  have hgave : gaveP (ratesI g t).length (ratesO g t).length x = finishP (ratesI g t).length (ratesO g t).length { x with gift := x.gift.set x.port zs, port := if zs = [] then x.port + 1 else x.port } := by
   unfold gaveP
   rw [hgd]
   rfl
  rw [hz] at k6p
  obtain ⟨gg, og, cg, q1, q2, q3⟩ := k6p.some (by simp [ivs])
  have e4 : (ivs (z :: zs)).length = zs.length + 1 := by simp [ivs]
  rw [e4] at q1 q2
  have hgv : x.port < v.gvs.length := by omega
  have q0 : v.gvs[x.port]? = some (.slice (some ⟨gg, og, none⟩) (zs.length + 1) cg) := by
   rw [← q1, List.getElem?_eq_getElem hgv]; rfl
  have cr := (by rw [k2] at k4; exact k4 : Own w o (M + 8) 27 1 (.slice (some ⟨g1, 0, none⟩) x.gift.length cap1) x.gift.length v.gvs).cellAt q0
  have hvals := k6p.vals
  rw [q1] at hvals
  have cz := (vals_at hvals (k := 0) (by simp [ivs]))
  obtain ⟨gg', og', cg', u1, u2, cz⟩ := cz
  simp only [Value.slice.injEq, Option.some.injEq, Addr.mk.injEq] at u1
  obtain ⟨⟨rfl, rfl, -⟩, -, rfl⟩ := u1
  rw [Nat.add_zero] at cz
  change w.cell? _ = some (Value.int .i64 z) at cz
  rw [q1] at k6p
  rw [hnx] at hcall
  obtain ⟨n, hn⟩ : ∃ n, (ratesO g t).length = n := ⟨_, rfl⟩
  rw [hn] at hp hgl e1 e2 c2
  rw [hgl] at c6 k3
  obtain ⟨p, hpe⟩ : ∃ p, x.port = p := ⟨_, rfl⟩
  change w.cell? _ = some (.int .i64 (x.port : Int)) at c7
  rw [hpe] at c7 e3 cr hp k6p hpg
  obtain ⟨L, hL⟩ : ∃ L, zs.length = L := ⟨_, rfl⟩
  rw [hL] at cr q2
  have hpi : (p : Int) < (n : Int) := by omega
  have hcdi : (n : Int) ≤ cd := by omega
  have hc1i : (n : Int) ≤ cap1 := by omega
  have hLi : ((L : Int) + 1) ≤ cg := by omega
  have hL0 : (0 : Int) < (L : Int) + 1 := by omega
  have hL1 : (1 : Int) ≤ (L : Int) + 1 := by omega
  have H := Lib.hid h
  have HO := Lib.hid hO
  have HC := Lib.hid hC
  have HK4 := Lib.hid k4
  have HK6 := Lib.hid k6p
  have HK2 := Lib.hid k2
  have HG := Lib.hid (And.intro hn (And.intro hpe (And.intro hL (And.intro hgl (And.intro hg (And.intro hwh (And.intro hgave hpg)))))))
  have HQ0 := Lib.hid q0
  obtain ⟨X', hX'⟩ : ∃ y, gaveP (ratesI g t).length (ratesO g t).length x = y := ⟨_, rfl⟩
  rw [hX']
  have HX' := Lib.hid hX'
  clear hX'
  clear k1 h hO hC k4 k6 k6p k2 hn hpe hL hgl hg hwh hgave hpg hb e1 hnx hgd hz q0 q1 hvals u2 hl1 hl2 hgv k5 e4 hv hs
  go_enter Tryz.func40, Tryz.ntmps40
  go_wp2_with fail
  refine wp_region_lex (fun w' => w'.cell? ⟨b, 2, none⟩ = some (.slice (some ⟨gd, fd, none⟩) n cd) ∧ w'.cell? ⟨b, 7, none⟩ = some (.int .i64 (p : Int)) ∧ w'.cell? ⟨gd, fd + p, none⟩ = some (.iface ty cv) ∧ w'.cell? ⟨b, 6, none⟩ = some (.slice (some ⟨g1, 0, none⟩) n cap1) ∧ w'.cell? ⟨g1, p, none⟩ = some (.slice (some ⟨gg, og, none⟩) (L + 1) cg) ∧ w'.cell? ⟨gg, og, none⟩ = some (.int .i64 z)) [0, 1, 2, 3, 4, 5, 6, 7, 8, 9, 10, 11, 12, 13, 14, 15, 16, 17, 18, 19, 20, 21, 22, 23] [24] (by kernel_rfl) (by kernel_rfl) rfl (fun _ _ hx h => ⟨hx.cell h.1, hx.cell h.2.1, hx.cell h.2.2.1, hx.cell h.2.2.2.1, hx.cell h.2.2.2.2.1, hx.cell h.2.2.2.2.2⟩) ⟨c2, c7, e3, c6, cr, cz⟩ ?_
  intro Q' hQ'
  simp only [pickOps, List.flatMap_cons, List.flatMap_nil, List.drop_succ_cons, List.drop_zero, List.take_succ_cons, List.take_zero, List.cons_append, List.nil_append, List.append_nil]
  repeat (first
   | (refine wpReads_skip (by rfl) ?_; (try simp only [Act.put, List.setIfInBounds_toArray, List.set_cons_zero, List.set_cons_succ]))
   | (refine wpReads_cons ?_ (by rfl) (by rfl) ?_ ?_; rotate_left; (intro wz hz; (try dsimp only at hz); go_simp; try with_reducible rfl); (try simp only [Act.put, List.setIfInBounds_toArray, List.set_cons_zero, List.set_cons_succ]))
   | (refine wpReads_any ?_ (by rfl) ?_ ?_; rotate_left; (intro wz; go_simp; try with_reducible rfl); (try simp only [Act.put, List.setIfInBounds_toArray, List.set_cons_zero, List.set_cons_succ])))
  refine wpReads_nil ?_
  go_wp2_with fail
  refine hcall.mono ?_
  rintro e w2 ⟨o2, rfl, T, hF⟩
  have T0 : Turn o o2 C w w2 := ((Turn.refl o C w).drew).trans T (fun _ h => h)
  obtain ⟨hn, hpe, hL, hgl, hg, hwh, hgave, hpg⟩ := HG.out
  have TA := H.out.turn T0 HC.out
  have hb := TA.blk
  unfold taskV at hb
  have c7 := hb.cell 7 _ rfl
  have c6 := hb.cell 6 _ rfl
  change w2.cell? _ = some v.gift at c6
  change w2.cell? _ = some (.int .i64 (x.port : Int)) at c7
  rw [HK2.out, hgl] at c6
  rw [hpe] at c7
  have k4 := HK4.out.turn T0 (fun hc => HC.out _ hc (by unfold MineT; omega))
  rw [HK2.out] at k4
  have cr := k4.cellAt HQ0.out
  rw [hL, hpe] at cr
  have fr := k4.frozenAt p
  have k6 := (HK6.out.turn T0 (fun hc => HC.out _ hc (by unfold MineT; have := H.out.few.2.2.2; omega))).cut (k := 1) (by simp [ivs])
  rw [hL] at k6
  have HT0 := Lib.hid T0
  have HF := Lib.hid hF
  have HTA := Lib.hid TA
  have HU := Lib.hid k6
  clear T hF T0 hn hpe hL hgl hg hwh hgave hpg TA hb k4 k6
  go_wp2_with fail
  refine wp_region_lex (fun w' => w'.cell? ⟨b, 7, none⟩ = some (.int .i64 (p : Int)) ∧ w'.cell? ⟨b, 6, none⟩ = some (.slice (some ⟨g1, 0, none⟩) n cap1) ∧ w'.cell? ⟨g1, p, none⟩ = some (.slice (some ⟨gg, og, none⟩) (L + 1) cg)) [0, 1, 2, 3, 4, 5, 6, 7, 8, 9, 10, 11, 12, 13, 14, 15, 16, 17, 18, 19] [20] (by kernel_rfl) (by kernel_rfl) rfl (fun _ _ hx h => ⟨hx.cell h.1, hx.cell h.2.1, hx.cell h.2.2⟩) ⟨c7, c6, cr⟩ ?_
  intro Q' hQ'
  simp only [pickOps, List.flatMap_cons, List.flatMap_nil, List.drop_succ_cons, List.drop_zero, List.take_succ_cons, List.take_zero, List.cons_append, List.nil_append, List.append_nil]
  repeat (first
   | (refine wpReads_skip (by rfl) ?_; (try simp only [Act.put, List.setIfInBounds_toArray, List.set_cons_zero, List.set_cons_succ]))
   | (refine wpReads_cons ?_ (by rfl) (by rfl) ?_ ?_; rotate_left; (intro wz hz; (try dsimp only at hz); go_simp; try with_reducible rfl); (try simp only [Act.put, List.setIfInBounds_toArray, List.set_cons_zero, List.set_cons_succ]))
   | (refine wpReads_any ?_ (by rfl) ?_ ?_; rotate_left; (intro wz; go_simp; try with_reducible rfl); (try simp only [Act.put, List.setIfInBounds_toArray, List.set_cons_zero, List.set_cons_succ])))
  refine wpReads_nil ?_
  have hu := HU.out
  simp only [Nat.add_sub_cancel] at hu
  change OffRow w2 o2 (M + 32 + p) 3 _ (ivs zs) at hu
  generalize (if cg = 1 then some (⟨gg, og, none⟩ : Addr) else some ⟨gg, og + 1, none⟩) = pa at hu ⊢
  obtain ⟨TA3, S3⟩ := HTA.out.giftSet (by have := HG.out; exact this.2.2.2.2.1) HK2.out (p := p) (by have := HG.out; exact this.2.2.2.2.2.2.2) hu
  have HU3 := Lib.hid hu
  clear hu c6 c7
  have hb3 := TA3.blk
  unfold taskV at hb3
  have c7 := hb3.cell 7 _ rfl
  have c6 := hb3.cell 6 _ rfl
  have f7 := hb3.frozen 7
  change World.cell? _ _ = some v.gift at c6
  change World.cell? _ _ = some (.int .i64 (x.port : Int)) at c7
  rw [HK2.out, show x.gift.length = n from HG.out.2.2.2.1] at c6
  rw [show x.port = p from HG.out.2.1] at c7
  have cr3 : (w2.setCell ⟨g1, p, none⟩ (.slice pa L (cg - 1))).cell? ⟨g1, p, none⟩ = some (.slice pa L (cg - 1)) := by
   have k4 := HK4.out.turn HT0.out (fun hc => HC.out _ hc (by unfold MineT; omega))
   rw [HK2.out] at k4
   have q0 := HQ0.out
   rw [show x.port = p from HG.out.2.1] at q0
   refine (k4.setAt (i := p) (List.getElem?_eq_some_iff.1 q0).1 _).1.cellAt ?_
   exact List.getElem?_set_self (List.getElem?_eq_some_iff.1 q0).1
  have HTA3 := Lib.hid TA3
  have HS3 := Lib.hid S3
  clear TA3 S3 hb3
  go_wp2_with fail
  clear cr fr
  refine wp_region_lex (fun w' => w'.cell? ⟨b, 7, none⟩ = some (.int .i64 (p : Int)) ∧ w'.cell? ⟨b, 6, none⟩ = some (.slice (some ⟨g1, 0, none⟩) n cap1) ∧ w'.cell? ⟨g1, p, none⟩ = some (.slice pa L (cg - 1))) [0, 1, 2, 3, 4, 5, 6, 7, 8, 9, 10, 11] [] (by kernel_rfl) (by kernel_rfl) rfl (fun _ _ hx h => ⟨hx.cell h.1, hx.cell h.2.1, hx.cell h.2.2⟩) ⟨c7, c6, cr3⟩ ?_
  intro Q' hQ'
  simp only [pickOps, List.flatMap_cons, List.flatMap_nil, List.drop_succ_cons, List.drop_zero, List.take_succ_cons, List.take_zero, List.cons_append, List.nil_append, List.append_nil]
  repeat (first
   | (refine wpReads_skip (by rfl) ?_; (try simp only [Act.put, List.setIfInBounds_toArray, List.set_cons_zero, List.set_cons_succ]))
   | (refine wpReads_cons ?_ (by rfl) (by rfl) ?_ ?_; rotate_left; (intro wz hz; (try dsimp only at hz); go_simp; try with_reducible rfl); (try simp only [Act.put, List.setIfInBounds_toArray, List.set_cons_zero, List.set_cons_succ]))
   | (refine wpReads_any ?_ (by rfl) ?_ ?_; rotate_left; (intro wz; go_simp; try with_reducible rfl); (try simp only [Act.put, List.setIfInBounds_toArray, List.set_cons_zero, List.set_cons_succ])))
  refine wpReads_nil ?_
  by_cases hL0 : L = 0
  ·
   have hLz : ((L : Int) == 0) = true := by rw [beq_iff_eq]; omega
   have hwr : IntKind.i64.wrap ((p : Int) + 1) = (p : Int) + 1 := IntWalk.i64_in _ (by have := H.out.few.2.1; have := HG.out.1; omega)
   have HL0 := Lib.hid hL0
   clear hL0 hL1
   obtain ⟨TA4, S4⟩ := HTA3.out.fields (x' := { x with gift := x.gift.set p zs, port := p + 1 }) (i := 7) (u := .int .i64 ((p : Int) + 1)) (by unfold taskV; simp) rfl rfl rfl rfl rfl
   have HTA4 := Lib.hid (TA4.drewN 2)
   have HS4 := Lib.hid S4
   clear TA4 S4
   go_wp2_with fail
   refine (tfinish_any HTA4.out HG.out.2.2.2.2.2.1 (by have := H.out.few.2.1; have := HG.out.1; show p + 1 ≤ 1000; omega)).mono ?_
   rintro e w5 ⟨o5, v5, rfl, T5, TA5⟩
   have HT5 := Lib.hid T5
   have HTA5 := Lib.hid TA5
   clear T5 TA5
   go_wp2_with fail
   go_ret
   refine ⟨o2, w2, o5, v5, rfl, HT0.out, HF.out, ?_, ?_⟩
   ·
    exact ((((HS3.out.mono (fun c hc => by rw [hc]; unfold MineT; omega)).trans (HS4.out.mono (mineT_self M)) (fun _ h => h)).drewN 2).trans HT5.out (fun _ h => h))
   ·
    obtain ⟨-, hpe, hL, -, -, -, hgave, -⟩ := HG.out
    have hzs : zs = [] := List.eq_nil_of_length_eq_zero (by rw [hL]; exact HL0.out)
    rw [← HX'.out, hgave, if_pos hzs, hpe]
    exact HTA5.out
  ·
   have hLz : ((L : Int) == 0) = false := by rw [beq_eq_false_iff_ne]; omega
   have HL0 := Lib.hid hL0
   clear hL0
   have HTA4 := Lib.hid (HTA3.out.drewN 2)
   go_wp2_with fail
   refine (tfinish_any HTA4.out HG.out.2.2.2.2.2.1 (by have := H.out.few.2.1; have := HG.out.1; have := HG.out.2.1; show x.port ≤ 1000; omega)).mono ?_
   rintro e w5 ⟨o5, v5, rfl, T5, TA5⟩
   have HT5 := Lib.hid T5
   have HTA5 := Lib.hid TA5
   clear T5 TA5
   go_wp2_with fail
   go_ret
   refine ⟨o2, w2, o5, v5, rfl, HT0.out, HF.out, ?_, ?_⟩
   ·
    exact (((HS3.out.mono (fun c hc => by rw [hc]; unfold MineT; omega)).drewN 2).trans HT5.out (fun _ h => h))
   ·
    obtain ⟨-, hpe, hL, -, -, -, hgave, -⟩ := HG.out
    have hzs : ¬ zs = [] := fun h => HL0.out (by rw [← hL, h]; rfl)
    rw [← HX'.out, hgave, if_neg hzs, hpe]
    have := HTA5.out
    rw [hpe] at this
    exact this
end Go.Proofs.YtaholpfikcdhbaaGreat
