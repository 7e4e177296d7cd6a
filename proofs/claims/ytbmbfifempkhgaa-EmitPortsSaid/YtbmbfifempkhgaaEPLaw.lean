/- What a firing's operations are on: the plain law of EmitPorts. No function in sight. -/
import Derived.Test.YtbmbfifempkhgaaEMakeP
namespace Go.Proofs.Ytbmbfifempkhgaa
open Go.RowKit

/-- the operation at a place -/
def opAt (m : List (List GOp)) (k i : Nat) : Option GOp := (rowM m k)[i]?
theorem opAt_put (m : List (List GOp)) (a p : Nat) (kd x : Int) (k i : Nat) {y0 : GOp} (h0 : opAt m k i = some y0) : opAt (putM m a p kd x) k i = some (if a = k ∧ p = i then ⟨kd, x, y0.b⟩ else y0) := by
  unfold opAt putM at *
  by_cases ha : a = k
  · subst ha
    have hal : a < m.length := by
      rcases Nat.lt_or_ge a m.length with h | h
      · exact h
      · rw [rowM, List.getElem?_eq_none h] at h0; cases h0
    have e : rowM (m.set a (putL (rowM m a) p kd x)) a = putL (rowM m a) p kd x := by unfold rowM; rw [List.getElem?_set_self hal]; rfl
    rw [e, putL]
    by_cases hp : p = i
    · subst hp
      have hil : p < (rowM m a).length := (List.getElem?_eq_some_iff.1 h0).1
      rw [List.getElem?_set_self hil, if_pos ⟨rfl, rfl⟩, bAt, h0]
    · rw [List.getElem?_set_ne hp, h0, if_neg (fun h => hp h.2)]
  · have e : rowM (m.set a (putL (rowM m a) p kd x)) k = rowM m k := by unfold rowM; rw [List.getElem?_set_ne ha]
    rw [e, h0, if_neg (fun h => ha h.1)]
theorem opAt_all {f : Nat → Option (Int × Int)} {kd : Int} {m : List (List GOp)} {k i : Nat} {y0 : GOp} (h0 : opAt m k i = some y0) : ∀ n, (∀ t, t < n → ∀ a p, f t = some (a, p) → 0 ≤ a ∧ 0 ≤ p) →
    ∃ y, opAt (putAll f kd m n) k i = some y ∧ y.b = y0.b ∧ ((y = y0 ∧ ∀ t, t < n → f t ≠ some ((k : Int), (i : Int))) ∨ (y.kind = kd ∧ ∃ t, t < n ∧ y.a = t ∧ f t = some ((k : Int), (i : Int))))
  | 0, _ => ⟨y0, h0, rfl, .inl ⟨rfl, fun t h => by omega⟩⟩
  | n + 1, hf => by
    obtain ⟨y, h1, h2, h3⟩ := opAt_all (f := f) (kd := kd) h0 n (fun t ht => hf t (by omega))
    cases hft : f n with
    | none =>
      refine ⟨y, by rw [putAll, hft]; exact h1, h2, ?_⟩
      rcases h3 with ⟨h3, h4⟩ | ⟨h3, t, ht, h4⟩
      · refine .inl ⟨h3, fun t ht => ?_⟩
        by_cases e : t = n
        · subst e; rw [hft]; simp
        · exact h4 t (by omega)
      · exact .inr ⟨h3, t, by omega, h4⟩
    | some ap =>
      obtain ⟨a, p⟩ := ap
      obtain ⟨ha, hp⟩ := hf n (by omega) a p hft
      rw [putAll_succ hft]
      have h5 := opAt_put (putAll f kd m n) a.toNat p.toNat kd n k i h1
      by_cases hit : a.toNat = k ∧ p.toNat = i
      · rw [if_pos hit] at h5
        refine ⟨_, h5, h2, .inr ⟨rfl, n, by omega, rfl, ?_⟩⟩
        rw [hft]
        have e1 : a = (k : Int) := by omega
        have e2 : p = (i : Int) := by omega
        rw [e1, e2]
      · rw [if_neg hit] at h5
        refine ⟨y, h5, h2, ?_⟩
        rcases h3 with ⟨h3, h4⟩ | ⟨h3, t, ht, h4⟩
        · refine .inl ⟨h3, fun t ht e => ?_⟩
          by_cases e2 : t = n
          · subst e2
            rw [hft] at e
            have e3 := Option.some.inj e
            simp only [Prod.mk.injEq] at e3
            exact hit ⟨by omega, by omega⟩
          · exact h4 t (by omega) e
        · exact .inr ⟨h3, t, by omega, h4⟩

/-- what is marked -/
def markAt (side : List (List Bool)) (k i : Nat) : Prop := (side1 side (k : Int))[i]? = some true
theorem mark_take {side : List (List Bool)} {a p : Int} {k i : Nat} (h : markAt (takeS side a p) k i) : (a.toNat = k ∧ p.toNat = i) ∨ markAt side k i := by
  unfold markAt takeS side1 at *
  rw [Int.toNat_natCast] at *
  by_cases ha : a.toNat = k
  · subst ha
    by_cases hal : a.toNat < side.length
    · rw [List.getElem?_set_self hal, Option.getD_some] at h
      by_cases hp : p.toNat = i
      · exact .inl ⟨rfl, hp⟩
      · rw [List.getElem?_set_ne hp] at h
        exact .inr h
    · have e : (side.set a.toNat ((side[a.toNat]?.getD []).set p.toNat true))[a.toNat]? = none := List.getElem?_eq_none (by simpa using Nat.le_of_not_lt hal)
      rw [e] at h
      simp at h
  · rw [List.getElem?_set_ne ha] at h
    exact .inr h
theorem mark_edges : ∀ (l : List GEdge) (c : Chk) (k i : Nat), (markAt (edgesC c l).ins k i → (∃ e ∈ l, e.dst.toNat = k ∧ e.dport.toNat = i) ∨ markAt c.ins k i) ∧ (markAt (edgesC c l).outs k i → (∃ e ∈ l, e.src.toNat = k ∧ e.sport.toNat = i) ∨ markAt c.outs k i)
  | [], _, _, _ => ⟨fun h => .inr h, fun h => .inr h⟩
  | x :: l, c, k, i => by
    obtain ⟨h1, h2⟩ := mark_edges l (edgeC c x) k i
    constructor
    · intro h
      rcases h1 h with ⟨e, he, h⟩ | h
      · exact .inl ⟨e, List.mem_cons_of_mem _ he, h⟩
      · rcases mark_take h with h | h
        · exact .inl ⟨x, List.mem_cons_self, h⟩
        · exact .inr h
    · intro h
      rcases h2 h with ⟨e, he, h⟩ | h
      · exact .inl ⟨e, List.mem_cons_of_mem _ he, h⟩
      · rcases mark_take h with h | h
        · exact .inl ⟨x, List.mem_cons_self, h⟩
        · exact .inr h
theorem mark_ports : ∀ (l : List GPort) (side : List (List Bool)) (k i : Nat), markAt (portsS side l) k i → (∃ e ∈ l, e.actor.toNat = k ∧ e.port.toNat = i) ∨ markAt side k i
  | [], _, _, _, h => .inr h
  | x :: l, side, k, i, h => by
    rcases mark_ports l (takeS side x.actor x.port) k i h with ⟨e, he, h⟩ | h
    · exact .inl ⟨e, List.mem_cons_of_mem _ he, h⟩
    · rcases mark_take h with h | h
      · exact .inl ⟨x, List.mem_cons_self, h⟩
      · exact .inr h
theorem actorsC_marks : ∀ (l : List GActor) (c : Chk), (actorsC c l).ins = c.ins ++ l.map (fun a => List.replicate (insP a.tag a.params).length false) ∧ (actorsC c l).outs = c.outs ++ l.map (fun a => List.replicate (outsP a.tag a.params).length false)
  | [], _ => by simp [actorsC]
  | x :: l, c => by
    have := actorsC_marks l (actorC c x)
    simp only [actorsC, List.foldl_cons] at this ⊢
    rw [this.1, this.2]
    simp [actorC]
theorem mark_none {f : GActor → Nat} {l : List GActor} {k i : Nat} : ¬ markAt (l.map fun a => List.replicate (f a) false) k i := by
  unfold markAt side1
  rw [Int.toNat_natCast, List.getElem?_map]
  cases l[k]? with
  | none => simp
  | some a =>
    simp only [Option.map_some, Option.getD_some, List.getElem?_replicate]
    split <;> simp
theorem open_mark {ins outs : List (List Bool)} (h : openE ins outs = 0) {k i : Nat} : (k < ins.length → i < (side1 ins k).length → markAt ins k i) ∧ (k < outs.length → i < (side1 outs k).length → markAt outs k i) := by
  unfold openE at h
  split at h
  · rename_i h1
    simp only [Bool.and_eq_true, List.all_eq_true] at h1
    have key : ∀ side : List (List Bool), (∀ x ∈ side, ∀ y ∈ x, id y = true) → k < side.length → i < (side1 side k).length → markAt side k i := fun side hs hk hi => by
      unfold markAt side1 at *
      rw [Int.toNat_natCast] at *
      rw [List.getElem?_eq_getElem hk, Option.getD_some] at *
      rw [List.getElem?_eq_getElem hi]
      exact congrArg some (hs _ (List.getElem_mem hk) _ (List.getElem_mem hi))
    exact ⟨key ins h1.1, key outs h1.2⟩
  · cases h

def RightIn (g : GGraph) (k i : Nat) (y : GOp) : Prop := (y.kind = 3 ∧ ∃ t, ∃ h : t < g.edges.length, y.a = t ∧ g.edges[t].dst = k ∧ g.edges[t].dport = i) ∨ (y.kind = 4 ∧ ∃ t, ∃ h : t < g.ins.length, y.a = t ∧ g.ins[t].actor = k ∧ g.ins[t].port = i)
def RightOut (g : GGraph) (k i : Nat) (y : GOp) : Prop := (y.kind = 6 ∧ ∃ t, ∃ h : t < g.edges.length, y.a = t ∧ g.edges[t].src = k ∧ g.edges[t].sport = i) ∨ (y.kind = 7 ∧ ∃ t, ∃ h : t < g.outs.length, y.a = t ∧ g.outs[t].actor = k ∧ g.outs[t].port = i)

theorem edge_at {g : GGraph} {t : Nat} {f : GEdge → Int × Int} {a p : Int} (h : (match g.edges[t]? with | some e => some (f e) | none => none) = some (a, p)) : ∃ h : t < g.edges.length, f g.edges[t] = (a, p) := by
  by_cases ht : t < g.edges.length
  · rw [List.getElem?_eq_getElem ht] at h
    exact ⟨ht, Option.some.inj h⟩
  · rw [List.getElem?_eq_none (by omega)] at h; cases h
theorem port_at {l : List GPort} {t : Nat} {a p : Int} (h : pAt l t = some (a, p)) : ∃ h : t < l.length, l[t].actor = a ∧ l[t].port = p := by
  unfold pAt at h
  by_cases ht : t < l.length
  · rw [List.getElem?_eq_getElem ht] at h
    have := Option.some.inj h
    simp only [Prod.mk.injEq] at this
    exact ⟨ht, this⟩
  · rw [List.getElem?_eq_none (by omega)] at h; cases h

theorem right_in {g : GGraph} (hc : checkE g = 0) (hf : FirOk g) {k i : Nat} (hk : k < g.actors.length) {r : Int} (hr : (insP g.actors[k].tag g.actors[k].params)[i]? = some r) : ∃ y, opAt (matI2 g) k i = some y ∧ y.b = r ∧ RightIn g k i y := by
  have e0 : insF g k = rateL (insP g.actors[k].tag g.actors[k].params) := by unfold insF; rw [List.getElem?_eq_getElem hk]
  have h0 : opAt (matI0 g) k i = some ⟨0, 0, r⟩ := by
    unfold opAt
    rw [matI0, rowJ_row _ _ _ hk, if_pos hk, e0, rateL, List.getElem?_map, hr]; rfl
  obtain ⟨y1, a1, a2, a3⟩ := opAt_all (f := eDst g) (kd := 3) h0 g.edges.length (fun t ht a p e => by
    unfold eDst at e
    obtain ⟨ht, e2⟩ := edge_at (f := fun e => (e.dst, e.dport)) e
    simp only [Prod.mk.injEq] at e2
    have := hf.dst _ (List.getElem_mem ht)
    unfold InAt at this
    omega)
  obtain ⟨y2, b1, b2, b3⟩ := opAt_all (f := pAt g.ins) (kd := 4) a1 g.ins.length (fun t ht a p e => by
    obtain ⟨ht, e2, e3⟩ := port_at e
    have := hf.pin _ (List.getElem_mem ht)
    unfold InAt at this
    omega)
  refine ⟨y2, b1, by rw [b2, a2], ?_⟩
  rcases b3 with ⟨rfl, b4⟩ | ⟨b4, t, ht, b5, b6⟩
  · rcases a3 with ⟨rfl, a4⟩ | ⟨a4, t, ht, a5, a6⟩
    · exfalso
      obtain ⟨_, _, _, _, _, ho⟩ := checkE_parts hc
      have hl : lensB (portsS (chk2 g).ins g.ins) = g.actors.map (fun a => (insP a.tag a.params).length) := by
        have : ∀ (l : List GPort) (s : List (List Bool)), lensB (portsS s l) = lensB s := fun l => by
          induction l with
          | nil => intro s; rfl
          | cons x l ih => intro s; rw [portsS, List.foldl_cons, ← portsS, ih, takeS_lens]
        rw [this, chk2, (edgesC_lens _ _).1, chk1, (actorsC_lens _ _).1]; simp [chk0, lensB]
      have hlen : k < (portsS (chk2 g).ins g.ins).length := by
        have := congrArg List.length hl
        rw [lensB, List.length_map, List.length_map] at this
        omega
      have hil : i < (side1 (portsS (chk2 g).ins g.ins) (k : Int)).length := by
        rw [side1_len, hl, Int.toNat_natCast, List.getElem?_map, List.getElem?_eq_getElem hk]
        exact (List.getElem?_eq_some_iff.1 hr).1
      rcases mark_ports _ _ _ _ ((open_mark ho).1 hlen hil) with ⟨e, he, e1, e2⟩ | h
      · obtain ⟨t, ht, rfl⟩ := List.mem_iff_getElem.1 he
        have hp := hf.pin _ (List.getElem_mem ht)
        unfold InAt at hp
        refine b4 t ht ?_
        unfold pAt
        rw [List.getElem?_eq_getElem ht]
        have e3 : g.ins[t].actor = (k : Int) := by omega
        have e4 : g.ins[t].port = (i : Int) := by omega
        simp only [e3, e4]
      · rcases (mark_edges _ _ _ _).1 h with ⟨e, he, e1, e2⟩ | h
        · obtain ⟨t, ht, rfl⟩ := List.mem_iff_getElem.1 he
          have hp := hf.dst _ (List.getElem_mem ht)
          unfold InAt at hp
          refine a4 t ht ?_
          unfold eDst
          rw [List.getElem?_eq_getElem ht]
          have e3 : g.edges[t].dst = (k : Int) := by omega
          have e4 : g.edges[t].dport = (i : Int) := by omega
          simp only [e3, e4]
        · rw [chk1, (actorsC_marks _ _).1, chk0, List.nil_append] at h
          exact mark_none h
    · left
      unfold eDst at a6
      obtain ⟨ht, e2⟩ := edge_at (f := fun e => (e.dst, e.dport)) a6
      simp only [Prod.mk.injEq] at e2
      exact ⟨a4, t, ht, a5, e2⟩
  · right
    obtain ⟨ht, e2⟩ := port_at b6
    exact ⟨b4, t, ht, b5, e2⟩
theorem right_out {g : GGraph} (hc : checkE g = 0) (hf : FirOk g) {k i : Nat} (hk : k < g.actors.length) {r : Int} (hr : (outsP g.actors[k].tag g.actors[k].params)[i]? = some r) : ∃ y, opAt (matO2 g) k i = some y ∧ y.b = r ∧ RightOut g k i y := by
  have e0 : outsF g k = rateL (outsP g.actors[k].tag g.actors[k].params) := by unfold outsF; rw [List.getElem?_eq_getElem hk]
  have h0 : opAt (matO0 g) k i = some ⟨0, 0, r⟩ := by
    unfold opAt
    rw [matO0, rowJ_row _ _ _ hk, if_pos hk, e0, rateL, List.getElem?_map, hr]; rfl
  obtain ⟨y1, a1, a2, a3⟩ := opAt_all (f := eSrc g) (kd := 6) h0 g.edges.length (fun t ht a p e => by
    unfold eSrc at e
    obtain ⟨ht, e2⟩ := edge_at (f := fun e => (e.src, e.sport)) e
    simp only [Prod.mk.injEq] at e2
    have := hf.src _ (List.getElem_mem ht)
    unfold OutAt at this
    omega)
  obtain ⟨y2, b1, b2, b3⟩ := opAt_all (f := pAt g.outs) (kd := 7) a1 g.outs.length (fun t ht a p e => by
    obtain ⟨ht, e2, e3⟩ := port_at e
    have := hf.pout _ (List.getElem_mem ht)
    unfold OutAt at this
    omega)
  refine ⟨y2, b1, by rw [b2, a2], ?_⟩
  rcases b3 with ⟨rfl, b4⟩ | ⟨b4, t, ht, b5, b6⟩
  · rcases a3 with ⟨rfl, a4⟩ | ⟨a4, t, ht, a5, a6⟩
    · exfalso
      obtain ⟨_, _, _, _, _, ho⟩ := checkE_parts hc
      have hl : lensB (portsS (chk2 g).outs g.outs) = g.actors.map (fun a => (outsP a.tag a.params).length) := by
        have : ∀ (l : List GPort) (s : List (List Bool)), lensB (portsS s l) = lensB s := fun l => by
          induction l with
          | nil => intro s; rfl
          | cons x l ih => intro s; rw [portsS, List.foldl_cons, ← portsS, ih, takeS_lens]
        rw [this, chk2, (edgesC_lens _ _).2, chk1, (actorsC_lens _ _).2]; simp [chk0, lensB]
      have hlen : k < (portsS (chk2 g).outs g.outs).length := by
        have := congrArg List.length hl
        rw [lensB, List.length_map, List.length_map] at this
        omega
      have hil : i < (side1 (portsS (chk2 g).outs g.outs) (k : Int)).length := by
        rw [side1_len, hl, Int.toNat_natCast, List.getElem?_map, List.getElem?_eq_getElem hk]
        exact (List.getElem?_eq_some_iff.1 hr).1
      rcases mark_ports _ _ _ _ ((open_mark ho).2 hlen hil) with ⟨e, he, e1, e2⟩ | h
      · obtain ⟨t, ht, rfl⟩ := List.mem_iff_getElem.1 he
        have hp := hf.pout _ (List.getElem_mem ht)
        unfold OutAt at hp
        refine b4 t ht ?_
        unfold pAt
        rw [List.getElem?_eq_getElem ht]
        have e3 : g.outs[t].actor = (k : Int) := by omega
        have e4 : g.outs[t].port = (i : Int) := by omega
        simp only [e3, e4]
      · rcases (mark_edges _ _ _ _).2 h with ⟨e, he, e1, e2⟩ | h
        · obtain ⟨t, ht, rfl⟩ := List.mem_iff_getElem.1 he
          have hp := hf.src _ (List.getElem_mem ht)
          unfold OutAt at hp
          refine a4 t ht ?_
          unfold eSrc
          rw [List.getElem?_eq_getElem ht]
          have e3 : g.edges[t].src = (k : Int) := by omega
          have e4 : g.edges[t].sport = (i : Int) := by omega
          simp only [e3, e4]
        · rw [chk1, (actorsC_marks _ _).2, chk0, List.nil_append] at h
          exact mark_none h
    · left
      unfold eSrc at a6
      obtain ⟨ht, e2⟩ := edge_at (f := fun e => (e.src, e.sport)) a6
      simp only [Prod.mk.injEq] at e2
      exact ⟨a4, t, ht, a5, e2⟩
  · right
    obtain ⟨ht, e2⟩ := port_at b6
    exact ⟨b4, t, ht, b5, e2⟩

/-- the program of one firing -/
theorem one_firing {g : GGraph} {p : GPlan} {a : Int} (h : makeE g p (.cons 1 a .nil .nil) = 0) : ∃ k : Nat, a = k ∧ k < g.actors.length ∧ checkE g = 0 ∧ (makeP g p (.cons 1 a .nil .nil)).ops = rowM (matI2 g) k ++ [⟨5, k, 0⟩] ++ rowM (matO2 g) k ++ [⟨0, 0, 0⟩] := by
  have h0 := h
  unfold makeE at h
  split at h
  · rename_i h1; exact absurd h h1
  split at h
  · rename_i h1; exact absurd h h1
  split at h
  · cases h
  rename_i h1 h2 h3
  have hc : checkE g = 0 := Decidable.not_not.1 h1
  obtain ⟨_, _, hl⟩ := nest_facts (Decidable.not_not.1 h2)
  obtain ⟨l1, l2⟩ := hl.1 rfl
  have h4 : ¬ (g.actors.length : Int) ≤ a := fun h => h3 (by simp [strangeP, Nest.isNil, h])
  refine ⟨a.toNat, by omega, by omega, hc, ?_⟩
  rw [makeP, if_pos h0, makeG]
  simp only [rowP, Nest.isNil, leafP]
  rw [if_neg (by omega)]
  simp only [if_true, List.nil_append]
  rw [firP, finM_row _ _ _ (by rw [matI2_len]; omega), if_pos (by omega), finR]
end Go.Proofs.Ytbmbfifempkhgaa
