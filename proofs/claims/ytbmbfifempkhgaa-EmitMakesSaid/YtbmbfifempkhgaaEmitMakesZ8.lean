/- What is wrong with a graph, as the reference tells it: the same. And what a graph that is sound has. No function in sight. -/
import Derived.Test.YtbmbfifempkhgaaEmitMakesZ2
import Derived.Test.YtbmbfifempkhgaaEmitMakesZ7
import Derived.Test.YtbmbfifempkhgaaEmitMakesZ6
import Derived.Test.YtbmbfifempkhgaaEmitMakesZ3
import Derived.Test.YtbmbfifempkhgaaEmitMakesZ4
import Derived.Test.YtbmbfifempkhgaaEmitMakesZ5
namespace Go.Proofs.Ytbmbfifempkhgaa
def outT (g : GGraph) (e o : Nat) (a p : Int) : Bool := (g.edges.take e).any (fun x => decide (x.src = a) && decide (x.sport = p)) || (g.outs.take o).any (fun x => decide (x.actor = a) && decide (x.port = p))
def inT (g : GGraph) (e o : Nat) (a p : Int) : Bool := (g.edges.take e).any (fun x => decide (x.dst = a) && decide (x.dport = p)) || (g.ins.take o).any (fun x => decide (x.actor = a) && decide (x.port = p))
def endR (g : GGraph) (L : Nat → List Int) (a p : Int) (taken : Bool) : Int :=
 if a < 0 ∨ (g.actors.length : Int) ≤ a then 84 else if p < 0 ∨ ((L a.toNat).length : Int) ≤ p then 85 else if taken then 86 else 0
def namedR (g : GGraph) (n i o : Nat) (s : ByteArray) : Bool := (g.actors.take n).any (fun x => decide (x.name = s)) || (g.ins.take i).any (fun x => decide (x.name = s)) || (g.outs.take o).any (fun x => decide (x.name = s))
def nameR (s : ByteArray) (b : Bool) : Int := if nameP s then (if b then 83 else 0) else 82
def actorR (g : GGraph) (i : Nat) (a : GActor) : Int := if nameR a.name (namedR g i 0 0 a.name) ≠ 0 then nameR a.name (namedR g i 0 0 a.name) else if goodP a.tag a.params then 0 else errP a.tag
def actorsR (g : GGraph) : Nat → List GActor → Int
 | _, [] => 0
 | i, a :: r => if actorR g i a ≠ 0 then actorR g i a else actorsR g (i + 1) r
def edgeR (g : GGraph) (i : Nat) (x : GEdge) : Int :=
 if endR g (ratesO g) x.src x.sport (outT g i 0 x.src x.sport) ≠ 0 then endR g (ratesO g) x.src x.sport (outT g i 0 x.src x.sport)
 else if endR g (ratesI g) x.dst x.dport (inT g i 0 x.dst x.dport) ≠ 0 then endR g (ratesI g) x.dst x.dport (inT g i 0 x.dst x.dport) else if 256 < x.start.length then 88 else 0
def edgesR (g : GGraph) : Nat → List GEdge → Int
 | _, [] => 0
 | i, x :: r => if edgeR g i x ≠ 0 then edgeR g i x else edgesR g (i + 1) r
def inR (g : GGraph) (i : Nat) (x : GPort) : Int := if nameR x.name (namedR g g.actors.length i 0 x.name) ≠ 0 then nameR x.name (namedR g g.actors.length i 0 x.name) else endR g (ratesI g) x.actor x.port (inT g g.edges.length i x.actor x.port)
def insR (g : GGraph) : Nat → List GPort → Int
 | _, [] => 0
 | i, x :: r => if inR g i x ≠ 0 then inR g i x else insR g (i + 1) r
def outR (g : GGraph) (i : Nat) (x : GPort) : Int := if nameR x.name (namedR g g.actors.length g.ins.length i x.name) ≠ 0 then nameR x.name (namedR g g.actors.length g.ins.length i x.name) else endR g (ratesO g) x.actor x.port (outT g g.edges.length i x.actor x.port)
def outsR (g : GGraph) : Nat → List GPort → Int
 | _, [] => 0
 | i, x :: r => if outR g i x ≠ 0 then outR g i x else outsR g (i + 1) r
def openR1 (g : GGraph) (i : Nat) : Bool := (List.range (ratesI g i).length).any (fun k => !inT g g.edges.length g.ins.length i k) || (List.range (ratesO g i).length).any (fun k => !outT g g.edges.length g.outs.length i k)
def openR (g : GGraph) : Int := if (List.range g.actors.length).any (openR1 g) then 87 else 0
def refE (g : GGraph) : Int :=
 if headE g ≠ 0 then headE g
 else if actorsR g 0 g.actors ≠ 0 then actorsR g 0 g.actors
 else if edgesR g 0 g.edges ≠ 0 then edgesR g 0 g.edges
 else if insR g 0 g.ins ≠ 0 then insR g 0 g.ins
 else if outsR g 0 g.outs ≠ 0 then outsR g 0 g.outs
 else openR g
structure SideIs (side : List (List Bool)) (g : GGraph) (L : Nat → List Int) (f : Int → Int → Bool) : Prop where
 len : side.length = g.actors.length
 row : ∀ a, a < g.actors.length → (side[a]?.getD []).length = (L a).length
 mark : ∀ a p, a < g.actors.length → p < (L a).length → (side[a]?.getD [])[p]?.getD false = f a p
theorem SideIs.take {side : List (List Bool)} {g : GGraph} {L : Nat → List Int} {f : Int → Int → Bool} (h : SideIs side g L f) (a p : Int) : takeE side a p = endR g L a p (f a p) := by
 unfold takeE endR
 rw [h.len]
 by_cases h1 : a < 0 ∨ (g.actors.length : Int) ≤ a
 ·
  rw [if_pos h1, if_pos h1]
 rw [if_neg h1, if_neg h1]
 have ha : a.toNat < g.actors.length := by omega
 unfold side1
 rw [h.row _ ha]
 by_cases h2 : p < 0 ∨ ((L a.toNat).length : Int) ≤ p
 ·
  rw [if_pos h2, if_pos h2]
 rw [if_neg h2, if_neg h2]
 have hp : p.toNat < (L a.toNat).length := by omega
 rw [h.mark _ _ ha hp, Int.toNat_of_nonneg (by omega), Int.toNat_of_nonneg (by omega)]
theorem SideIs.set {side : List (List Bool)} {g : GGraph} {L : Nat → List Int} {f : Int → Int → Bool} (h : SideIs side g L f) {a p : Int} (he : takeE side a p = 0) : SideIs (takeS side a p) g L (fun x y => f x y || (decide (a = x) && decide (p = y))) := by
 unfold takeE at he
 split at he
 ·
  cases he
 rename_i h1
 split at he
 ·
  cases he
 rename_i h2
 rw [h.len] at h1
 have ha : a.toNat < side.length := by rw [h.len]; omega
 unfold takeS
 refine ⟨by rw [List.length_set, h.len], fun x hx => ?_, fun x y hx hy => ?_⟩
 ·
  by_cases e : a.toNat = x
  ·
   subst e
   rw [List.getElem?_set_self ha]
   simp only [Option.getD_some, List.length_set]
   exact h.row _ hx
  ·
   rw [List.getElem?_set_ne e]
   exact h.row _ hx
 ·
  by_cases e : a.toNat = x
  ·
   subst e
   rw [List.getElem?_set_self ha]
   simp only [Option.getD_some]
   have hm := h.mark _ _ hx hy
   have hyl : y < (side1 side a).length := by unfold side1; rw [h.row _ hx]; exact hy
   by_cases e2 : p.toNat = y
   ·
    subst e2
    rw [List.getElem?_set_self hyl]
    have : decide (a = ((a.toNat : Nat) : Int)) = true ∧ decide (p = ((p.toNat : Nat) : Int)) = true := by simp; omega
    rw [this.1, this.2]
    simp
   ·
    rw [List.getElem?_set_ne e2]
    have : decide (p = (y : Int)) = false := by simp; omega
    rw [this]
    simp only [Bool.and_false, Bool.or_false]
    exact hm
  ·
   rw [List.getElem?_set_ne e]
   have : decide (a = (x : Int)) = false := by simp; omega
   rw [this]
   simp only [Bool.false_and, Bool.or_false]
   exact h.mark _ _ hx hy
theorem SideIs.congr {side : List (List Bool)} {g : GGraph} {L : Nat → List Int} {f f' : Int → Int → Bool} (h : SideIs side g L f) (e : ∀ x y, f x y = f' x y) : SideIs side g L f' := ⟨h.len, h.row, fun a p ha hp => by rw [← e]; exact h.mark a p ha hp⟩
theorem take_any {α : Type} (l : List α) (f : α → Bool) {i : Nat} (h : i < l.length) : (l.take (i + 1)).any f = ((l.take i).any f || f l[i]) := by
 rw [List.take_succ_eq_append_getElem h, List.any_append]
 simp
theorem nameE_is (seen : List ByteArray) (s : ByteArray) : nameE seen s = nameR s (seen.any fun x => decide (x = s)) := rfl
theorem actors_same (g : GGraph) : ∀ (l : List GActor) (i : Nat) (c : Chk), g.actors.drop i = l → c.seen = (g.actors.take i).map GActor.name → actorsE c l = actorsR g i l
 | [], _, _, _, _ => rfl
 | a :: r, i, c, hd, hs => by
  have hi : i < g.actors.length := by
   rcases Nat.lt_or_ge i g.actors.length with h | h
   ·
    exact h
   ·
    rw [List.drop_eq_nil_of_le h] at hd; cases hd
  rw [List.drop_eq_getElem_cons hi] at hd
  injection hd with h1 h2
  have e : actorE c.seen a = actorR g i a := by
   unfold actorE actorR
   rw [nameE_is, hs, List.any_map]
   unfold namedR
   simp only [List.take_zero, List.any_nil, Bool.or_false]
   rfl
  rw [actorsE, actorsR, e]
  split
  ·
   rfl
  ·
   refine actors_same g r (i + 1) (actorC c a) h2 ?_
   show c.seen ++ [a.name] = _
   rw [hs, List.take_succ_eq_append_getElem hi, List.map_append, ← h1]
   rfl
structure Known (g : GGraph) (c : Chk) (i o e : Nat) : Prop where
 seen : c.seen = g.actors.map GActor.name
 ins : SideIs c.ins g (ratesI g) (inT g e 0)
 outs : SideIs c.outs g (ratesO g) (outT g e 0)
theorem chk1_is (g : GGraph) : ∀ (l : List GActor) (i : Nat) (c : Chk), g.actors.drop i = l → i ≤ g.actors.length →
  c.seen = (g.actors.take i).map GActor.name ∧ c.ins = (g.actors.take i).map (fun a => List.replicate (insP a.tag a.params).length false) ∧ c.outs = (g.actors.take i).map (fun a => List.replicate (outsP a.tag a.params).length false) →
  (actorsC c l).seen = g.actors.map GActor.name ∧ (actorsC c l).ins = g.actors.map (fun a => List.replicate (insP a.tag a.params).length false) ∧ (actorsC c l).outs = g.actors.map (fun a => List.replicate (outsP a.tag a.params).length false)
 | [], i, c, hd, hi, h => by
  have : g.actors.length ≤ i := by
   rcases Nat.lt_or_ge i g.actors.length with h | h
   ·
    rw [List.drop_eq_getElem_cons h] at hd; cases hd
   ·
    exact h
  rw [List.take_of_length_le this] at h
  exact h
 | a :: r, i, c, hd, hi0, h => by
  have hi : i < g.actors.length := by
   rcases Nat.lt_or_ge i g.actors.length with h | h
   ·
    exact h
   ·
    rw [List.drop_eq_nil_of_le h] at hd; cases hd
  rw [List.drop_eq_getElem_cons hi] at hd
  injection hd with h1 h2
  refine chk1_is g r (i + 1) (actorC c a) h2 hi ?_
  rw [List.take_succ_eq_append_getElem hi, List.map_append, List.map_append, List.map_append, ← h.1, ← h.2.1, ← h.2.2, h1]
  exact ⟨rfl, rfl, rfl⟩
theorem rates_at {g : GGraph} {a : Nat} (h : a < g.actors.length) : ratesI g a = insP g.actors[a].tag g.actors[a].params ∧ ratesO g a = outsP g.actors[a].tag g.actors[a].params := by
 unfold ratesI ratesO
 rw [List.getElem?_eq_getElem h]
 exact ⟨rfl, rfl⟩
theorem known_start (g : GGraph) : Known g (chk1 g) 0 0 0 := by
 obtain ⟨h1, h2, h3⟩ := chk1_is g g.actors 0 chk0 rfl (Nat.zero_le _) ⟨rfl, rfl, rfl⟩
 refine ⟨h1, ⟨by show (actorsC chk0 g.actors).ins.length = _; rw [h2, List.length_map], fun a ha => ?_, fun a p ha hp => ?_⟩, ⟨by show (actorsC chk0 g.actors).outs.length = _; rw [h3, List.length_map], fun a ha => ?_, fun a p ha hp => ?_⟩⟩
 ·
  show ((actorsC chk0 g.actors).ins[a]?.getD []).length = _
  rw [h2, List.getElem?_map, List.getElem?_eq_getElem ha, (rates_at ha).1]
  simp
 ·
  show ((actorsC chk0 g.actors).ins[a]?.getD [])[p]?.getD false = _
  rw [(rates_at ha).1] at hp
  rw [h2, List.getElem?_map, List.getElem?_eq_getElem ha]
  simp [inT, hp]
 ·
  show ((actorsC chk0 g.actors).outs[a]?.getD []).length = _
  rw [h3, List.getElem?_map, List.getElem?_eq_getElem ha, (rates_at ha).2]
  simp
 ·
  show ((actorsC chk0 g.actors).outs[a]?.getD [])[p]?.getD false = _
  rw [(rates_at ha).2] at hp
  rw [h3, List.getElem?_map, List.getElem?_eq_getElem ha]
  simp [outT, hp]
theorem edges_same (g : GGraph) : ∀ (l : List GEdge) (i : Nat) (c : Chk), g.edges.drop i = l → i ≤ g.edges.length → Known g c 0 0 i → edgesE c l = edgesR g i l ∧ (edgesE c l = 0 → Known g (edgesC c l) 0 0 g.edges.length)
 | [], i, c, hd, hi, h => by
  have : g.edges.length ≤ i := by
   rcases Nat.lt_or_ge i g.edges.length with h | h
   ·
    rw [List.drop_eq_getElem_cons h] at hd; cases hd
   ·
    exact h
  obtain rfl : i = g.edges.length := by omega
  exact ⟨rfl, fun _ => h⟩
 | x :: r, i, c, hd, hi0, h => by
  have hi : i < g.edges.length := by
   rcases Nat.lt_or_ge i g.edges.length with h | h
   ·
    exact h
   ·
    rw [List.drop_eq_nil_of_le h] at hd; cases hd
  rw [List.drop_eq_getElem_cons hi] at hd
  injection hd with h1 h2
  have e : edgeE c x = edgeR g i x := by
   unfold edgeE edgeR
   rw [h.outs.take, h.ins.take]
  rw [edgesE, edgesR, e]
  split
  ·
   rename_i hne
   exact ⟨rfl, fun h0 => absurd h0 hne⟩
  ·
   rename_i hne
   have h0 : edgeE c x = 0 := by rw [e]; omega
   have t1 : takeE c.outs x.src x.sport = 0 := by
    unfold edgeE at h0
    split at h0
    ·
     rename_i h3; exact absurd h0 h3
    ·
     rename_i h3; omega
   have t2 : takeE c.ins x.dst x.dport = 0 := by
    unfold edgeE at h0
    rw [if_neg (by omega)] at h0
    split at h0
    ·
     rename_i h3; exact absurd h0 h3
    ·
     rename_i h3; omega
   exact edges_same g r (i + 1) (edgeC c x) h2 hi ⟨h.seen, (h.ins.set t2).congr (fun a p => by unfold inT; rw [take_any _ _ hi, h1]; simp), (h.outs.set t1).congr (fun a p => by unfold outT; rw [take_any _ _ hi, h1]; simp)⟩
theorem ins_same (g : GGraph) : ∀ (l : List GPort) (i : Nat) (seen : List ByteArray) (side : List (List Bool)), g.ins.drop i = l → i ≤ g.ins.length → seen = g.actors.map GActor.name ++ (g.ins.take i).map GPort.name → SideIs side g (ratesI g) (inT g g.edges.length i) →
  portsE seen side l = insR g i l ∧ (portsE seen side l = 0 → SideIs (portsS side l) g (ratesI g) (inT g g.edges.length g.ins.length))
 | [], i, seen, side, hd, hi, hs, h => by
  have : g.ins.length ≤ i := by
   rcases Nat.lt_or_ge i g.ins.length with h | h
   ·
    rw [List.drop_eq_getElem_cons h] at hd; cases hd
   ·
    exact h
  obtain rfl : i = g.ins.length := by omega
  exact ⟨rfl, fun _ => h⟩
 | x :: r, i, seen, side, hd, hi0, hs, h => by
  have hi : i < g.ins.length := by
   rcases Nat.lt_or_ge i g.ins.length with h | h
   ·
    exact h
   ·
    rw [List.drop_eq_nil_of_le h] at hd; cases hd
  rw [List.drop_eq_getElem_cons hi] at hd
  injection hd with h1 h2
  have e : portE seen side x = inR g i x := by
   unfold portE inR
   rw [h.take, nameE_is, hs, List.any_append, List.any_map, List.any_map]
   unfold namedR
   simp only [List.take_zero, List.any_nil, Bool.or_false, List.take_length]
   rfl
  rw [portsE, insR, e]
  split
  ·
   rename_i hne
   exact ⟨rfl, fun h0 => absurd h0 hne⟩
  ·
   rename_i hne
   have h0 : portE seen side x = 0 := by rw [e]; omega
   have t1 : takeE side x.actor x.port = 0 := by
    unfold portE at h0
    split at h0
    ·
     rename_i h3; exact absurd h0 h3
    ·
     exact h0
   exact ins_same g r (i + 1) (seen ++ [x.name]) (takeS side x.actor x.port) h2 hi (by rw [hs, List.take_succ_eq_append_getElem hi, List.map_append, ← List.append_assoc, h1]; rfl) ((h.set t1).congr (fun a p => by unfold inT; rw [take_any _ _ hi, h1]; simp [Bool.or_assoc]))
theorem outs_same (g : GGraph) : ∀ (l : List GPort) (i : Nat) (seen : List ByteArray) (side : List (List Bool)), g.outs.drop i = l → i ≤ g.outs.length → seen = g.actors.map GActor.name ++ g.ins.map GPort.name ++ (g.outs.take i).map GPort.name → SideIs side g (ratesO g) (outT g g.edges.length i) →
  portsE seen side l = outsR g i l ∧ (portsE seen side l = 0 → SideIs (portsS side l) g (ratesO g) (outT g g.edges.length g.outs.length))
 | [], i, seen, side, hd, hi, hs, h => by
  have : g.outs.length ≤ i := by
   rcases Nat.lt_or_ge i g.outs.length with h | h
   ·
    rw [List.drop_eq_getElem_cons h] at hd; cases hd
   ·
    exact h
  obtain rfl : i = g.outs.length := by omega
  exact ⟨rfl, fun _ => h⟩
 | x :: r, i, seen, side, hd, hi0, hs, h => by
  have hi : i < g.outs.length := by
   rcases Nat.lt_or_ge i g.outs.length with h | h
   ·
    exact h
   ·
    rw [List.drop_eq_nil_of_le h] at hd; cases hd
  rw [List.drop_eq_getElem_cons hi] at hd
  injection hd with h1 h2
  have e : portE seen side x = outR g i x := by
   unfold portE outR
   rw [h.take, nameE_is, hs, List.any_append, List.any_append, List.any_map, List.any_map, List.any_map]
   unfold namedR
   simp only [List.take_length]
   rfl
  rw [portsE, outsR, e]
  split
  ·
   rename_i hne
   exact ⟨rfl, fun h0 => absurd h0 hne⟩
  ·
   rename_i hne
   have h0 : portE seen side x = 0 := by rw [e]; omega
   have t1 : takeE side x.actor x.port = 0 := by
    unfold portE at h0
    split at h0
    ·
     rename_i h3; exact absurd h0 h3
    ·
     exact h0
   exact outs_same g r (i + 1) (seen ++ [x.name]) (takeS side x.actor x.port) h2 hi (by rw [hs, List.take_succ_eq_append_getElem hi, List.map_append, ← List.append_assoc, h1]; rfl) ((h.set t1).congr (fun a p => by unfold outT; rw [take_any _ _ hi, h1]; simp [Bool.or_assoc]))
theorem side_all {side : List (List Bool)} {g : GGraph} {L : Nat → List Int} {f : Int → Int → Bool} (h : SideIs side g L f) : (side.all fun s => s.all id) = (List.range g.actors.length).all fun i => (List.range (L i).length).all fun k => f i k := by
 rw [Bool.eq_iff_iff, List.all_eq_true, List.all_eq_true]
 constructor
 ·
  intro hs i hi
  have hi := List.mem_range.1 hi
  rw [List.all_eq_true]
  intro k hk
  have hk := List.mem_range.1 hk
  have hm := h.mark i k hi hk
  have hil : i < side.length := by rw [h.len]; exact hi
  have hrow := h.row i hi
  rw [List.getElem?_eq_getElem hil] at hm hrow
  simp only [Option.getD_some] at hm hrow
  have hk2 : k < side[i].length := by rw [hrow]; exact hk
  rw [List.getElem?_eq_getElem hk2] at hm
  have h1 := hs _ (List.getElem_mem hil)
  rw [List.all_eq_true] at h1
  have h2 := h1 _ (List.getElem_mem hk2)
  rw [← hm]
  exact h2
 ·
  intro hs s hsm
  obtain ⟨i, hi, rfl⟩ := List.mem_iff_getElem.1 hsm
  have hi2 : i < g.actors.length := by rw [← h.len]; exact hi
  rw [List.all_eq_true]
  intro b hb
  obtain ⟨k, hk, rfl⟩ := List.mem_iff_getElem.1 hb
  have hrow := h.row i hi2
  rw [List.getElem?_eq_getElem hi] at hrow
  simp only [Option.getD_some] at hrow
  have hm := h.mark i k hi2 (by rw [← hrow]; exact hk)
  rw [List.getElem?_eq_getElem hi] at hm
  simp only [Option.getD_some] at hm
  rw [List.getElem?_eq_getElem hk] at hm
  have h1 := hs i (List.mem_range.2 hi2)
  rw [List.all_eq_true] at h1
  have h2 := h1 k (List.mem_range.2 (by rw [← hrow]; exact hk))
  show side[i][k] = true
  rw [← h2, ← hm]
  rfl
theorem open_same {g : GGraph} {a b : List (List Bool)} (h : SideIs a g (ratesI g) (inT g g.edges.length g.ins.length)) (k : SideIs b g (ratesO g) (outT g g.edges.length g.outs.length)) : openE a b = openR g := by
 unfold openE openR
 rw [side_all h, side_all k]
 have e : ((List.range g.actors.length).all (fun i => (List.range (ratesI g i).length).all fun k => inT g g.edges.length g.ins.length i k) && (List.range g.actors.length).all fun i => (List.range (ratesO g i).length).all fun k => outT g g.edges.length g.outs.length i k) = !(List.range g.actors.length).any (openR1 g) := by
  rw [Bool.eq_iff_iff]
  simp only [Bool.and_eq_true, List.all_eq_true, Bool.not_eq_true', List.any_eq_false, openR1, Bool.or_eq_true, List.any_eq_true, Bool.not_eq_true', not_or, not_exists, not_and, Bool.not_eq_false]
  constructor
  ·
   rintro ⟨h1, h2⟩ i hi
   exact ⟨h1 i hi, h2 i hi⟩
  ·
   intro h
   exact ⟨fun i hi => (h i hi).1, fun i hi => (h i hi).2⟩
 rw [e]
 cases (List.range g.actors.length).any (openR1 g) <;> rfl
theorem ref_graph (g : GGraph) : refE g = checkE g := by
 unfold refE checkE
 by_cases h0 : headE g ≠ 0
 ·
  rw [if_pos h0, if_pos h0]
 rw [if_neg h0, if_neg h0]
 rw [← actors_same g g.actors 0 chk0 rfl rfl]
 by_cases h1 : actorsE chk0 g.actors ≠ 0
 ·
  rw [if_pos h1, if_pos h1]
 rw [if_neg h1, if_neg h1]
 obtain ⟨e1, e2⟩ := edges_same g g.edges 0 (chk1 g) rfl (Nat.zero_le _) (known_start g)
 rw [← e1]
 by_cases h2 : edgesE (chk1 g) g.edges ≠ 0
 ·
  rw [if_pos h2, if_pos h2]
 rw [if_neg h2, if_neg h2]
 have K : Known g (chk2 g) 0 0 g.edges.length := e2 (by omega)
 obtain ⟨i1, i2⟩ := ins_same g g.ins 0 (chk2 g).seen (chk2 g).ins rfl (Nat.zero_le _) (by rw [K.seen]; simp) K.ins
 rw [← i1]
 by_cases h3 : portsE (chk2 g).seen (chk2 g).ins g.ins ≠ 0
 ·
  rw [if_pos h3, if_pos h3]
 rw [if_neg h3, if_neg h3]
 obtain ⟨o1, o2⟩ := outs_same g g.outs 0 (portsN (chk2 g).seen g.ins) (chk2 g).outs rfl (Nat.zero_le _) (by unfold portsN; rw [K.seen]; simp) K.outs
 rw [← o1]
 by_cases h4 : portsE (portsN (chk2 g).seen g.ins) (chk2 g).outs g.outs ≠ 0
 ·
  rw [if_pos h4, if_pos h4]
 rw [if_neg h4, if_neg h4]
 exact (open_same (i2 (by omega)) (o2 (by omega))).symm
end Go.Proofs.Ytbmbfifempkhgaa

/- What a sound graph has, plainly: each port has its one stream. No function in sight. -/
namespace Go.Proofs.Ytbmbfifempkhgaa
theorem errP_nz (t : Int) : errP t ≠ 0 := by rcases errP_some' t with h | h <;> rw [h] <;> decide
 where errP_some' (t : Int) : errP t = 60 ∨ errP t = 61 := by unfold errP; split <;> simp
theorem actorsR_good {g : GGraph} : ∀ (l : List GActor) (i : Nat), actorsR g i l = 0 → ∀ a ∈ l, goodP a.tag a.params
 | [], _, _, _, h => by cases h
 | x :: r, i, h, a, ha => by
  rw [actorsR] at h
  split at h
  ·
   rename_i hne; exact absurd h hne
  ·
   rename_i hne
   rcases List.mem_cons.1 ha with rfl | ha
   ·
    unfold actorR at hne
    split at hne
    ·
     rename_i h1; exact absurd h1 hne
    ·
     split at hne
     ·
      rename_i h2; exact h2
     ·
      exact absurd (errP_nz a.tag) hne
   ·
    exact actorsR_good r (i + 1) h a ha
theorem edgesR_at {g : GGraph} : ∀ (l : List GEdge) (i : Nat), edgesR g i l = 0 → ∀ k (h : k < l.length), edgeR g (i + k) l[k] = 0
 | [], _, _, k, h => by simp at h
 | x :: r, i, h, k, hk => by
  rw [edgesR] at h
  split at h
  ·
   rename_i hne; exact absurd h hne
  ·
   rename_i hne
   cases k with
   | zero => show edgeR g i x = 0; omega
   | succ k =>
    have := edgesR_at r (i + 1) h k (by simpa using hk)
    rw [show i + 1 + k = i + (k + 1) by omega] at this
    exact this
theorem insR_at {g : GGraph} : ∀ (l : List GPort) (i : Nat), insR g i l = 0 → ∀ k (h : k < l.length), inR g (i + k) l[k] = 0
 | [], _, _, k, h => by simp at h
 | x :: r, i, h, k, hk => by
  rw [insR] at h
  split at h
  ·
   rename_i hne; exact absurd h hne
  ·
   rename_i hne
   cases k with
   | zero => show inR g i x = 0; omega
   | succ k =>
    have := insR_at r (i + 1) h k (by simpa using hk)
    rw [show i + 1 + k = i + (k + 1) by omega] at this
    exact this
theorem outsR_at {g : GGraph} : ∀ (l : List GPort) (i : Nat), outsR g i l = 0 → ∀ k (h : k < l.length), outR g (i + k) l[k] = 0
 | [], _, _, k, h => by simp at h
 | x :: r, i, h, k, hk => by
  rw [outsR] at h
  split at h
  ·
   rename_i hne; exact absurd h hne
  ·
   rename_i hne
   cases k with
   | zero => show outR g i x = 0; omega
   | succ k =>
    have := outsR_at r (i + 1) h k (by simpa using hk)
    rw [show i + 1 + k = i + (k + 1) by omega] at this
    exact this
theorem endR_ok {g : GGraph} {L : Nat → List Int} {a p : Int} {b : Bool} (h : endR g L a p b = 0) : (0 ≤ a ∧ a < g.actors.length) ∧ (0 ≤ p ∧ p < (L a.toNat).length) ∧ b = false := by
 unfold endR at h
 split at h
 ·
  cases h
 split at h
 ·
  cases h
 split at h
 ·
  cases h
 ·
  rename_i h1 h2 h3
  exact ⟨by omega, by omega, by simpa using h3⟩
structure Sound (g : GGraph) : Prop where
 head : headE g = 0
 good : ∀ a ∈ g.actors, goodP a.tag a.params
 edge : ∀ k (h : k < g.edges.length), (0 ≤ g.edges[k].src ∧ g.edges[k].src < g.actors.length) ∧ (0 ≤ g.edges[k].sport ∧ g.edges[k].sport < (ratesO g g.edges[k].src.toNat).length) ∧ outT g k 0 g.edges[k].src g.edges[k].sport = false ∧
  (0 ≤ g.edges[k].dst ∧ g.edges[k].dst < g.actors.length) ∧ (0 ≤ g.edges[k].dport ∧ g.edges[k].dport < (ratesI g g.edges[k].dst.toNat).length) ∧ inT g k 0 g.edges[k].dst g.edges[k].dport = false ∧ g.edges[k].start.length ≤ 256
 ins : ∀ k (h : k < g.ins.length), (0 ≤ g.ins[k].actor ∧ g.ins[k].actor < g.actors.length) ∧ (0 ≤ g.ins[k].port ∧ g.ins[k].port < (ratesI g g.ins[k].actor.toNat).length) ∧ inT g g.edges.length k g.ins[k].actor g.ins[k].port = false
 outs : ∀ k (h : k < g.outs.length), (0 ≤ g.outs[k].actor ∧ g.outs[k].actor < g.actors.length) ∧ (0 ≤ g.outs[k].port ∧ g.outs[k].port < (ratesO g g.outs[k].actor.toNat).length) ∧ outT g g.edges.length k g.outs[k].actor g.outs[k].port = false
 allI : ∀ t q, t < g.actors.length → q < (ratesI g t).length → inT g g.edges.length g.ins.length t q = true
 allO : ∀ t q, t < g.actors.length → q < (ratesO g t).length → outT g g.edges.length g.outs.length t q = true
theorem sound_of {g : GGraph} (h : checkE g = 0) : Sound g := by
 rw [← ref_graph] at h
 unfold refE at h
 split at h
 ·
  rename_i h1; exact absurd h h1
 rename_i h1
 split at h
 ·
  rename_i h2; exact absurd h h2
 rename_i h2
 split at h
 ·
  rename_i h3; exact absurd h h3
 rename_i h3
 split at h
 ·
  rename_i h4; exact absurd h h4
 rename_i h4
 split at h
 ·
  rename_i h5; exact absurd h h5
 rename_i h5
 have q2 : actorsR g 0 g.actors = 0 := by omega
 have q3 : edgesR g 0 g.edges = 0 := by omega
 have q4 : insR g 0 g.ins = 0 := by omega
 have q5 : outsR g 0 g.outs = 0 := by omega
 refine ⟨by omega, actorsR_good _ 0 q2, fun k hk => ?_, fun k hk => ?_, fun k hk => ?_, fun t q ht hq => ?_, fun t q ht hq => ?_⟩
 ·
  have e := edgesR_at g.edges 0 q3 k hk
  rw [Nat.zero_add] at e
  unfold edgeR at e
  split at e
  ·
   rename_i e1; exact absurd e e1
  split at e
  ·
   rename_i e1; exact absurd e e1
  split at e
  ·
   cases e
  rename_i e1 e2 e3
  obtain ⟨a1, a2, a3⟩ := endR_ok (show endR g (ratesO g) g.edges[k].src g.edges[k].sport (outT g k 0 g.edges[k].src g.edges[k].sport) = 0 by omega)
  obtain ⟨b1, b2, b3⟩ := endR_ok (show endR g (ratesI g) g.edges[k].dst g.edges[k].dport (inT g k 0 g.edges[k].dst g.edges[k].dport) = 0 by omega)
  exact ⟨a1, a2, a3, b1, b2, b3, by omega⟩
 ·
  have e := insR_at g.ins 0 q4 k hk
  rw [Nat.zero_add] at e
  unfold inR at e
  split at e
  ·
   rename_i e1; exact absurd e e1
  ·
   exact endR_ok e
 ·
  have e := outsR_at g.outs 0 q5 k hk
  rw [Nat.zero_add] at e
  unfold outR at e
  split at e
  ·
   rename_i e1; exact absurd e e1
  ·
   exact endR_ok e
 all_goals
  unfold openR at h
  split at h
  ·
   cases h
  rename_i h6
  rw [List.any_eq_true] at h6
  have h7 : openR1 g t = false := by
   cases e : openR1 g t with
   | false => rfl
   | true => exact absurd ⟨t, List.mem_range.2 ht, e⟩ h6
  unfold openR1 at h7
  rw [Bool.or_eq_false_iff, List.any_eq_false, List.any_eq_false] at h7
 ·
  have := h7.1 q (List.mem_range.2 hq)
  simpa using this
 ·
  have := h7.2 q (List.mem_range.2 hq)
  simpa using this
end Go.Proofs.Ytbmbfifempkhgaa

/- The operations of a firing by definition, plainly: they are those that emit lays. No function in sight. -/
namespace Go.Proofs.Ytbmbfifempkhgaa
def edgeD (g : GGraph) (i : Nat) : GEdge := g.edges[i]?.getD ⟨0, 0, 0, 0, []⟩
def portD (l : List GPort) (i : Nat) : GPort := l[i]?.getD ⟨{ data := #[] }, 0, 0⟩
def pickL (P : Nat → Prop) [DecidablePred P] (kd r : Int) (n : Nat) : List GOp := (List.range n).flatMap fun i => if P i then [⟨kd, i, r⟩] else []
def takeL (g : GGraph) (t p : Nat) (r : Int) (n : Nat) : List GOp := pickL (fun i => (edgeD g i).dst = t ∧ (edgeD g i).dport = p) 3 r n
def readL (g : GGraph) (t p : Nat) (r : Int) (n : Nat) : List GOp := pickL (fun i => (portD g.ins i).actor = t ∧ (portD g.ins i).port = p) 4 r n
def giveL (g : GGraph) (t p : Nat) (r : Int) (n : Nat) : List GOp := pickL (fun i => (edgeD g i).src = t ∧ (edgeD g i).sport = p) 6 r n
def writeL (g : GGraph) (t p : Nat) (r : Int) (n : Nat) : List GOp := pickL (fun i => (portD g.outs i).actor = t ∧ (portD g.outs i).port = p) 7 r n
def inL (g : GGraph) (t : Nat) (n : Nat) : List GOp := (List.range n).flatMap fun p => takeL g t p ((ratesI g t)[p]?.getD 0) g.edges.length ++ readL g t p ((ratesI g t)[p]?.getD 0) g.ins.length
def outL (g : GGraph) (t : Nat) (n : Nat) : List GOp := (List.range n).flatMap fun p => giveL g t p ((ratesO g t)[p]?.getD 0) g.edges.length ++ writeL g t p ((ratesO g t)[p]?.getD 0) g.outs.length
def firL (g : GGraph) (t : Nat) : List GOp := inL g t (ratesI g t).length ++ [⟨5, t, 0⟩] ++ outL g t (ratesO g t).length
theorem pickL_snoc (P : Nat → Prop) [DecidablePred P] (kd r : Int) (n : Nat) : pickL P kd r (n + 1) = pickL P kd r n ++ (if P n then [⟨kd, n, r⟩] else []) := by simp [pickL, List.range_succ]
theorem inL_snoc (g : GGraph) (t n : Nat) : inL g t (n + 1) = inL g t n ++ (takeL g t n ((ratesI g t)[n]?.getD 0) g.edges.length ++ readL g t n ((ratesI g t)[n]?.getD 0) g.ins.length) := by simp [inL, List.range_succ]
theorem outL_snoc (g : GGraph) (t n : Nat) : outL g t (n + 1) = outL g t n ++ (giveL g t n ((ratesO g t)[n]?.getD 0) g.edges.length ++ writeL g t n ((ratesO g t)[n]?.getD 0) g.outs.length) := by simp [outL, List.range_succ]
theorem pickL_none {P : Nat → Prop} [DecidablePred P] {kd r : Int} : ∀ {n : Nat}, (∀ i, i < n → ¬ P i) → pickL P kd r n = []
 | 0, _ => rfl
 | n + 1, h => by rw [pickL_snoc, pickL_none (fun i hi => h i (by omega)), if_neg (h n (by omega))]; rfl
theorem pickL_one {P : Nat → Prop} [DecidablePred P] {kd r : Int} {k : Nat} (hk : P k) : ∀ {n : Nat}, k < n → (∀ i, i < n → P i → i = k) → pickL P kd r n = [⟨kd, k, r⟩]
 | 0, h, _ => by omega
 | n + 1, h, hu => by
  rw [pickL_snoc]
  by_cases e : k = n
  ·
   subst e
   rw [pickL_none (fun i hi hp => by have := hu i (by omega) hp; omega), if_pos hk]; rfl
  ·
   rw [pickL_one hk (by omega) (fun i hi => hu i (by omega)), if_neg (fun hp => by have := hu n (by omega) hp; omega)]; rfl
theorem edgeD_at {g : GGraph} {i : Nat} (h : i < g.edges.length) : edgeD g i = g.edges[i] := by unfold edgeD; rw [List.getElem?_eq_getElem h]; rfl
theorem portD_at {l : List GPort} {i : Nat} (h : i < l.length) : portD l i = l[i] := by unfold portD; rw [List.getElem?_eq_getElem h]; rfl
theorem any_false {α : Type} {l : List α} {f : α → Bool} {n i : Nat} (h : (l.take n).any f = false) (hi : i < n) (hl : i < l.length) : f l[i] = false := by
 cases hf : f l[i] with
 | false => rfl
 | true =>
  have : (l.take n).any f = true := List.any_eq_true.2 ⟨l[i], by rw [List.mem_take_iff_getElem]; exact ⟨i, by omega, rfl⟩, hf⟩
  rw [this] at h; cases h
theorem in_one {g : GGraph} (hS : Sound g) {t p : Nat} {r : Int} {y : GOp} (hy : y.b = r) (h : RightIn g t p y) : takeL g t p r g.edges.length ++ readL g t p r g.ins.length = [y] := by
 obtain ⟨k, a, b⟩ := y
 obtain rfl : b = r := hy
 rcases h with ⟨hk, i, hi, ha, h1, h2⟩ | ⟨hk, i, hi, ha, h1, h2⟩
 ·
  obtain rfl : k = 3 := hk
  obtain rfl : a = (i : Int) := ha
  have P : (edgeD g i).dst = t ∧ (edgeD g i).dport = p := by rw [edgeD_at hi]; exact ⟨h1, h2⟩
  unfold takeL readL
  rw [pickL_one (k := i) P hi (fun j hj hp => ?_), pickL_none (fun j hj hp => ?_)]
  ·
   rfl
  ·
   rw [portD_at hj] at hp
   have := (hS.ins j hj).2.2
   unfold inT at this
   rw [Bool.or_eq_false_iff] at this
   have h3 := any_false this.1 hi hi
   rw [hp.1, hp.2, h1, h2] at h3
   simp at h3
  ·
   rw [edgeD_at hj] at hp
   rcases Nat.lt_trichotomy i j with hlt | e | hlt
   ·
    have := (hS.edge j hj).2.2.2.2.2.1
    unfold inT at this
    rw [Bool.or_eq_false_iff] at this
    have h3 := any_false this.1 hlt hi
    rw [hp.1, hp.2, h1, h2] at h3
    simp at h3
   ·
    exact e.symm
   ·
    have := (hS.edge i hi).2.2.2.2.2.1
    unfold inT at this
    rw [Bool.or_eq_false_iff] at this
    have h3 := any_false this.1 hlt hj
    rw [hp.1, hp.2, h1, h2] at h3
    simp at h3
 ·
  obtain rfl : k = 4 := hk
  obtain rfl : a = (i : Int) := ha
  have P : (portD g.ins i).actor = t ∧ (portD g.ins i).port = p := by rw [portD_at hi]; exact ⟨h1, h2⟩
  have hn := (hS.ins i hi).2.2
  unfold inT at hn
  rw [Bool.or_eq_false_iff] at hn
  unfold takeL readL
  rw [pickL_none (fun j hj hp => ?_), pickL_one (k := i) P hi (fun j hj hp => ?_)]
  ·
   rfl
  ·
   rw [portD_at hj] at hp
   rcases Nat.lt_trichotomy i j with hlt | e | hlt
   ·
    have := (hS.ins j hj).2.2
    unfold inT at this
    rw [Bool.or_eq_false_iff] at this
    have h3 := any_false this.2 hlt hi
    rw [hp.1, hp.2, h1, h2] at h3
    simp at h3
   ·
    exact e.symm
   ·
    have h3 := any_false hn.2 hlt hj
    rw [hp.1, hp.2, h1, h2] at h3
    simp at h3
  ·
   rw [edgeD_at hj] at hp
   have h3 := any_false hn.1 hj hj
   rw [hp.1, hp.2, h1, h2] at h3
   simp at h3
theorem out_one {g : GGraph} (hS : Sound g) {t p : Nat} {r : Int} {y : GOp} (hy : y.b = r) (h : RightOut g t p y) : giveL g t p r g.edges.length ++ writeL g t p r g.outs.length = [y] := by
 obtain ⟨k, a, b⟩ := y
 obtain rfl : b = r := hy
 rcases h with ⟨hk, i, hi, ha, h1, h2⟩ | ⟨hk, i, hi, ha, h1, h2⟩
 ·
  obtain rfl : k = 6 := hk
  obtain rfl : a = (i : Int) := ha
  have P : (edgeD g i).src = t ∧ (edgeD g i).sport = p := by rw [edgeD_at hi]; exact ⟨h1, h2⟩
  unfold giveL writeL
  rw [pickL_one (k := i) P hi (fun j hj hp => ?_), pickL_none (fun j hj hp => ?_)]
  ·
   rfl
  ·
   rw [portD_at hj] at hp
   have := (hS.outs j hj).2.2
   unfold outT at this
   rw [Bool.or_eq_false_iff] at this
   have h3 := any_false this.1 hi hi
   rw [hp.1, hp.2, h1, h2] at h3
   simp at h3
  ·
   rw [edgeD_at hj] at hp
   rcases Nat.lt_trichotomy i j with hlt | e | hlt
   ·
    have := (hS.edge j hj).2.2.1
    unfold outT at this
    rw [Bool.or_eq_false_iff] at this
    have h3 := any_false this.1 hlt hi
    rw [hp.1, hp.2, h1, h2] at h3
    simp at h3
   ·
    exact e.symm
   ·
    have := (hS.edge i hi).2.2.1
    unfold outT at this
    rw [Bool.or_eq_false_iff] at this
    have h3 := any_false this.1 hlt hj
    rw [hp.1, hp.2, h1, h2] at h3
    simp at h3
 ·
  obtain rfl : k = 7 := hk
  obtain rfl : a = (i : Int) := ha
  have P : (portD g.outs i).actor = t ∧ (portD g.outs i).port = p := by rw [portD_at hi]; exact ⟨h1, h2⟩
  have hn := (hS.outs i hi).2.2
  unfold outT at hn
  rw [Bool.or_eq_false_iff] at hn
  unfold giveL writeL
  rw [pickL_none (fun j hj hp => ?_), pickL_one (k := i) P hi (fun j hj hp => ?_)]
  ·
   rfl
  ·
   rw [portD_at hj] at hp
   rcases Nat.lt_trichotomy i j with hlt | e | hlt
   ·
    have := (hS.outs j hj).2.2
    unfold outT at this
    rw [Bool.or_eq_false_iff] at this
    have h3 := any_false this.2 hlt hi
    rw [hp.1, hp.2, h1, h2] at h3
    simp at h3
   ·
    exact e.symm
   ·
    have h3 := any_false hn.2 hlt hj
    rw [hp.1, hp.2, h1, h2] at h3
    simp at h3
  ·
   rw [edgeD_at hj] at hp
   have h3 := any_false hn.1 hj hj
   rw [hp.1, hp.2, h1, h2] at h3
   simp at h3
theorem rows_one {f : Nat → List GOp} {row : List GOp} : ∀ {n : Nat}, n ≤ row.length → (∀ p, p < n → ∃ y, row[p]? = some y ∧ f p = [y]) → (List.range n).flatMap f = row.take n
 | 0, _, _ => rfl
 | n + 1, hn, h => by
  obtain ⟨y, h1, h2⟩ := h n (by omega)
  rw [List.range_succ, List.flatMap_append, rows_one (by omega) (fun p hp => h p (by omega)), List.take_add_one, h1]
  simp [h2]
theorem rateL_len (l : List Int) : (rateL l).length = l.length := by simp [rateL]
theorem firL_is {g : GGraph} (hc : checkE g = 0) (hf : FirOk g) {t : Nat} (ht : t < g.actors.length) : firL g t = rowM (firP g) t := by
 have hS := sound_of hc
 have hI : ratesI g t = insP g.actors[t].tag g.actors[t].params := by unfold ratesI; rw [List.getElem?_eq_getElem ht]
 have hO : ratesO g t = outsP g.actors[t].tag g.actors[t].params := by unfold ratesO; rw [List.getElem?_eq_getElem ht]
 have lI : (rowM (matI2 g) t).length = (ratesI g t).length := by
  rw [matI2_row g ht, hI]; unfold insF; rw [List.getElem?_eq_getElem ht]; exact rateL_len _
 have lO : (rowM (matO2 g) t).length = (ratesO g t).length := by
  rw [matO2_row g ht, hO]; unfold outsF; rw [List.getElem?_eq_getElem ht]; exact rateL_len _
 rw [firP, finM_row _ _ _ (by rw [matI2_len]; exact ht), if_pos ht, finR]
 unfold firL
 have e1 : inL g t (ratesI g t).length = rowM (matI2 g) t := by
  unfold inL
  rw [rows_one (row := rowM (matI2 g) t) (by omega) (fun p hp => ?_), ← lI, List.take_length]
  have hr : (insP g.actors[t].tag g.actors[t].params)[p]? = some ((ratesI g t)[p]?.getD 0) := by rw [← hI, List.getElem?_eq_getElem hp]; rfl
  obtain ⟨y, h1, h2, h3⟩ := right_in hc hf ht hr
  exact ⟨y, h1, in_one hS h2 h3⟩
 have e2 : outL g t (ratesO g t).length = rowM (matO2 g) t := by
  unfold outL
  rw [rows_one (row := rowM (matO2 g) t) (by omega) (fun p hp => ?_), ← lO, List.take_length]
  have hr : (outsP g.actors[t].tag g.actors[t].params)[p]? = some ((ratesO g t)[p]?.getD 0) := by rw [← hO, List.getElem?_eq_getElem hp]; rfl
  obtain ⟨y, h1, h2, h3⟩ := right_out hc hf ht hr
  exact ⟨y, h1, out_one hS h2 h3⟩
 rw [e1, e2]
end Go.Proofs.Ytbmbfifempkhgaa

/- The reference's Ints: a list of its own. -/
namespace Go.Proofs.Ytbmbfifempkhgaa
open Go.RowKit
def IntsRet (w : World) (l : List Int) (e : Ending) (w' : World) : Prop := ∃ v, e = .returned v ∧ w'.ownsRow w.heap.size 3 1 v l.length (ivs l) ∧ Below w.heap.size w w'
theorem rints_any {o : Col} {c : Nat} (w : World) (ao : Option Addr) (n cap : Nat) (l : List Int) (h : Ints w o c (.slice ao n cap) l) (hn : l.length ≤ 17600000000000) : Calls Try.prog 23 #[.slice ao n cap] w (IntsRet w l) := by
 obtain ⟨i0, hi, hz0, hz1, hz2⟩ := info_parts info_int
 obtain ⟨hnone, hnews⟩ := h.news
 obtain rfl := h.len
 have HN := Lib.hid hn
 have Hnone := Lib.hid hnone
 have Hnews := Lib.hid hnews
 clear hn hnone hnews h
 go_enter Try.func23, Try.ntmps23
 go_wp2_with (at_builtin; refine stop_here ?_)
 refine go_on ?_
 refine wpList_app rfl _ _ 52 rfl w.heap.size 3 i0 _ 1 8 Try.underlying52 hi hz0 hz1 hz2 rfl (.slice none 0 0) 0 [] rfl (World.ownsRow_nil w w.heap.size 3 1) ao l.length cap (ivs l) rfl (by simp) Hnone.out (fun ad had j u hu => Hnews.out ad had j u hu) (ivs_one l) (by have := HN.out; unfold maxLen; omega) (grow_ok (by have := HN.out; omega)) (Nat.le_refl _) ?_
 intro v' w2 g1 g20 g3 g4
 have g2 : w.grownBy w2 (Value.slice none 0 0).ownBlock := g20
 have hb : Below w.heap.size w w2 := ((Mods.refl (fun _ => False) w).grown g2 (fun k hk hlt => by cases hk)).below (Nat.le_refl _) (fun _ _ h => h)
 simp only [Nat.zero_add, List.nil_append] at g1
 have G1 := Lib.hid g1
 clear g1 g20 g2 g3 g4
 obtain ⟨sv, cv, rfl⟩ := owns_slice G1.out
 go_wp2
 go_ret
 exact ⟨_, rfl, by simpa using G1.out, hb⟩
end Go.Proofs.Ytbmbfifempkhgaa

/- A list that is answered. No function in sight. -/
namespace Go.Proofs.Ytbmbfifempkhgaa
open Go.RowKit
def Stated (w : World) (keep : List Int) (e : Ending) (w' : World) : Prop :=
 ∃ v, e = .returned v ∧ w'.ownsRow w.heap.size 3 1 v keep.length (ivs keep) ∧ Below w.heap.size w w'
theorem below_n {B : Nat} {w w' : World} (h : Below B w w') (n : Nat) : Below B w (w'.drewN n) := ⟨h.os, h.tape, h.output, h.size, h.block⟩
theorem own_app {w w' : World} {o : Col} {c : Nat} {e : TypeId} {size n m : Nat} {v v' : Value} {xs ys : List Value} (h : Own w o c e size v n xs) (h1 : w'.ownsRow 0 e size v' m ys) (h2 : w.grownBy w' v.ownBlock) (h3 : v'.ownBlock = v.ownBlock ∨ v'.ownBlock = some w.heap.size) : Turn o (ext o w.heap.size c) (fun x => x = c) w w' ∧ Own w' (ext o w.heap.size c) c e size v' m ys := by
 refine ⟨Turn.of_mods o c ((Mods.refl (fun k => v.ownBlock = some k) w).grown h2 (fun k hk _ => hk)) (fun k _ hk => h.2 k hk), h1, fun k hk => ?_⟩
 rcases h3 with h3 | h3
 ·
  rw [h3] at hk
  exact (ext_old (h.1.lt k hk).2).trans (h.2 k hk)
 ·
  rw [h3] at hk
  have := Option.some.inj hk
  exact ext_new (by omega)
theorem blk_new {w : World} (q : Col) (c : Nat) (cs : Array Value) (t : TypeId) : Blk (w.alloc (.cells cs t)) (ext q w.heap.size c) c w.heap.size t cs := ⟨heap_alloc_new w _, ext_new (Nat.le_refl _)⟩
theorem Kept.vals {w0 w : World} {o : Col} {v : Value} {vs : List Value} (K : Kept w0.heap.size o w0 w) (h : Has w0 v vs) : Vals w o 0 v vs :=
 Vals.turn h (⟨Mods.of_below K.below _, fun k hk => K.old k hk⟩ : Turn (fun _ => 0) o (fun _ => False) w0 w) (fun h => h)
theorem own_base {B : Nat} {q : Col} {w0 w : World} {c : Nat} {e : TypeId} {size n : Nat} {v : Value} {xs : List Value} (hk : Kept B q w0 w) (h : Own w q c e size v n xs) (hc : c ≠ 0) : w.ownsRow B e size v n xs :=
 owns_base h.1 (fun b hb => Nat.le_of_not_lt fun hlt => hc ((h.2 b hb).symm.trans (hk.old b hlt)))
end Go.Proofs.Ytbmbfifempkhgaa

/- The reference's Of: its small calls. -/
namespace Go.Proofs.Ytbmbfifempkhgaa
open Go.RowKit
theorem rep_succ (k : Nat) (r : Int) : List.replicate (k + 1) r = List.replicate k r ++ [r] := by rw [List.replicate_succ', ]
set_option maxHeartbeats 1000000 in
theorem rports_any (w : World) (n : Nat) (r : Int) (hn : n ≤ 1000) : Calls Try.prog 121 #[.int .i64 n, .int .i64 r] w (Stated w (List.replicate n r)) := by
 obtain ⟨i0, hi, hz0, hz1, hz2⟩ := info_parts info_int
 have hni : (n : Int) ≤ 1000 := by omega
 go_enter Try.func121, Try.ntmps121
 go_wp2_with fail
 go_loopw [5, 6] (fun v i wr => ∃ j : Nat, j ≤ n ∧ i = .int .i64 j ∧ wr.ownsRow w.heap.size 3 1 v j (ivs (List.replicate j r)) ∧ Below w.heap.size w wr) (fun _ i _ => n - (intOf i).toNat)
 case atStart => exact ⟨0, Nat.zero_le _, rfl, by simpa using World.ownsRow_nil w w.heap.size 3 1, Below.refl _ _⟩
 case round =>
  obtain ⟨j, hj, rfl, ho, hb⟩ := hrel
  have hs := hb.size
  obtain ⟨sv, cv, rfl⟩ := owns_slice ho
  by_cases hjn : j < n
  ·
   have hjni : (j : Int) < n := by omega
   go_wp2_with (at_builtin; refine stop_here ?_)
   refine go_on ?_
   refine wpList_app rfl _ _ 52 rfl w.heap.size 3 i0 _ 1 8 Try.underlying52 hi hz0 hz1 hz2 rfl (.slice sv j cv) j _ rfl (ho.alloc (.cells #[.int .i64 r] 3)) (some ⟨wr.heap.size, 0, none⟩) 1 1 [.int .i64 r] rfl rfl (fun h => by cases h) (news_alloc wr [.int .i64 r] 3) (by simp [Value.oneCell']) (by unfold maxLen; omega) (grow_ok (by omega)) (size_le_alloc hs _) ?_
   intro v5 w5 k1 k20 _ _
   have k2 : (wr.alloc (.cells #[.int .i64 r] 3)).grownBy w5 (Value.slice sv j cv).ownBlock := k20
   have hb5 := hb.trans (below_app ho k2 hs)
   have k3 : w5.ownsRow w.heap.size 3 1 v5 (j + 1) (ivs (List.replicate (j + 1) r)) := by
    rw [rep_succ]; simpa using k1
   clear k1 k20 k2 ho hb
   go_wp2
   go_roundw
   case rel => exact ⟨j + 1, by omega, by go_num, k3, hb5⟩
   case measure => simp [intOf]; omega
  ·
   obtain rfl : j = n := by omega
   have HO := Lib.hid ho
   clear ho
   go_wp2
   go_ret
   exact ⟨_, rfl, by rw [List.length_replicate]; exact HO.out, hb⟩
theorem rone_any {o : Col} {c : Nat} (w : World) (ao : Option Addr) (n cap : Nat) (l : List Int) (m : Int) (h : Ints w o c (.slice ao n cap) l) : Calls Try.prog 127 #[.slice ao n cap, .int .i64 m] w fun e w' => e = .returned (.bool (decide (oneP l m))) ∧ w = w' := by
 obtain rfl := h.len
 by_cases hl : l.length = 1
 ·
  obtain ⟨x, rfl⟩ : ∃ x, l = [x] := by
   match l, hl with
   | [x], _ => exact ⟨x, rfl⟩
  obtain ⟨b, off, rfl, -, hcap, -, -, hc⟩ := h.at (by simp)
  have c0 := hc 0 (by simp)
  simp at c0
  have hc1 : (1 : Int) ≤ cap := by simp at hcap; omega
  clear hc h
  by_cases h1 : 1 ≤ x
  ·
   by_cases h2 : x ≤ m
   ·
    have e : decide (oneP [x] m) = true := decide_eq_true (by simp [oneP, hd]; omega)
    rw [e]
    clear e
    go_enter Try.func127, Try.ntmps127
    go_wp2
    go_ret
    exact ⟨rfl, rfl⟩
   ·
    have e : decide (oneP [x] m) = false := decide_eq_false (by simp [oneP, hd]; omega)
    rw [e]
    clear e
    go_enter Try.func127, Try.ntmps127
    go_wp2
    go_ret
    exact ⟨rfl, rfl⟩
  ·
   have e : decide (oneP [x] m) = false := decide_eq_false (by simp [oneP, hd]; omega)
   rw [e]
   clear e
   go_enter Try.func127, Try.ntmps127
   go_wp2
   go_ret
   exact ⟨rfl, rfl⟩
 ·
  have e : decide (oneP l m) = false := decide_eq_false (fun h => hl h.1)
  have hli : ¬ (l.length : Int) = 1 := by omega
  rw [e]
  clear e h
  go_enter Try.func127, Try.ntmps127
  go_wp2
  go_ret
  exact ⟨rfl, rfl⟩
set_option maxHeartbeats 1000000 in
theorem rtwo_any {o : Col} {c : Nat} (w : World) (ao : Option Addr) (n cap : Nat) (l : List Int) (h : Ints w o c (.slice ao n cap) l) : Calls Try.prog 128 #[.slice ao n cap] w (Quiet (.bool (decide (pairP l))) w) := by
 obtain rfl := h.len
 by_cases hl : l.length = 2
 ·
  obtain ⟨x, y, rfl⟩ : ∃ x y, l = [x, y] := by
   match l, hl with
   | [x, y], _ => exact ⟨x, y, rfl⟩
  obtain ⟨b, off, rfl, -, hcap, -, -, hc⟩ := h.at (by simp)
  have c0 := hc 0 (by simp)
  have c1 := hc 1 (by simp)
  simp at c0 c1
  have hc1 : (2 : Int) ≤ cap := by simp at hcap; omega
  clear hc h
  rcases pair_cases x y with hh | ⟨⟨g1, g2⟩, hh⟩ | ⟨⟨g1, g2⟩, ⟨g3, g4⟩, g5, g6⟩ | ⟨⟨g1, g2⟩, ⟨g3, g4⟩, g5, g6⟩
  ·
   have e : decide (pairP [x, y]) = false := decide_eq_false (by simp [pairP, hd, hd1]; omega)
   rw [e]
   clear e
   by_cases h1 : x < 1
   ·
    go_enter Try.func128, Try.ntmps128
    go_wp2
    go_ret
    exact ⟨rfl, 0, rfl⟩
   ·
    have h2 : 16 < x := by omega
    go_enter Try.func128, Try.ntmps128
    go_wp2
    go_ret
    exact ⟨rfl, 0, rfl⟩
  ·
   have e : decide (pairP [x, y]) = false := decide_eq_false (by simp [pairP, hd, hd1]; omega)
   rw [e]
   clear e
   by_cases h1 : y < 1
   ·
    go_enter Try.func128, Try.ntmps128
    go_wp2
    go_ret
    exact ⟨rfl, 0, rfl⟩
   ·
    have h2 : 64 < y := by omega
    go_enter Try.func128, Try.ntmps128
    go_wp2
    go_ret
    exact ⟨rfl, 0, rfl⟩
  ·
   have e : decide (pairP [x, y]) = true := decide_eq_true (by simp [pairP, hd, hd1]; omega)
   rw [e]
   clear e
   have hw : wrap64 (x * y) = x * y := IntWalk.wrap64_in _ (by omega)
   go_enter Try.func128, Try.ntmps128
   go_wp2
   go_quiet (fail)
   go_wp2
   go_ret
   exact ⟨rfl, _, rfl⟩
  ·
   have e : decide (pairP [x, y]) = false := decide_eq_false (by simp [pairP, hd, hd1]; omega)
   rw [e]
   clear e
   have g7 : ¬ x * y ≤ 64 := by omega
   have hw : wrap64 (x * y) = x * y := IntWalk.wrap64_in _ (by omega)
   go_enter Try.func128, Try.ntmps128
   go_wp2
   go_quiet (fail)
   go_wp2
   go_ret
   refine ⟨?_, _, rfl⟩
   show Ending.returned (.bool (decide (x * y ≤ 64))) = _
   rw [decide_eq_false (show ¬ x * y ≤ 64 by omega)]
 ·
  have e : decide (pairP l) = false := decide_eq_false (fun h => hl h.1)
  have hli : ¬ (l.length : Int) = 2 := by omega
  rw [e]
  clear e h
  go_enter Try.func128, Try.ntmps128
  go_wp2
  go_ret
  exact ⟨rfl, 0, rfl⟩
end Go.Proofs.Ytbmbfifempkhgaa

/- The reference's Of: what may be. -/
namespace Go.Proofs.Ytbmbfifempkhgaa
open Go.RowKit
theorem rgood_2 {o : Col} {c : Nat} (w : World) (ao : Option Addr) (n cap : Nat) (l : List Int) (h : Ints w o c (.slice ao n cap) l) : Calls Try.prog 120 #[.int .u8 2, .slice ao n cap] w (Quiet (.bool (decide (goodP 2 l))) w) := by
 have e : goodP 2 l ↔ oneP l 64 := by simp [goodP]
 rw [show decide (goodP 2 l) = decide (oneP l 64) from decide_eq_decide.2 e]
 have H := Lib.hid h
 clear h e
 go_enter Try.func120, Try.ntmps120
 go_wp2_with fail
 refine (rone_any _ _ _ _ l 64 H.out).mono ?_
 rintro e w' ⟨rfl, rfl⟩
 go_wp2
 go_ret
 exact ⟨rfl, 0, rfl⟩
theorem rgood_3 {o : Col} {c : Nat} (w : World) (ao : Option Addr) (n cap : Nat) (l : List Int) (h : Ints w o c (.slice ao n cap) l) : Calls Try.prog 120 #[.int .u8 3, .slice ao n cap] w (Quiet (.bool (decide (goodP 3 l))) w) := by
 have e : goodP 3 l ↔ oneP l 64 := by simp [goodP]
 rw [show decide (goodP 3 l) = decide (oneP l 64) from decide_eq_decide.2 e]
 have H := Lib.hid h
 clear h e
 go_enter Try.func120, Try.ntmps120
 go_wp2_with fail
 refine (rone_any _ _ _ _ l 64 H.out).mono ?_
 rintro e w' ⟨rfl, rfl⟩
 go_wp2
 go_ret
 exact ⟨rfl, 0, rfl⟩
theorem rgood_11 {o : Col} {c : Nat} (w : World) (ao : Option Addr) (n cap : Nat) (l : List Int) (h : Ints w o c (.slice ao n cap) l) : Calls Try.prog 120 #[.int .u8 11, .slice ao n cap] w (Quiet (.bool (decide (goodP 11 l))) w) := by
 have e : goodP 11 l ↔ oneP l 64 := by simp [goodP]
 rw [show decide (goodP 11 l) = decide (oneP l 64) from decide_eq_decide.2 e]
 have H := Lib.hid h
 clear h e
 go_enter Try.func120, Try.ntmps120
 go_wp2_with fail
 refine (rone_any _ _ _ _ l 64 H.out).mono ?_
 rintro e w' ⟨rfl, rfl⟩
 go_wp2
 go_ret
 exact ⟨rfl, 0, rfl⟩
theorem rgood_6 {o : Col} {c : Nat} (w : World) (ao : Option Addr) (n cap : Nat) (l : List Int) (h : Ints w o c (.slice ao n cap) l) : Calls Try.prog 120 #[.int .u8 6, .slice ao n cap] w (Quiet (.bool (decide (goodP 6 l))) w) := by
 have e : goodP 6 l ↔ oneP l 16 := by simp [goodP]
 rw [show decide (goodP 6 l) = decide (oneP l 16) from decide_eq_decide.2 e]
 have H := Lib.hid h
 clear h e
 go_enter Try.func120, Try.ntmps120
 go_wp2_with fail
 refine (rone_any _ _ _ _ l 16 H.out).mono ?_
 rintro e w' ⟨rfl, rfl⟩
 go_wp2
 go_ret
 exact ⟨rfl, 0, rfl⟩
theorem rgood_9 {o : Col} {c : Nat} (w : World) (ao : Option Addr) (n cap : Nat) (l : List Int) (h : Ints w o c (.slice ao n cap) l) : Calls Try.prog 120 #[.int .u8 9, .slice ao n cap] w (Quiet (.bool (decide (goodP 9 l))) w) := by
 have e : goodP 9 l ↔ oneP l 16 := by simp [goodP]
 rw [show decide (goodP 9 l) = decide (oneP l 16) from decide_eq_decide.2 e]
 have H := Lib.hid h
 clear h e
 go_enter Try.func120, Try.ntmps120
 go_wp2_with fail
 refine (rone_any _ _ _ _ l 16 H.out).mono ?_
 rintro e w' ⟨rfl, rfl⟩
 go_wp2
 go_ret
 exact ⟨rfl, 0, rfl⟩
theorem rgood_4 {o : Col} {c : Nat} (w : World) (ao : Option Addr) (n cap : Nat) (l : List Int) (h : Ints w o c (.slice ao n cap) l) : Calls Try.prog 120 #[.int .u8 4, .slice ao n cap] w (Quiet (.bool (decide (goodP 4 l))) w) := by
 have e : goodP 4 l ↔ pairP l := by simp [goodP]
 rw [show decide (goodP 4 l) = decide (pairP l) from decide_eq_decide.2 e]
 have H := Lib.hid h
 clear h e
 go_enter Try.func120, Try.ntmps120
 go_wp2_with fail
 refine (rtwo_any _ _ _ _ l H.out).mono ?_
 rintro e w' ⟨rfl, m, rfl⟩
 go_wp2
 go_ret
 exact ⟨rfl, m, rfl⟩
theorem rgood_5 {o : Col} {c : Nat} (w : World) (ao : Option Addr) (n cap : Nat) (l : List Int) (h : Ints w o c (.slice ao n cap) l) : Calls Try.prog 120 #[.int .u8 5, .slice ao n cap] w (Quiet (.bool (decide (goodP 5 l))) w) := by
 have e : goodP 5 l ↔ pairP l := by simp [goodP]
 rw [show decide (goodP 5 l) = decide (pairP l) from decide_eq_decide.2 e]
 have H := Lib.hid h
 clear h e
 go_enter Try.func120, Try.ntmps120
 go_wp2_with fail
 refine (rtwo_any _ _ _ _ l H.out).mono ?_
 rintro e w' ⟨rfl, m, rfl⟩
 go_wp2
 go_ret
 exact ⟨rfl, m, rfl⟩
theorem rgood_7 {o : Col} {c : Nat} (w : World) (ao : Option Addr) (n cap : Nat) (l : List Int) (h : Ints w o c (.slice ao n cap) l) : Calls Try.prog 120 #[.int .u8 7, .slice ao n cap] w (Quiet (.bool (decide (goodP 7 l))) w) := by
 have e : goodP 7 l ↔ l.length = 0 := by simp [goodP]
 rw [show decide (goodP 7 l) = decide (l.length = 0) from decide_eq_decide.2 e]
 obtain rfl := h.len
 clear h e
 generalize l.length = L at *
 by_cases hl : L = 0
 ·
  subst hl
  rw [decide_eq_true rfl]
  go_enter Try.func120, Try.ntmps120
  go_wp2
  go_ret
  exact ⟨rfl, 0, rfl⟩
 ·
  have hb : decide (L = 0) = false := decide_eq_false hl
  have hb1 : ((L : Int) == 0) = false := by simp; omega
  rw [hb]
  go_enter Try.func120, Try.ntmps120
  go_wp2
  go_ret
  refine ⟨?_, 0, rfl⟩
  first
   | rfl
   | (show Ending.returned (.bool (decide (L = 0))) = _; rw [hb])
   | (show Ending.returned (.bool (L == 0)) = _; simp [hl])
   | (show Ending.returned (.bool ((L : Int) == 0)) = _; rw [hb1])
   | (show Ending.returned (.bool (decide ((L : Int) = 0))) = _; rw [decide_eq_false (by omega)])
theorem rgood_8 {o : Col} {c : Nat} (w : World) (ao : Option Addr) (n cap : Nat) (l : List Int) (h : Ints w o c (.slice ao n cap) l) : Calls Try.prog 120 #[.int .u8 8, .slice ao n cap] w (Quiet (.bool (decide (goodP 8 l))) w) := by
 have e : goodP 8 l ↔ l.length = 0 := by simp [goodP]
 rw [show decide (goodP 8 l) = decide (l.length = 0) from decide_eq_decide.2 e]
 obtain rfl := h.len
 clear h e
 generalize l.length = L at *
 by_cases hl : L = 0
 ·
  subst hl
  rw [decide_eq_true rfl]
  go_enter Try.func120, Try.ntmps120
  go_wp2
  go_ret
  exact ⟨rfl, 0, rfl⟩
 ·
  have hb : decide (L = 0) = false := decide_eq_false hl
  have hb1 : ((L : Int) == 0) = false := by simp; omega
  rw [hb]
  go_enter Try.func120, Try.ntmps120
  go_wp2
  go_ret
  refine ⟨?_, 0, rfl⟩
  first
   | rfl
   | (show Ending.returned (.bool (decide (L = 0))) = _; rw [hb])
   | (show Ending.returned (.bool (L == 0)) = _; simp [hl])
   | (show Ending.returned (.bool ((L : Int) == 0)) = _; rw [hb1])
   | (show Ending.returned (.bool (decide ((L : Int) = 0))) = _; rw [decide_eq_false (by omega)])
theorem rgood_10 {o : Col} {c : Nat} (w : World) (ao : Option Addr) (n cap : Nat) (l : List Int) (h : Ints w o c (.slice ao n cap) l) : Calls Try.prog 120 #[.int .u8 10, .slice ao n cap] w (Quiet (.bool (decide (goodP 10 l))) w) := by
 have e : goodP 10 l ↔ l.length = 2 := by simp [goodP]
 rw [show decide (goodP 10 l) = decide (l.length = 2) from decide_eq_decide.2 e]
 obtain rfl := h.len
 clear h e
 generalize l.length = L at *
 by_cases hl : L = 2
 ·
  subst hl
  rw [decide_eq_true rfl]
  go_enter Try.func120, Try.ntmps120
  go_wp2
  go_ret
  exact ⟨rfl, 0, rfl⟩
 ·
  have hb : decide (L = 2) = false := decide_eq_false hl
  have hb1 : ((L : Int) == 2) = false := by simp; omega
  rw [hb]
  go_enter Try.func120, Try.ntmps120
  go_wp2
  go_ret
  refine ⟨?_, 0, rfl⟩
  first
   | rfl
   | (show Ending.returned (.bool (decide (L = 2))) = _; rw [hb])
   | (show Ending.returned (.bool (L == 2)) = _; simp [hl])
   | (show Ending.returned (.bool ((L : Int) == 2)) = _; rw [hb1])
   | (show Ending.returned (.bool (decide ((L : Int) = 2))) = _; rw [decide_eq_false (by omega)])
theorem rgood_1 {o : Col} {c : Nat} (w : World) (ao : Option Addr) (n cap : Nat) (l : List Int) (h : Ints w o c (.slice ao n cap) l) : Calls Try.prog 120 #[.int .u8 1, .slice ao n cap] w (Quiet (.bool (decide (goodP 1 l))) w) := by
 have e : goodP 1 l ↔ 1 ≤ l.length ∧ l.length ≤ 16 := by simp [goodP]
 rw [show decide (goodP 1 l) = decide (1 ≤ l.length ∧ l.length ≤ 16) from decide_eq_decide.2 e]
 obtain rfl := h.len
 clear h e
 by_cases h1 : 1 ≤ l.length
 ·
  have h1i : (1 : Int) ≤ l.length := by omega
  by_cases h2 : l.length ≤ 16
  ·
   have h2i : (l.length : Int) ≤ 16 := by omega
   rw [decide_eq_true ⟨h1, h2⟩]
   go_enter Try.func120, Try.ntmps120
   go_wp2
   go_ret
   exact ⟨rfl, 0, rfl⟩
  ·
   have h2i : ¬ (l.length : Int) ≤ 16 := by omega
   rw [decide_eq_false (fun h => h2 h.2)]
   go_enter Try.func120, Try.ntmps120
   go_wp2
   go_ret
   exact ⟨rfl, 0, rfl⟩
 ·
  have h1i : ¬ (1 : Int) ≤ l.length := by omega
  rw [decide_eq_false (fun h => h1 h.1)]
  go_enter Try.func120, Try.ntmps120
  go_wp2
  go_ret
  exact ⟨rfl, 0, rfl⟩
theorem rgood_any {o : Col} {c : Nat} (w : World) (t : Int) (ht : TagOk t) (ao : Option Addr) (n cap : Nat) (l : List Int) (h : Ints w o c (.slice ao n cap) l) : Calls Try.prog 120 #[.int .u8 t, .slice ao n cap] w (Quiet (.bool (decide (goodP t l))) w) := by
 rcases ht with rfl | rfl | rfl | rfl | rfl | rfl | rfl | rfl | rfl | rfl | rfl
 ·
  exact rgood_1 w ao n cap l h
 ·
  exact rgood_2 w ao n cap l h
 ·
  exact rgood_3 w ao n cap l h
 ·
  exact rgood_4 w ao n cap l h
 ·
  exact rgood_5 w ao n cap l h
 ·
  exact rgood_6 w ao n cap l h
 ·
  exact rgood_7 w ao n cap l h
 ·
  exact rgood_8 w ao n cap l h
 ·
  exact rgood_9 w ao n cap l h
 ·
  exact rgood_10 w ao n cap l h
 ·
  exact rgood_11 w ao n cap l h
theorem rof_tag (w : World) (t : Int) (v : Value) (h : t < 1 ∨ 11 < t) : Calls Try.prog 109 #[.int .u8 t, v] w (OfNo w 60) := by
 by_cases h1 : t < 1
 ·
  go_enter Try.func109, Try.ntmps109
  go_wp2
  go_ret3
  exact ⟨rfl, Below.refl _ _⟩
 ·
  have h2 : 11 < t := by omega
  go_enter Try.func109, Try.ntmps109
  go_wp2
  go_ret3
  exact ⟨rfl, Below.refl _ _⟩
theorem rof_bad {o : Col} {c : Nat} (w : World) (t : Int) (ht : TagOk t) (ao : Option Addr) (n cap : Nat) (l : List Int) (hg : ¬ goodP t l) (h : Ints w o c (.slice ao n cap) l) : Calls Try.prog 109 #[.int .u8 t, .slice ao n cap] w (OfNo w 61) := by
 have h1 : 1 ≤ t := by unfold TagOk at ht; omega
 have h2 : t ≤ 11 := by unfold TagOk at ht; omega
 have hgd := rgood_any w t ht ao n cap l h
 rw [decide_eq_false hg] at hgd
 clear ht hg h
 go_enter Try.func109, Try.ntmps109
 go_wp2_with fail
 refine hgd.mono ?_
 rintro e w' ⟨rfl, m, rfl⟩
 clear hgd
 go_wp2
 go_ret3
 exact ⟨rfl, below_n (Below.refl _ _) m⟩
end Go.Proofs.Ytbmbfifempkhgaa

/- The reference's Of, where the parameters may be. -/
namespace Go.Proofs.Ytbmbfifempkhgaa
open Go.RowKit
theorem rof_1 {o : Col} {c : Nat} (w : World) (ao : Option Addr) (n cap : Nat) (l : List Int) (hg : goodP 1 l) (h : Ints w o c (.slice ao n cap) l) : Calls Try.prog 109 #[.int .u8 1, .slice ao n cap] w (OfOk w 1 l) := by
 have hgd := rgood_any w 1 (by simp [TagOk]) _ _ _ _ h
 rw [decide_eq_true hg] at hgd
 clear hg h
 go_enter Try.func109, Try.ntmps109
 go_wp2_with fail
 refine hgd.mono ?_
 rintro e w0 ⟨rfl, m, rfl⟩
 clear hgd
 go_wp2_with fail
 refine (rports_any _ 1 1 (by omega)).mono ?_
 rintro e w1 ⟨v1, rfl, ho1, hb1⟩
 have HO1 := Lib.hid ho1
 clear ho1
 go_wp2_with fail
 refine (rports_any _ 1 1 (by omega)).mono ?_
 rintro e w2 ⟨v2, rfl, ho2, hb2⟩
 have HO2 := Lib.hid ho2
 clear ho2
 go_wp2
 go_ret3
 obtain ⟨q1, q2, q3⟩ := of_fin (below_n (Below.refl _ w) m) HO1.out hb1 (Below.refl _ _) HO2.out hb2
 exact ⟨v1, v2, rfl, q1, q2, q3⟩
theorem rof_8 {o : Col} {c : Nat} (w : World) (ao : Option Addr) (n cap : Nat) (l : List Int) (hg : goodP 8 l) (h : Ints w o c (.slice ao n cap) l) : Calls Try.prog 109 #[.int .u8 8, .slice ao n cap] w (OfOk w 8 l) := by
 have hgd := rgood_any w 8 (by simp [TagOk]) _ _ _ _ h
 rw [decide_eq_true hg] at hgd
 clear hg h
 go_enter Try.func109, Try.ntmps109
 go_wp2_with fail
 refine hgd.mono ?_
 rintro e w0 ⟨rfl, m, rfl⟩
 clear hgd
 go_wp2_with fail
 refine (rports_any _ 1 1 (by omega)).mono ?_
 rintro e w1 ⟨v1, rfl, ho1, hb1⟩
 have HO1 := Lib.hid ho1
 clear ho1
 go_wp2_with fail
 refine (rports_any _ 1 1 (by omega)).mono ?_
 rintro e w2 ⟨v2, rfl, ho2, hb2⟩
 have HO2 := Lib.hid ho2
 clear ho2
 go_wp2
 go_ret3
 obtain ⟨q1, q2, q3⟩ := of_fin (below_n (Below.refl _ w) m) HO1.out hb1 (Below.refl _ _) HO2.out hb2
 exact ⟨v1, v2, rfl, q1, q2, q3⟩
theorem rof_7 {o : Col} {c : Nat} (w : World) (ao : Option Addr) (n cap : Nat) (l : List Int) (hg : goodP 7 l) (h : Ints w o c (.slice ao n cap) l) : Calls Try.prog 109 #[.int .u8 7, .slice ao n cap] w (OfOk w 7 l) := by
 have hgd := rgood_any w 7 (by simp [TagOk]) _ _ _ _ h
 rw [decide_eq_true hg] at hgd
 clear hg h
 go_enter Try.func109, Try.ntmps109
 go_wp2_with fail
 refine hgd.mono ?_
 rintro e w0 ⟨rfl, m, rfl⟩
 clear hgd
 go_wp2_with fail
 refine (rports_any _ 2 1 (by omega)).mono ?_
 rintro e w1 ⟨v1, rfl, ho1, hb1⟩
 have HO1 := Lib.hid ho1
 clear ho1
 go_wp2_with fail
 refine (rports_any _ 1 1 (by omega)).mono ?_
 rintro e w2 ⟨v2, rfl, ho2, hb2⟩
 have HO2 := Lib.hid ho2
 clear ho2
 go_wp2
 go_ret3
 obtain ⟨q1, q2, q3⟩ := of_fin (below_n (Below.refl _ w) m) HO1.out hb1 (Below.refl _ _) HO2.out hb2
 exact ⟨v1, v2, rfl, q1, q2, q3⟩
theorem rof_3 {o : Col} {c : Nat} (w : World) (ao : Option Addr) (n cap : Nat) (l : List Int) (hg : goodP 3 l) (h : Ints w o c (.slice ao n cap) l) : Calls Try.prog 109 #[.int .u8 3, .slice ao n cap] w (OfOk w 3 l) := by
 have hp : oneP l 64 := by simpa [goodP] using hg
 obtain ⟨hl, hx1, hx2⟩ := hp
 obtain ⟨x, rfl⟩ : ∃ x, l = [x] := by
  match l, hl with
  | [x], _ => exact ⟨x, rfl⟩
 simp only [hd, List.getElem?_cons_zero, Option.getD_some] at hx1 hx2
 obtain rfl := h.len
 obtain ⟨b, off, rfl, -, hcap, -, -, hc⟩ := h.at (by simp)
 have c0 := hc 0 (by simp)
 simp at c0
 have hcapi : (1 : Int) ≤ cap := by simp at hcap; omega
 clear hc
 have hgd := rgood_any w 3 (by simp [TagOk]) _ _ _ _ h
 rw [decide_eq_true hg] at hgd
 clear hg h
 go_enter Try.func109, Try.ntmps109
 go_wp2_with fail
 refine hgd.mono ?_
 rintro e w0 ⟨rfl, m, rfl⟩
 clear hgd
 go_wp2_with fail
 refine (rports_any _ 1 x (by omega)).mono ?_
 rintro e w1 ⟨v1, rfl, ho1, hb1⟩
 have HO1 := Lib.hid ho1
 clear ho1
 go_wp2_with fail
 refine (rports_any _ 1 1 (by omega)).mono ?_
 rintro e w2 ⟨v2, rfl, ho2, hb2⟩
 have HO2 := Lib.hid ho2
 clear ho2
 go_wp2
 go_ret3
 obtain ⟨q1, q2, q3⟩ := of_fin (below_n (Below.refl _ w) m) HO1.out hb1 (Below.refl _ _) HO2.out hb2
 exact ⟨v1, v2, rfl, q1, q2, q3⟩
theorem rof_11 {o : Col} {c : Nat} (w : World) (ao : Option Addr) (n cap : Nat) (l : List Int) (hg : goodP 11 l) (h : Ints w o c (.slice ao n cap) l) : Calls Try.prog 109 #[.int .u8 11, .slice ao n cap] w (OfOk w 11 l) := by
 have hp : oneP l 64 := by simpa [goodP] using hg
 obtain ⟨hl, hx1, hx2⟩ := hp
 obtain ⟨x, rfl⟩ : ∃ x, l = [x] := by
  match l, hl with
  | [x], _ => exact ⟨x, rfl⟩
 simp only [hd, List.getElem?_cons_zero, Option.getD_some] at hx1 hx2
 obtain rfl := h.len
 obtain ⟨b, off, rfl, -, hcap, -, -, hc⟩ := h.at (by simp)
 have c0 := hc 0 (by simp)
 simp at c0
 have hcapi : (1 : Int) ≤ cap := by simp at hcap; omega
 clear hc
 have hgd := rgood_any w 11 (by simp [TagOk]) _ _ _ _ h
 rw [decide_eq_true hg] at hgd
 clear hg h
 go_enter Try.func109, Try.ntmps109
 go_wp2_with fail
 refine hgd.mono ?_
 rintro e w0 ⟨rfl, m, rfl⟩
 clear hgd
 go_wp2_with fail
 refine (rports_any _ 1 x (by omega)).mono ?_
 rintro e w1 ⟨v1, rfl, ho1, hb1⟩
 have HO1 := Lib.hid ho1
 clear ho1
 go_wp2
 go_ret3
 obtain ⟨q1, q3⟩ := of_fin1 (below_n (Below.refl _ w) m) HO1.out hb1
 exact ⟨v1, .slice none 0 0, rfl, q1, World.ownsRow_nil _ _ _ _, q3⟩
theorem rof_10 {o : Col} {c : Nat} (w : World) (ao : Option Addr) (n cap : Nat) (l : List Int) (hg : goodP 10 l) (h : Ints w o c (.slice ao n cap) l) : Calls Try.prog 109 #[.int .u8 10, .slice ao n cap] w (OfOk w 10 l) := by
 have hgd := rgood_any w 10 (by simp [TagOk]) _ _ _ _ h
 rw [decide_eq_true hg] at hgd
 clear hg h
 go_enter Try.func109, Try.ntmps109
 go_wp2_with fail
 refine hgd.mono ?_
 rintro e w0 ⟨rfl, m, rfl⟩
 clear hgd
 go_wp2_with fail
 refine (rports_any _ 1 1 (by omega)).mono ?_
 rintro e w1 ⟨v1, rfl, ho1, hb1⟩
 have HO1 := Lib.hid ho1
 clear ho1
 go_wp2
 go_ret3
 obtain ⟨q1, q3⟩ := of_fin1 (below_n (Below.refl _ w) m) HO1.out hb1
 exact ⟨.slice none 0 0, v1, rfl, World.ownsRow_nil _ _ _ _, q1, q3⟩
theorem rof_6 {o : Col} {c : Nat} (w : World) (ao : Option Addr) (n cap : Nat) (l : List Int) (hg : goodP 6 l) (h : Ints w o c (.slice ao n cap) l) : Calls Try.prog 109 #[.int .u8 6, .slice ao n cap] w (OfOk w 6 l) := by
 have hp : oneP l 16 := by simpa [goodP] using hg
 obtain ⟨hl, hx1, hx2⟩ := hp
 obtain ⟨x, rfl⟩ : ∃ x, l = [x] := by
  match l, hl with
  | [x], _ => exact ⟨x, rfl⟩
 simp only [hd, List.getElem?_cons_zero, Option.getD_some] at hx1 hx2
 obtain rfl := h.len
 obtain ⟨b, off, rfl, -, hcap, -, -, hc⟩ := h.at (by simp)
 have c0 := hc 0 (by simp)
 simp at c0
 have hcapi : (1 : Int) ≤ cap := by simp at hcap; omega
 clear hc
 have hgd := rgood_any w 6 (by simp [TagOk]) _ _ _ _ h
 rw [decide_eq_true hg] at hgd
 clear hg h
 go_enter Try.func109, Try.ntmps109
 go_wp2_with fail
 refine hgd.mono ?_
 rintro e w0 ⟨rfl, m, rfl⟩
 clear hgd
 obtain ⟨u, rfl⟩ : ∃ u : Nat, x = u := ⟨x.toNat, by omega⟩
 go_wp2_with fail
 refine (rports_any _ u 1 (by omega)).mono ?_
 rintro e w1 ⟨v1, rfl, ho1, hb1⟩
 have HO1 := Lib.hid ho1
 clear ho1
 go_wp2_with fail
 refine (rports_any _ 1 1 (by omega)).mono ?_
 rintro e w2 ⟨v2, rfl, ho2, hb2⟩
 have HO2 := Lib.hid ho2
 clear ho2
 go_wp2
 go_ret3
 obtain ⟨q1, q2, q3⟩ := of_fin (below_n (Below.refl _ w) m) HO1.out hb1 (Below.refl _ _) HO2.out hb2
 exact ⟨v1, v2, rfl, q1, q2, q3⟩
theorem rof_2 {o : Col} {c : Nat} (w : World) (ao : Option Addr) (n cap : Nat) (l : List Int) (hg : goodP 2 l) (h : Ints w o c (.slice ao n cap) l) : Calls Try.prog 109 #[.int .u8 2, .slice ao n cap] w (OfOk w 2 l) := by
 have hp : oneP l 64 := by simpa [goodP] using hg
 obtain ⟨hl, hx1, hx2⟩ := hp
 obtain ⟨x, rfl⟩ : ∃ x, l = [x] := by
  match l, hl with
  | [x], _ => exact ⟨x, rfl⟩
 simp only [hd, List.getElem?_cons_zero, Option.getD_some] at hx1 hx2
 obtain rfl := h.len
 obtain ⟨b, off, rfl, -, hcap, -, -, hc⟩ := h.at (by simp)
 have c0 := hc 0 (by simp)
 simp at c0
 have hcapi : (1 : Int) ≤ cap := by simp at hcap; omega
 clear hc
 have hgd := rgood_any w 2 (by simp [TagOk]) _ _ _ _ h
 rw [decide_eq_true hg] at hgd
 clear hg h
 go_enter Try.func109, Try.ntmps109
 go_wp2_with fail
 refine hgd.mono ?_
 rintro e w0 ⟨rfl, m, rfl⟩
 clear hgd
 go_wp2_with fail
 refine wp_region_rest (fun w' => w'.cell? ⟨b, off, none⟩ = some (.int .i64 x)) [1, 2, 3] [0] 5 (by kernel_rfl) (by kernel_rfl) rfl c0 ?_
 intro Q' hQ'
 simp only [pickOps, List.flatMap_cons, List.flatMap_nil, List.drop_succ_cons, List.drop_zero, List.take_succ_cons, List.take_zero, List.cons_append, List.nil_append, List.append_nil]
 repeat (first
  | (refine wpReads_skip (by rfl) ?_; (try simp only [Act.put, List.setIfInBounds_toArray, List.set_cons_zero, List.set_cons_succ]))
  | (refine wpReads_cons ?_ (by rfl) (by rfl) ?_ ?_; rotate_left; (intro wz hz; (try dsimp only at hz); go_simp; try with_reducible rfl); (try simp only [Act.put, List.setIfInBounds_toArray, List.set_cons_zero, List.set_cons_succ]))
  | (refine wpReads_any ?_ (by rfl) ?_ ?_; rotate_left; (intro wz; go_simp; try with_reducible rfl); (try simp only [Act.put, List.setIfInBounds_toArray, List.set_cons_zero, List.set_cons_succ])))
 refine wpReads_nil ?_
 refine wpAnyT_one (i := 0) (by kernel_rfl) ?_
 simp only [pickOps, List.flatMap_cons, List.flatMap_nil, List.drop_zero, List.take_succ_cons, List.take_zero, List.append_nil]
 go_wp2_with fail
 refine (rports_any _ 1 1 (by omega)).mono ?_
 rintro e w1 ⟨v1, rfl, ho1, hb1⟩
 have HO1 := Lib.hid ho1
 clear ho1
 have hb1 : Below w.heap.size w w1 := below_ld (n := m + 1) hb1
 go_wp2
 refine ⟨fun _ hS => cell_later hb1 c0, ?_⟩
 refine wpAnyT_list (ks := [4, 5, 6, 7]) (fun _ _ hx h => hx.cell h) (by kernel_rfl) ?_
 simp only [pickOps, List.flatMap_cons, List.flatMap_nil, List.drop_succ_cons, List.drop_zero, List.take_succ_cons, List.take_zero, List.cons_append, List.nil_append, List.append_nil]
 go_wp2_with fail
 refine (rports_any _ 1 x (by omega)).mono ?_
 rintro e w2 ⟨v2, rfl, ho2, hb2⟩
 have HO2 := Lib.hid ho2
 clear ho2
 go_wp2
 go_ret3
 obtain ⟨q1, q2, q3⟩ := of_fin (Below.refl _ w) HO1.out hb1 (Below.refl _ _) HO2.out hb2
 exact ⟨v1, v2, rfl, q1, q2, q3⟩
theorem rof_9 {o : Col} {c : Nat} (w : World) (ao : Option Addr) (n cap : Nat) (l : List Int) (hg : goodP 9 l) (h : Ints w o c (.slice ao n cap) l) : Calls Try.prog 109 #[.int .u8 9, .slice ao n cap] w (OfOk w 9 l) := by
 have hp : oneP l 16 := by simpa [goodP] using hg
 obtain ⟨hl, hx1, hx2⟩ := hp
 obtain ⟨x, rfl⟩ : ∃ x, l = [x] := by
  match l, hl with
  | [x], _ => exact ⟨x, rfl⟩
 simp only [hd, List.getElem?_cons_zero, Option.getD_some] at hx1 hx2
 obtain rfl := h.len
 obtain ⟨b, off, rfl, -, hcap, -, -, hc⟩ := h.at (by simp)
 have c0 := hc 0 (by simp)
 simp at c0
 have hcapi : (1 : Int) ≤ cap := by simp at hcap; omega
 clear hc
 have hgd := rgood_any w 9 (by simp [TagOk]) _ _ _ _ h
 rw [decide_eq_true hg] at hgd
 clear hg h
 go_enter Try.func109, Try.ntmps109
 go_wp2_with fail
 refine hgd.mono ?_
 rintro e w0 ⟨rfl, m, rfl⟩
 clear hgd
 obtain ⟨u, hu⟩ : ∃ u : Nat, x = u := ⟨x.toNat, by omega⟩
 subst hu
 go_wp2_with fail
 refine wp_region_rest (fun w' => w'.cell? ⟨b, off, none⟩ = some (.int .i64 u)) [1, 2, 3] [0] 5 (by kernel_rfl) (by kernel_rfl) rfl c0 ?_
 intro Q' hQ'
 simp only [pickOps, List.flatMap_cons, List.flatMap_nil, List.drop_succ_cons, List.drop_zero, List.take_succ_cons, List.take_zero, List.cons_append, List.nil_append, List.append_nil]
 repeat (first
  | (refine wpReads_skip (by rfl) ?_; (try simp only [Act.put, List.setIfInBounds_toArray, List.set_cons_zero, List.set_cons_succ]))
  | (refine wpReads_cons ?_ (by rfl) (by rfl) ?_ ?_; rotate_left; (intro wz hz; (try dsimp only at hz); go_simp; try with_reducible rfl); (try simp only [Act.put, List.setIfInBounds_toArray, List.set_cons_zero, List.set_cons_succ]))
  | (refine wpReads_any ?_ (by rfl) ?_ ?_; rotate_left; (intro wz; go_simp; try with_reducible rfl); (try simp only [Act.put, List.setIfInBounds_toArray, List.set_cons_zero, List.set_cons_succ])))
 refine wpReads_nil ?_
 refine wpAnyT_one (i := 0) (by kernel_rfl) ?_
 simp only [pickOps, List.flatMap_cons, List.flatMap_nil, List.drop_zero, List.take_succ_cons, List.take_zero, List.append_nil]
 go_wp2_with fail
 refine (rports_any _ 1 1 (by omega)).mono ?_
 rintro e w1 ⟨v1, rfl, ho1, hb1⟩
 have HO1 := Lib.hid ho1
 clear ho1
 have hb1 : Below w.heap.size w w1 := below_ld (n := m + 1) hb1
 go_wp2
 refine ⟨fun _ hS => cell_later hb1 c0, ?_⟩
 refine wpAnyT_list (ks := [4, 5, 6, 7]) (fun _ _ hx h => hx.cell h) (by kernel_rfl) ?_
 simp only [pickOps, List.flatMap_cons, List.flatMap_nil, List.drop_succ_cons, List.drop_zero, List.take_succ_cons, List.take_zero, List.cons_append, List.nil_append, List.append_nil]
 go_wp2_with fail
 refine (rports_any _ u 1 (by omega)).mono ?_
 rintro e w2 ⟨v2, rfl, ho2, hb2⟩
 have HO2 := Lib.hid ho2
 clear ho2
 go_wp2
 go_ret3
 obtain ⟨q1, q2, q3⟩ := of_fin (Below.refl _ w) HO1.out hb1 (Below.refl _ _) HO2.out hb2
 exact ⟨v1, v2, rfl, q1, q2, q3⟩
theorem rof_4 {o : Col} {c : Nat} (w : World) (ao : Option Addr) (n cap : Nat) (l : List Int) (hg : goodP 4 l) (h : Ints w o c (.slice ao n cap) l) : Calls Try.prog 109 #[.int .u8 4, .slice ao n cap] w (OfOk w 4 l) := by
 have hp : pairP l := by simpa [goodP] using hg
 obtain ⟨hl, hx, hy, hxy⟩ := hp
 obtain ⟨x, y, rfl⟩ : ∃ x y, l = [x, y] := by
  match l, hl with
  | [x, y], _ => exact ⟨x, y, rfl⟩
 simp only [hd, hd1, List.getElem?_cons_zero, List.getElem?_cons_succ, Option.getD_some] at hx hy hxy
 obtain rfl := h.len
 obtain ⟨b, off, rfl, -, hcap, -, -, hc⟩ := h.at (by simp)
 have c0 := hc 0 (by simp)
 have c1 := hc 1 (by simp)
 simp at c0 c1
 have hcapi : (2 : Int) ≤ cap := by simp at hcap; omega
 clear hc
 have hgd := rgood_any w 4 (by simp [TagOk]) _ _ _ _ h
 rw [decide_eq_true hg] at hgd
 clear hg h
 go_enter Try.func109, Try.ntmps109
 go_wp2_with fail
 refine hgd.mono ?_
 rintro e w0 ⟨rfl, m, rfl⟩
 clear hgd
 obtain ⟨u, hu⟩ : ∃ u : Nat, x = u := ⟨x.toNat, by omega⟩
 obtain ⟨k, hk⟩ : ∃ k : Nat, y = k := ⟨y.toNat, by omega⟩
 subst hu hk
 have hn0 : (0 : Int) ≤ (u : Int) * k := Int.mul_nonneg (by omega) (by omega)
 have hw : wrap64 ((u : Int) * k) = (u : Int) * k := IntWalk.wrap64_in _ (by omega)
 have hw2 : IntKind.i64.wrap ((u : Int) * k) = (u : Int) * k := IntWalk.i64_in _ (by omega)
 go_wp2_with fail
 refine wp_region_rest (fun w' => w'.cell? ⟨b, off, none⟩ = some (.int .i64 u) ∧ w'.cell? ⟨b, off + 1, none⟩ = some (.int .i64 k)) [0, 1, 2, 3, 4, 5, 7, 8, 9, 10, 11, 12, 13] [6] 5 (by kernel_rfl) (by kernel_rfl) rfl ⟨c0, c1⟩ ?_
 intro Q' hQ'
 simp only [pickOps, List.flatMap_cons, List.flatMap_nil, List.drop_succ_cons, List.drop_zero, List.take_succ_cons, List.take_zero, List.cons_append, List.nil_append, List.append_nil]
 repeat (first
  | (refine wpReads_skip (by rfl) ?_; (try simp only [Act.put, List.setIfInBounds_toArray, List.set_cons_zero, List.set_cons_succ]))
  | (refine wpReads_cons ?_ (by rfl) (by rfl) ?_ ?_; rotate_left; (intro wz hz; (try dsimp only at hz); go_simp; try with_reducible rfl); (try simp only [Act.put, List.setIfInBounds_toArray, List.set_cons_zero, List.set_cons_succ]))
  | (refine wpReads_any ?_ (by rfl) ?_ ?_; rotate_left; (intro wz; go_simp; try with_reducible rfl); (try simp only [Act.put, List.setIfInBounds_toArray, List.set_cons_zero, List.set_cons_succ])))
 refine wpReads_nil ?_
 refine wpAnyT_one (i := 6) (by kernel_rfl) ?_
 simp only [pickOps, List.flatMap_cons, List.flatMap_nil, List.drop_succ_cons, List.drop_zero, List.take_succ_cons, List.take_zero, List.append_nil]
 go_wp2_with fail
 refine (rports_any _ u k (by omega)).mono ?_
 rintro e w1 ⟨v1, rfl, ho1, hb1⟩
 have HO1 := Lib.hid ho1
 clear ho1
 have hb1 : Below w.heap.size w w1 := below_ld (n := m + 1) hb1
 go_wp2
 refine ⟨fun _ hS => ⟨cell_later hb1 c0, cell_later hb1 c1⟩, ?_⟩
 refine wpAnyT_list (ks := [14, 15, 16, 17]) (fun _ _ hx h => ⟨hx.cell h.1, hx.cell h.2⟩) (by kernel_rfl) ?_
 simp only [pickOps, List.flatMap_cons, List.flatMap_nil, List.drop_succ_cons, List.drop_zero, List.take_succ_cons, List.take_zero, List.cons_append, List.nil_append, List.append_nil]
 go_wp2_with fail
 refine (rports_any _ 1 ((u : Int) * k) (by omega)).mono ?_
 rintro e w2 ⟨v2, rfl, ho2, hb2⟩
 have HO2 := Lib.hid ho2
 clear ho2
 go_wp2
 go_ret3
 obtain ⟨q1, q2, q3⟩ := of_fin (Below.refl _ w) HO1.out hb1 (Below.refl _ _) HO2.out hb2
 exact ⟨v1, v2, rfl, q1, q2, q3⟩
theorem rof_5 {o : Col} {c : Nat} (w : World) (ao : Option Addr) (n cap : Nat) (l : List Int) (hg : goodP 5 l) (h : Ints w o c (.slice ao n cap) l) : Calls Try.prog 109 #[.int .u8 5, .slice ao n cap] w (OfOk w 5 l) := by
 have hp : pairP l := by simpa [goodP] using hg
 obtain ⟨hl, hx, hy, hxy⟩ := hp
 obtain ⟨x, y, rfl⟩ : ∃ x y, l = [x, y] := by
  match l, hl with
  | [x, y], _ => exact ⟨x, y, rfl⟩
 simp only [hd, hd1, List.getElem?_cons_zero, List.getElem?_cons_succ, Option.getD_some] at hx hy hxy
 obtain rfl := h.len
 obtain ⟨b, off, rfl, -, hcap, -, -, hc⟩ := h.at (by simp)
 have c0 := hc 0 (by simp)
 have c1 := hc 1 (by simp)
 simp at c0 c1
 have hcapi : (2 : Int) ≤ cap := by simp at hcap; omega
 clear hc
 have hgd := rgood_any w 5 (by simp [TagOk]) _ _ _ _ h
 rw [decide_eq_true hg] at hgd
 clear hg h
 go_enter Try.func109, Try.ntmps109
 go_wp2_with fail
 refine hgd.mono ?_
 rintro e w0 ⟨rfl, m, rfl⟩
 clear hgd
 obtain ⟨u, hu⟩ : ∃ u : Nat, x = u := ⟨x.toNat, by omega⟩
 obtain ⟨k, hk⟩ : ∃ k : Nat, y = k := ⟨y.toNat, by omega⟩
 subst hu hk
 have hn0 : (0 : Int) ≤ (u : Int) * k := Int.mul_nonneg (by omega) (by omega)
 have hw : wrap64 ((u : Int) * k) = (u : Int) * k := IntWalk.wrap64_in _ (by omega)
 have hw2 : IntKind.i64.wrap ((u : Int) * k) = (u : Int) * k := IntWalk.i64_in _ (by omega)
 go_wp2_with fail
 refine wp_region_rest (fun w' => w'.cell? ⟨b, off, none⟩ = some (.int .i64 u) ∧ w'.cell? ⟨b, off + 1, none⟩ = some (.int .i64 k)) [0, 1, 2, 3, 4, 5, 6, 8, 9, 10, 11, 12, 13] [7] 5 (by kernel_rfl) (by kernel_rfl) rfl ⟨c0, c1⟩ ?_
 intro Q' hQ'
 simp only [pickOps, List.flatMap_cons, List.flatMap_nil, List.drop_succ_cons, List.drop_zero, List.take_succ_cons, List.take_zero, List.cons_append, List.nil_append, List.append_nil]
 repeat (first
  | (refine wpReads_skip (by rfl) ?_; (try simp only [Act.put, List.setIfInBounds_toArray, List.set_cons_zero, List.set_cons_succ]))
  | (refine wpReads_cons ?_ (by rfl) (by rfl) ?_ ?_; rotate_left; (intro wz hz; (try dsimp only at hz); go_simp; try with_reducible rfl); (try simp only [Act.put, List.setIfInBounds_toArray, List.set_cons_zero, List.set_cons_succ]))
  | (refine wpReads_any ?_ (by rfl) ?_ ?_; rotate_left; (intro wz; go_simp; try with_reducible rfl); (try simp only [Act.put, List.setIfInBounds_toArray, List.set_cons_zero, List.set_cons_succ])))
 refine wpReads_nil ?_
 refine wpAnyT_one (i := 7) (by kernel_rfl) ?_
 simp only [pickOps, List.flatMap_cons, List.flatMap_nil, List.drop_succ_cons, List.drop_zero, List.take_succ_cons, List.take_zero, List.append_nil]
 go_wp2_with fail
 refine (rports_any _ 1 ((u : Int) * k) (by omega)).mono ?_
 rintro e w1 ⟨v1, rfl, ho1, hb1⟩
 have HO1 := Lib.hid ho1
 clear ho1
 have hb1 : Below w.heap.size w w1 := below_ld (n := m + 1) hb1
 go_wp2
 refine ⟨fun _ hS => ⟨cell_later hb1 c0, cell_later hb1 c1⟩, ?_⟩
 refine wpAnyT_list (ks := [14, 15, 16, 17]) (fun _ _ hx h => ⟨hx.cell h.1, hx.cell h.2⟩) (by kernel_rfl) ?_
 simp only [pickOps, List.flatMap_cons, List.flatMap_nil, List.drop_succ_cons, List.drop_zero, List.take_succ_cons, List.take_zero, List.cons_append, List.nil_append, List.append_nil]
 go_wp2_with fail
 refine (rports_any _ u k (by omega)).mono ?_
 rintro e w2 ⟨v2, rfl, ho2, hb2⟩
 have HO2 := Lib.hid ho2
 clear ho2
 go_wp2
 go_ret3
 obtain ⟨q1, q2, q3⟩ := of_fin (Below.refl _ w) HO1.out hb1 (Below.refl _ _) HO2.out hb2
 exact ⟨v1, v2, rfl, q1, q2, q3⟩
theorem rof_ok {o : Col} {c : Nat} (w : World) (t : Int) (ao : Option Addr) (n cap : Nat) (ps : List Int) (hg : goodP t ps) (h : Ints w o c (.slice ao n cap) ps) : Calls Try.prog 109 #[.int .u8 t, .slice ao n cap] w (OfOk w t ps) := by
 rcases goodP_cases hg with rfl | rfl | rfl | rfl | rfl | rfl | rfl | rfl | rfl | rfl | rfl
 ·
  exact rof_1 w ao n cap ps hg h
 ·
  exact rof_2 w ao n cap ps hg h
 ·
  exact rof_3 w ao n cap ps hg h
 ·
  exact rof_4 w ao n cap ps hg h
 ·
  exact rof_5 w ao n cap ps hg h
 ·
  exact rof_6 w ao n cap ps hg h
 ·
  exact rof_7 w ao n cap ps hg h
 ·
  exact rof_8 w ao n cap ps hg h
 ·
  exact rof_9 w ao n cap ps hg h
 ·
  exact rof_10 w ao n cap ps hg h
 ·
  exact rof_11 w ao n cap ps hg h
theorem rof_no {o : Col} {c : Nat} (w : World) (t : Int) (ao : Option Addr) (n cap : Nat) (ps : List Int) (hg : ¬ goodP t ps) (h : Ints w o c (.slice ao n cap) ps) : Calls Try.prog 109 #[.int .u8 t, .slice ao n cap] w (OfNo w (errP t)) := by
 unfold errP
 by_cases ht : 1 ≤ t ∧ t ≤ 11
 ·
  rw [if_pos ht]; exact rof_bad w t (by unfold TagOk; omega) ao n cap ps hg h
 ·
  rw [if_neg ht]; exact rof_tag w t _ (by omega)
end Go.Proofs.Ytbmbfifempkhgaa

/- The reference's Firing: the operations of a firing. -/
namespace Go.Proofs.Ytbmbfifempkhgaa
open Go.RowKit
/- one operation is laid behind: $1 its kind, $2 on what, $3 how many, $4 the list so far -/
theorem pickL_few (P : Nat → Prop) [DecidablePred P] (kd r : Int) : ∀ n, (pickL P kd r n).length ≤ n
 | 0 => Nat.le_refl _
 | n + 1 => by
  rw [pickL_snoc, List.length_append]
  have := pickL_few P kd r n
  split <;> simp <;> omega
theorem inL_few (g : GGraph) (t : Nat) : ∀ n, (inL g t n).length ≤ n * (g.edges.length + g.ins.length)
 | 0 => by simp [inL]
 | n + 1 => by
  rw [inL_snoc, List.length_append, List.length_append, Nat.succ_mul]
  have := inL_few g t n
  have h1 : (takeL g t n ((ratesI g t)[n]?.getD 0) g.edges.length).length ≤ g.edges.length := pickL_few _ _ _ _
  have h2 : (readL g t n ((ratesI g t)[n]?.getD 0) g.ins.length).length ≤ g.ins.length := pickL_few _ _ _ _
  omega
theorem outL_few (g : GGraph) (t : Nat) : ∀ n, (outL g t n).length ≤ n * (g.edges.length + g.outs.length)
 | 0 => by simp [outL]
 | n + 1 => by
  rw [outL_snoc, List.length_append, List.length_append, Nat.succ_mul]
  have := outL_few g t n
  have h1 : (giveL g t n ((ratesO g t)[n]?.getD 0) g.edges.length).length ≤ g.edges.length := pickL_few _ _ _ _
  have h2 : (writeL g t n ((ratesO g t)[n]?.getD 0) g.outs.length).length ≤ g.outs.length := pickL_few _ _ _ _
  omega
structure FirAt (w0 wz : World) (q : Col) (gv : List Value) (vi vo : Value) (li lo : List Int) (ov : Value) (s : List GOp) : Prop where
 kept : Kept w0.heap.size q w0 wz
 box : Blk wz q 42000 w0.heap.size 26 gv.toArray
 ins : Ints wz q 42001 vi li
 outs : Ints wz q 42001 vo lo
 own : Own wz q 42003 61 3 ov s.length (opsV s)
theorem FirAt.turn {w0 w w' : World} {q q' : Col} {C : Nat → Prop} {gv : List Value} {vi vo ov : Value} {li lo : List Int} {s : List GOp} (h : FirAt w0 w q gv vi vo li lo ov s) (T : Turn q q' C w w') (hC : ∀ c, C c → 42003 < c) : FirAt w0 w' q' gv vi vo li lo ov s :=
 ⟨h.kept.turn T (fun h => by have := hC _ h; omega), h.box.turn T (fun h => by have := hC _ h; omega), h.ins.turn T (fun h => by have := hC _ h; omega), h.outs.turn T (fun h => by have := hC _ h; omega), h.own.turn T (fun h => by have := hC _ h; omega)⟩
theorem FirAt.push {w0 w w7 : World} {q : Col} {gv : List Value} {vi vo ov v7 : Value} {li lo : List Int} {s : List GOp} {x : GOp} (h : FirAt w0 w q gv vi vo li lo ov s) (k1 : w7.ownsRow 0 61 3 v7 (s.length + 1) (opsV s ++ opV x)) (k2 : w.grownBy w7 ov.ownBlock) (k4 : v7.ownBlock = ov.ownBlock ∨ v7.ownBlock = some w.heap.size) : ∃ q', FirAt w0 w7 q' gv vi vo li lo v7 (s ++ [x]) := by
 obtain ⟨T7, O7⟩ := own_app h.own k1 k2 k4
 have e : opsV (s ++ [x]) = opsV s ++ opV x := by simp [opsV]
 refine ⟨_, h.kept.turn T7 (by omega), h.box.turn T7 (by omega), h.ins.turn T7 (by omega), h.outs.turn T7 (by omega), ?_⟩
 rw [e, List.length_append]
 exact O7
def FiringRet (w : World) (g : GGraph) (t : Nat) (e : Ending) (w' : World) : Prop := ∃ v, e = .returned v ∧ w'.ownsRow w.heap.size 61 3 v (firL g t).length (opsV (firL g t)) ∧ Below w.heap.size w w'
set_option maxRecDepth 100000 in
set_option maxHeartbeats 4000000 in
theorem rfiring_any (w : World) (v : Value) (g : GGraph) (t : Nat) (hv : HasGraph w v g) (hf : FirOk g) (ht : t < g.actors.length) : Calls Try.prog 84 #[v, .int .i64 (t : Int)] w (FiringRet w g t) := by
 obtain ⟨_, _, _, _, e0, ra, re, ri, ro⟩ := hv.shape
 obtain ⟨aa, ac, rfl⟩ := ra.slice
 obtain ⟨ae, ec, rfl⟩ := re.slice
 obtain ⟨ai, ic, rfl⟩ := ri.slice
 obtain ⟨ao, oc, rfl⟩ := ro.slice
 obtain rfl := e0
 have HRE := Lib.hid re
 have HRI := Lib.hid ri
 have HRO := Lib.hid ro
 have hI : ratesI g t = insP g.actors[t].tag g.actors[t].params := by unfold ratesI; rw [List.getElem?_eq_getElem ht]
 have hO : ratesO g t = outsP g.actors[t].tag g.actors[t].params := by unfold ratesO; rw [List.getElem?_eq_getElem ht]
 have hgo := (hf.good _ (List.getElem_mem ht)).1
 have hlens := shape_len hgo
 rw [← hI, ← hO] at hlens
 have HLN := Lib.hid hlens
 have HFN := Lib.hid (And.intro hf.edges (And.intro hf.ins hf.outs))
 have HFI1 : Hid (∀ n, n ≤ (ratesI g t).length → (inL g t n).length ≤ 2000) := Lib.hid (fun n hn => by
  have h1 := inL_few g t n
  have h2 : n * (g.edges.length + g.ins.length) ≤ 16 * 112 := Nat.mul_le_mul (by omega) (by have := hf.edges; have := hf.ins; omega)
  omega)
 have HFO1 : Hid (∀ n, n ≤ (ratesO g t).length → (outL g t n).length ≤ 2000) := Lib.hid (fun n hn => by
  have h1 := outL_few g t n
  have h2 : n * (g.edges.length + g.outs.length) ≤ 16 * 112 := Nat.mul_le_mul (by omega) (by have := hf.edges; have := hf.outs; omega)
  omega)
 obtain ⟨ba, oa, rfl, hacap, -, harec⟩ := ra.at (by omega)
 obtain ⟨cs1, -, hPR1, hcl1⟩ := harec t ht
 obtain ⟨xs1, rfl, hst1⟩ := hPR1
 obtain ⟨pa1, pc1, hxs1⟩ := Ints.slice hst1
 subst hxs1
 have hacapi : (g.actors.length : Int) ≤ ac := by omega
 have hti : (t : Int) < g.actors.length := by omega
 have HT1 := Lib.hid hst1
 have HGO := Lib.hid hgo
 have HII := Lib.hid hI
 have HOO := Lib.hid hO
 have hb1 := below_alloc w (.cells #[.string g.name, .slice (some ⟨ba, oa, none⟩) g.actors.length ac, .slice ae g.edges.length ec, .slice ai g.ins.length ic, .slice ao g.outs.length oc] 26)
 have T1 := Turn.of_below (fun _ => 0) 42000 hb1
 have hX := blk_new (w := w) (fun _ => 0) 42000 #[.string g.name, .slice (some ⟨ba, oa, none⟩) g.actors.length ac, .slice ae g.edges.length ec, .slice ai g.ins.length ic, .slice ao g.outs.length oc] 26
 have HK := Lib.hid ((Kept.start w).turn T1 (fun h => h))
 have HX := Lib.hid hX
 have x1 := hX.cell 1 (.slice (some ⟨ba, oa, none⟩) g.actors.length ac) rfl
 have a1 := cell_later hb1 (hcl1 1 (by omega))
 have a2 := cell_later hb1 (hcl1 2 (by omega))
 simp at a1 a2
 generalize ext (fun _ => 0) w.heap.size 42000 = q1 at *
 clear hb1 T1 hX hcl1 harec hacap hst1 hgo hI hO ra re ri ro hv hlens hf
 go_enter Try.func84, Try.ntmps84
 go_wp2_with fail
 obtain ⟨w1, hw1⟩ : ∃ x, w.alloc (.cells #[.string g.name, .slice (some ⟨ba, oa, none⟩) g.actors.length ac, .slice ae g.edges.length ec, .slice ai g.ins.length ic, .slice ao g.outs.length oc] 26) = x := ⟨_, rfl⟩
 rw [hw1] at HK HX x1 a1 a2 ⊢
 clear hw1
 generalize hga : g.actors[t] = ac1 at *
 refine wp_region_mid (fun w' => w'.cell? ⟨w.heap.size, 1, none⟩ = some (.slice (some ⟨ba, oa, none⟩) g.actors.length ac) ∧ w'.cell? ⟨ba, oa + t * 3 + 1, none⟩ = some (.int .u8 ac1.tag) ∧ w'.cell? ⟨ba, oa + t * 3 + 2, none⟩ = some (.slice pa1 ac1.params.length pc1)) [0, 1, 2, 3, 4, 5, 6, 7, 8, 9, 10, 11] 12 [13, 14, 15, 16] [12, 17, 18] 3 (by kernel_rfl) (by kernel_rfl) rfl ⟨x1, a1, a2⟩ ?_
 intro Q' hQ'
 simp only [pickOps, List.flatMap_cons, List.flatMap_nil, List.drop_succ_cons, List.drop_zero, List.take_succ_cons, List.take_zero, List.cons_append, List.nil_append, List.append_nil]
 repeat (first
  | (refine wpReads_skip (by rfl) ?_; (try simp only [Act.put, List.setIfInBounds_toArray, List.set_cons_zero, List.set_cons_succ]))
  | (refine wpReads_cons ?_ (by rfl) (by rfl) ?_ ?_; rotate_left; (intro wz hz; (try dsimp only at hz); go_simp; try with_reducible rfl); (try simp only [Act.put, List.setIfInBounds_toArray, List.set_cons_zero, List.set_cons_succ]))
  | (refine wpReads_any ?_ (by rfl) ?_ ?_; rotate_left; (intro wz; go_simp; try with_reducible rfl); (try simp only [Act.put, List.setIfInBounds_toArray, List.set_cons_zero, List.set_cons_succ])))
 refine wpReads_nil ?_
 have T0 : Turn q1 q1 (fun _ => False) w1 w1.drew := (Turn.refl q1 _ w1).drew
 replace HK := Lib.hid (HK.out.turn T0 (fun h => h))
 replace HX := Lib.hid (HX.out.turn T0 (fun h => h))
 clear T0
 go_wp2_with fail
 refine (rof_ok _ ac1.tag pa1 ac1.params.length pc1 ac1.params HGO.out (HK.out.vals HT1.out)).mono ?_
 rintro e w2 ⟨vi, vo, rfl, oi, oo, hb2⟩
 rw [← HII.out] at oi
 rw [← HOO.out] at oo
 have T2 := Turn.of_below q1 42001 hb2
 have HA := Lib.hid (FirAt.mk (HK.out.turn T2 (fun h => h)) (HX.out.turn T2 (fun h => h)) (Own.made q1 42001 oi).vals (Own.made q1 42001 oo).vals (Own.nil _ _ _ _ _) : FirAt w w2 _ [.string g.name, .slice (some ⟨ba, oa, none⟩) g.actors.length ac, .slice ae g.edges.length ec, .slice ai g.ins.length ic, .slice ao g.outs.length oc] vi vo (ratesI g t) (ratesO g t) (.slice none 0 0) [])
 obtain ⟨avi, cvi, rfl⟩ := owns_slice oi
 obtain ⟨avo, cvo, rfl⟩ := owns_slice oo
 generalize ext q1 w1.drew.heap.size 42001 = q2 at *
 have hs := And.intro (cell_later hb2 x1) (And.intro (cell_later hb2 a1) (cell_later hb2 a2))
 have HS := Lib.hid hs
 clear T2 hb2 oi oo HK HX hs x1 a1 a2
 go_wp2
 refine ⟨HS.out, ?_⟩
 repeat (first
  | (refine wpReads_skip (by rfl) ?_; (try simp only [Act.put, List.setIfInBounds_toArray, List.set_cons_zero, List.set_cons_succ]))
  | (refine wpReads_cons ?_ (by rfl) (by rfl) ?_ ?_; rotate_left; (intro wz hz; (try dsimp only at hz); go_simp; try with_reducible rfl); (try simp only [Act.put, List.setIfInBounds_toArray, List.set_cons_zero, List.set_cons_succ]))
  | (refine wpReads_any ?_ (by rfl) ?_ ?_; rotate_left; (intro wz; go_simp; try with_reducible rfl); (try simp only [Act.put, List.setIfInBounds_toArray, List.set_cons_zero, List.set_cons_succ])))
 refine wpReads_nil ?_
 refine wpAnyT_one (i := 17) (by kernel_rfl) ?_
 simp only [pickOps, List.flatMap_cons, List.flatMap_nil, List.drop_succ_cons, List.drop_zero, List.take_succ_cons, List.take_zero, List.cons_append, List.nil_append, List.append_nil]
 go_wp2
 refine ⟨by intros; exact HS.out, ?_⟩
 refine wpAnyT_one (i := 18) (by kernel_rfl) ?_
 simp only [pickOps, List.flatMap_cons, List.flatMap_nil, List.drop_succ_cons, List.drop_zero, List.take_succ_cons, List.take_zero, List.cons_append, List.nil_append, List.append_nil]
 go_wp2
 refine ⟨by intros; exact HS.out, ?_⟩
 refine wpAnyT_list (ks := [19]) (fun _ _ hx h => ⟨hx.cell h.1, hx.cell h.2.1, hx.cell h.2.2⟩) (by kernel_rfl) ?_
 simp only [pickOps, List.flatMap_cons, List.flatMap_nil, List.drop_succ_cons, List.drop_zero, List.take_succ_cons, List.take_zero, List.cons_append, List.nil_append, List.append_nil]
 clear HS
 go_wp2_with fail
 go_loopw [8, 9] (fun ov i wz => ∃ (k : Nat) (q : Col), k ≤ (ratesI g t).length ∧ i = .int .i64 k ∧ FirAt w wz q [.string g.name, .slice (some ⟨ba, oa, none⟩) g.actors.length ac, .slice ae g.edges.length ec, .slice ai g.ins.length ic, .slice ao g.outs.length oc] (.slice avi (ratesI g t).length cvi) (.slice avo (ratesO g t).length cvo) (ratesI g t) (ratesO g t) ov (inL g t k)) (fun _ i _ => (ratesI g t).length - (intOf i).toNat)
 case atStart => exact ⟨0, _, Nat.zero_le _, rfl, by simpa [inL] using HA.out⟩
 case round =>
  clear HA
  obtain ⟨k, q, hk, rfl, hA⟩ := hrel
  have HA := Lib.hid hA
  clear hA
  have hlen := HLN.out
  by_cases hlt : k < (ratesI g t).length
  ·
   have hlti : (k : Int) < (ratesI g t).length := by omega
   obtain ⟨r, hr⟩ : ∃ x, (ratesI g t)[k]?.getD 0 = x := ⟨_, rfl⟩
   have HR := Lib.hid hr
   have HSNO : Hid (inL g t (k + 1) = inL g t k ++ takeL g t k r g.edges.length ++ readL g t k r g.ins.length) := Lib.hid (by rw [inL_snoc, hr]; simp only [List.append_assoc])
   have HB1 : Hid ((inL g t k).length ≤ 10000) := Lib.hid (by have := HFI1.out k (by omega); omega)
   have HB2 : Hid ((inL g t k ++ takeL g t k r g.edges.length).length ≤ 20000) := Lib.hid (by
    rw [List.length_append]
    have h1 := HB1.out
    have h2 : (takeL g t k r g.edges.length).length ≤ g.edges.length := pickL_few _ _ _ _
    have h3 := HFN.out
    omega)
   clear hr
   go_wp2_with fail
   go_loopw [8, 10] (fun ov i wz => ∃ (j : Nat) (q : Col), j ≤ g.edges.length ∧ i = .int .i64 j ∧ FirAt w wz q [.string g.name, .slice (some ⟨ba, oa, none⟩) g.actors.length ac, .slice ae g.edges.length ec, .slice ai g.ins.length ic, .slice ao g.outs.length oc] (.slice avi (ratesI g t).length cvi) (.slice avo (ratesO g t).length cvo) (ratesI g t) (ratesO g t) ov (inL g t k ++ takeL g t k r j)) (fun _ i _ => g.edges.length - (intOf i).toNat)
   case atStart => exact ⟨0, _, Nat.zero_le _, rfl, by simpa [takeL, pickL] using HA.out⟩
   case round =>
    clear HA
    obtain ⟨j, q, hj, rfl, hA⟩ := hrel
    obtain ⟨s, hs⟩ : ∃ s, (inL g t k ++ takeL g t k r j) = s := ⟨_, rfl⟩
    rw [hs] at hA
    have HSS := Lib.hid hs
    have HA := Lib.hid hA
    have x9 := hA.box.cell 2 (.slice ae g.edges.length ec) rfl
    clear hA hs
    have hfe := HFN.out
    by_cases hjl : j < g.edges.length
    ·
     have hjli : (j : Int) < g.edges.length := by omega
     obtain ⟨be, oe, had, hcap, hb0, hrec⟩ := HRE.out.at (by omega)
     obtain ⟨cs, hcs, hPR, hcl⟩ := hrec j hjl
     obtain ⟨xs, rfl, hst⟩ := hPR
     have c1 := cell_later HA.out.kept.below (hcl 2 (by omega))
     have c2 := cell_later HA.out.kept.below (hcl 3 (by omega))
     simp at c1 c2
     rw [had] at x9
     have hcapi : ((g.edges.length : Nat) : Int) ≤ ec := by omega
     obtain ⟨bv, fv, hva, -, hcv, -, -, hcell⟩ := Ints.at HA.out.ins (by omega)
     have kr := hcell k (by omega)
     rw [HR.out] at kr
     change wr.cell? _ = some (.int .i64 r) at kr
     subst hva
     have hcv2 : (((ratesI g t).length : Nat) : Int) ≤ cvi := by omega
     have HFEW : Hid (s.length ≤ 100000) := Lib.hid (by
      rw [← HSS.out, List.length_append]
      have h1 := HB1.out
      have h2 : (takeL g t k r j).length ≤ j := pickL_few _ _ _ _
      omega)
     obtain ⟨xa, hxa⟩ : ∃ x, (g.edges[j]).dst = x := ⟨_, rfl⟩
     obtain ⟨xp, hxp⟩ : ∃ x, (g.edges[j]).dport = x := ⟨_, rfl⟩
     rw [hxa] at c1
     rw [hxp] at c2
     have HSN : Hid (takeL g t k r (j + 1) = takeL g t k r j ++ (if xa = t ∧ xp = k then [⟨3, j, r⟩] else [])) := Lib.hid (by unfold takeL; rw [pickL_snoc, edgeD_at hjl, hxa, hxp])
     clear hcl hcs hrec hcap hb0 had hxa hxp hcell hcv
     by_cases ha : xa = t
     ·
      have hab : (xa == (t : Int)) = true := by rw [beq_iff_eq]; exact ha
      by_cases hp : xp = k
      ·
       have hpb : (xp == (k : Int)) = true := by rw [beq_iff_eq]; exact hp
       obtain ⟨i0, hi, hz0, hz1, hz2⟩ := info_parts info_Op
       obtain ⟨sp, cp, rfl⟩ := HA.out.own.slice
       have hbn := below_alloc wr (.cells #[.int .u8 3, .int .i64 ((j : Int)), .int .i64 (r)] 61)
       have TN := Turn.of_below q 42009 hbn
       have HAN := Lib.hid (HA.out.turn TN (fun _ h => h.elim))
       generalize ext q wr.heap.size 42009 = qn at *
       clear hbn TN
       go_wp2_with (at_builtin; refine stop_here ?_)
       refine go_on ?_
       refine wpList_app rfl _ _ 37 rfl 0 61 i0 _ 3 24 Try.underlying37 hi hz0 hz1 hz2 rfl (.slice sp (s).length cp) (s).length (opsV (s)) rfl HAN.out.own.1 (some ⟨wr.heap.size, 0, none⟩) 1 1 [.int .u8 3, .int .i64 ((j : Int)), .int .i64 (r)] rfl rfl (fun h => by cases h) (news_alloc wr [.int .u8 3, .int .i64 ((j : Int)), .int .i64 (r)] 61) (by simp [Value.oneCell']) (by have := HFEW.out; unfold maxLen; omega) (grow_ok (by have := HFEW.out; omega)) (Nat.zero_le _) ?_
       intro v7 w7 k1 k20 _ k4
       obtain ⟨sp7, cp7, rfl⟩ := owns_slice k1
       obtain ⟨q7, hA7⟩ := HAN.out.push (x := ⟨3, (j : Int), r⟩) k1 k20 k4
       have HA7 := Lib.hid hA7
       clear k1 k20 k4 hA7 HAN hi hz0 hz1 hz2
       have HNX : Hid (inL g t k ++ takeL g t k r (j + 1) = s ++ [⟨3, j, r⟩]) := Lib.hid (by rw [HSN.out, if_pos ⟨ha, hp⟩, ← HSS.out, ← List.append_assoc])
       clear HA
       go_wp2
       go_roundw
       case rel => exact ⟨j + 1, _, hjl, by go_num, by rw [HNX.out]; exact HA7.out⟩
       case measure => simp [intOf]; omega
      ·
       have hpb : (xp == (k : Int)) = false := by rw [beq_eq_false_iff_ne]; exact hp
       have HNX : Hid (takeL g t k r (j + 1) = takeL g t k r j) := Lib.hid (by rw [HSN.out, if_neg (fun h => hp h.2), List.append_nil])
       go_wp2
       go_roundw
       case rel => exact ⟨j + 1, _, hjl, by go_num, by rw [HNX.out, HSS.out]; exact HA.out⟩
       case measure => simp [intOf]; omega
     ·
      have hab : (xa == (t : Int)) = false := by rw [beq_eq_false_iff_ne]; exact ha
      have HNX : Hid (takeL g t k r (j + 1) = takeL g t k r j) := Lib.hid (by rw [HSN.out, if_neg (fun h => ha h.1), List.append_nil])
      go_wp2
      go_roundw
      case rel => exact ⟨j + 1, _, hjl, by go_num, by rw [HNX.out, HSS.out]; exact HA.out⟩
      case measure => simp [intOf]; omega
    ·
     obtain rfl : j = g.edges.length := by omega
     replace HA := Lib.hid (by have := HA.out; rw [← HSS.out] at this; exact this)
     clear HSS
     have hjli : ¬ ((g.edges.length : Nat) : Int) < g.edges.length := by omega
     go_wp2_with fail
     clear x9
     go_loopw [8, 11] (fun ov i wz => ∃ (j : Nat) (q : Col), j ≤ g.ins.length ∧ i = .int .i64 j ∧ FirAt w wz q [.string g.name, .slice (some ⟨ba, oa, none⟩) g.actors.length ac, .slice ae g.edges.length ec, .slice ai g.ins.length ic, .slice ao g.outs.length oc] (.slice avi (ratesI g t).length cvi) (.slice avo (ratesO g t).length cvo) (ratesI g t) (ratesO g t) ov ((inL g t k ++ takeL g t k r g.edges.length) ++ readL g t k r j)) (fun _ i _ => g.ins.length - (intOf i).toNat)
     case atStart => exact ⟨0, _, Nat.zero_le _, rfl, by simpa [readL, pickL] using HA.out⟩
     case round =>
      clear HA
      obtain ⟨j, q, hj, rfl, hA⟩ := hrel
      obtain ⟨s, hs⟩ : ∃ s, ((inL g t k ++ takeL g t k r g.edges.length) ++ readL g t k r j) = s := ⟨_, rfl⟩
      rw [hs] at hA
      have HSS := Lib.hid hs
      have HA := Lib.hid hA
      have x9 := hA.box.cell 3 (.slice ai g.ins.length ic) rfl
      clear hA hs
      have hfe := HFN.out
      by_cases hjl : j < g.ins.length
      ·
       have hjli : (j : Int) < g.ins.length := by omega
       obtain ⟨bi2, oi2, had, hcap, hb0, hrec⟩ := HRI.out.at (by omega)
       obtain ⟨cs, hcs, hPR, hcl⟩ := hrec j hjl
       obtain rfl := hPR
       have c1 := cell_later HA.out.kept.below (hcl 1 (by omega))
       have c2 := cell_later HA.out.kept.below (hcl 2 (by omega))
       simp at c1 c2
       rw [had] at x9
       have hcapi : ((g.ins.length : Nat) : Int) ≤ ic := by omega
       obtain ⟨bv, fv, hva, -, hcv, -, -, hcell⟩ := Ints.at HA.out.ins (by omega)
       have kr := hcell k (by omega)
       rw [HR.out] at kr
       change wr.cell? _ = some (.int .i64 r) at kr
       subst hva
       have hcv2 : (((ratesI g t).length : Nat) : Int) ≤ cvi := by omega
       have HFEW : Hid (s.length ≤ 100000) := Lib.hid (by
        rw [← HSS.out, List.length_append]
        have h1 := HB2.out
        have h2 : (readL g t k r j).length ≤ j := pickL_few _ _ _ _
        omega)
       obtain ⟨xa, hxa⟩ : ∃ x, (g.ins[j]).actor = x := ⟨_, rfl⟩
       obtain ⟨xp, hxp⟩ : ∃ x, (g.ins[j]).port = x := ⟨_, rfl⟩
       rw [hxa] at c1
       rw [hxp] at c2
       have HSN : Hid (readL g t k r (j + 1) = readL g t k r j ++ (if xa = t ∧ xp = k then [⟨4, j, r⟩] else [])) := Lib.hid (by unfold readL; rw [pickL_snoc, portD_at hjl, hxa, hxp])
       clear hcl hcs hrec hcap hb0 had hxa hxp hcell hcv
       by_cases ha : xa = t
       ·
        have hab : (xa == (t : Int)) = true := by rw [beq_iff_eq]; exact ha
        by_cases hp : xp = k
        ·
         have hpb : (xp == (k : Int)) = true := by rw [beq_iff_eq]; exact hp
         obtain ⟨i0, hi, hz0, hz1, hz2⟩ := info_parts info_Op
         obtain ⟨sp, cp, rfl⟩ := HA.out.own.slice
         have hbn := below_alloc wr (.cells #[.int .u8 4, .int .i64 ((j : Int)), .int .i64 (r)] 61)
         have TN := Turn.of_below q 42009 hbn
         have HAN := Lib.hid (HA.out.turn TN (fun _ h => h.elim))
         generalize ext q wr.heap.size 42009 = qn at *
         clear hbn TN
         go_wp2_with (at_builtin; refine stop_here ?_)
         refine go_on ?_
         refine wpList_app rfl _ _ 37 rfl 0 61 i0 _ 3 24 Try.underlying37 hi hz0 hz1 hz2 rfl (.slice sp (s).length cp) (s).length (opsV (s)) rfl HAN.out.own.1 (some ⟨wr.heap.size, 0, none⟩) 1 1 [.int .u8 4, .int .i64 ((j : Int)), .int .i64 (r)] rfl rfl (fun h => by cases h) (news_alloc wr [.int .u8 4, .int .i64 ((j : Int)), .int .i64 (r)] 61) (by simp [Value.oneCell']) (by have := HFEW.out; unfold maxLen; omega) (grow_ok (by have := HFEW.out; omega)) (Nat.zero_le _) ?_
         intro v7 w7 k1 k20 _ k4
         obtain ⟨sp7, cp7, rfl⟩ := owns_slice k1
         obtain ⟨q7, hA7⟩ := HAN.out.push (x := ⟨4, (j : Int), r⟩) k1 k20 k4
         have HA7 := Lib.hid hA7
         clear k1 k20 k4 hA7 HAN hi hz0 hz1 hz2
         have HNX : Hid ((inL g t k ++ takeL g t k r g.edges.length) ++ readL g t k r (j + 1) = s ++ [⟨4, j, r⟩]) := Lib.hid (by rw [HSN.out, if_pos ⟨ha, hp⟩, ← HSS.out, ← List.append_assoc])
         clear HA
         go_wp2
         go_roundw
         case rel => exact ⟨j + 1, _, hjl, by go_num, by rw [HNX.out]; exact HA7.out⟩
         case measure => simp [intOf]; omega
        ·
         have hpb : (xp == (k : Int)) = false := by rw [beq_eq_false_iff_ne]; exact hp
         have HNX : Hid (readL g t k r (j + 1) = readL g t k r j) := Lib.hid (by rw [HSN.out, if_neg (fun h => hp h.2), List.append_nil])
         go_wp2
         go_roundw
         case rel => exact ⟨j + 1, _, hjl, by go_num, by rw [HNX.out, HSS.out]; exact HA.out⟩
         case measure => simp [intOf]; omega
       ·
        have hab : (xa == (t : Int)) = false := by rw [beq_eq_false_iff_ne]; exact ha
        have HNX : Hid (readL g t k r (j + 1) = readL g t k r j) := Lib.hid (by rw [HSN.out, if_neg (fun h => ha h.1), List.append_nil])
        go_wp2
        go_roundw
        case rel => exact ⟨j + 1, _, hjl, by go_num, by rw [HNX.out, HSS.out]; exact HA.out⟩
        case measure => simp [intOf]; omega
      ·
       obtain rfl : j = g.ins.length := by omega
       replace HA := Lib.hid (by have := HA.out; rw [← HSS.out] at this; exact this)
       clear HSS
       have hjli : ¬ ((g.ins.length : Nat) : Int) < g.ins.length := by omega
       go_wp2
       go_roundw
       case rel => exact ⟨k + 1, q, hlt, by go_num, by rw [HSNO.out]; exact HA.out⟩
       case measure => simp [intOf]; omega
  ·
   obtain rfl : k = (ratesI g t).length := by omega
   have hlti : ¬ (((ratesI g t).length : Nat) : Int) < (ratesI g t).length := by omega
   obtain ⟨s1, hs⟩ : ∃ s, inL g t (ratesI g t).length = s := ⟨_, rfl⟩
   have HS1 := Lib.hid hs
   replace HA := Lib.hid (by have := HA.out; rw [hs] at this; exact this)
   clear hs
   have HFEW : Hid (s1.length ≤ 100000) := Lib.hid (by have := HFI1.out (ratesI g t).length (Nat.le_refl _); rw [HS1.out] at this; omega)
   obtain ⟨i0, hi, hz0, hz1, hz2⟩ := info_parts info_Op
   obtain ⟨sp, cp, rfl⟩ := HA.out.own.slice
   have hbn := below_alloc wr (.cells #[.int .u8 5, .int .i64 ((t : Int)), .int .i64 ((0 : Int))] 61)
   have TN := Turn.of_below q 42009 hbn
   have HAN := Lib.hid (HA.out.turn TN (fun _ h => h.elim))
   generalize ext q wr.heap.size 42009 = qn at *
   clear hbn TN
   go_wp2_with (at_builtin; refine stop_here ?_)
   refine go_on ?_
   refine wpList_app rfl _ _ 37 rfl 0 61 i0 _ 3 24 Try.underlying37 hi hz0 hz1 hz2 rfl (.slice sp (s1).length cp) (s1).length (opsV (s1)) rfl HAN.out.own.1 (some ⟨wr.heap.size, 0, none⟩) 1 1 [.int .u8 5, .int .i64 ((t : Int)), .int .i64 ((0 : Int))] rfl rfl (fun h => by cases h) (news_alloc wr [.int .u8 5, .int .i64 ((t : Int)), .int .i64 ((0 : Int))] 61) (by simp [Value.oneCell']) (by have := HFEW.out; unfold maxLen; omega) (grow_ok (by have := HFEW.out; omega)) (Nat.zero_le _) ?_
   intro v7 w7 k1 k20 _ k4
   obtain ⟨sp7, cp7, rfl⟩ := owns_slice k1
   obtain ⟨q7, hA7⟩ := HAN.out.push (x := ⟨5, (t : Int), (0 : Int)⟩) k1 k20 k4
   have HA7 := Lib.hid hA7
   clear k1 k20 k4 hA7 HAN hi hz0 hz1 hz2
   replace HA := HA7
   clear HFEW
   go_wp2_with fail
   go_loopw [8, 12] (fun ov i wz => ∃ (k : Nat) (q : Col), k ≤ (ratesO g t).length ∧ i = .int .i64 k ∧ FirAt w wz q [.string g.name, .slice (some ⟨ba, oa, none⟩) g.actors.length ac, .slice ae g.edges.length ec, .slice ai g.ins.length ic, .slice ao g.outs.length oc] (.slice avi (ratesI g t).length cvi) (.slice avo (ratesO g t).length cvo) (ratesI g t) (ratesO g t) ov ((s1 ++ [(⟨5, (t : Int), 0⟩ : GOp)]) ++ outL g t k)) (fun _ i _ => (ratesO g t).length - (intOf i).toNat)
   case atStart => exact ⟨0, _, Nat.zero_le _, rfl, by simpa [outL] using HA.out⟩
   case round =>
    clear HA
    obtain ⟨k, q, hk, rfl, hA⟩ := hrel
    have HA := Lib.hid hA
    clear hA
    have hlen := HLN.out
    by_cases hlt : k < (ratesO g t).length
    ·
     have hlti : (k : Int) < (ratesO g t).length := by omega
     obtain ⟨r, hr⟩ : ∃ x, (ratesO g t)[k]?.getD 0 = x := ⟨_, rfl⟩
     have HR := Lib.hid hr
     have HSNO : Hid ((s1 ++ [(⟨5, (t : Int), 0⟩ : GOp)]) ++ outL g t (k + 1) = (s1 ++ [(⟨5, (t : Int), 0⟩ : GOp)]) ++ outL g t k ++ giveL g t k r g.edges.length ++ writeL g t k r g.outs.length) := Lib.hid (by rw [outL_snoc, hr]; simp only [List.append_assoc])
     have HB1 : Hid (((s1 ++ [(⟨5, (t : Int), 0⟩ : GOp)]) ++ outL g t k).length ≤ 10000) := Lib.hid (by have h1 := HFI1.out (ratesI g t).length (Nat.le_refl _); rw [HS1.out] at h1; have h2 := HFO1.out k (by omega); simp only [List.length_append, List.length_cons, List.length_nil]; omega)
     have HB2 : Hid (((s1 ++ [(⟨5, (t : Int), 0⟩ : GOp)]) ++ outL g t k ++ giveL g t k r g.edges.length).length ≤ 20000) := Lib.hid (by
      rw [List.length_append]
      have h1 := HB1.out
      have h2 : (giveL g t k r g.edges.length).length ≤ g.edges.length := pickL_few _ _ _ _
      have h3 := HFN.out
      omega)
     clear hr
     go_wp2_with fail
     go_loopw [8, 13] (fun ov i wz => ∃ (j : Nat) (q : Col), j ≤ g.edges.length ∧ i = .int .i64 j ∧ FirAt w wz q [.string g.name, .slice (some ⟨ba, oa, none⟩) g.actors.length ac, .slice ae g.edges.length ec, .slice ai g.ins.length ic, .slice ao g.outs.length oc] (.slice avi (ratesI g t).length cvi) (.slice avo (ratesO g t).length cvo) (ratesI g t) (ratesO g t) ov (((s1 ++ [(⟨5, (t : Int), 0⟩ : GOp)]) ++ outL g t k) ++ giveL g t k r j)) (fun _ i _ => g.edges.length - (intOf i).toNat)
     case atStart => exact ⟨0, _, Nat.zero_le _, rfl, by simpa [giveL, pickL] using HA.out⟩
     case round =>
      clear HA
      obtain ⟨j, q, hj, rfl, hA⟩ := hrel
      obtain ⟨s, hs⟩ : ∃ s, (((s1 ++ [(⟨5, (t : Int), 0⟩ : GOp)]) ++ outL g t k) ++ giveL g t k r j) = s := ⟨_, rfl⟩
      rw [hs] at hA
      have HSS := Lib.hid hs
      have HA := Lib.hid hA
      have x9 := hA.box.cell 2 (.slice ae g.edges.length ec) rfl
      clear hA hs
      have hfe := HFN.out
      by_cases hjl : j < g.edges.length
      ·
       have hjli : (j : Int) < g.edges.length := by omega
       obtain ⟨be, oe, had, hcap, hb0, hrec⟩ := HRE.out.at (by omega)
       obtain ⟨cs, hcs, hPR, hcl⟩ := hrec j hjl
       obtain ⟨xs, rfl, hst⟩ := hPR
       have c1 := cell_later HA.out.kept.below (hcl 0 (by omega))
       have c2 := cell_later HA.out.kept.below (hcl 1 (by omega))
       simp at c1 c2
       rw [had] at x9
       have hcapi : ((g.edges.length : Nat) : Int) ≤ ec := by omega
       obtain ⟨bv, fv, hva, -, hcv, -, -, hcell⟩ := Ints.at HA.out.outs (by omega)
       have kr := hcell k (by omega)
       rw [HR.out] at kr
       change wr.cell? _ = some (.int .i64 r) at kr
       subst hva
       have hcv2 : (((ratesO g t).length : Nat) : Int) ≤ cvo := by omega
       have HFEW : Hid (s.length ≤ 100000) := Lib.hid (by
        rw [← HSS.out, List.length_append]
        have h1 := HB1.out
        have h2 : (giveL g t k r j).length ≤ j := pickL_few _ _ _ _
        omega)
       obtain ⟨xa, hxa⟩ : ∃ x, (g.edges[j]).src = x := ⟨_, rfl⟩
       obtain ⟨xp, hxp⟩ : ∃ x, (g.edges[j]).sport = x := ⟨_, rfl⟩
       rw [hxa] at c1
       rw [hxp] at c2
       have HSN : Hid (giveL g t k r (j + 1) = giveL g t k r j ++ (if xa = t ∧ xp = k then [⟨6, j, r⟩] else [])) := Lib.hid (by unfold giveL; rw [pickL_snoc, edgeD_at hjl, hxa, hxp])
       clear hcl hcs hrec hcap hb0 had hxa hxp hcell hcv
       by_cases ha : xa = t
       ·
        have hab : (xa == (t : Int)) = true := by rw [beq_iff_eq]; exact ha
        by_cases hp : xp = k
        ·
         have hpb : (xp == (k : Int)) = true := by rw [beq_iff_eq]; exact hp
         obtain ⟨i0, hi, hz0, hz1, hz2⟩ := info_parts info_Op
         obtain ⟨sp, cp, rfl⟩ := HA.out.own.slice
         have hbn := below_alloc wr (.cells #[.int .u8 6, .int .i64 ((j : Int)), .int .i64 (r)] 61)
         have TN := Turn.of_below q 42009 hbn
         have HAN := Lib.hid (HA.out.turn TN (fun _ h => h.elim))
         generalize ext q wr.heap.size 42009 = qn at *
         clear hbn TN
         go_wp2_with (at_builtin; refine stop_here ?_)
         refine go_on ?_
         refine wpList_app rfl _ _ 37 rfl 0 61 i0 _ 3 24 Try.underlying37 hi hz0 hz1 hz2 rfl (.slice sp (s).length cp) (s).length (opsV (s)) rfl HAN.out.own.1 (some ⟨wr.heap.size, 0, none⟩) 1 1 [.int .u8 6, .int .i64 ((j : Int)), .int .i64 (r)] rfl rfl (fun h => by cases h) (news_alloc wr [.int .u8 6, .int .i64 ((j : Int)), .int .i64 (r)] 61) (by simp [Value.oneCell']) (by have := HFEW.out; unfold maxLen; omega) (grow_ok (by have := HFEW.out; omega)) (Nat.zero_le _) ?_
         intro v7 w7 k1 k20 _ k4
         obtain ⟨sp7, cp7, rfl⟩ := owns_slice k1
         obtain ⟨q7, hA7⟩ := HAN.out.push (x := ⟨6, (j : Int), r⟩) k1 k20 k4
         have HA7 := Lib.hid hA7
         clear k1 k20 k4 hA7 HAN hi hz0 hz1 hz2
         have HNX : Hid (((s1 ++ [(⟨5, (t : Int), 0⟩ : GOp)]) ++ outL g t k) ++ giveL g t k r (j + 1) = s ++ [⟨6, j, r⟩]) := Lib.hid (by rw [HSN.out, if_pos ⟨ha, hp⟩, ← HSS.out, ← List.append_assoc])
         clear HA
         go_wp2
         go_roundw
         case rel => exact ⟨j + 1, _, hjl, by go_num, by rw [HNX.out]; exact HA7.out⟩
         case measure => simp [intOf]; omega
        ·
         have hpb : (xp == (k : Int)) = false := by rw [beq_eq_false_iff_ne]; exact hp
         have HNX : Hid (giveL g t k r (j + 1) = giveL g t k r j) := Lib.hid (by rw [HSN.out, if_neg (fun h => hp h.2), List.append_nil])
         go_wp2
         go_roundw
         case rel => exact ⟨j + 1, _, hjl, by go_num, by rw [HNX.out, HSS.out]; exact HA.out⟩
         case measure => simp [intOf]; omega
       ·
        have hab : (xa == (t : Int)) = false := by rw [beq_eq_false_iff_ne]; exact ha
        have HNX : Hid (giveL g t k r (j + 1) = giveL g t k r j) := Lib.hid (by rw [HSN.out, if_neg (fun h => ha h.1), List.append_nil])
        go_wp2
        go_roundw
        case rel => exact ⟨j + 1, _, hjl, by go_num, by rw [HNX.out, HSS.out]; exact HA.out⟩
        case measure => simp [intOf]; omega
      ·
       obtain rfl : j = g.edges.length := by omega
       replace HA := Lib.hid (by have := HA.out; rw [← HSS.out] at this; exact this)
       clear HSS
       have hjli : ¬ ((g.edges.length : Nat) : Int) < g.edges.length := by omega
       go_wp2_with fail
       clear x9
       go_loopw [8, 14] (fun ov i wz => ∃ (j : Nat) (q : Col), j ≤ g.outs.length ∧ i = .int .i64 j ∧ FirAt w wz q [.string g.name, .slice (some ⟨ba, oa, none⟩) g.actors.length ac, .slice ae g.edges.length ec, .slice ai g.ins.length ic, .slice ao g.outs.length oc] (.slice avi (ratesI g t).length cvi) (.slice avo (ratesO g t).length cvo) (ratesI g t) (ratesO g t) ov (((s1 ++ [(⟨5, (t : Int), 0⟩ : GOp)]) ++ outL g t k ++ giveL g t k r g.edges.length) ++ writeL g t k r j)) (fun _ i _ => g.outs.length - (intOf i).toNat)
       case atStart => exact ⟨0, _, Nat.zero_le _, rfl, by simpa [writeL, pickL] using HA.out⟩
       case round =>
        clear HA
        obtain ⟨j, q, hj, rfl, hA⟩ := hrel
        obtain ⟨s, hs⟩ : ∃ s, (((s1 ++ [(⟨5, (t : Int), 0⟩ : GOp)]) ++ outL g t k ++ giveL g t k r g.edges.length) ++ writeL g t k r j) = s := ⟨_, rfl⟩
        rw [hs] at hA
        have HSS := Lib.hid hs
        have HA := Lib.hid hA
        have x9 := hA.box.cell 4 (.slice ao g.outs.length oc) rfl
        clear hA hs
        have hfe := HFN.out
        by_cases hjl : j < g.outs.length
        ·
         have hjli : (j : Int) < g.outs.length := by omega
         obtain ⟨bo2, oo2, had, hcap, hb0, hrec⟩ := HRO.out.at (by omega)
         obtain ⟨cs, hcs, hPR, hcl⟩ := hrec j hjl
         obtain rfl := hPR
         have c1 := cell_later HA.out.kept.below (hcl 1 (by omega))
         have c2 := cell_later HA.out.kept.below (hcl 2 (by omega))
         simp at c1 c2
         rw [had] at x9
         have hcapi : ((g.outs.length : Nat) : Int) ≤ oc := by omega
         obtain ⟨bv, fv, hva, -, hcv, -, -, hcell⟩ := Ints.at HA.out.outs (by omega)
         have kr := hcell k (by omega)
         rw [HR.out] at kr
         change wr.cell? _ = some (.int .i64 r) at kr
         subst hva
         have hcv2 : (((ratesO g t).length : Nat) : Int) ≤ cvo := by omega
         have HFEW : Hid (s.length ≤ 100000) := Lib.hid (by
          rw [← HSS.out, List.length_append]
          have h1 := HB2.out
          have h2 : (writeL g t k r j).length ≤ j := pickL_few _ _ _ _
          omega)
         obtain ⟨xa, hxa⟩ : ∃ x, (g.outs[j]).actor = x := ⟨_, rfl⟩
         obtain ⟨xp, hxp⟩ : ∃ x, (g.outs[j]).port = x := ⟨_, rfl⟩
         rw [hxa] at c1
         rw [hxp] at c2
         have HSN : Hid (writeL g t k r (j + 1) = writeL g t k r j ++ (if xa = t ∧ xp = k then [⟨7, j, r⟩] else [])) := Lib.hid (by unfold writeL; rw [pickL_snoc, portD_at hjl, hxa, hxp])
         clear hcl hcs hrec hcap hb0 had hxa hxp hcell hcv
         by_cases ha : xa = t
         ·
          have hab : (xa == (t : Int)) = true := by rw [beq_iff_eq]; exact ha
          by_cases hp : xp = k
          ·
           have hpb : (xp == (k : Int)) = true := by rw [beq_iff_eq]; exact hp
           obtain ⟨i0, hi, hz0, hz1, hz2⟩ := info_parts info_Op
           obtain ⟨sp, cp, rfl⟩ := HA.out.own.slice
           have hbn := below_alloc wr (.cells #[.int .u8 7, .int .i64 ((j : Int)), .int .i64 (r)] 61)
           have TN := Turn.of_below q 42009 hbn
           have HAN := Lib.hid (HA.out.turn TN (fun _ h => h.elim))
           generalize ext q wr.heap.size 42009 = qn at *
           clear hbn TN
           go_wp2_with (at_builtin; refine stop_here ?_)
           refine go_on ?_
           refine wpList_app rfl _ _ 37 rfl 0 61 i0 _ 3 24 Try.underlying37 hi hz0 hz1 hz2 rfl (.slice sp (s).length cp) (s).length (opsV (s)) rfl HAN.out.own.1 (some ⟨wr.heap.size, 0, none⟩) 1 1 [.int .u8 7, .int .i64 ((j : Int)), .int .i64 (r)] rfl rfl (fun h => by cases h) (news_alloc wr [.int .u8 7, .int .i64 ((j : Int)), .int .i64 (r)] 61) (by simp [Value.oneCell']) (by have := HFEW.out; unfold maxLen; omega) (grow_ok (by have := HFEW.out; omega)) (Nat.zero_le _) ?_
           intro v7 w7 k1 k20 _ k4
           obtain ⟨sp7, cp7, rfl⟩ := owns_slice k1
           obtain ⟨q7, hA7⟩ := HAN.out.push (x := ⟨7, (j : Int), r⟩) k1 k20 k4
           have HA7 := Lib.hid hA7
           clear k1 k20 k4 hA7 HAN hi hz0 hz1 hz2
           have HNX : Hid (((s1 ++ [(⟨5, (t : Int), 0⟩ : GOp)]) ++ outL g t k ++ giveL g t k r g.edges.length) ++ writeL g t k r (j + 1) = s ++ [⟨7, j, r⟩]) := Lib.hid (by rw [HSN.out, if_pos ⟨ha, hp⟩, ← HSS.out, ← List.append_assoc])
           clear HA
           go_wp2
           go_roundw
           case rel => exact ⟨j + 1, _, hjl, by go_num, by rw [HNX.out]; exact HA7.out⟩
           case measure => simp [intOf]; omega
          ·
           have hpb : (xp == (k : Int)) = false := by rw [beq_eq_false_iff_ne]; exact hp
           have HNX : Hid (writeL g t k r (j + 1) = writeL g t k r j) := Lib.hid (by rw [HSN.out, if_neg (fun h => hp h.2), List.append_nil])
           go_wp2
           go_roundw
           case rel => exact ⟨j + 1, _, hjl, by go_num, by rw [HNX.out, HSS.out]; exact HA.out⟩
           case measure => simp [intOf]; omega
         ·
          have hab : (xa == (t : Int)) = false := by rw [beq_eq_false_iff_ne]; exact ha
          have HNX : Hid (writeL g t k r (j + 1) = writeL g t k r j) := Lib.hid (by rw [HSN.out, if_neg (fun h => ha h.1), List.append_nil])
          go_wp2
          go_roundw
          case rel => exact ⟨j + 1, _, hjl, by go_num, by rw [HNX.out, HSS.out]; exact HA.out⟩
          case measure => simp [intOf]; omega
        ·
         obtain rfl : j = g.outs.length := by omega
         replace HA := Lib.hid (by have := HA.out; rw [← HSS.out] at this; exact this)
         clear HSS
         have hjli : ¬ ((g.outs.length : Nat) : Int) < g.outs.length := by omega
         go_wp2
         go_roundw
         case rel => exact ⟨k + 1, q, hlt, by go_num, by rw [HSNO.out]; exact HA.out⟩
         case measure => simp [intOf]; omega
    ·
     obtain rfl : k = (ratesO g t).length := by omega
     have hlti : ¬ (((ratesO g t).length : Nat) : Int) < (ratesO g t).length := by omega
     go_wp2
     go_ret
     refine ⟨_, rfl, ?_, HA.out.kept.below⟩
     have e : firL g t = s1 ++ [⟨5, t, 0⟩] ++ outL g t (ratesO g t).length := by rw [← HS1.out]; rfl
     rw [e]
     exact own_base HA.out.kept HA.out.own (by omega)
end Go.Proofs.Ytbmbfifempkhgaa

/- The reference's lay: the operations of a nest, one behind the other. -/
namespace Go.Proofs.Ytbmbfifempkhgaa
open Go.RowKit
theorem row_own {w : World} {B : Nat} {v : Value} {l : List GOp} (h : w.ownsRow B 61 3 v l.length (opsV l)) : HasRow w v l := Own.row (o := fun _ => 0) (c := 0) ⟨owns_base h (fun _ _ => Nat.zero_le _), fun _ _ => rfl⟩
def LayRet (w : World) (q : Col) (r : List GOp) (e : Ending) (w' : World) : Prop := ∃ v q', e = .returned v ∧ Turn q q' (fun x => x = 42003) w w' ∧ Own w' q' 42003 61 3 v r.length (opsV r)
def LayOk (g : GGraph) (D : Nat) : Prop := ∀ (w0 w : World) (q : Col) (vg v vo : Value) (l : Nest) (op : Nat) (s : List GOp × Nat), HasGraph w0 vg g → HasNestD D w0 v l → NSized l → LeafOk g.actors.length l → Kept w0.heap.size q w0 w → Own w q 42003 61 3 vo s.1.length (opsV s.1) →
 s.1.length + costN l ≤ 10000000 → op + depthN l ≤ 1000 → Calls Try.prog 52 #[vg, v, .int .i64 (op : Nat), vo] w (LayRet w q (rowP (firP g) l op s).1)
set_option maxRecDepth 100000 in
theorem lay_zero {g : GGraph} : LayOk g 0 := by
 intro w0 w q vg v vo l op s hg hv hs hlo hk ho hl hd
 obtain ⟨rfl, av, cap, rfl⟩ := hv
 obtain ⟨vaa, vae, vai, vao, e0, ra, re, ri, ro⟩ := hg.shape
 obtain rfl := e0
 have hb1 := below_alloc w (.cells #[.string g.name, vaa, vae, vai, vao] 26)
 have T1 := Turn.of_below q 42000 hb1
 have HO := Lib.hid (ho.turn T1 (fun h => h))
 have HT := Lib.hid T1
 clear hs hlo hk ho hb1 T1 ra re ri ro hg
 obtain ⟨sp, cp, rfl⟩ := HO.out.slice
 go_enter Try.func52, Try.ntmps52
 go_wp2_with fail
 obtain ⟨w1, hw1⟩ : ∃ x, w.alloc (.cells #[.string g.name, vaa, vae, vai, vao] 26) = x := ⟨_, rfl⟩
 rw [hw1] at HO HT ⊢
 clear hw1
 go_loopw [3, 9] (fun ov i wr => i = .int .i64 0 ∧ ov = .slice sp s.1.length cp ∧ wr = w1) (fun _ _ _ => 0)
 case atStart => exact ⟨rfl, rfl, rfl⟩
 case round =>
  obtain ⟨rfl, rfl, rfl⟩ := hrel
  go_wp2
  go_ret
  exact ⟨_, _, rfl, HT.out.mono (fun _ h => h.elim), HO.out⟩
set_option maxRecDepth 100000 in
set_option maxHeartbeats 4000000 in
theorem lay_succ {g : GGraph} (hc : checkE g = 0) (hf : FirOk g) {D : Nat} (hrow : LayOk g D) : LayOk g (D + 1) := by
 intro w0 w o vg v vo l op s0 hg hv hs hlo hk ho hl hd
 have hv' : Recs w0 3 (fun w x cs => ∃ y, cs = [.int .i64 x.1, .int .i64 x.2.1, y] ∧ HasNestD D w y x.2.2) v l.items := hv
 obtain ⟨av, cap, rfl⟩ := hv'.slice
 obtain ⟨r, hr⟩ : ∃ r, rowP (firP g) l op s0 = r := ⟨_, rfl⟩
 rw [hr]
 have HE := Lib.hid (show rowP (firP g) (l.drop 0) op s0 = r by rw [drop_zero]; exact hr)
 have HGR0 := Lib.hid hg
 obtain ⟨_, _, _, _, e0, ra, re, ri, ro⟩ := hg.shape
 obtain ⟨aa, ac, rfl⟩ := ra.slice
 obtain ⟨ae, ec, rfl⟩ := re.slice
 obtain ⟨ai, ic, rfl⟩ := ri.slice
 obtain ⟨ao, oc, rfl⟩ := ro.slice
 subst e0
 have HGR := HGR0
 have hb1 := below_alloc w (.cells #[.string g.name, .slice aa g.actors.length ac, .slice ae g.edges.length ec, .slice ai g.ins.length ic, .slice ao g.outs.length oc] 26)
 have T1 := Turn.of_below o 42000 hb1
 have hX := blk_new (w := w) o 42000 #[.string g.name, .slice aa g.actors.length ac, .slice ae g.edges.length ec, .slice ai g.ins.length ic, .slice ao g.outs.length oc] 26
 have HF33 := Lib.hid (fun k => firP_row hf k)
 have HFL := Lib.hid (fun k (hk : k < g.actors.length) => firL_is hc hf hk)
 have HFO := Lib.hid hf
 have HV := Lib.hid hv'
 have HS := Lib.hid hs
 have HLO := Lib.hid hlo
 have HL := Lib.hid (nsized_len hs)
 have HREC := Lib.hid hrow
 have HT0 := Lib.hid (T1.mono (D := fun x => x = 42003) (fun _ h => h.elim))
 have HK0 := Lib.hid (hk.turn T1 (fun h => h))
 have HO0 := Lib.hid (ho.turn T1 (fun h => h))
 have HG0 := Lib.hid hX
 have HC00 : Hid (s0.1.length + costN (l.drop 0) ≤ 10000000 ∧ op + depthN (l.drop 0) ≤ 1000) := Lib.hid (by rw [drop_zero]; exact ⟨hl, hd⟩)
 clear hv hv' hs hlo hk ho hrow hr hl hf hc hb1 T1 hX ra re ri ro hg HGR0
 obtain ⟨sp, cp, rfl⟩ := HO0.out.slice
 go_enter Try.func52, Try.ntmps52
 go_wp2_with fail
 obtain ⟨G, hG⟩ : ∃ x, w.heap.size = x := ⟨_, rfl⟩
 obtain ⟨w1, hw1⟩ : ∃ x, w.alloc (.cells #[.string g.name, .slice aa g.actors.length ac, .slice ae g.edges.length ec, .slice ai g.ins.length ic, .slice ao g.outs.length oc] 26) = x := ⟨_, rfl⟩
 rw [hG] at HO0 HT0 HG0 HK0 ⊢
 rw [hw1] at HO0 HT0 HG0 HK0 ⊢
 clear hw1 hG
 go_loopw [3, 9] (fun ov i wr => ∃ (j : Nat) (q : Col) (s : List GOp × Nat), j ≤ l.items.length ∧ i = .int .i64 j ∧ Kept w0.heap.size q w0 wr ∧ Turn o q (fun x => x = 42003) w wr ∧ Blk wr q 42000 G 26 #[.string g.name, .slice aa g.actors.length ac, .slice ae g.edges.length ec, .slice ai g.ins.length ic, .slice ao g.outs.length oc] ∧ Own wr q 42003 61 3 ov s.1.length (opsV s.1) ∧ (s.1.length + costN (l.drop j) ≤ 10000000 ∧ op + depthN (l.drop j) ≤ 1000) ∧ rowP (firP g) (l.drop j) op s = r) (fun _ i _ => l.items.length - (intOf i).toNat)
 case atStart => exact ⟨0, _, s0, Nat.zero_le _, rfl, HK0.out, HT0.out, HG0.out, HO0.out, HC00.out, HE.out⟩
 case round =>
  clear HK0 HT0 HG0 HO0 HE HC00
  obtain ⟨j, q, s, hj, rfl, hK, hT, hG, hO, hC, hE⟩ := hrel
  have HK := Lib.hid hK
  have HT := Lib.hid hT
  have HG := Lib.hid hG
  have HO := Lib.hid hO
  have HE := Lib.hid hE
  have HC := Lib.hid hC
  clear hK hT hG hO hE hC
  by_cases hlt : j < l.items.length
  ·
   have hlti : (j : Int) < l.items.length := by omega
   obtain ⟨b0, off, rfl, hcap, hb0, hrec⟩ := HV.out.at (by omega)
   obtain ⟨cs, hcs, hPR, hcl⟩ := hrec j hlt
   obtain ⟨y, rfl, hy⟩ := hPR
   have c0 := cell_later HK.out.below (hcl 0 (by omega))
   have c1 := cell_later HK.out.below (hcl 1 (by omega))
   have c2 := cell_later HK.out.below (hcl 2 (by omega))
   simp at c0 c1 c2
   have hcapi : (l.items.length : Int) ≤ cap := by omega
   have hEc := HE.out
   have hCc := HC.out
   have hLo := leafOk_drop l j HLO.out
   rw [drop_items l j hlt] at hLo hCc
   rw [drop_items l j hlt, rowP_cons] at hEc
   rw [costN, depthN] at hCc
   have HEC := Lib.hid hEc
   have HC0 := Lib.hid hCc
   have HLJ := Lib.hid hLo
   have HY := Lib.hid hy
   have HSb := Lib.hid (nsized_at HS.out _ (List.getElem_mem hlt))
   obtain ⟨ya, yc, hys⟩ := nestD_slice D hy
   subst hys
   clear hcl hcs hrec hEc hCc hLo hy HE HC
   generalize (l.items[j]).1 = t at *
   generalize (l.items[j]).2.1 = nd at *
   generalize (l.items[j]).2.2 = b at *
   have hbX := below_alloc wr (.cells #[.int .i64 t, .int .i64 nd, .slice ya b.items.length yc] 51)
   have hX := blk_new (w := wr) q 8 #[.int .i64 t, .int .i64 nd, .slice ya b.items.length yc] 51
   have TX := Turn.of_below q 8 hbX
   have HK2 := Lib.hid (HK.out.turn TX (fun h => h))
   have HT2 := Lib.hid (HT.out.trans (TX.mono (D := fun x => x = 42003) (fun _ h => h.elim)) (fun _ h => h))
   have HO2 := Lib.hid (HO.out.turn TX (fun h => h))
   have HG2 := Lib.hid (HG.out.turn TX (fun h => h))
   have HX2 := Lib.hid hX
   have x0 := hX.cell 0 _ rfl
   have x2 := hX.cell 2 _ rfl
   have hnil := isNil_len b
   clear hbX hX TX HK HT HO HG
   generalize hm : b.items.length = m at *
   have HNL0 := Lib.hid hnil
   have HLn := Lib.hid (stepP_len HF33.out t nd b op s)
   have hll := HL.out
   by_cases h1 : 1 < t
   ·
    have HCC : Hid (s.1.length ≤ 10000000) := Lib.hid (by have := HC0.out; omega)
    obtain ⟨sp2, cp2, rfl⟩ := HO2.out.slice
    obtain ⟨i0, hi, hz0, hz1, hz2⟩ := info_parts info_Op
    have hbn := below_alloc (wr.alloc (.cells #[.int .i64 t, .int .i64 nd, .slice ya m yc] 51)) (.cells #[.int .u8 1, .int .i64 ((op : Nat)), .int .i64 (t)] 61)
    have TN := Turn.of_below (ext q wr.heap.size 8) 42009 hbn
    have HKN := Lib.hid (HK2.out.turn TN (fun h => h))
    have HTN := Lib.hid (HT2.out.trans (TN.mono (D := fun x => x = 42003) (fun _ h => h.elim)) (fun _ h => h))
    have HON := Lib.hid (HO2.out.turn TN (fun h => h))
    have HXN := Lib.hid (HX2.out.turn TN (fun h => h))
    have HGN := Lib.hid (HG2.out.turn TN (fun h => h))
    generalize ext (ext q wr.heap.size 8) ((wr.alloc (.cells #[.int .i64 t, .int .i64 nd, .slice ya m yc] 51))).heap.size 42009 = qn at *
    clear hbn TN HK2 HT2 HO2 HX2 HG2
    go_wp2_with (at_builtin; refine stop_here ?_)
    refine go_on ?_
    refine wpList_app rfl _ _ 37 rfl 0 61 i0 _ 3 24 Try.underlying37 hi hz0 hz1 hz2 rfl (.slice sp2 (s.1).length cp2) (s.1).length (opsV (s.1)) rfl HON.out.1 (some ⟨wr.heap.size + 1, 0, none⟩) 1 1 [.int .u8 1, .int .i64 ((op : Nat)), .int .i64 (t)] rfl rfl (fun h => by cases h) (by rw [show wr.heap.size + 1 = ((wr.alloc (.cells #[.int .i64 t, .int .i64 nd, .slice ya m yc] 51))).heap.size by simp]; exact news_alloc ((wr.alloc (.cells #[.int .i64 t, .int .i64 nd, .slice ya m yc] 51))) [.int .u8 1, .int .i64 ((op : Nat)), .int .i64 (t)] 61) (by simp [Value.oneCell']) (by have := HCC.out; unfold maxLen; omega) (grow_ok (by have := HCC.out; omega)) (Nat.zero_le _) ?_
    intro v5 w5 k1 k20 _ k4
    obtain ⟨spv, cpv, rfl⟩ := owns_slice k1
    obtain ⟨T5, O5⟩ := own_app HON.out k1 k20 k4
    have HK5 := Lib.hid (HKN.out.turn T5 (by omega))
    have HT5 := Lib.hid (HTN.out.trans T5 (fun _ h => h))
    have HX5 := Lib.hid (HXN.out.turn T5 (by omega))
    have HG5 := Lib.hid (HGN.out.turn T5 (by omega))
    have HO5 : Hid (Own w5 _ 42003 61 3 _ ((s.1) ++ [(⟨1, (op : Nat), t⟩ : GOp)]).length (opsV ((s.1) ++ [(⟨1, (op : Nat), t⟩ : GOp)]))) := Lib.hid (by rw [show opsV ((s.1) ++ [(⟨1, (op : Nat), t⟩ : GOp)]) = opsV (s.1) ++ opV ⟨1, (op : Nat), t⟩ by simp [opsV], List.length_append]; exact O5)
    generalize ext qn ((((wr.alloc (.cells #[.int .i64 t, .int .i64 nd, .slice ya m yc] 51))).alloc (.cells #[.int .u8 1, .int .i64 ((op : Nat)), .int .i64 (t)] 61)).heap.size) 42003 = q5 at *
    clear T5 O5 k1 k20 k4 HKN HTN HON HXN HGN hi hz0 hz1 hz2
    clear x0 x2 HCC
    generalize wr.heap.size = X at *
    obtain ⟨s5, hs5⟩ : ∃ x, openP op t s = x := ⟨_, rfl⟩
    have e5 : s.1.length + 1 = s5.1.length := by rw [← hs5]; simp [openP]
    have e5l : s.1 ++ [(⟨1, (op : Nat), t⟩ : GOp)] = s5.1 := by rw [← hs5]; rfl
    rw [e5l, e5] at HO5
    rw [e5]
    have HL5 : Hid (s5.1.length + 33 + costN b ≤ 10000000 ∧ op + 1 + depthN b ≤ 1000) := Lib.hid (by have := HC0.out; omega)
    have HSE : Hid (stepP (firP g) t nd b op s = closeP op s5.1.length (if b.isNil then leafP (firP g) nd s5 else rowP (firP g) b (op + 1) s5)) := Lib.hid (by rw [stepP, if_pos h1, hs5, e5])
    clear hs5 e5 e5l
    have x2 := HX5.out.cell 2 _ rfl
    by_cases hz : m = 0
    ·
     subst hz
     have HNL := Lib.hid (show b.isNil = true by rw [HNL0.out]; rfl)
     obtain ⟨k, hk, hkl⟩ : ∃ k : Nat, nd = k ∧ k < g.actors.length := ⟨nd.toNat, by have := HLJ.out.1 HNL.out; omega, by have := HLJ.out.1 HNL.out; omega⟩
     subst hk
     have g0 := HG5.out.cell 0 _ rfl
     have g1 := HG5.out.cell 1 _ rfl
     have g2 := HG5.out.cell 2 _ rfl
     have g3 := HG5.out.cell 3 _ rfl
     have g4 := HG5.out.cell 4 _ rfl
     have x1 := HX5.out.cell 1 _ rfl
     go_wp2_with fail
     clear g0 g1 g2 g3 g4 x1
     refine (rfiring_any _ _ g k (HGR.out.below HK5.out.below) HFO.out hkl).mono ?_
     rintro e w5f ⟨fv, rfl, hfo, hfb⟩
     rw [HFL.out k hkl] at hfo
     have TF := Turn.of_below (q5) 42009 hfb
     have HKF := Lib.hid (HK5.out.turn TF (fun h => h))
     have HTF := Lib.hid (HT5.out.trans (TF.mono (D := fun x => x = 42003) (fun _ h => h.elim)) (fun _ h => h))
     have HXF := Lib.hid (HX5.out.turn TF (fun h => h))
     have HGF := Lib.hid (HG5.out.turn TF (fun h => h))
     have HOF := Lib.hid (HO5.out.turn TF (fun h => h))
     generalize ext (q5) (w5).heap.size 42009 = qf at *
     obtain ⟨ra, rc, hre, hr0, -, hrc⟩ := row_own hfo
     subst hre
     have hr33 := HF33.out k
     obtain ⟨R, hR⟩ : ∃ x, rowM (firP g) k = x := ⟨_, rfl⟩
     rw [hR] at hr0 hrc hr33 ⊢
     have HRW := Lib.hid hR
     have HR0 := Lib.hid hr0
     have HRC := Lib.hid hrc
     clear TF hfb hfo hr0 hrc hR HK5 HT5 HX5 HG5 HO5
     obtain ⟨i0, hi, hz0, hz1, hz2⟩ := info_parts info_Op
     have h5l := HL5.out
     go_wp2_with (at_builtin; refine stop_here ?_)
     refine go_on ?_
     refine wpList_app rfl _ _ 37 rfl 0 61 i0 _ 3 24 Try.underlying37 hi hz0 hz1 hz2 rfl (.slice spv s5.1.length cpv) s5.1.length _ rfl HOF.out.1 ra R.length rc (opsV R) rfl (opsV_len R) HR0.out HRC.out (opsV_one R) (by unfold maxLen; omega) (grow_ok (by omega)) (Nat.zero_le _) ?_
     intro v6 w6 k1 k20 _ k4
     obtain ⟨sp6, cp6, rfl⟩ := owns_slice k1
     obtain ⟨T6, O6⟩ := own_app HOF.out k1 k20 k4
     have HK6 := Lib.hid (HKF.out.turn T6 (by omega))
     have HT6 := Lib.hid (HTF.out.trans T6 (fun _ h => h))
     have HX6 := Lib.hid (HXF.out.turn T6 (by omega))
     have HG6 := Lib.hid (HGF.out.turn T6 (by omega))
     have HO6 := Lib.hid (show Own w6 _ 42003 61 3 _ (leafP (firP g) k s5).1.length (opsV (leafP (firP g) k s5).1) by
      have e : opsV (s5.1 ++ R) = opsV s5.1 ++ opsV R := by simp [opsV]
      have e2 : (leafP (firP g) k s5).1 = s5.1 ++ R := by unfold leafP; rw [Int.toNat_natCast, HRW.out]
      rw [e2, e, List.length_append]; exact O6)
     have HV6 : Hid ((leafP (firP g) k s5).1.length = s5.1.length + R.length) := Lib.hid (by unfold leafP; rw [Int.toNat_natCast, HRW.out, List.length_append])
     rw [← HV6.out] at HO6 ⊢
     have HE6 : Hid (stepP (firP g) t (k : Nat) b op s = closeP op s5.1.length (leafP (firP g) k s5)) := Lib.hid (by rw [HSE.out, HNL.out]; rfl)
     generalize ext qf w5f.heap.size 42003 = q6 at *
     clear T6 O6 k1 k20 k4 HKF HTF HXF HGF HOF hi hz0 hz1 hz2 HV6
     generalize leafP (firP g) k s5 = s6 at *
     have x0 := HX6.out.cell 0 _ rfl
     have HCC : Hid (s6.1.length ≤ 10000000) := Lib.hid (by have e1 := HLn.out; rw [HE6.out] at e1; have e2 := HC0.out; simp only [closeP, List.length_append, List.length_cons, List.length_nil] at e1; omega)
     obtain ⟨i0, hi, hz0, hz1, hz2⟩ := info_parts info_Op
     have hbn := below_alloc w6 (.cells #[.int .u8 2, .int .i64 ((op : Nat)), .int .i64 ((s5.1.length : Nat))] 61)
     have TN := Turn.of_below (q6) 42009 hbn
     have HKN := Lib.hid (HK6.out.turn TN (fun h => h))
     have HTN := Lib.hid (HT6.out.trans (TN.mono (D := fun x => x = 42003) (fun _ h => h.elim)) (fun _ h => h))
     have HON := Lib.hid (HO6.out.turn TN (fun h => h))
     have HXN := Lib.hid (HX6.out.turn TN (fun h => h))
     have HGN := Lib.hid (HG6.out.turn TN (fun h => h))
     generalize ext (q6) (w6).heap.size 42009 = qn at *
     clear hbn TN HK6 HT6 HO6 HX6 HG6
     go_wp2_with (at_builtin; refine stop_here ?_)
     refine go_on ?_
     refine wpList_app rfl _ _ 37 rfl 0 61 i0 _ 3 24 Try.underlying37 hi hz0 hz1 hz2 rfl (.slice sp6 (s6.1).length cp6) (s6.1).length (opsV (s6.1)) rfl HON.out.1 (some ⟨w6.heap.size, 0, none⟩) 1 1 [.int .u8 2, .int .i64 ((op : Nat)), .int .i64 ((s5.1.length : Nat))] rfl rfl (fun h => by cases h) (by rw [show w6.heap.size = (w6).heap.size by simp]; exact news_alloc (w6) [.int .u8 2, .int .i64 ((op : Nat)), .int .i64 ((s5.1.length : Nat))] 61) (by simp [Value.oneCell']) (by have := HCC.out; unfold maxLen; omega) (grow_ok (by have := HCC.out; omega)) (Nat.zero_le _) ?_
     intro v7 w7 k1 k20 _ k4
     obtain ⟨spv, cpv, rfl⟩ := owns_slice k1
     obtain ⟨T7, O7⟩ := own_app HON.out k1 k20 k4
     have HK7 := Lib.hid (HKN.out.turn T7 (by omega))
     have HT7 := Lib.hid (HTN.out.trans T7 (fun _ h => h))
     have HX7 := Lib.hid (HXN.out.turn T7 (by omega))
     have HG7 := Lib.hid (HGN.out.turn T7 (by omega))
     have HO7 : Hid (Own w7 _ 42003 61 3 _ ((s6.1) ++ [(⟨2, (op : Nat), (s5.1.length : Nat)⟩ : GOp)]).length (opsV ((s6.1) ++ [(⟨2, (op : Nat), (s5.1.length : Nat)⟩ : GOp)]))) := Lib.hid (by rw [show opsV ((s6.1) ++ [(⟨2, (op : Nat), (s5.1.length : Nat)⟩ : GOp)]) = opsV (s6.1) ++ opV ⟨2, (op : Nat), (s5.1.length : Nat)⟩ by simp [opsV], List.length_append]; exact O7)
     generalize ext qn (((w6).alloc (.cells #[.int .u8 2, .int .i64 ((op : Nat)), .int .i64 ((s5.1.length : Nat))] 61)).heap.size) 42003 = q7 at *
     clear T7 O7 k1 k20 k4 HKN HTN HON HXN HGN hi hz0 hz1 hz2
     go_wp2
     go_roundw
     case rel => exact ⟨j + 1, _, stepP (firP g) t k b op s, hlt, by go_num, HK7.out, HT7.out, HG7.out, by rw [HE6.out]; exact HO7.out, by have := HLn.out; have := HC0.out; omega, HEC.out⟩
     case measure => simp [intOf]; omega
    ·
     have hzi : ¬ (m : Int) = 0 := by omega
     have HNL := Lib.hid (show b.isNil = false by rw [HNL0.out, decide_eq_false hz])
     have hbeq : ((m : Int) == 0) = false := by rw [beq_eq_false_iff_ne]; exact hzi
     have g0 := HG5.out.cell 0 _ rfl
     have g1 := HG5.out.cell 1 _ rfl
     have g2 := HG5.out.cell 2 _ rfl
     have g3 := HG5.out.cell 3 _ rfl
     have g4 := HG5.out.cell 4 _ rfl
     go_wp2_with fail
     clear g0 g1 g2 g3 g4 x2
     refine (HREC.out w0 _ (q5) _ _ _ b (op + 1) s5 HGR.out HY.out HSb.out HLJ.out.2.1 HK5.out HO5.out (by have := HL5.out; omega) (by have := HL5.out; omega)).mono ?_
     rintro e w6 ⟨v6, q6, rfl, T6, O6⟩
     have HK6 := Lib.hid (HK5.out.turn T6 (by omega))
     have HT6 := Lib.hid (HT5.out.trans T6 (fun _ h => h))
     have HX6 := Lib.hid (HX5.out.turn T6 (by omega))
     have HG6 := Lib.hid (HG5.out.turn T6 (by omega))
     have HO6 := Lib.hid O6
     have HE6 : Hid (stepP (firP g) t nd b op s = closeP op s5.1.length (rowP (firP g) b (op + 1) s5)) := Lib.hid (by rw [HSE.out, HNL.out]; rfl)
     clear T6 O6 HK5 HT5 HO5 HX5 HG5
     generalize rowP (firP g) b (op + 1) s5 = s6 at *
     obtain ⟨sp6, cp6, rfl⟩ := HO6.out.slice
     have x0 := HX6.out.cell 0 _ rfl
     have HCC : Hid (s6.1.length ≤ 10000000) := Lib.hid (by have e1 := HLn.out; rw [HE6.out] at e1; have e2 := HC0.out; simp only [closeP, List.length_append, List.length_cons, List.length_nil] at e1; omega)
     obtain ⟨i0, hi, hz0, hz1, hz2⟩ := info_parts info_Op
     have hbn := below_alloc w6 (.cells #[.int .u8 2, .int .i64 ((op : Nat)), .int .i64 ((s5.1.length : Nat))] 61)
     have TN := Turn.of_below (q6) 42009 hbn
     have HKN := Lib.hid (HK6.out.turn TN (fun h => h))
     have HTN := Lib.hid (HT6.out.trans (TN.mono (D := fun x => x = 42003) (fun _ h => h.elim)) (fun _ h => h))
     have HON := Lib.hid (HO6.out.turn TN (fun h => h))
     have HXN := Lib.hid (HX6.out.turn TN (fun h => h))
     have HGN := Lib.hid (HG6.out.turn TN (fun h => h))
     generalize ext (q6) (w6).heap.size 42009 = qn at *
     clear hbn TN HK6 HT6 HO6 HX6 HG6
     go_wp2_with (at_builtin; refine stop_here ?_)
     refine go_on ?_
     refine wpList_app rfl _ _ 37 rfl 0 61 i0 _ 3 24 Try.underlying37 hi hz0 hz1 hz2 rfl (.slice sp6 (s6.1).length cp6) (s6.1).length (opsV (s6.1)) rfl HON.out.1 (some ⟨w6.heap.size, 0, none⟩) 1 1 [.int .u8 2, .int .i64 ((op : Nat)), .int .i64 ((s5.1.length : Nat))] rfl rfl (fun h => by cases h) (by rw [show w6.heap.size = (w6).heap.size by simp]; exact news_alloc (w6) [.int .u8 2, .int .i64 ((op : Nat)), .int .i64 ((s5.1.length : Nat))] 61) (by simp [Value.oneCell']) (by have := HCC.out; unfold maxLen; omega) (grow_ok (by have := HCC.out; omega)) (Nat.zero_le _) ?_
     intro v7 w7 k1 k20 _ k4
     obtain ⟨spv, cpv, rfl⟩ := owns_slice k1
     obtain ⟨T7, O7⟩ := own_app HON.out k1 k20 k4
     have HK7 := Lib.hid (HKN.out.turn T7 (by omega))
     have HT7 := Lib.hid (HTN.out.trans T7 (fun _ h => h))
     have HX7 := Lib.hid (HXN.out.turn T7 (by omega))
     have HG7 := Lib.hid (HGN.out.turn T7 (by omega))
     have HO7 : Hid (Own w7 _ 42003 61 3 _ ((s6.1) ++ [(⟨2, (op : Nat), (s5.1.length : Nat)⟩ : GOp)]).length (opsV ((s6.1) ++ [(⟨2, (op : Nat), (s5.1.length : Nat)⟩ : GOp)]))) := Lib.hid (by rw [show opsV ((s6.1) ++ [(⟨2, (op : Nat), (s5.1.length : Nat)⟩ : GOp)]) = opsV (s6.1) ++ opV ⟨2, (op : Nat), (s5.1.length : Nat)⟩ by simp [opsV], List.length_append]; exact O7)
     generalize ext qn (((w6).alloc (.cells #[.int .u8 2, .int .i64 ((op : Nat)), .int .i64 ((s5.1.length : Nat))] 61)).heap.size) 42003 = q7 at *
     clear T7 O7 k1 k20 k4 HKN HTN HON HXN HGN hi hz0 hz1 hz2
     go_wp2
     go_roundw
     case rel => exact ⟨j + 1, _, stepP (firP g) t nd b op s, hlt, by go_num, HK7.out, HT7.out, HG7.out, by rw [HE6.out]; exact HO7.out, by have := HLn.out; have := HC0.out; omega, HEC.out⟩
     case measure => simp [intOf]; omega
   ·
    have HSE : Hid (stepP (firP g) t nd b op s = id (if b.isNil then leafP (firP g) nd s else rowP (firP g) b op s)) := Lib.hid (by rw [stepP, if_neg h1]; rfl)
    have HL5 : Hid (s.1.length + 33 + costN b ≤ 10000000 ∧ op + depthN b ≤ 1000) := Lib.hid (by have := HC0.out; omega)
    have HK5 := HK2
    have HT5 := HT2
    have HO5 := HO2
    have HX5 := HX2
    have HG5 := HG2
    clear HK2 HT2 HO2 HX2 HG2
    obtain ⟨s5, hs5⟩ : ∃ x, x = s := ⟨_, rfl⟩
    rw [← hs5] at HO5
    have HSE : Hid (stepP (firP g) t nd b op s = id (if b.isNil then leafP (firP g) nd s5 else rowP (firP g) b op s5)) := by rw [hs5]; exact HSE
    have HL5 : Hid (s5.1.length + 33 + costN b ≤ 10000000 ∧ op + depthN b ≤ 1000) := by rw [hs5]; exact HL5
    clear hs5
    obtain ⟨spv, cpv, rfl⟩ := HO5.out.slice
    by_cases hz : m = 0
    ·
     subst hz
     have HNL := Lib.hid (show b.isNil = true by rw [HNL0.out]; rfl)
     obtain ⟨k, hk, hkl⟩ : ∃ k : Nat, nd = k ∧ k < g.actors.length := ⟨nd.toNat, by have := HLJ.out.1 HNL.out; omega, by have := HLJ.out.1 HNL.out; omega⟩
     subst hk
     have g0 := HG5.out.cell 0 _ rfl
     have g1 := HG5.out.cell 1 _ rfl
     have g2 := HG5.out.cell 2 _ rfl
     have g3 := HG5.out.cell 3 _ rfl
     have g4 := HG5.out.cell 4 _ rfl
     have x1 := HX5.out.cell 1 _ rfl
     go_wp2_with fail
     clear g0 g1 g2 g3 g4 x1
     refine (rfiring_any _ _ g k (HGR.out.below HK5.out.below) HFO.out hkl).mono ?_
     rintro e w5f ⟨fv, rfl, hfo, hfb⟩
     rw [HFL.out k hkl] at hfo
     have TF := Turn.of_below (ext q wr.heap.size 8) 42009 hfb
     have HKF := Lib.hid (HK5.out.turn TF (fun h => h))
     have HTF := Lib.hid (HT5.out.trans (TF.mono (D := fun x => x = 42003) (fun _ h => h.elim)) (fun _ h => h))
     have HXF := Lib.hid (HX5.out.turn TF (fun h => h))
     have HGF := Lib.hid (HG5.out.turn TF (fun h => h))
     have HOF := Lib.hid (HO5.out.turn TF (fun h => h))
     generalize ext (ext q wr.heap.size 8) (wr.alloc (.cells #[.int .i64 t, .int .i64 (k : Nat), .slice ya 0 yc] 51)).heap.size 42009 = qf at *
     obtain ⟨ra, rc, hre, hr0, -, hrc⟩ := row_own hfo
     subst hre
     have hr33 := HF33.out k
     obtain ⟨R, hR⟩ : ∃ x, rowM (firP g) k = x := ⟨_, rfl⟩
     rw [hR] at hr0 hrc hr33 ⊢
     have HRW := Lib.hid hR
     have HR0 := Lib.hid hr0
     have HRC := Lib.hid hrc
     clear TF hfb hfo hr0 hrc hR HK5 HT5 HX5 HG5 HO5
     obtain ⟨i0, hi, hz0, hz1, hz2⟩ := info_parts info_Op
     have h5l := HL5.out
     go_wp2_with (at_builtin; refine stop_here ?_)
     refine go_on ?_
     refine wpList_app rfl _ _ 37 rfl 0 61 i0 _ 3 24 Try.underlying37 hi hz0 hz1 hz2 rfl (.slice spv s5.1.length cpv) s5.1.length _ rfl HOF.out.1 ra R.length rc (opsV R) rfl (opsV_len R) HR0.out HRC.out (opsV_one R) (by unfold maxLen; omega) (grow_ok (by omega)) (Nat.zero_le _) ?_
     intro v6 w6 k1 k20 _ k4
     obtain ⟨sp6, cp6, rfl⟩ := owns_slice k1
     obtain ⟨T6, O6⟩ := own_app HOF.out k1 k20 k4
     have HK6 := Lib.hid (HKF.out.turn T6 (by omega))
     have HT6 := Lib.hid (HTF.out.trans T6 (fun _ h => h))
     have HX6 := Lib.hid (HXF.out.turn T6 (by omega))
     have HG6 := Lib.hid (HGF.out.turn T6 (by omega))
     have HO6 := Lib.hid (show Own w6 _ 42003 61 3 _ (leafP (firP g) k s5).1.length (opsV (leafP (firP g) k s5).1) by
      have e : opsV (s5.1 ++ R) = opsV s5.1 ++ opsV R := by simp [opsV]
      have e2 : (leafP (firP g) k s5).1 = s5.1 ++ R := by unfold leafP; rw [Int.toNat_natCast, HRW.out]
      rw [e2, e, List.length_append]; exact O6)
     have HV6 : Hid ((leafP (firP g) k s5).1.length = s5.1.length + R.length) := Lib.hid (by unfold leafP; rw [Int.toNat_natCast, HRW.out, List.length_append])
     rw [← HV6.out] at HO6 ⊢
     have HE6 : Hid (stepP (firP g) t (k : Nat) b op s = id (leafP (firP g) k s5)) := Lib.hid (by rw [HSE.out, HNL.out]; rfl)
     generalize ext qf w5f.heap.size 42003 = q6 at *
     clear T6 O6 k1 k20 k4 HKF HTF HXF HGF HOF hi hz0 hz1 hz2 HV6
     generalize leafP (firP g) k s5 = s6 at *
     have x0 := HX6.out.cell 0 _ rfl
     go_wp2
     go_roundw
     case rel => exact ⟨j + 1, _, stepP (firP g) t k b op s, hlt, by go_num, HK6.out, HT6.out, HG6.out, by rw [HE6.out]; exact HO6.out, by have := HLn.out; have := HC0.out; omega, HEC.out⟩
     case measure => simp [intOf]; omega
    ·
     have hzi : ¬ (m : Int) = 0 := by omega
     have HNL := Lib.hid (show b.isNil = false by rw [HNL0.out, decide_eq_false hz])
     have hbeq : ((m : Int) == 0) = false := by rw [beq_eq_false_iff_ne]; exact hzi
     have g0 := HG5.out.cell 0 _ rfl
     have g1 := HG5.out.cell 1 _ rfl
     have g2 := HG5.out.cell 2 _ rfl
     have g3 := HG5.out.cell 3 _ rfl
     have g4 := HG5.out.cell 4 _ rfl
     go_wp2_with fail
     clear g0 g1 g2 g3 g4 x2 x0
     refine (HREC.out w0 _ (ext q wr.heap.size 8) _ _ _ b (op) s5 HGR.out HY.out HSb.out HLJ.out.2.1 HK5.out HO5.out (by have := HL5.out; omega) (by have := HL5.out; omega)).mono ?_
     rintro e w6 ⟨v6, q6, rfl, T6, O6⟩
     have HK6 := Lib.hid (HK5.out.turn T6 (by omega))
     have HT6 := Lib.hid (HT5.out.trans T6 (fun _ h => h))
     have HX6 := Lib.hid (HX5.out.turn T6 (by omega))
     have HG6 := Lib.hid (HG5.out.turn T6 (by omega))
     have HO6 := Lib.hid O6
     have HE6 : Hid (stepP (firP g) t nd b op s = id (rowP (firP g) b (op) s5)) := Lib.hid (by rw [HSE.out, HNL.out]; rfl)
     clear T6 O6 HK5 HT5 HO5 HX5 HG5
     generalize rowP (firP g) b (op) s5 = s6 at *
     obtain ⟨sp6, cp6, rfl⟩ := HO6.out.slice
     have x0 := HX6.out.cell 0 _ rfl
     go_wp2
     go_roundw
     case rel => exact ⟨j + 1, _, stepP (firP g) t nd b op s, hlt, by go_num, HK6.out, HT6.out, HG6.out, by rw [HE6.out]; exact HO6.out, by have := HLn.out; have := HC0.out; omega, HEC.out⟩
     case measure => simp [intOf]; omega
  ·
   obtain rfl : j = l.items.length := by omega
   have e := HE.out
   rw [drop_end, rowP] at e
   subst e
   obtain ⟨sp1, cp1, rfl⟩ := HO.out.slice
   go_wp2
   go_ret
   exact ⟨_, _, rfl, HT.out, HO.out⟩
theorem rlay_any {g : GGraph} (hc : checkE g = 0) (hf : FirOk g) : ∀ D, LayOk g D
 | 0 => lay_zero
 | D + 1 => lay_succ hc hf (rlay_any hc hf D)
end Go.Proofs.Ytbmbfifempkhgaa
