/- The program that emit makes, plainly; what a graph without an error is. No function in sight. -/
import Derived.Test.YtbmbfifempkhgaaERowP
import Derived.Test.YtbmbfifempkhgaaEFa
import Derived.Test.YtbmbfifempkhgaaEBa
import Derived.Test.YtbmbfifempkhgaaGCheck
namespace Go.Proofs.Ytbmbfifempkhgaa
open Go.RowKit

theorem errP_some (t : Int) : errP t = 60 ∨ errP t = 61 := by unfold errP; split <;> simp

/-- a and p are a place in rows of these lengths -/
def AtL (ls : List Nat) (a p : Int) : Prop := 0 ≤ a ∧ a < ls.length ∧ 0 ≤ p ∧ p < ((ls[a.toNat]?.getD 0 : Nat) : Int)
def lensB (side : List (List Bool)) : List Nat := side.map List.length
theorem side1_len (side : List (List Bool)) (a : Int) : (side1 side a).length = (lensB side)[a.toNat]?.getD 0 := by
  unfold side1 lensB
  rw [List.getElem?_map]
  cases side[a.toNat]? <;> rfl
theorem takeE_at {side : List (List Bool)} {a p : Int} (h : takeE side a p = 0) : AtL (lensB side) a p := by
  unfold takeE at h
  split at h
  · cases h
  · split at h
    · cases h
    · rename_i h1 h2
      rw [side1_len] at h2
      refine ⟨by omega, ?_, by omega, by omega⟩
      rw [lensB, List.length_map]
      omega
theorem takeS_lens (side : List (List Bool)) (a p : Int) : lensB (takeS side a p) = lensB side := by
  unfold takeS lensB
  rw [List.map_set, List.length_set, side1_len]
  unfold lensB
  by_cases h : a.toNat < side.length
  · rw [List.getElem?_eq_getElem (by simpa using h), Option.getD_some]
    exact List.set_getElem_self (by simpa using h)
  · rw [List.set_eq_of_length_le (by simpa using Nat.le_of_not_lt h)]
theorem edgesE_at : ∀ (l : List GEdge) (c : Chk), edgesE c l = 0 → ∀ e ∈ l, AtL (lensB c.outs) e.src e.sport ∧ AtL (lensB c.ins) e.dst e.dport ∧ e.start.length ≤ 256
  | [], _, _, _, h => by cases h
  | x :: l, c, h, e, he => by
    rw [edgesE] at h
    by_cases h0 : edgeE c x = 0
    · rw [if_neg (by simpa using h0)] at h
      rcases List.mem_cons.1 he with rfl | he
      · unfold edgeE at h0
        split at h0
        · rename_i h1; exact absurd h0 h1
        · split at h0
          · rename_i h1; exact absurd h0 h1
          · split at h0
            · cases h0
            · rename_i h1 h2 h3
              exact ⟨takeE_at (Decidable.not_not.1 h1), takeE_at (Decidable.not_not.1 h2), by omega⟩
      · have := edgesE_at l _ h e he
        simp only [edgeC, takeS_lens] at this
        exact this
    · rw [if_pos (by simpa using h0)] at h
      exact absurd h h0
theorem edgesC_lens : ∀ (l : List GEdge) (c : Chk), lensB (edgesC c l).ins = lensB c.ins ∧ lensB (edgesC c l).outs = lensB c.outs
  | [], _ => ⟨rfl, rfl⟩
  | x :: l, c => by
    have := edgesC_lens l (edgeC c x)
    simp only [edgesC, List.foldl_cons] at this ⊢
    simpa only [edgeC, takeS_lens] using this
theorem portsE_at : ∀ (l : List GPort) (seen : List ByteArray) (side : List (List Bool)), portsE seen side l = 0 → ∀ p ∈ l, AtL (lensB side) p.actor p.port
  | [], _, _, _, _, h => by cases h
  | x :: l, seen, side, h, p, hp => by
    rw [portsE] at h
    by_cases h0 : portE seen side x = 0
    · rw [if_neg (by simpa using h0)] at h
      rcases List.mem_cons.1 hp with rfl | hp
      · unfold portE at h0
        split at h0
        · rename_i h1; exact absurd h0 h1
        · exact takeE_at h0
      · have := portsE_at l _ _ h p hp
        rwa [takeS_lens] at this
    · rw [if_pos (by simpa using h0)] at h
      exact absurd h h0
theorem actorsE_good : ∀ (l : List GActor) (c : Chk), actorsE c l = 0 → ∀ a ∈ l, goodP a.tag a.params
  | [], _, _, _, h => by cases h
  | x :: l, c, h, a, ha => by
    rw [actorsE] at h
    by_cases h0 : actorE c.seen x = 0
    · rw [if_neg (by simpa using h0)] at h
      rcases List.mem_cons.1 ha with rfl | ha
      · unfold actorE at h0
        split at h0
        · rename_i h1; exact absurd h0 h1
        · split at h0
          · assumption
          · rcases errP_some a.tag with e | e <;> rw [e] at h0 <;> cases h0
      · exact actorsE_good l _ h a ha
    · rw [if_pos (by simpa using h0)] at h
      exact absurd h h0
theorem actorsC_lens : ∀ (l : List GActor) (c : Chk), lensB (actorsC c l).ins = lensB c.ins ++ l.map (fun a => (insP a.tag a.params).length) ∧ lensB (actorsC c l).outs = lensB c.outs ++ l.map (fun a => (outsP a.tag a.params).length)
  | [], _ => by simp [actorsC]
  | x :: l, c => by
    have := actorsC_lens l (actorC c x)
    simp only [actorsC, List.foldl_cons] at this ⊢
    rw [this.1, this.2]
    simp [actorC, lensB]
theorem insF_len2 (g : GGraph) (j : Nat) : (insF g j).length = (g.actors.map (fun a => (insP a.tag a.params).length))[j]?.getD 0 := by
  unfold insF
  rw [List.getElem?_map]
  cases g.actors[j]? <;> simp [rateL]
theorem outsF_len2 (g : GGraph) (j : Nat) : (outsF g j).length = (g.actors.map (fun a => (outsP a.tag a.params).length))[j]?.getD 0 := by
  unfold outsF
  rw [List.getElem?_map]
  cases g.actors[j]? <;> simp [rateL]

theorem checkE_parts {g : GGraph} (h : checkE g = 0) : headE g = 0 ∧ actorsE chk0 g.actors = 0 ∧ edgesE (chk1 g) g.edges = 0 ∧ portsE (chk2 g).seen (chk2 g).ins g.ins = 0 ∧ portsE (portsN (chk2 g).seen g.ins) (chk2 g).outs g.outs = 0 ∧ openE (portsS (chk2 g).ins g.ins) (portsS (chk2 g).outs g.outs) = 0 := by
  unfold checkE at h
  split at h
  · rename_i h1; exact absurd h h1
  split at h
  · rename_i h1; exact absurd h h1
  split at h
  · rename_i h1; exact absurd h h1
  split at h
  · rename_i h1; exact absurd h h1
  split at h
  · rename_i h1; exact absurd h h1
  rename_i h1 h2 h3 h4 h5
  exact ⟨Decidable.not_not.1 h1, Decidable.not_not.1 h2, Decidable.not_not.1 h3, Decidable.not_not.1 h4, Decidable.not_not.1 h5, h⟩
theorem headE_parts {g : GGraph} (h : headE g = 0) : 0 < g.actors.length ∧ g.actors.length ≤ 32 ∧ g.edges.length ≤ 96 ∧ g.ins.length ≤ 16 ∧ g.outs.length ≤ 16 := by
  unfold headE at h
  split at h
  · cases h
  split at h
  · cases h
  split at h
  · cases h
  split at h
  · cases h
  split at h
  · cases h
  split at h
  · cases h
  omega
theorem inAt_of {g : GGraph} {a p : Int} (h : AtL (g.actors.map (fun a => (insP a.tag a.params).length)) a p) : InAt g a p := by
  obtain ⟨h1, h2, h3, h4⟩ := h
  rw [List.length_map] at h2
  exact ⟨h1, h2, h3, by rw [insF_len2]; exact h4⟩
theorem outAt_of {g : GGraph} {a p : Int} (h : AtL (g.actors.map (fun a => (outsP a.tag a.params).length)) a p) : OutAt g a p := by
  obtain ⟨h1, h2, h3, h4⟩ := h
  rw [List.length_map] at h2
  exact ⟨h1, h2, h3, by rw [outsF_len2]; exact h4⟩
/-- a graph without an error can be fired -/
theorem firOk_of {g : GGraph} (h : checkE g = 0) (hs : GSized g) : FirOk g := by
  obtain ⟨h1, h2, h3, h4, h5, -⟩ := checkE_parts h
  obtain ⟨-, a1, a2, a3, a4⟩ := headE_parts h1
  obtain ⟨l1, l2⟩ := actorsC_lens g.actors chk0
  obtain ⟨k1, k2⟩ := edgesC_lens g.edges (chk1 g)
  have l1 : lensB (chk1 g).ins = g.actors.map (fun a => (insP a.tag a.params).length) := by simpa [chk1, chk0, lensB] using l1
  have l2 : lensB (chk1 g).outs = g.actors.map (fun a => (outsP a.tag a.params).length) := by simpa [chk1, chk0, lensB] using l2
  rw [l1] at k1
  rw [l2] at k2
  refine ⟨a1, a2, a3, a4, fun a ha => ⟨actorsE_good _ _ h2 a ha, (hs.2.1 a ha).2⟩, fun e he => ?_, fun e he => ?_, fun p hp => ?_, fun p hp => ?_⟩
  · have := (edgesE_at _ _ h3 e he).1
    rw [l2] at this
    exact outAt_of this
  · have := (edgesE_at _ _ h3 e he).2.1
    rw [l1] at this
    exact inAt_of this
  · have := portsE_at _ _ _ h4 p hp
    rw [chk2, k1] at this
    exact inAt_of this
  · have := portsE_at _ _ _ h5 p hp
    rw [chk2, k2] at this
    exact outAt_of this
theorem starts_of {g : GGraph} (h : checkE g = 0) : ∀ e ∈ g.edges, e.start.length ≤ 256 := fun e he => (edgesE_at _ _ (checkE_parts h).2.2.1 e he).2.2

theorem firP_row {g : GGraph} (h : FirOk g) (k : Nat) : (rowM (firP g) k).length ≤ 33 := by
  by_cases hk : k < g.actors.length
  · rw [firP, finM_row _ _ _ (by rw [matI2_len]; exact hk), if_pos hk, finR]
    simp only [List.length_append, List.length_cons, List.length_nil]
    rw [matI2_row g hk, matO2_row g hk]
    have := insF_len h k
    have := outsF_len h k
    omega
  · unfold rowM
    rw [List.getElem?_eq_none (by rw [firP_len]; omega)]
    simp

structure GPart where
  tag : Int
  params : List Int
structure GLine where
  base : Int
  size : Int
  start : List Int
structure GProg where
  memory : Int
  counters : Int
  ins : Int
  outs : Int
  parts : List GPart
  lines : List GLine
  ops : List GOp
def GProg.zero : GProg := ⟨0, 0, 0, 0, [], [], []⟩
def partsP (l : List GActor) : List GPart := l.map fun a => ⟨a.tag, a.params⟩
def linesP (r : List GRegion) (l : List GEdge) : List GLine := (r.zip l).map fun x => ⟨x.1.base, x.1.size, x.2.start⟩
def makeE (g : GGraph) (p : GPlan) (l : Nest) : Int := if checkE g ≠ 0 then checkE g else if nestCheckE l ≠ 0 then nestCheckE l else if strangeP l g.actors.length then 100 else if fitsP g p then 0 else 210
def makeG (g : GGraph) (p : GPlan) (l : Nest) : GProg := ⟨p.total, (rowP (firP g) l 0 ([], 0)).2, g.ins.length, g.outs.length, partsP g.actors, linesP p.regions g.edges, (rowP (firP g) l 0 ([], 0)).1 ++ [⟨0, 0, 0⟩]⟩
/-- the program that is made -/
def makeP (g : GGraph) (p : GPlan) (l : Nest) : GProg := if makeE g p l = 0 then makeG g p l else .zero

/-- leaves are actors -/
theorem leafOk_strange : ∀ (l : Nest) (n : Nat), LeafOk 32 l → strangeP l n = false → LeafOk n l
  | .nil, _, _, _ => trivial
  | .cons t nd b r, n, h, hs => by
    rw [strangeP] at hs
    simp only [Bool.or_eq_false_iff, Bool.and_eq_false_iff, decide_eq_false_iff_not] at hs
    refine ⟨fun hb => ⟨(h.1 hb).1, ?_⟩, leafOk_strange b n h.2.1 hs.1.2, leafOk_strange r n h.2.2 hs.2⟩
    rcases hs.1.1 with e | e
    · rw [e] at hb; cases hb
    · omega
theorem nest_facts {l : Nest} (h : nestCheckE l = 0) : costN l ≤ 1300000 ∧ depthN l ≤ 17 ∧ LeafOk 32 l := by
  unfold nestCheckE at h
  split at h
  · rename_i h1; exact absurd h h1
  · rename_i h1
    have h0 : (nestE l 0 0).1 = 0 := Decidable.not_not.1 h1
    obtain ⟨c1, c2, c3, c4⟩ := nestE_count l 0 0 (by omega) h0
    have := nestE_le l 0 0 (by omega)
    refine ⟨?_, by omega, c4⟩
    rw [c1] at this
    have : leafN l * 17 ≤ 2048 * 17 := Nat.mul_le_mul_right _ (by omega)
    simp only [Nat.sub_zero] at c2
    omega
end Go.Proofs.Ytbmbfifempkhgaa
