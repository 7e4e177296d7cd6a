/- Lists lent to a call, one behind the other: a list of lists of the statement's own, with marked room behind each. -/
import Derived.Test.YtknmiiajeafjpaaRefB
import Derived.Test.YtknmiiajeafjpaaLent
import Derived.Test.YtknmiiajeafjpaaApart2
namespace Go.Proofs.Ytknmiiajeafjpaa
open Go.RowKit

section
variable {o o' o0 : Col} {C : Nat → Prop} {w w' w0 w2 : World} {c d : Nat}

def marks : List Int := List.replicate 4 (-7770777)

/-- a row's beginning -/
theorem owns_take {w : World} {base e n m : Nat} {sa : Option Addr} {cap : Nat} {xs : List Value} (h : w.ownsRow base e 1 (.slice sa n cap) n xs) (hp : 0 < n) (hm : m ≤ n) : w.ownsRow base e 1 (.slice sa m cap) m (xs.take m) := by
  have hl := h.1
  refine ⟨by simp at hl ⊢; omega, ?_⟩
  rcases h.2 with ⟨h1, h2⟩ | ⟨g, cap', cur, hv, hb, hg, hnc, hmx, hcs, ht⟩
  · omega
  · cases hv
    refine .inr ⟨g, cap, cur, rfl, hb, hg, by omega, hmx, hcs, ?_⟩
    rw [← ht, List.take_take]
    congr 1
    omega

theorem Own.lent {g cap : Nat} {zs : List Int} (h : Own w o c 3 1 (.slice (some ⟨g, 0, none⟩) (zs.length + 4) cap) (zs.length + 4) (ivs (zs ++ marks))) : Own w o c 3 1 (.slice (some ⟨g, 0, none⟩) zs.length cap) zs.length (ivs zs) := by
  refine ⟨?_, fun k hk => h.2 k hk⟩
  have := owns_take (m := zs.length) h.1 (by omega) (by omega)
  rwa [show (ivs (zs ++ marks)).take zs.length = ivs zs by simp [ivs]] at this

/-- the lists xss, lent -/
def Lents (w : World) (o : Col) (c : Nat) (v : Value) (xss : List (List Int)) : Prop :=
  ∃ vs, vs.length = xss.length ∧ Own w o c 22 1 v vs.length vs ∧ (∀ k, k < xss.length → ∃ g cap, vs[k]?.getD undef = .slice (some ⟨g, 0, none⟩) (xss[k]?.getD []).length cap ∧ Own w o c 3 1 (.slice (some ⟨g, 0, none⟩) ((xss[k]?.getD []).length + 4) cap) ((xss[k]?.getD []).length + 4) (ivs ((xss[k]?.getD []) ++ marks))) ∧
    (∀ i j B, i < j → j < xss.length → (vs[i]?.getD undef).ownBlock = some B → (vs[j]?.getD undef).ownBlock ≠ some B) ∧ ∀ i B, i < xss.length → (vs[i]?.getD undef).ownBlock = some B → v.ownBlock ≠ some B

theorem Lents.nil (w : World) (o : Col) (c : Nat) : Lents w o c (.slice none 0 0) [] := ⟨[], rfl, Own.nil _ _ _ _ _, fun k hk => by simp at hk, fun i j B _ hj => by simp at hj, fun i B hi => by simp at hi⟩
theorem Lents.turn {v : Value} {xss : List (List Int)} (h : Lents w o c v xss) (T : Turn o o' C w w') (hc : ¬ C c) : Lents w' o' c v xss := by
  obtain ⟨vs, h1, h2, h3, h4, h5⟩ := h
  refine ⟨vs, h1, h2.turn T hc, fun k hk => ?_, h4, h5⟩
  obtain ⟨g, cap, e, h⟩ := h3 k hk
  exact ⟨g, cap, e, h.turn T hc⟩
theorem Lents.outs {v : Value} {xss : List (List Int)} (h : Lents w o c v xss) : Outs w o c v xss := by
  obtain ⟨vs, h1, h2, h3, h4, h5⟩ := h
  refine ⟨vs, h1, h2, fun k hk => ?_, h4, h5⟩
  obtain ⟨g, cap, e, h⟩ := h3 k hk
  rw [e]
  exact h.lent
theorem Lents.slice {v : Value} {xss : List (List Int)} (h : Lents w o c v xss) : ∃ ao cap, v = .slice ao xss.length cap := h.outs.ll.slice

/-- one more is lent: u lies in a block that came behind w0 -/
theorem Lents.app {v v' : Value} {xss : List (List Int)} {l : List Int} {tmp : Obj} {g cap : Nat} (h0 : Lents w0 o0 c v xss) (T : Turn o0 o C w0 w) (hC : ¬ C c) (hu : Own w o c 3 1 (.slice (some ⟨g, 0, none⟩) (l.length + 4) cap) (l.length + 4) (ivs (l ++ marks))) (hg : w0.heap.size ≤ g) {m : Nat} (hm : m = xss.length)
    (k1 : w2.ownsRow 0 22 1 v' (m + 1) ((h0.choose) ++ [.slice (some ⟨g, 0, none⟩) l.length cap])) (k2 : (w.alloc tmp).grownBy w2 v.ownBlock) (k4 : v'.ownBlock = v.ownBlock ∨ v'.ownBlock = some (w.alloc tmp).heap.size) :
    Lents w2 (ext o w.heap.size c) c v' (xss ++ [l]) ∧ Turn o (ext o w.heap.size c) (fun x => x = c) w w2 := by
  subst hm
  obtain ⟨h1, h2, h3, h4, h5⟩ := h0.choose_spec
  generalize h0.choose = vs at *
  have h2' := h2.turn T hC
  have Tm : Turn o (ext o w.heap.size c) (fun x => x = c) w w2 :=
    Turn.of_mods o c (((Mods.refl (fun b => v.ownBlock = some b) w).alloc tmp).grown k2 (fun b hb _ => hb)) (fun b _ hb => h2'.2 b hb)
  have old : ∀ k, k < xss.length → ∃ g' cap', vs[k]?.getD undef = .slice (some ⟨g', 0, none⟩) (xss[k]?.getD []).length cap' ∧ g' < w0.heap.size ∧ v.ownBlock ≠ some g' ∧ Own w o c 3 1 (.slice (some ⟨g', 0, none⟩) ((xss[k]?.getD []).length + 4) cap') ((xss[k]?.getD []).length + 4) (ivs ((xss[k]?.getD []) ++ marks)) := fun k hk => by
    obtain ⟨g', cap', e, h⟩ := h3 k hk
    exact ⟨g', cap', e, (h.1.lt g' rfl).2, h5 k g' hk (by rw [e]; rfl), h.turn T hC⟩
  have hvg : v.ownBlock ≠ some g := fun e => by have := (h2.1.lt g e).2; omega
  have keep : ∀ {b k cp : Nat} {xs : List Value}, v.ownBlock ≠ some b → Own w o c 3 1 (.slice (some ⟨b, 0, none⟩) k cp) k xs → Own w2 (ext o w.heap.size c) c 3 1 (.slice (some ⟨b, 0, none⟩) k cp) k xs := fun {b k cp xs} hb h => by
    have hlt := (h.1.lt b rfl).2
    refine ⟨owns_kept h.1 (((Mods.refl (fun x => v.ownBlock = some x) w).alloc tmp).grown k2 (fun b hb _ => hb)) (fun j hj e => ?_), fun j hj => ?_⟩
    · cases hj; exact hb e
    · cases hj; exact (ext_old hlt).trans (h.2 b rfl)
  have hl : vs.length = xss.length := h1
  have hv' : ∀ b, b < w.heap.size → v.ownBlock ≠ some b → v'.ownBlock ≠ some b := fun b hb hn => by
    rcases k4 with k4 | k4
    · rw [k4]; exact hn
    · rw [k4]; intro e; have := Option.some.inj e; simp at this; omega
  refine ⟨⟨vs ++ [.slice (some ⟨g, 0, none⟩) l.length cap], by simp [hl], ⟨by simpa [hl] using k1, fun b hb => ?_⟩, fun k hk => ?_, fun i j B hij hj hB => ?_, fun i B hi hB => ?_⟩, Tm⟩
  · rcases k4 with k4 | k4
    · rw [k4] at hb; exact (ext_old (h2'.1.lt b hb).2).trans (h2'.2 b hb)
    · rw [k4] at hb; have := Option.some.inj hb; simp at this; exact ext_new (by omega)
  · by_cases e : k < xss.length
    · rw [List.getElem?_append_left (by omega), List.getElem?_append_left (by omega)]
      obtain ⟨g', cap', e1, _, e3, e4⟩ := old k e
      exact ⟨g', cap', e1, keep e3 e4⟩
    · obtain rfl : k = xss.length := by simp at hk; omega
      rw [← hl, List.getElem?_concat_length, hl, List.getElem?_concat_length]
      exact ⟨g, cap, rfl, keep hvg hu⟩
  · have hj' : j ≤ xss.length := by simp at hj; omega
    have hi : i < xss.length := by omega
    rw [List.getElem?_append_left (by omega)] at hB
    by_cases e : j < xss.length
    · rw [List.getElem?_append_left (by omega)]
      exact h4 i j B hij e hB
    · obtain rfl : j = xss.length := by omega
      rw [← hl, List.getElem?_concat_length]
      obtain ⟨g', cap', e1, e2, _⟩ := old i hi
      rw [e1] at hB
      intro e
      have a1 := Option.some.inj hB
      have a2 := Option.some.inj e
      simp at a1 a2
      omega
  · by_cases e : i < xss.length
    · rw [List.getElem?_append_left (by omega)] at hB
      obtain ⟨g', cap', e1, e2, e3, e4⟩ := old i e
      rw [e1] at hB
      have a1 : g' = B := Option.some.inj hB
      subst a1
      exact hv' g' (Nat.lt_of_lt_of_le e2 T.size) e3
    · obtain rfl : i = xss.length := by simp at hi; omega
      rw [← hl, List.getElem?_concat_length] at hB
      have a1 : g = B := Option.some.inj hB
      subst a1
      exact hv' g (hu.1.lt g rfl).2 hvg

/-- one of the lists lent -/
theorem Lents.at {ao : Option Addr} {m cap : Nat} {xss : List (List Int)} {k : Nat} (h : Lents w o c (.slice ao m cap) xss) (hk : k < xss.length) : ∃ b g cp, ao = some ⟨b, 0, none⟩ ∧ m = xss.length ∧ m ≤ cap ∧ w.cell? ⟨b, k, none⟩ = some (.slice (some ⟨g, 0, none⟩) (xss[k]?.getD []).length cp) ∧ Lends w g (xss[k]?.getD []).length cp (xss[k]?.getD []) := by
  obtain ⟨vs, h1, h2, h3, -, -⟩ := h
  obtain ⟨hm, hc, b, _, rfl, hcl, _, _⟩ := owns_cell h2.1 (by omega)
  obtain ⟨g, cp, e, hr⟩ := h3 k hk
  have := hcl k (vs[k]?.getD undef) (by simp [show k < vs.length by omega])
  rw [e] at this
  exact ⟨b, g, cp, rfl, by omega, by omega, this, lends_of_owns hr.1⟩
end
end Go.Proofs.Ytknmiiajeafjpaa

/- A firing, in one piece: what it answers, what is kept behind it; the reference's, and the actor's. -/
namespace Go.Proofs.Ytknmiiajeafjpaa
open Go.RowKit

/-- a firing: its error, what it gives, what is kept, how often it has fired -/
structure Shot where
  err : Int
  outs : List (List Int)
  keep : List Int
  n : Int
def shot (t : Int) (ps keep : List Int) (n : Int) (xss : List (List Int)) : Shot :=
  if xss.map (fun l => (l.length : Int)) = insP t ps then
    match reckP t ps keep xss with
    | some (outs, keep') => ⟨0, outs, keep', n + 1⟩
    | none => ⟨70, [], keep, n⟩
  else ⟨1, [], keep, n⟩

theorem rfire_uni {w : World} {o : Col} {c : Nat} {v insv : Value} {t n : Int} {ps keep : List Int} {xss : List (List Int)} (hK : Kp t ps keep) (h : RAct w o c v t ps keep n) (hins : LL w insv xss) (hf : ∀ l ∈ xss, ∀ x ∈ l, Fits x) (hn1 : Fits (n + 1)) :
    Calls Try.prog 40 #[v, insv] w fun e w' => ∃ v' ov, e = .returned (.tuple #[v', ov, .int .i64 (shot t ps keep n xss).err]) ∧ RAct w' (ext o w.heap.size c) c v' t ps (shot t ps keep n xss).keep (shot t ps keep n xss).n ∧ LLc w' (ext o w.heap.size c) c ov (shot t ps keep n xss).outs ∧ Below w.heap.size w w' := by
  have hc := rfire_any hK h hins hf hn1
  unfold shot
  by_cases hfit : xss.map (fun l => (l.length : Int)) = insP t ps
  · rw [decide_eq_true hfit] at hc
    rw [if_pos hfit]
    rcases hr : reckP t ps keep xss with _ | ⟨outs, keep'⟩
    · rw [hr] at hc
      refine hc.mono ?_
      rintro e w' ⟨rfl, hb⟩
      exact ⟨v, _, rfl, h.turn (Turn.of_below o c hb) (fun h => h), LLc.nil _ _ _, hb⟩
    · rw [hr] at hc
      refine hc.mono ?_
      rintro e w' ⟨v', ov, rfl, h1, h2, h3⟩
      exact ⟨v', ov, rfl, h1, h2, h3⟩
  · rw [decide_eq_false hfit] at hc
    rw [if_neg hfit]
    refine hc.mono ?_
    rintro e w' ⟨rfl, hb⟩
    exact ⟨v, _, rfl, h.turn (Turn.of_below o c hb) (fun h => h), LLc.nil _ _ _, hb⟩

theorem fire_uni {w : World} {o : Col} {c d b : Nat} {t : Int} {ps keep : List Int} {n : Int} {insv : Value} {xss : List (List Int)} (E : Nat) (hE : E ≠ c) (h : Act w o c d b t ps keep n) (hins : LL w insv xss) (hf : ∀ l ∈ xss, ∀ x ∈ l, Fits x) (hn1 : Fits (n + 1)) :
    Calls Try.prog 14 #[.pointer (some ⟨b, 0, none⟩), insv] w fun e w' => ∃ gv o', e = .returned (.tuple #[gv, .int .i64 (shot t ps keep n xss).err]) ∧ Turn o o' (fun x => x = c) w w' ∧ Act w' o' c d b t ps (shot t ps keep n xss).keep (shot t ps keep n xss).n ∧ Outs w' o' E gv (shot t ps keep n xss).outs := by
  unfold shot
  by_cases hfit : xss.map (fun l => (l.length : Int)) = insP t ps
  · rw [if_pos hfit]
    rcases hr : reckP t ps keep xss with _ | ⟨outs, keep'⟩
    · refine (Fire_fault h hins hf hn1 hfit hr).mono ?_
      rintro e w' ⟨rfl, hb⟩
      exact ⟨_, _, rfl, (Turn.of_below o E hb).mono (fun _ h => h.elim), h.below E hb, Outs.nil _ _ _⟩
    · refine (Fire_act E hE h hins hf hn1 hfit hr).mono ?_
      rintro e w' ⟨ov, o', rfl, h1, h2, h3⟩
      exact ⟨ov, o', rfl, h1, h2, h3⟩
  · rw [if_neg hfit]
    refine (Fire_arg h hins hf hn1 hfit).mono ?_
    rintro e w' ⟨rfl, hb⟩
    exact ⟨_, _, rfl, (Turn.of_below o E hb).mono (fun _ h => h.elim), h.below E hb, Outs.nil _ _ _⟩

theorem shot_lens {t : Int} {ps keep : List Int} {n : Int} {xss : List (List Int)} (hg : goodP t ps) : (shot t ps keep n xss).outs.length ≤ 64 ∧ ∀ j : Nat, ((shot t ps keep n xss).outs[j]?.getD []).length ≤ 64 := by
  unfold shot
  by_cases hfit : xss.map (fun l => (l.length : Int)) = insP t ps
  · rw [if_pos hfit]
    rcases hr : reckP t ps keep xss with _ | ⟨outs, keep'⟩
    · exact ⟨Nat.zero_le _, fun j => by simp⟩
    · exact ⟨reck_count hg hfit hr, fun j => reck_row hg hfit hr j⟩
  · rw [if_neg hfit]
    exact ⟨Nat.zero_le _, fun j => by simp⟩

/-- two lists of lists, each row in a block of its own: joined -/
theorem outs_join {w : World} {o : Col} {v : Value} {xss yss : List (List Int)} {vs us : List Value} {c e : Nat} (hce : c ≠ e)
    (hv : vs.length = xss.length) (h3 : ∀ k, k < xss.length → Own w o c 3 1 (vs[k]?.getD undef) (xss[k]?.getD []).length (ivs (xss[k]?.getD []))) (h4 : ∀ i j B, i < j → j < xss.length → (vs[i]?.getD undef).ownBlock = some B → (vs[j]?.getD undef).ownBlock ≠ some B)
    (hu : us.length = yss.length) (g3 : ∀ k, k < yss.length → Own w o e 3 1 (us[k]?.getD undef) (yss[k]?.getD []).length (ivs (yss[k]?.getD []))) (g4 : ∀ i j B, i < j → j < yss.length → (us[i]?.getD undef).ownBlock = some B → (us[j]?.getD undef).ownBlock ≠ some B)
    (hown : w.ownsRow 0 22 1 v (xss.length + yss.length) (vs ++ us)) (ho : ∀ k, v.ownBlock = some k → o k = c) (hx : ∀ i B, i < xss.length → (vs[i]?.getD undef).ownBlock = some B → v.ownBlock ≠ some B) :
    Outs w (fun k => if o k = e then c else o k) c v (xss ++ yss) := by
  have hoc : ∀ k, o k = c → (if o k = e then c else o k) = c := fun k h => by rw [h]; simp [hce]
  have hoe : ∀ k, o k = e → (if o k = e then c else o k) = c := fun k h => by simp [h]
  refine ⟨vs ++ us, by simp [hv, hu], ⟨by simpa [hv, hu] using hown, fun k hk => hoc k (ho k hk)⟩, fun k hk => ?_, fun i j B hij hj hB => ?_, fun i B hi hB => ?_⟩
  · by_cases hlt : k < xss.length
    · rw [List.getElem?_append_left (by omega), List.getElem?_append_left hlt]
      exact (h3 k hlt).recol (fun j hj => hoc j ((h3 k hlt).2 j hj))
    · have hk2 : k - xss.length < yss.length := by simp at hk; omega
      rw [List.getElem?_append_right (by omega), List.getElem?_append_right (by omega), hv]
      exact (g3 _ hk2).recol (fun j hj => hoe j ((g3 _ hk2).2 j hj))
  · by_cases hjl : j < xss.length
    · rw [List.getElem?_append_left (by omega)] at hB ⊢
      exact h4 i j B hij hjl hB
    · have hj2 : j - xss.length < yss.length := by simp at hj; omega
      rw [List.getElem?_append_right (by omega), hv]
      by_cases hil : i < xss.length
      · rw [List.getElem?_append_left (by omega)] at hB
        have a1 := (h3 i hil).2 B hB
        intro hB2
        have a2 := (g3 _ hj2).2 B hB2
        exact hce (a1.symm.trans a2)
      · rw [List.getElem?_append_right (by omega), hv] at hB
        exact g4 _ _ B (by omega) hj2 hB
  · by_cases hil : i < xss.length
    · rw [List.getElem?_append_left (by omega)] at hB
      exact hx i B hil hB
    · have hi2 : i - xss.length < yss.length := by simp at hi; omega
      rw [List.getElem?_append_right (by omega), hv] at hB
      have a2 := (g3 _ hi2).2 B hB
      intro h
      exact hce ((ho B h).symm.trans a2)

/-- the lists got, put behind the lists lent -/
theorem outs_app_join {w w2 : World} {o : Col} {v v' gv : Value} {xss yss : List (List Int)} (h : Outs w o 100 v xss) (g : Outs w o 101 gv yss) (k1 : w2.ownsRow 0 22 1 v' (xss.length + yss.length) (h.choose ++ g.choose)) (k2 : w.grownBy w2 v.ownBlock) (k4 : v'.ownBlock = v.ownBlock ∨ v'.ownBlock = some w.heap.size) :
    Outs w2 (fun k => if ext o w.heap.size 100 k = 101 then 100 else ext o w.heap.size 100 k) 100 v' (xss ++ yss) ∧ Turn o (ext o w.heap.size 100) (fun x => x = 100) w w2 := by
  obtain ⟨h1, h2, h3, h4, h5⟩ := h.choose_spec
  obtain ⟨g1, g2, g3, g4, g5⟩ := g.choose_spec
  generalize h.choose = vs at *
  generalize g.choose = us at *
  have Tm : Turn o (ext o w.heap.size 100) (fun x => x = 100) w w2 :=
    Turn.of_mods o 100 ((Mods.refl (fun b => v.ownBlock = some b) w).grown k2 (fun b hb _ => hb)) (fun b _ hb => h2.2 b hb)
  have keep : ∀ {u : Value} {k : Nat} {xs : List Value}, (∀ b, u.ownBlock = some b → v.ownBlock ≠ some b) → Own w o 100 3 1 u k xs → Own w2 (ext o w.heap.size 100) 100 3 1 u k xs := fun {u k xs} hb h => by
    refine ⟨owns_kept h.1 ((Mods.refl (fun x => v.ownBlock = some x) w).grown k2 (fun b hb _ => hb)) (fun j hj e => hb j hj e), fun j hj => ?_⟩
    exact (ext_old (h.1.lt j hj).2).trans (h.2 j hj)
  have hv' : ∀ b, b < w.heap.size → v.ownBlock ≠ some b → v'.ownBlock ≠ some b := fun b hb hn => by
    rcases k4 with k4 | k4
    · rw [k4]; exact hn
    · rw [k4]; intro e; have := Option.some.inj e; omega
  refine ⟨outs_join (c := 100) (e := 101) (by decide) h1 (fun k hk => keep (fun b hb => h5 k b hk hb) (h3 k hk)) h4 g1 (fun k hk => (g3 k hk).turn Tm (by decide)) g4 k1 (fun k hk => ?_) (fun i B hi hB => hv' B ((h3 i hi).1.lt B hB).2 (h5 i B hi hB)), Tm⟩
  rcases k4 with k4 | k4
  · rw [k4] at hk; exact (ext_old (h2.1.lt k hk).2).trans (h2.2 k hk)
  · rw [k4] at hk; have := Option.some.inj hk; exact ext_new (by omega)
end Go.Proofs.Ytknmiiajeafjpaa

/- The statements' 'fire': one firing beside the document's. -/
namespace Go.Proofs.Ytknmiiajeafjpaa
open Go.RowKit

/-- what 'fire' answers: both have gone on alike -/
def LawFired (w : World) (o : Col) (c d r b : Nat) (t : Int) (ps : List Int) (s : Shot) (e : Ending) (w' : World) : Prop :=
  ∃ v' o', e = .returned (.tuple #[v', .bool true]) ∧ Turn o o' (fun x => x = c ∨ 100 ≤ x) w w' ∧ Act w' o' c d b t ps s.keep s.n ∧ RAct w' o' r v' t ps s.keep s.n

theorem blk_new {w : World} {o : Col} {c n : Nat} (cs : Array Value) (t : TypeId) (hn : n = w.heap.size) (ho : o n = c) : Blk (w.alloc (.cells cs t)) o c n t cs := by
  subst hn
  exact ⟨heap_alloc_new w _, ho⟩

theorem lawfire_fin {w w7 w8 : World} {o o7 : Col} {c d r b : Nat} {t : Int} {ps : List Int} {s : Shot} {v : Value} {cs : Array Value} (hc : c ≠ 99) (hd : d ≠ 99) (hr : r ≠ 99) (hA : Act w7 o7 c d b t ps s.keep s.n) (hR : RAct w7 o7 r v t ps s.keep s.n)
    (hT : Turn o o7 (fun x => x = c ∨ 100 ≤ x) w w7) (hB : Blk w7 o7 99 (w.heap.size + 1) 48 cs) (hM : Mods (fun k => k = w.heap.size + 1) w7 w8) : LawFired w o c d r b t ps s (.returned (.tuple #[v, .bool true])) w8 := by
  have T : Turn o7 o7 (fun x => x = 99) w7 w8 := ⟨hM.mono (fun k _ e => by rw [e]; exact hB.2), fun _ _ => rfl⟩
  refine ⟨v, o7, rfl, ⟨hT.mods.trans hM (fun _ _ h => h) (fun k hk e => by omega), hT.same⟩, hA.turn T hc hd, hR.turn T hr⟩

set_option maxRecDepth 100000 in
set_option maxHeartbeats 8000000 in
theorem lawfire_any {w w0 : World} {o : Col} {c d r b : Nat} {t n : Int} {ps keep : List Int} {v insv : Value} {xss : List (List Int)} (hA : Act w o c d b t ps keep n) (hR : RAct w o r v t ps keep n) (hc : c < 100) (hd : d < 99) (hr : r < 99) (hrc : r ≠ c) (hc0 : c ≠ 0) (hc9 : c ≠ 99)
    (hK : Kept w0.heap.size o w0 w) (hins : LL w0 insv xss) (hf : ∀ l ∈ xss, ∀ x ∈ l, Fits x) (hn1 : Fits (n + 1)) (hl : xss.length ≤ 5864062014700) (hrl : ∀ l ∈ xss, l.length ≤ 17592186044000) :
    Calls Try.prog 28 #[.pointer (some ⟨b, 0, none⟩), v, insv] w (LawFired w o c d r b t ps (shot t ps keep n xss)) := by
  obtain ⟨j0, ji, jz0, jz1, jz2⟩ := info_parts info_ints
  have hKp := hA.kp
  have hsl := shot_lens (keep := keep) (n := n) (xss := xss) hKp.good
  obtain ⟨ia, ic, rfl⟩ := hins.slice
  have hR0 := hR
  obtain ⟨vp, vi, vo, vk, rfl, r1, r2, r3, r4⟩ := hR0
  obtain ⟨a1, c1, rfl⟩ := r1.slice
  obtain ⟨a2, c2, rfl⟩ := r2.slice
  obtain ⟨a3, c3, rfl⟩ := r3.slice
  obtain ⟨a4, c4, rfl⟩ := r4.slice
  clear r1 r2 r3 r4
  have hT0 : Turn o (ext o w.heap.size 99) (fun _ => False) w _ := Turn.of_below o 99 ((below_alloc w (.cells #[.int .u8 t, .slice a1 ps.length c1, .slice a2 (insP t ps).length c2, .slice a3 (outsP t ps).length c3, .slice a4 keep.length c4, .int .i64 n] 48)).alloc (by simp) (.cells #[.int .u8 0, .slice none 0 0, .slice none 0 0, .slice none 0 0, .slice none 0 0, .int .i64 0] 48))
  have hAb : Blk (w.alloc (.cells #[.int .u8 t, .slice a1 ps.length c1, .slice a2 (insP t ps).length c2, .slice a3 (outsP t ps).length c3, .slice a4 keep.length c4, .int .i64 n] 48)) (ext o w.heap.size 99) 99 w.heap.size 48 _ := blk_new _ _ rfl (ext_new (Nat.le_refl _))
  have hAb2 := hAb.turn (⟨(Mods.refl _ _).alloc (.cells #[.int .u8 0, .slice none 0 0, .slice none 0 0, .slice none 0 0, .slice none 0 0, .int .i64 0] 48), fun _ _ => rfl⟩ : Turn (ext o w.heap.size 99) (ext o w.heap.size 99) (fun _ => False) _ _) (fun h => h)
  have hBb := blk_new (w := w.alloc (.cells #[.int .u8 t, .slice a1 ps.length c1, .slice a2 (insP t ps).length c2, .slice a3 (outsP t ps).length c3, .slice a4 keep.length c4, .int .i64 n] 48)) (o := ext o w.heap.size 99) (c := 99) (n := w.heap.size + 1) #[.int .u8 0, .slice none 0 0, .slice none 0 0, .slice none 0 0, .slice none 0 0, .int .i64 0] 48 (by simp) (ext_new (by omega))
  have HA := Lib.hid (hA.turn hT0 (fun h => h) (fun h => h))
  have HR := Lib.hid (hR.turn hT0 (fun h => h))
  have HKT := Lib.hid (hK.turn hT0 (fun h => h))
  have HT0 := Lib.hid hT0
  have HAB := Lib.hid hAb2
  have HBB := Lib.hid hBb
  have HKP := Lib.hid hKp
  have HSL := Lib.hid hsl
  have HI := Lib.hid hins
  have HF := Lib.hid hf
  have HN1 := Lib.hid hn1
  have HRL := Lib.hid hrl
  have HLL := Lib.hid hl
  have hli : (xss.length : Int) ≤ 5864062014700 := by omega
  clear hA hR hT0 hAb hAb2 hBb hK hins hf hn1 hrl hsl hKp hl
  go_enter Try.func28, Try.ntmps28
  go_wp2_with fail
  obtain ⟨W, hW⟩ : ∃ W, W = (w.alloc (.cells #[.int .u8 t, .slice a1 ps.length c1, .slice a2 (insP t ps).length c2, .slice a3 (outsP t ps).length c3, .slice a4 keep.length c4, .int .i64 n] 48)).alloc (.cells #[.int .u8 0, .slice none 0 0, .slice none 0 0, .slice none 0 0, .slice none 0 0, .int .i64 0] 48) := ⟨_, rfl⟩
  rw [← hW] at HA HR HKT HT0 HAB HBB ⊢
  clear hW
  go_loopw [8, 9] (fun ov i wr => ∃ (k : Nat) (o1 : Col), k ≤ xss.length ∧ i = .int .i64 k ∧ Lents wr o1 100 ov (xss.take k) ∧ Turn (ext o w.heap.size 99) o1 (fun x => x = 100) W wr) (fun _ i _ => xss.length - (intOf i).toNat)
  case atStart => exact ⟨0, _, Nat.zero_le _, rfl, Lents.nil _ _ _, Turn.refl _ _ _⟩
  case round =>
    obtain ⟨k, o1, hk, rfl, hL, T1⟩ := hrel
    obtain ⟨sv, cv, rfl⟩ := hL.slice
    have htl : (xss.take k).length = k := by rw [List.length_take]; omega
    rw [htl] at hL ⊢
    by_cases hlt : k < xss.length
    · have hlti : (k : Int) < xss.length := by omega
      have hKr := HKT.out.turn T1 (by decide)
      obtain ⟨bi, oi, rfl, hci, hrow⟩ := HI.out.at (by omega)
      obtain ⟨a0, c0, hr0, hh0⟩ := hrow k hlt
      have hr1 := cell_later hKr.below hr0
      have hh1 := hh0.below hKr.below
      have hci1 : (xss.length : Int) ≤ ic := by omega
      have hrlk : (xss[k]?.getD []).length ≤ 17592186044000 := HRL.out _ (by simp [hlt])
      have HL := Lib.hid hL
      have HT1 := Lib.hid T1
      have HH1 := Lib.hid hh1
      have hst : xss.take (k + 1) = xss.take k ++ [xss[k]?.getD []] := by
        rw [List.take_succ_eq_append_getElem hlt]; simp [hlt]
      have HST := Lib.hid hst
      have HTL := Lib.hid htl
      clear hL T1 hKr hrow hr0 hh0 hh1 hst htl
      generalize xss[k]?.getD [] = l at *
      go_wp2_with fail
      refine (lent_has (by omega) HH1.out).mono ?_
      rintro e w5 ⟨g, cap, rfl, hown, hb5⟩
      have T5 := Turn.of_below o1 100 hb5
      have hu : Own w5 (ext o1 wr.heap.size 100) 100 3 1 (.slice (some ⟨g, 0, none⟩) (l.length + 4) cap) (l.length + 4) (ivs (l ++ marks)) := Own.made o1 100 hown
      have hgN : wr.heap.size ≤ g := (hown.lt g rfl).1
      have hro := (HL.out.choose_spec.2.1.turn T5 (fun h => h)).1
      rw [show HL.out.choose.length = k by rw [HL.out.choose_spec.1, HTL.out]] at hro
      have HU := Lib.hid hu
      have HT5 := Lib.hid T5
      have HRO := Lib.hid hro
      have hk58 := HLL.out
      clear hown hb5 T5 hu hro
      go_wp2_with (at_builtin; refine stop_here ?_)
      refine go_on ?_
      refine wpList_app rfl _ _ 29 rfl 0 22 j0 _ 1 24 Try.underlying29 ji jz0 jz1 jz2 rfl (.slice sv k cv) k _ rfl (HRO.out.alloc (.cells #[.slice (some ⟨g, 0, none⟩) l.length cap] 22)) (some ⟨w5.heap.size, 0, none⟩) 1 1 [.slice (some ⟨g, 0, none⟩) l.length cap] rfl rfl (fun h => by cases h) (news_alloc w5 [.slice (some ⟨g, 0, none⟩) l.length cap] 22) (by simp [Value.oneCell']) (by unfold maxLen; omega) (grow_ok (by omega)) (Nat.zero_le _) ?_
      intro v6 w6 k1 k20 _ k4
      have k2 : (w5.alloc (.cells #[.slice (some ⟨g, 0, none⟩) l.length cap] 22)).grownBy w6 (Value.slice sv k cv).ownBlock := ⟨k20.os, k20.tape, k20.output, k20.size, k20.block⟩
      obtain ⟨L6, T6⟩ := HL.out.app HT5.out (fun h => h) HU.out hgN HTL.out.symm k1 k2 k4
      have HL6 := Lib.hid (show Lents w6 _ 100 v6 (xss.take (k + 1)) by rw [HST.out]; exact L6)
      have HT6 := Lib.hid ((HT1.out.trans HT5.out (fun _ h => h.elim)).trans T6 (fun _ h => h))
      clear k1 k20 k2 k4 L6 T6 HL HT1 HU HT5 HRO HST HH1
      go_wp2
      go_roundw
      case rel => exact ⟨k + 1, _, by omega, by go_num, HL6.out, HT6.out⟩
      case measure => simp [intOf]; omega
    · obtain rfl : k = xss.length := by omega
      rw [List.take_of_length_le (Nat.le_refl _)] at hL
      have hA1 := HA.out.turn T1 (by omega) (by omega)
      have hR1 := HR.out.turn T1 (by omega)
      have hK1 := HKT.out.turn T1 (by decide)
      have hAB1 := HAB.out.turn T1 (by decide)
      have hBB1 := HBB.out.turn T1 (by decide)
      have hTT := (HT0.out.mono (D := fun x => x = c ∨ 100 ≤ x) (fun _ h => h.elim)).trans T1 (fun x h => .inr (by omega))
      have s0 := hAB1.cell 0 (.int .u8 t) rfl
      have s1 := hAB1.cell 1 (.slice a1 ps.length c1) rfl
      have s2 := hAB1.cell 2 (.slice a2 (insP t ps).length c2) rfl
      have s3 := hAB1.cell 3 (.slice a3 (outsP t ps).length c3) rfl
      have s4 := hAB1.cell 4 (.slice a4 keep.length c4) rfl
      have s5 := hAB1.cell 5 (.int .i64 n) rfl
      have HL1 := Lib.hid hL
      have HA1 := Lib.hid hA1
      have HR1 := Lib.hid hR1
      have HK1 := Lib.hid hK1
      have HBB1 := Lib.hid hBB1
      have HTT := Lib.hid hTT
      clear hL T1 hA1 hR1 hK1 hAB1 hBB1 hTT htl HA HR HKT HT0 HAB HBB
      go_wp2_with fail
      refine (rfire_uni HKP.out HR1.out (HI.out.below HK1.out.below) HF.out HN1.out).mono ?_
      rintro e w2 ⟨v', ov, rfl, hR2, hW2, hb2⟩
      have hR2' := hR2
      obtain ⟨vp, vi, vo, vk, rfl, r1, r2, r3, r4⟩ := hR2'
      obtain ⟨a5, c5, rfl⟩ := r1.slice
      obtain ⟨a6, c6, rfl⟩ := r2.slice
      obtain ⟨a7, c7, rfl⟩ := r3.slice
      obtain ⟨a8, c8, rfl⟩ := r4.slice
      obtain ⟨aw, cw, rfl⟩ := hW2.ll.slice
      clear r1 r2 r3 r4 s0 s1 s2 s3 s4 s5
      have T2 := Turn.of_below o1 r hb2
      have T3 := Turn.of_below (ext o1 wr.heap.size r) 99 (below_alloc w2 (.cells #[.int .u8 t, .slice a5 ps.length c5, .slice a6 (insP t ps).length c6, .slice a7 (outsP t ps).length c7, .slice a8 (shot t ps keep n xss).keep.length c8, .int .i64 (shot t ps keep n xss).n] 48))
      have T23 := T2.trans T3 (fun _ h => h)
      have hN3 : Blk (w2.alloc (.cells #[.int .u8 t, .slice a5 ps.length c5, .slice a6 (insP t ps).length c6, .slice a7 (outsP t ps).length c7, .slice a8 (shot t ps keep n xss).keep.length c8, .int .i64 (shot t ps keep n xss).n] 48)) (ext (ext o1 wr.heap.size r) w2.heap.size 99) 99 w2.heap.size 48 _ := blk_new _ _ rfl (ext_new (Nat.le_refl _))
      have HN3 := Lib.hid hN3
      have HA3 := Lib.hid (HA1.out.turn T23 (fun h => h) (fun h => h))
      have HL3 := Lib.hid (HL1.out.turn T23 (fun h => h))
      have HK3 := Lib.hid (HK1.out.turn T23 (fun h => h))
      have HB3 := Lib.hid (HBB1.out.turn T23 (fun h => h))
      have HR3 := Lib.hid (hR2.turn T3 (fun h => h))
      have HW3 := Lib.hid (hW2.turn T3 (fun h => h))
      have HTT3 := Lib.hid (HTT.out.trans T23 (fun _ h => h.elim))
      clear hR2 hW2 hb2 T2 T3 T23 hN3 HA1 HL1 HK1 HBB1 HR1 HTT
      go_wp2_with fail
      refine (fire_uni 101 (by omega) HA3.out HL3.out.outs.ll HF.out HN1.out).mono ?_
      rintro e w4 ⟨gv, o4, rfl, T4, hA4, hG4⟩
      obtain ⟨ag, cg, rfl⟩ := hG4.ll.slice
      have HN4 := Lib.hid (HN3.out.turn T4 (by omega))
      have HA4 := Lib.hid hA4
      have HL4 := Lib.hid (HL3.out.turn T4 (by omega))
      have HK4 := Lib.hid (HK3.out.turn T4 (by omega))
      have HB4 := Lib.hid (HB3.out.turn T4 (by omega))
      have HR4 := Lib.hid (HR3.out.turn T4 hrc)
      have HW4 := Lib.hid (HW3.out.turn T4 hrc)
      have HG4 := Lib.hid hG4
      have HTT4 := Lib.hid (HTT3.out.trans T4 (fun x h => .inl h))
      clear T4 hA4 hG4 HN3 HA3 HL3 HK3 HB3 HR3 HW3 HTT3
      obtain ⟨err, herr⟩ : ∃ err, (shot t ps keep n xss).err = err := ⟨_, rfl⟩
      rw [herr]
      obtain ⟨outs, houts⟩ : ∃ outs, (shot t ps keep n xss).outs = outs := ⟨_, rfl⟩
      rw [houts] at HG4 HW4 HSL ⊢
      clear herr houts
      have hol : (outs.length : Int) ≤ 64 := by have := HSL.out.1; omega
      go_wp2_with fail
      go_loopw [15] (fun i wq => ∃ k : Nat, k ≤ xss.length ∧ i = .int .i64 k ∧ ∃ q, wq = w4.drewN q) (fun i _ => xss.length - (intOf i).toNat)
      case atStart => exact ⟨0, Nat.zero_le _, rfl, 0, rfl⟩
      case round =>
        rename_i wr0 _ wr
        obtain ⟨k, hk, rfl, q, hq⟩ := hrel
        have HQ := Lib.hid hq
        by_cases hlt : k < xss.length
        · have hlti : (k : Int) < xss.length := by omega
          obtain ⟨bl, g, cp, rfl, -, hcv, hcl, hle⟩ := HL4.out.at hlt
          obtain ⟨bi, oi, rfl, hci, hrow⟩ := HI.out.at (by omega)
          obtain ⟨a0, c0, hr0, hh0⟩ := hrow k hlt
          have hbq : Below w4.heap.size w4 wr := by rw [hq]; exact below_n (Below.refl _ _) q
          have hcl1 := cell_later hbq hcl
          have hr1 := cell_later hbq (cell_later HK4.out.below hr0)
          have HLE := Lib.hid (hle.below hbq)
          have HH := Lib.hid ((hh0.below HK4.out.below).below hbq)
          have hrlk : (xss[k]?.getD []).length ≤ 17600000000000 := by
            have := HRL.out (xss[k]?.getD []) (by simp [hlt]); omega
          have hci1 : (xss.length : Int) ≤ ic := by omega
          have hcvi : (xss.length : Int) ≤ cv := by omega
          have HRK := Lib.hid hrlk
          clear hcl hr0 hrow hh0 hle hbq hrlk hq
          generalize xss[k]?.getD [] = l at *
          go_wp2
          go_quiet ((go_at_call 26; go_must (exact Calls.quiet_of (kept_yes _ l g cp a0 c0 HRK.out (HLE.out.below (below_n (Below.refl _ _) _)) (HH.out.below (below_n (Below.refl _ _) _))))))
          go_wp2
          go_roundw
          case rel => exact ⟨k + 1, by omega, by go_num, q + _, by rw [HQ.out]; exact World.drewN_drewN _ _ _⟩
          case measure => simp [intOf]; omega
        · obtain rfl : k = xss.length := by omega
          clear hq
          go_wp2_with fail
          go_loopw [16] (fun i wq => ∃ k : Nat, k ≤ outs.length ∧ i = .int .i64 k ∧ ∃ q, wq = w4.drewN q) (fun i _ => outs.length - (intOf i).toNat)
          case atStart => exact ⟨0, Nat.zero_le _, rfl, q, HQ.out⟩
          case round =>
            rename_i wr1 _ wr
            obtain ⟨j, hj, rfl, q7, hq7⟩ := hrel
            have HW := Lib.hid hq7
            have HA := Lib.hid (HG4.out.ll.below (below_n (Below.refl _ _) q7))
            have HP := Lib.hid (HW4.out.ll.below (below_n (Below.refl _ _) q7))
            rw [← hq7] at HA HP
            by_cases hlo : j < outs.length
            · obtain ⟨ba, ofa, rfl, hca, hrowa⟩ := HA.out.at (by omega)
              obtain ⟨bb2, ofb, rfl, hcb, hrowb⟩ := HP.out.at (by omega)
              obtain ⟨aa, ca, hra, hha⟩ := hrowa j hlo
              obtain ⟨ab, cb, hrb, hhb⟩ := hrowb j hlo
              have hloi : (j : Int) < outs.length := by omega
              have hcai : (outs.length : Int) ≤ cg := by omega
              have hcbi : (outs.length : Int) ≤ cw := by omega
              have HHA := Lib.hid hha
              have HHB := Lib.hid hhb
              have HLM := Lib.hid (HSL.out.2 j)
              clear hrowa hrowb hha hhb hq7
              generalize outs[j]?.getD [] = row at *
              go_wp2
              go_quiet ((go_at_call 16; go_must (exact Calls.quiet_of (sameints_yes (HHB.out.drewN _) (HHA.out.drewN _) (by have := HLM.out; omega)))))
              go_wp2
              go_roundw
              case rel => exact ⟨j + 1, by omega, by go_num, q7 + _, by rw [HW.out]; exact World.drewN_drewN _ _ _⟩
              case measure => simp [intOf]; omega
            · obtain rfl : j = outs.length := by omega
              clear HA HP
              have HN5 := Lib.hid (HN4.out.drewN q7)
              have HB5 := Lib.hid (HB4.out.drewN q7)
              have HL5 := Lib.hid (HL4.out.turn (Turn.of_quiet o4 ⟨q7, rfl⟩) (fun h => h))
              have HG5 := Lib.hid (HG4.out.turn (Turn.of_quiet o4 ⟨q7, rfl⟩) (fun h => h))
              have HA5 := Lib.hid (HA4.out.drewN q7)
              have HR5 := Lib.hid (HR4.out.turn (Turn.of_quiet o4 ⟨q7, rfl⟩) (fun h => h))
              have HTT5 := Lib.hid (HTT4.out.drewN q7)
              rw [← hq7] at HN5 HB5 HL5 HG5 HA5 HR5 HTT5
              clear hq7 HW HQ HN4 HB4 HL4 HG4 HA4 HR4 HW4 HK4 HTT4
              go_wp2_with fail
              have hsix : Six wr w2.heap.size (.int .u8 t) (.slice a5 ps.length c5) (.slice a6 (insP t ps).length c6) (.slice a7 (outsP t ps).length c7) (.slice a8 (shot t ps keep n xss).keep.length c8) (.int .i64 (shot t ps keep n xss).n) :=
                ⟨HN5.out.cell 0 _ rfl, HN5.out.cell 1 _ rfl, HN5.out.cell 2 _ rfl, HN5.out.cell 3 _ rfl, HN5.out.cell 4 _ rfl, HN5.out.cell 5 _ rfl⟩
              refine wp_region_rest (fun w' => Six w' w2.heap.size (.int .u8 t) (.slice a5 ps.length c5) (.slice a6 (insP t ps).length c6) (.slice a7 (outsP t ps).length c7) (.slice a8 (shot t ps keep n xss).keep.length c8) (.int .i64 (shot t ps keep n xss).n)) [0, 1, 2] [3, 4] 4 (by kernel_rfl) (by kernel_rfl) rfl hsix ?_
              clear hsix
              intro Q' hQ'
              simp only [pickOps, List.flatMap_cons, List.flatMap_nil, List.drop_succ_cons, List.drop_zero, List.take_succ_cons, List.take_zero, List.cons_append, List.nil_append, List.append_nil]
              repeat (first
                | (refine wpReads_skip (by rfl) ?_; (try simp only [Act.put, List.setIfInBounds_toArray, List.set_cons_zero, List.set_cons_succ]))
                | (refine wpReads_cons ?_ (by rfl) (by rfl) ?_ ?_; rotate_left; (intro wz hz; (try dsimp only at hz); go_simp; try with_reducible rfl); (try simp only [Act.put, List.setIfInBounds_toArray, List.set_cons_zero, List.set_cons_succ]))
                | (refine wpReads_any ?_ (by rfl) ?_ ?_; rotate_left; (intro wz; go_simp; try with_reducible rfl); (try simp only [Act.put, List.setIfInBounds_toArray, List.set_cons_zero, List.set_cons_succ])))
              refine wpReads_nil ?_
              refine wpAnyT_one (i := 3) (by kernel_rfl) ?_
              simp only [pickOps, List.flatMap_cons, List.flatMap_nil, List.drop_succ_cons, List.drop_zero, List.take_succ_cons, List.take_zero, List.cons_append, List.nil_append, List.append_nil]
              have HLo := Lib.hid HL5.out.outs
              have hown : wr.drew.ownsRow 0 22 1 (.slice sv xss.length cv) xss.length HLo.out.choose := by
                have h2 := HLo.out.choose_spec.2.1.1
                rwa [HLo.out.choose_spec.1] at h2
              obtain ⟨hgn, hgc⟩ := HG5.out.choose_spec.2.1.vals.news
              have hgl : HG5.out.choose.length = outs.length := HG5.out.choose_spec.1
              have hone : ∀ u ∈ HG5.out.choose, u.oneCell' = true := fun u hu => by
                obtain ⟨i, hi, rfl⟩ := List.getElem_of_mem hu
                obtain ⟨sa, sc, e⟩ := (HG5.out.choose_spec.2.2.1 i (by omega)).slice
                have : HG5.out.choose[i]?.getD undef = HG5.out.choose[i] := by simp [hi]
                rw [this] at e
                rw [e]; rfl
              go_wp2_with (at_builtin; refine stop_here ?_)
              refine go_on ?_
              refine wpList_app rfl _ _ 29 rfl 0 22 j0 _ 1 24 Try.underlying29 ji jz0 jz1 jz2 rfl (.slice sv xss.length cv) xss.length _ rfl hown ag outs.length cg HG5.out.choose rfl (by rw [hgl, Nat.mul_one]) (fun h => by have := hgn h; omega) hgc hone (by unfold maxLen; have := HLL.out; have := HSL.out.1; omega) (grow_ok (by have := HLL.out; have := HSL.out.1; omega)) (Nat.zero_le _) ?_
              intro v6 w6 k1 k20 _ k4
              have k2 : wr.grownBy w6 (Value.slice sv xss.length cv).ownBlock := ⟨k20.os, k20.tape, k20.output, k20.size, k20.block⟩
              obtain ⟨J6, T6⟩ := outs_app_join HLo.out HG5.out k1 k2 k4
              have hN6 := HN5.out.turn T6 (by decide)
              have HN6 := Lib.hid hN6
              have HJ6 := Lib.hid J6
              have HT6 := Lib.hid T6
              clear hown hgn hgc hgl hone k1 k20 k2 k4 J6 T6 hN6 HLo HL5 HG5
              go_wp2
              refine ⟨by intros; exact ⟨HN6.out.cell 0 _ rfl, HN6.out.cell 1 _ rfl, HN6.out.cell 2 _ rfl, HN6.out.cell 3 _ rfl, HN6.out.cell 4 _ rfl, HN6.out.cell 5 _ rfl⟩, ?_⟩
              refine wpAnyT_one (i := 4) (by kernel_rfl) ?_
              simp only [pickOps, List.flatMap_cons, List.flatMap_nil, List.drop_succ_cons, List.drop_zero, List.take_succ_cons, List.take_zero, List.cons_append, List.nil_append, List.append_nil]
              go_wp2_with fail
              refine (apart_yes HJ6.out (by simp; have := HLL.out; have := HSL.out.1; omega) (fun l hl => by
                rcases List.mem_append.1 hl with hl | hl
                · have := HRL.out l hl; omega
                · obtain ⟨i, hi, rfl⟩ := List.getElem_of_mem hl
                  have := HSL.out.2 i
                  rw [List.getElem?_eq_getElem hi, Option.getD_some] at this
                  omega)).mono ?_
              rintro e w7 ⟨rfl, hm7⟩
              have T7 : Turn (ext o4 wr.heap.size 100) (ext (ext o4 wr.heap.size 100) w6.heap.size 99) (fun x => 100 ≤ x) w6 w7 := Turn.of_mods _ 99 hm7 (fun k _ hk => by
                by_cases e : ext o4 wr.heap.size 100 k = 101
                · omega
                · simp only [e, if_false] at hk; omega)
              have hN7 := HN6.out.turn T7 (by decide)
              have hB7 := (HB5.out.turn HT6.out (by decide)).turn T7 (by decide)
              have HA7 := Lib.hid ((HA5.out.turn HT6.out (by omega) (by omega)).turn T7 (by omega) (by omega))
              have HR7 := Lib.hid ((HR5.out.turn HT6.out (by omega)).turn T7 (by omega))
              have HTT7 := Lib.hid ((HTT5.out.trans HT6.out (fun x h => .inr (by omega))).trans T7 (fun x h => .inr h))
              have HN7 := Lib.hid hN7
              have HB7 := Lib.hid hB7
              have q0 := hB7.cell 0 _ rfl
              have q1 := hB7.cell 1 _ rfl
              have q2 := hB7.cell 2 _ rfl
              have q3 := hB7.cell 3 _ rfl
              have q4 := hB7.cell 4 _ rfl
              have q5 := hB7.cell 5 _ rfl
              have f0 := hB7.frozen 0
              have f1 := hB7.frozen 1
              have f2 := hB7.frozen 2
              have f3 := hB7.frozen 3
              have f4 := hB7.frozen 4
              have f5 := hB7.frozen 5
              clear hm7 T7 hN7 hB7 HN5 HB5 HA5 HR5 HTT5 HN6 HJ6 HT6
              go_wp2
              refine ⟨by intros; exact ⟨HN7.out.cell 0 _ rfl, HN7.out.cell 1 _ rfl, HN7.out.cell 2 _ rfl, HN7.out.cell 3 _ rfl, HN7.out.cell 4 _ rfl, HN7.out.cell 5 _ rfl⟩, ?_⟩
              refine wpAnyT_list (ks := [5, 6]) (fun _ _ hx h => h.ext hx) (by kernel_rfl) ?_
              simp only [pickOps, List.flatMap_cons, List.flatMap_nil, List.drop_succ_cons, List.drop_zero, List.take_succ_cons, List.take_zero, List.cons_append, List.nil_append, List.append_nil]
              go_wp2
              have hK := block_setCell (block_setCell (block_setCell (block_setCell (block_setCell (block_setCell HB7.out.1 0 (.int .u8 t)) 1 (.slice a5 ps.length c5)) 2 (.slice a6 (insP t ps).length c6)) 3 (.slice a7 (outsP t ps).length c7)) 4 (.slice a8 (shot t ps keep n xss).keep.length c8)) 5 (.int .i64 (shot t ps keep n xss).n)
              refine bodyPost_ret_by (results_row_tmp rfl _ _ _ _ _ _ _ rfl hK Try.underlying48 rfl (by kernel_rfl)) rfl ?_
              exact lawfire_fin (by omega) (by omega) (by omega) HA7.out HR7.out HTT7.out HB7.out (mods6 (Mods.refl (fun k => k = w.heap.size + 1) w7) rfl)
end Go.Proofs.Ytknmiiajeafjpaa

/- The statements' 'ask': a question beside the document's answer. -/
namespace Go.Proofs.Ytknmiiajeafjpaa
open Go.RowKit

theorem Act.keep_le {w : World} {o : Col} {c d b : Nat} {t : Int} {ps keep : List Int} {n : Int} (h : Act w o c d b t ps keep n) : keep.length ≤ 16 := by
  obtain ⟨K, vi, vo, vt, vs, h⟩ := h
  by_cases h1 : t = 1
  · have h2 := (h.taps h1).2.2
    have h3 : 1 ≤ ps.length ∧ ps.length ≤ 16 := by have := h.good; subst h1; simpa [goodP] using this
    omega
  by_cases h8 : t = 8 ∨ t = 10
  · rw [h.keep1 h8]; omega
  · rw [h.keep2 h1 (fun e => h8 (.inl e)) (fun e => h8 (.inr e))]; simp


set_option maxRecDepth 100000 in
set_option maxHeartbeats 2000000 in
theorem ask_else {w : World} {o : Col} {c d r b : Nat} {t n k : Int} {ps keep : List Int} {v : Value} (hA : Act w o c d b t ps keep n) (hR : RAct w o r v t ps keep n) (k1 : ¬ k = 1) (k2 : ¬ k = 2) (k3 : ¬ k = 3) :
    Calls Try.prog 29 #[.pointer (some ⟨b, 0, none⟩), v, .int .i64 k] w fun e w' => e = .returned (.bool true) ∧ Below w.heap.size w w' := by
  have hKp := hA.kp
  have hkl := hA.keep_le
  obtain ⟨vp, vi, vo, vk, rfl, r1, r2, r3, r4⟩ := hR
  obtain ⟨a1, c1, rfl⟩ := r1.slice
  obtain ⟨a2, c2, rfl⟩ := r2.slice
  obtain ⟨a3, c3, rfl⟩ := r3.slice
  obtain ⟨a4, c4, rfl⟩ := r4.slice
  have hb0 := below_alloc w (.cells #[.int .u8 t, .slice a1 ps.length c1, .slice a2 (insP t ps).length c2, .slice a3 (outsP t ps).length c3, .slice a4 keep.length c4, .int .i64 n] 48)
  have HA := Lib.hid (hA.below 99 hb0)
  have HI := Lib.hid (r2.has.below hb0)
  have HO := Lib.hid (r3.has.below hb0)
  have HKV := Lib.hid (r4.has.below hb0)
  have HB0 := Lib.hid hb0
  have HKL := Lib.hid hkl
  have HS := Lib.hid (six_new w (.int .u8 t) (.slice a1 ps.length c1) (.slice a2 (insP t ps).length c2) (.slice a3 (outsP t ps).length c3) (.slice a4 keep.length c4) (.int .i64 n) 48)
  clear hA hKp hkl r1 r2 r3 r4 hb0
  have e1 : (k == 1) = false := beq_eq_false_iff_ne.2 k1
  have e2 : (k == 2) = false := beq_eq_false_iff_ne.2 k2
  have e3 : (k == 3) = false := beq_eq_false_iff_ne.2 k3
  go_enter Try.func29, Try.ntmps29
  go_wp2_with fail
  refine wp_region_mid (fun w' => Six w' w.heap.size (.int .u8 t) (.slice a1 ps.length c1) (.slice a2 (insP t ps).length c2) (.slice a3 (outsP t ps).length c3) (.slice a4 keep.length c4) (.int .i64 n)) [0, 2, 3] 1 [4, 5, 6, 8, 9] [1, 7, 10] 4 (by kernel_rfl) (by kernel_rfl) rfl HS.out ?_
  intro Q' hQ'
  simp only [pickOps, List.flatMap_cons, List.flatMap_nil, List.drop_succ_cons, List.drop_zero, List.take_succ_cons, List.take_zero, List.cons_append, List.nil_append, List.append_nil]
  repeat (first
    | (refine wpReads_skip (by rfl) ?_; (try simp only [Act.put, List.setIfInBounds_toArray, List.set_cons_zero, List.set_cons_succ]))
    | (refine wpReads_cons ?_ (by rfl) (by rfl) ?_ ?_; rotate_left; (intro wz hz; (try dsimp only at hz); go_simp; try with_reducible rfl); (try simp only [Act.put, List.setIfInBounds_toArray, List.set_cons_zero, List.set_cons_succ]))
    | (refine wpReads_any ?_ (by rfl) ?_ ?_; rotate_left; (intro wz; go_simp; try with_reducible rfl); (try simp only [Act.put, List.setIfInBounds_toArray, List.set_cons_zero, List.set_cons_succ])))
  refine wpReads_nil ?_
  go_wp2_with fail
  refine (Fired_act (HA.out.turn (Turn.of_quiet _ ⟨1, rfl⟩) (fun h => h) (fun h => h))).mono ?_
  rintro e _ ⟨rfl, rfl⟩
  go_wp2
  refine ⟨HS.out, ?_⟩
  repeat (first
    | (refine wpReads_skip (by rfl) ?_; (try simp only [Act.put, List.setIfInBounds_toArray, List.set_cons_zero, List.set_cons_succ]))
    | (refine wpReads_cons ?_ (by rfl) (by rfl) ?_ ?_; rotate_left; (intro wz hz; (try dsimp only at hz); go_simp; try with_reducible rfl); (try simp only [Act.put, List.setIfInBounds_toArray, List.set_cons_zero, List.set_cons_succ]))
    | (refine wpReads_any ?_ (by rfl) ?_ ?_; rotate_left; (intro wz; go_simp; try with_reducible rfl); (try simp only [Act.put, List.setIfInBounds_toArray, List.set_cons_zero, List.set_cons_succ])))
  refine wpReads_nil ?_
  refine wpAnyT_one (i := 7) (by kernel_rfl) ?_
  simp only [pickOps, List.flatMap_cons, List.flatMap_nil, List.drop_succ_cons, List.drop_zero, List.take_succ_cons, List.take_zero, List.cons_append, List.nil_append, List.append_nil]
  go_wp2_with fail
  refine (State_act (HA.out.turn (Turn.of_quiet _ ⟨1, rfl⟩) (fun h => h) (fun h => h))).mono ?_
  rintro e w4 ⟨sv, rfl, so, hb4⟩
  obtain ⟨sa, sc, rfl⟩ := owns_slice so
  have hb4' := below_drew' hb4
  have HV4 := Lib.hid (Own.made (fun _ => 0) 5 so).vals.has
  have HK4 := Lib.hid (HKV.out.below hb4')
  have HB4 := Lib.hid (HB0.out.trans (hb4'.mono HB0.out.size))
  have HS4 := Lib.hid (HS.out.below hb4')
  clear so hb4 hb4'
  go_wp2
  refine ⟨by intros; exact HS4.out, ?_⟩
  refine wpAnyT_one (i := 10) (by kernel_rfl) ?_
  simp only [pickOps, List.flatMap_cons, List.flatMap_nil, List.drop_succ_cons, List.drop_zero, List.take_succ_cons, List.take_zero, List.cons_append, List.nil_append, List.append_nil]
  go_wp2_with fail
  refine (sameints_yes HV4.out HK4.out (by have := HKL.out; omega)).mono ?_
  rintro e w5 ⟨rfl, m5, rfl⟩
  go_wp2
  refine ⟨by intros; exact HS4.out, ?_⟩
  refine wpAnyT_list (ks := [11, 12]) (fun _ _ hx h => h.ext hx) (by kernel_rfl) ?_
  simp only [pickOps, List.flatMap_cons, List.flatMap_nil, List.drop_succ_cons, List.drop_zero, List.take_succ_cons, List.take_zero, List.cons_append, List.nil_append, List.append_nil]
  go_wp2
  go_ret
  exact ⟨rfl, below_n HB4.out m5⟩

set_option maxRecDepth 100000 in
set_option maxHeartbeats 2000000 in
theorem ask_3 {w : World} {o : Col} {c d r b : Nat} {t n : Int} {ps keep : List Int} {v : Value} (hA : Act w o c d b t ps keep n) (hR : RAct w o r v t ps keep n) :
    Calls Try.prog 29 #[.pointer (some ⟨b, 0, none⟩), v, .int .i64 3] w fun e w' => e = .returned (.bool true) ∧ Below w.heap.size w w' := by
  have hKp := hA.kp
  have hkl := hA.keep_le
  obtain ⟨vp, vi, vo, vk, rfl, r1, r2, r3, r4⟩ := hR
  obtain ⟨a1, c1, rfl⟩ := r1.slice
  obtain ⟨a2, c2, rfl⟩ := r2.slice
  obtain ⟨a3, c3, rfl⟩ := r3.slice
  obtain ⟨a4, c4, rfl⟩ := r4.slice
  have hb0 := below_alloc w (.cells #[.int .u8 t, .slice a1 ps.length c1, .slice a2 (insP t ps).length c2, .slice a3 (outsP t ps).length c3, .slice a4 keep.length c4, .int .i64 n] 48)
  have HA := Lib.hid (hA.below 99 hb0)
  have HI := Lib.hid (r2.has.below hb0)
  have HO := Lib.hid (r3.has.below hb0)
  have HKV := Lib.hid (r4.has.below hb0)
  have HB0 := Lib.hid hb0
  have HKL := Lib.hid hkl
  have HS := Lib.hid (six_new w (.int .u8 t) (.slice a1 ps.length c1) (.slice a2 (insP t ps).length c2) (.slice a3 (outsP t ps).length c3) (.slice a4 keep.length c4) (.int .i64 n) 48)
  clear hA hKp hkl r1 r2 r3 r4 hb0
  go_enter Try.func29, Try.ntmps29
  go_wp2
  go_quiet ((go_at_call 15; exact Calls.quiet_of_same ((Fired_act (HA.out.turn (Turn.of_quiet _ ⟨_, rfl⟩) (fun h => h) (fun h => h))).mono fun e w' ⟨h1, h2⟩ => ⟨h1, h2.symm⟩)))
  go_wp2
  go_ret
  exact ⟨rfl, below_n HB0.out _⟩
end Go.Proofs.Ytknmiiajeafjpaa
