/- code's walk, plainly; its stack in memory. No function in sight. -/
import Derived.Test.YtbmbfifempkhgaaEmitSmallZ4
import Derived.Test.YtbmbfifempkhgaaEmitSmallZ3
import Derived.Test.YtbmbfifempkhgaaEmitSmallZ2
namespace Go.Proofs.Ytbmbfifempkhgaa
open Go.RowKit

/-- the stack: the bottom's steps; the frames, the top first: a head's place, the steps so far -/
abbrev CSt := Int × List (Nat × Int)
def opP (P : GProg) (p : Nat) : GOp := P.ops[p]?.getD ⟨0, 0, 0⟩
def topS : CSt → Int
  | (b, []) => b
  | (_, (_, s) :: _) => s
def topP : CSt → Int
  | (_, []) => -1
  | (_, (p, _) :: _) => p
def setS (s' : Int) : CSt → CSt
  | (_, []) => (s', [])
  | (b, (p, _) :: r) => (b, (p, s') :: r)
def addS (k : Int) (st : CSt) : CSt := setS (capI (topS st + k)) st
def allP (times round : Int) : Int := if round ≤ 131072 / times then 1 + times * round else 131073
def cstepE (P : GProg) (x : GOp) (st : CSt) : Int :=
  if x.kind = 1 then (if st.2.any (fun f => decide ((opP P f.1).a = x.a)) then 201 else 0)
  else if x.kind = 2 then (match st.2 with | [] => 201 | (p, _) :: _ => if (opP P p).a ≠ x.a ∨ x.b ≠ p + 1 then 201 else 0)
  else if x.kind = 0 then (if st.2 = [] then 0 else 201)
  else 0
def cstepS (P : GProg) (i : Nat) (x : GOp) (st : CSt) : CSt :=
  if x.kind = 1 then (st.1, (i, 0) :: st.2)
  else if x.kind = 2 then (match st.2 with | [] => st | (p, s) :: r => addS (allP (opP P p).b (s + 1)) (st.1, r))
  else addS 1 st
def cendE (P : GProg) (st : CSt) : Int × Int := if P.ops.length = 0 ∨ (opP P (P.ops.length - 1)).kind ≠ 0 then (0, 200) else if 131072 < st.1 then (0, 5) else (st.1, 0)
/-- the steps, and the error -/
def cwalkE (P : GProg) : List GOp → Nat → CSt → Int × Int
  | [], _, st => cendE P st
  | x :: r, i, st => if !soundOp P i x then (0, 200) else if cstepE P x st ≠ 0 then (0, cstepE P x st) else cwalkE P r (i + 1) (cstepS P i x st)

/-- what holds of the stack -/
structure StOk (P : GProg) (i : Nat) (st : CSt) : Prop where
  bot : 0 ≤ st.1 ∧ st.1 ≤ 131073
  frames : ∀ f ∈ st.2, f.1 < i ∧ 1 ≤ (opP P f.1).b ∧ (opP P f.1).b ≤ 2048 ∧ 0 ≤ f.2 ∧ f.2 ≤ 131073
  len : st.2.length ≤ i

theorem capI_ok {n : Int} (h : 0 ≤ n) : 0 ≤ capI n ∧ capI n ≤ 131073 := by unfold capI; split <;> omega
theorem topS_ok {P : GProg} {i : Nat} {st : CSt} (h : StOk P i st) : 0 ≤ topS st ∧ topS st ≤ 131073 := by
  obtain ⟨b, fr⟩ := st
  cases fr with
  | nil => exact h.bot
  | cons f r => exact (h.frames f List.mem_cons_self).2.2.2
theorem setS_len (s : Int) (st : CSt) : (setS s st).2.length = st.2.length := by
  obtain ⟨b, fr⟩ := st
  cases fr <;> rfl
theorem addS_ok {P : GProg} {i : Nat} {st : CSt} {k : Int} (h : StOk P i st) (hk : 0 ≤ k) : StOk P i (addS k st) := by
  have ht := topS_ok h
  have hc := capI_ok (show 0 ≤ topS st + k by omega)
  obtain ⟨b, fr⟩ := st
  cases fr with
  | nil => exact ⟨hc, (fun f hf => by cases hf), Nat.zero_le _⟩
  | cons f r =>
    refine ⟨h.bot, fun g hg => ?_, h.len⟩
    have h1 := h.frames f List.mem_cons_self
    rcases List.mem_cons.1 hg with rfl | hg
    · exact ⟨h1.1, h1.2.1, h1.2.2.1, hc⟩
    · exact h.frames g (List.mem_cons_of_mem _ hg)
theorem StOk.later {P : GProg} {i : Nat} {st : CSt} (h : StOk P i st) : StOk P (i + 1) st := ⟨h.bot, fun f hf => by have := h.frames f hf; exact ⟨by omega, this.2⟩, by have := h.len; omega⟩
theorem StOk.pop {P : GProg} {i : Nat} {b : Int} {f : Nat × Int} {r : List (Nat × Int)} (h : StOk P i (b, f :: r)) : StOk P i (b, r) := ⟨h.bot, fun g hg => h.frames g (List.mem_cons_of_mem _ hg), by have := h.len; simp only [List.length_cons] at this; show r.length ≤ i; omega⟩
theorem allP_ok {t r : Int} (ht : 1 ≤ t) (hr : 0 ≤ r) : 0 ≤ allP t r ∧ allP t r ≤ 131073 := by
  unfold allP
  split
  · rename_i h
    have h1 : t * r ≤ t * (131072 / t) := Int.mul_le_mul_of_nonneg_left h (by omega)
    have h2 : t * (131072 / t) ≤ 131072 := Int.mul_ediv_self_le (by omega)
    have h3 : 0 ≤ t * r := Int.mul_nonneg (by omega) hr
    omega
  · omega
theorem cstep_ok {P : GProg} {i : Nat} {x : GOp} {st : CSt} (h : StOk P i st) (hi : i < P.ops.length) (hx : P.ops[i] = x) (hs : soundOp P i x = true) : StOk P (i + 1) (cstepS P i x st) := by
  unfold cstepS
  by_cases h1 : x.kind = 1
  · rw [if_pos h1]
    have ho : opP P i = x := by unfold opP; rw [List.getElem?_eq_getElem hi, hx]; rfl
    unfold soundOp at hs
    rw [if_neg (by omega)] at hs
    simp only [limP, h1, Bool.and_eq_true, decide_eq_true_eq] at hs
    refine ⟨h.bot, fun f hf => ?_, by have := h.len; simp only [List.length_cons]; omega⟩
    rcases List.mem_cons.1 hf with rfl | hf
    · rw [ho]
      simp at hs
      exact ⟨by omega, by omega, by omega, by omega, by show (0 : Int) ≤ 131073; omega⟩
    · exact (h.later).frames f hf
  · rw [if_neg h1]
    by_cases h2 : x.kind = 2
    · rw [if_pos h2]
      obtain ⟨b, fr⟩ := st
      cases fr with
      | nil => exact h.later
      | cons f r =>
        have hf := h.frames f List.mem_cons_self
        exact addS_ok h.pop.later (allP_ok hf.2.1 (by omega)).1
    · rw [if_neg h2]
      exact addS_ok h.later (by omega)

/-- the stack's cells, the bottom first -/
def frV (f : Nat × Int) : List Value := [.int .i64 f.1, .int .i64 f.2]
def stV (st : CSt) : List Value := [.int .i64 (-1), .int .i64 st.1] ++ st.2.reverse.flatMap frV
theorem frV_len (l : List (Nat × Int)) : (l.flatMap frV).length = l.length * 2 := flatV_len' l
  where flatV_len' : ∀ l : List (Nat × Int), (l.flatMap frV).length = l.length * 2
    | [] => rfl
    | x :: l => by rw [List.flatMap_cons, List.length_append, flatV_len' l]; simp [frV]; omega
theorem stV_len (st : CSt) : (stV st).length = (st.2.length + 1) * 2 := by
  rw [stV, List.length_append, frV_len]; simp; omega
theorem stV_push (b : Int) (fr : List (Nat × Int)) (p : Nat) (s : Int) : stV (b, (p, s) :: fr) = stV (b, fr) ++ [.int .i64 p, .int .i64 s] := by
  simp [stV, frV]
theorem stV_top (st : CSt) : (stV st)[st.2.length * 2]? = some (.int .i64 (topP st)) ∧ (stV st)[st.2.length * 2 + 1]? = some (.int .i64 (topS st)) := by
  obtain ⟨b, fr⟩ := st
  cases fr with
  | nil => exact ⟨rfl, rfl⟩
  | cons f r =>
    obtain ⟨p, s⟩ := f
    rw [stV_push]
    have hl := stV_len (b, r)
    dsimp only at hl ⊢
    simp only [List.length_cons]
    rw [List.getElem?_append_right (by omega), List.getElem?_append_right (by omega), show (r.length + 1) * 2 - (stV (b, r)).length = 0 by omega, show (r.length + 1) * 2 + 1 - (stV (b, r)).length = 1 by omega]
    exact ⟨rfl, rfl⟩
theorem stV_set (st : CSt) (s' : Int) : (stV st).set (st.2.length * 2 + 1) (.int .i64 s') = stV (setS s' st) := by
  obtain ⟨b, fr⟩ := st
  cases fr with
  | nil => rfl
  | cons f r =>
    obtain ⟨p, s⟩ := f
    rw [setS, stV_push, stV_push]
    have hl := stV_len (b, r)
    dsimp only at hl ⊢
    simp only [List.length_cons]
    rw [List.set_append_right _ _ (by omega), show (r.length + 1) * 2 + 1 - (stV (b, r)).length = 1 by omega]
    rfl
theorem stV_pop (b : Int) (f : Nat × Int) (fr : List (Nat × Int)) : (stV (b, f :: fr)).take ((fr.length + 1) * 2) = stV (b, fr) := by
  obtain ⟨p, s⟩ := f
  have hl := stV_len (b, fr)
  dsimp only at hl
  rw [stV_push, ← hl, List.take_left']
  rfl
theorem stV_at (st : CSt) {k : Nat} (hk : k < st.2.length) : (stV st)[(k + 1) * 2]? = some (.int .i64 ((st.2.reverse[k]'(by simpa using hk)).1 : Nat)) := by
  have key : ∀ (l : List (Nat × Int)) (k : Nat) (h : k < l.length), (l.flatMap frV)[k * 2]? = some (.int .i64 (l[k].1 : Nat)) := by
    intro l
    induction l with
    | nil => intro k h; simp at h
    | cons x l ih =>
      intro k h
      cases k with
      | zero => rfl
      | succ k =>
        rw [List.flatMap_cons, List.getElem?_append_right (by simp [frV]; omega)]
        have := ih k (by simpa using h)
        rw [show (k + 1) * 2 - (frV x).length = k * 2 by simp [frV]; omega, this]
        rfl
  rw [stV, List.getElem?_append_right (by simp; omega), show (k + 1) * 2 - ([Value.int .i64 (-1), Value.int .i64 st.1] : List Value).length = k * 2 by simp; omega]
  exact key _ _ _
theorem stV_at2 (st : CSt) {k : Nat} (hk : k < st.2.length) : (stV st)[(k + 1) * 2 + 1]? = some (.int .i64 (st.2.reverse[k]'(by simpa using hk)).2) := by
  have key : ∀ (l : List (Nat × Int)) (k : Nat) (h : k < l.length), (l.flatMap frV)[k * 2 + 1]? = some (.int .i64 l[k].2) := by
    intro l
    induction l with
    | nil => intro k h; simp at h
    | cons x l ih =>
      intro k h
      cases k with
      | zero => rfl
      | succ k =>
        rw [List.flatMap_cons, List.getElem?_append_right (by simp [frV]; omega)]
        have := ih k (by simpa using h)
        rw [show (k + 1) * 2 + 1 - (frV x).length = k * 2 + 1 by simp [frV]; omega, this]
        rfl
  rw [stV, List.getElem?_append_right (by simp; omega), show (k + 1) * 2 + 1 - ([Value.int .i64 (-1), Value.int .i64 st.1] : List Value).length = k * 2 + 1 by simp; omega]
  exact key _ _ _
theorem quo_ok {ob : Int} (h : 1 ≤ ob) : wrap64 (Int.tdiv 131072 ob) = 131072 / ob := by
  have e : Int.tdiv 131072 ob = 131072 / ob := Int.tdiv_eq_ediv_of_nonneg (by omega)
  have h1 : 0 ≤ 131072 / ob := Int.ediv_nonneg (by omega) (by omega)
  have h2 : 131072 / ob ≤ 131072 := Int.ediv_le_self _ (by omega)
  rw [e]
  exact IntWalk.wrap64_in _ (by omega)
theorem mul_ok {ob r : Int} (h : 1 ≤ ob) (hr : 0 ≤ r) (hle : r ≤ 131072 / ob) : 0 ≤ ob * r ∧ ob * r ≤ 131072 := by
  have h1 : ob * r ≤ ob * (131072 / ob) := Int.mul_le_mul_of_nonneg_left hle (by omega)
  have h2 : ob * (131072 / ob) ≤ 131072 := Int.mul_ediv_self_le (by omega)
  have h3 : 0 ≤ ob * r := Int.mul_nonneg (by omega) hr
  omega
theorem owns_shrink {w : World} {base e size n m : Nat} {xs : List Value} {ao : Option Addr} {cap : Nat} (h : w.ownsRow base e size (.slice ao n cap) n xs) (hm : m ≤ n) (hp : 0 < n) : w.ownsRow base e size (.slice ao m cap) m (xs.take (m * size)) := by
  rcases h.2 with ⟨e1, _⟩ | ⟨g, cap', cur, e1, hb, hg, hnc, hmx, hcs, ht⟩
  · cases e1; omega
  · cases e1
    have hl := h.1
    refine ⟨by rw [List.length_take]; have := Nat.mul_le_mul_right size hm; omega, .inr ⟨g, _, cur, rfl, hb, hg, by omega, hmx, hcs, ?_⟩⟩
    rw [← ht, List.take_take, Nat.min_eq_left (Nat.mul_le_mul_right size hm)]
end Go.Proofs.Ytbmbfifempkhgaa

/- Rows of plain records; a slice of fewer records. No function in sight. -/
namespace Go.Proofs.Ytbmbfifempkhgaa
open Go.RowKit

def flatV {α : Type} (hd : α → List Value) (l : List α) : List Value := l.flatMap hd
theorem flatV_len {α : Type} {hd : α → List Value} {sz : Nat} (hsz : ∀ a, (hd a).length = sz) : ∀ l : List α, (flatV hd l).length = l.length * sz
  | [] => by simp [flatV]
  | x :: l => by
    have ih := flatV_len hsz l
    have := hsz x
    simp only [flatV, List.flatMap_cons, List.length_append, List.length_cons, Nat.add_mul] at ih ⊢
    rw [ih]
    omega
theorem flatV_app {α : Type} (hd : α → List Value) (l m : List α) : flatV hd (l ++ m) = flatV hd l ++ flatV hd m := by simp [flatV]
theorem flatV_get {α : Type} {hd : α → List Value} {sz : Nat} (hsz : ∀ a, (hd a).length = sz) : ∀ (l : List α) (k i : Nat) (hk : k < l.length), i < sz → (flatV hd l)[k * sz + i]? = (hd l[k])[i]?
  | [], k, i, hk, hi => by simp at hk
  | x :: l, 0, i, hk, hi => by
    rw [Nat.zero_mul, Nat.zero_add]
    show (hd x ++ flatV hd l)[i]? = _
    have := hsz x
    rw [List.getElem?_append_left (by omega)]
    rfl
  | x :: l, k + 1, i, hk, hi => by
    have ih := flatV_get hsz l k i (by simpa using hk) hi
    have hl := hsz x
    show (hd x ++ flatV hd l)[(k + 1) * sz + i]? = _
    rw [List.getElem?_append_right (by rw [hl, Nat.add_mul]; omega), hl, show (k + 1) * sz + i - sz = k * sz + i by rw [Nat.add_mul]; omega, ih]
    rfl
/-- a record is its cells -/
def FlatR {α : Type} (hd : α → List Value) (_ : World) (a : α) (cs : List Value) : Prop := cs = hd a

section
variable {α : Type} {hd : α → List Value} {w w' : World} {o : Col} {c sz e : Nat} {l : List α}

/-- as what is appended -/
theorem Recs.news (hsz : ∀ a, (hd a).length = sz) (h0 : 0 < sz) {ao : Option Addr} {n cap : Nat} (h : Recs w sz (FlatR hd) (.slice ao n cap) l) : (ao = none → n = 0) ∧ ∀ ad, ao = some ad → ∀ j u, (flatV hd l)[j]? = some u → w.cell? (ad.add j) = some u := by
  rcases h with ⟨rfl, ao', cap', e⟩ | ⟨hp, b, off, cap', e, hl, hb, hcl⟩
  · cases e
    exact ⟨fun _ => rfl, fun _ _ j u hu => by simp [flatV] at hu⟩
  · cases e
    refine ⟨(fun h => by cases h), fun ad had j u hu => ?_⟩
    obtain rfl := Option.some.inj had
    rw [Addr.add_lit]
    have hj := (List.getElem?_eq_some_iff.1 hu).1
    rw [flatV_len hsz] at hj
    have hk : j / sz < l.length := Nat.div_lt_of_lt_mul (by rw [Nat.mul_comm]; exact hj)
    have hm : j % sz < sz := Nat.mod_lt _ h0
    have hjj : j / sz * sz + j % sz = j := by rw [Nat.mul_comm]; exact Nat.div_add_mod j sz
    obtain ⟨cs, h1, h2, h3⟩ := hcl (j / sz) hk
    have h4 := h3 (j % sz) hm
    rw [Nat.add_assoc, hjj] at h4
    rw [h4, show cs = hd l[j / sz] from h2]
    have h5 := flatV_get hsz l (j / sz) (j % sz) hk hm
    rw [hjj, hu] at h5
    rw [← h5]
    rfl
theorem Own.flat (hsz : ∀ a, (hd a).length = sz) {v : Value} (h : Own w o c e sz v l.length (flatV hd l)) : Recs w sz (FlatR hd) v l := by
  rcases h.1.2 with ⟨rfl, h0⟩ | ⟨G, cap, cur, rfl, _, hg, hnc, _⟩
  · rw [List.eq_nil_of_length_eq_zero h0]
    exact .inl ⟨rfl, none, 0, rfl⟩
  · by_cases hp : 0 < l.length
    · refine .inr ⟨hp, G, 0, cap, rfl, hnc, block_lt hg, fun k hk => ⟨hd l[k], hsz _, rfl, fun i hi => ?_⟩⟩
      have hg2 := flatV_get hsz l k i hk hi
      have hlen : i < (hd l[k]).length := by rw [hsz]; exact hi
      rw [List.getElem?_eq_getElem hlen] at hg2 ⊢
      have := h.1.cells (g := G) rfl _ _ hg2
      rw [Addr.add_lit] at this
      rw [Nat.add_assoc]
      exact this
    · rw [List.eq_nil_of_length_eq_zero (by omega : l.length = 0)]
      exact .inl ⟨rfl, some ⟨G, 0, none⟩, cap, rfl⟩
end
/-- the first records alone -/
theorem Recs.front {α : Type} {w : World} {sz : Nat} {R : World → α → List Value → Prop} {ao : Option Addr} {n cap : Nat} {l m : List α} (h : Recs w sz R (.slice ao n cap) (l ++ m)) : Recs w sz R (.slice ao l.length cap) l := by
  by_cases hp : 0 < l.length
  · obtain ⟨b, off, rfl, hc, hb, hcl⟩ := h.at (by simp; omega)
    refine .inr ⟨hp, b, off, cap, rfl, ?_, hb, fun k hk => ?_⟩
    · simp at hc; omega
    · obtain ⟨cs, h1, h2, h3⟩ := hcl k (by simp; omega)
      rw [List.getElem_append_left hk] at h2
      exact ⟨cs, h1, h2, h3⟩
  · rw [List.eq_nil_of_length_eq_zero (by omega : l.length = 0)]
    exact .inl ⟨rfl, ao, cap, rfl⟩
def portHd (p : GPort) : List Value := [.string p.name, .int .i64 p.actor, .int .i64 p.port]
def regionHd (r : GRegion) : List Value := [.int .i64 r.base, .int .i64 r.size]
def actorHd (a : GActor) : List Value := [.string a.name, .int .u8 a.tag]
def edgeHd (e : GEdge) : List Value := [.int .i64 e.src, .int .i64 e.sport, .int .i64 e.dst, .int .i64 e.dport]
theorem recs_mono {α : Type} {w : World} {sz : Nat} {R S : World → α → List Value → Prop} {v : Value} {l : List α} (h : Recs w sz R v l) (hRS : ∀ a cs, R w a cs → S w a cs) : Recs w sz S v l := by
  rcases h with h | ⟨hp, b, off, cap, e, hc, hb, hcl⟩
  · exact .inl h
  · refine .inr ⟨hp, b, off, cap, e, hc, hb, fun k hk => ?_⟩
    obtain ⟨cs, h1, h2, h3⟩ := hcl k hk
    exact ⟨cs, h1, hRS _ _ h2, h3⟩
end Go.Proofs.Ytbmbfifempkhgaa

/- HeavyGraph. -/
namespace Go.Proofs.Ytbmbfifempkhgaa
open Go.RowKit

def pSum (l : List GActor) : Nat := (l.map fun a => a.params.length).sum
def eSum (l : List GEdge) : Nat := (l.map fun a => a.start.length).sum
theorem pSum_take {l : List GActor} {j : Nat} (h : j < l.length) : pSum (l.take (j + 1)) = pSum (l.take j) + l[j].params.length := by
  rw [pSum, pSum, List.take_succ_eq_append_getElem h, List.map_append, List.sum_append]; simp
theorem eSum_take {l : List GEdge} {j : Nat} (h : j < l.length) : eSum (l.take (j + 1)) = eSum (l.take j) + l[j].start.length := by
  rw [eSum, eSum, List.take_succ_eq_append_getElem h, List.map_append, List.sum_append]; simp
def headN (g : GGraph) : Nat := g.actors.length + g.edges.length + g.ins.length + g.outs.length
/-- no part of it is great -/
structure Great (g : GGraph) : Prop where
  actors : g.actors.length ≤ 17600000000000
  edges : g.edges.length ≤ 17600000000000
  ins : g.ins.length ≤ 17600000000000
  outs : g.outs.length ≤ 17600000000000
  params : ∀ a ∈ g.actors, a.params.length ≤ 17600000000000
  starts : ∀ e ∈ g.edges, e.start.length ≤ 17600000000000
def HeavyRet (w : World) (g : GGraph) (e : Ending) (w' : World) : Prop := ∃ b, e = .returned (.bool b) ∧ (b = false → headN g + pSum g.actors + eSum g.edges ≤ 1048576) ∧ Below w.heap.size w w'


set_option maxRecDepth 100000 in
set_option maxHeartbeats 1000000 in
theorem heavy_graph (w : World) (vg : Value) (g : GGraph) (hg : HasGraph w vg g) (hgr : Great g) : Calls Try.prog 21 #[vg] w (HeavyRet w g) := by
  obtain ⟨va, ve, vi, vo, rfl, ra, re, ri, ro⟩ := hg.shape
  obtain ⟨aa, ac, rfl⟩ := ra.slice
  obtain ⟨ae, ec, rfl⟩ := re.slice
  obtain ⟨ai, ic, rfl⟩ := ri.slice
  obtain ⟨ao, oc, rfl⟩ := ro.slice
  have hb1 := below_alloc w (.cells #[.string g.name, .slice aa g.actors.length ac, .slice ae g.edges.length ec, .slice ai g.ins.length ic, .slice ao g.outs.length oc] 26)
  have hG := heap_alloc_new w (.cells #[.string g.name, .slice aa g.actors.length ac, .slice ae g.edges.length ec, .slice ai g.ins.length ic, .slice ao g.outs.length oc] 26)
  generalize hW : w.alloc (.cells #[.string g.name, .slice aa g.actors.length ac, .slice ae g.edges.length ec, .slice ai g.ins.length ic, .slice ao g.outs.length oc] 26) = W at *
  have y1 := cells_row _ _ hG 1 _ rfl
  have y2 := cells_row _ _ hG 2 _ rfl
  have y3 := cells_row _ _ hG 3 _ rfl
  have y4 := cells_row _ _ hG 4 _ rfl
  have RA := Lib.hid (ra.below actor_steady hb1)
  have RE := Lib.hid (re.below edge_steady hb1)
  have HB := Lib.hid hb1
  have GR := Lib.hid hgr
  have s1 := hgr.actors
  have s2 := hgr.edges
  have s3 := hgr.ins
  have s4 := hgr.outs
  obtain ⟨A, hA⟩ : ∃ x, headN g = x := ⟨_, rfl⟩
  have hA2 : A = g.actors.length + g.edges.length + g.ins.length + g.outs.length := hA.symm
  have HA := Lib.hid hA
  have e1 : IntKind.i64.wrap ((g.actors.length : Int) + g.edges.length) = (g.actors.length : Int) + g.edges.length := IntWalk.i64_in _ (by omega)
  have e2 : IntKind.i64.wrap ((g.actors.length : Int) + g.edges.length + g.ins.length) = (g.actors.length : Int) + g.edges.length + g.ins.length := IntWalk.i64_in _ (by omega)
  have e3 : IntKind.i64.wrap ((g.actors.length : Int) + g.edges.length + g.ins.length + g.outs.length) = (A : Int) := by rw [IntWalk.i64_in _ (by omega)]; omega
  clear ra re ri ro hgr hg hG hb1 hA
  go_enter Try.func21, Try.ntmps21
  go_wp2_with fail
  clear e1 e2 e3 y3 y4 hW
  obtain ⟨n, hn⟩ : ∃ x, g.actors.length = x := ⟨_, rfl⟩
  have HN := Lib.hid hn
  rw [hn] at s1 hA2 y1 y2 RA ⊢
  clear hn
  obtain ⟨m, hm⟩ : ∃ x, g.edges.length = x := ⟨_, rfl⟩
  have HM := Lib.hid hm
  rw [hm] at s2 hA2 y1 y2 RE ⊢
  clear hm
  go_loopw [3, 4] (fun x i wr => ∃ (k : Nat), k ≤ n ∧ i = .int .i64 k ∧ x = .int .i64 ((A + pSum (g.actors.take k) : Nat) : Int) ∧ A + pSum (g.actors.take k) ≤ 100000000000000 ∧ wr = W) (fun _ i _ => n - (intOf i).toNat)
  case atStart => exact ⟨0, Nat.zero_le _, rfl, by simp [pSum]; omega, by simp [pSum]; omega, rfl⟩
  case round =>
    obtain ⟨k, hk, rfl, rfl, hle, hWW⟩ := hrel
    obtain rfl := hWW.symm
    by_cases hgo : k < n ∧ A + pSum (g.actors.take k) ≤ 1048576
    · obtain ⟨hlt, hsm⟩ := hgo
      have hlti : (k : Int) < n := by omega
      have hlt2 : k < g.actors.length := by have := HN.out; omega
      have hsmi : ((A + pSum (g.actors.take k) : Nat) : Int) ≤ 1048576 := by omega
      obtain ⟨b0, off, rfl, hcap, hb0, hrec⟩ := RA.out.at (by omega)
      obtain ⟨cs, hcs, hPR, hcl⟩ := hrec k hlt2
      obtain ⟨xs, rfl, hst⟩ := hPR
      have c2 := hcl 2 (by omega)
      simp at c2
      obtain ⟨sa, sc, hxs⟩ := Ints.slice hst
      subst hxs
      have hcapi : (n : Int) ≤ ac := by have := HN.out; omega
      have hpk := GR.out.params _ (List.getElem_mem hlt2)
      have hT := pSum_take hlt2
      have hwr : IntKind.i64.wrap (((A + pSum (g.actors.take k) : Nat) : Int) + (g.actors[k].params.length : Int)) = ((A + pSum (g.actors.take (k + 1)) : Nat) : Int) := by rw [IntWalk.i64_in _ (by omega)]; omega
      obtain ⟨N, hN⟩ : ∃ x, A + pSum (g.actors.take k) = x := ⟨_, rfl⟩
      obtain ⟨N2, hN2⟩ : ∃ x, A + pSum (g.actors.take (k + 1)) = x := ⟨_, rfl⟩
      have hle2 : N2 ≤ 100000000000000 := by omega
      have HN2 := Lib.hid hN2
      rw [hN, hN2] at hwr
      rw [hN] at hsmi ⊢
      clear hcl hcs hrec hst hpk hT hN hN2 hle hsm
      generalize g.actors[k].params.length = z at *
      have hwr := Lib.hid hwr
      go_wp2_with fail
      go_roundw
      case rel => exact ⟨k + 1, hlt, by go_num, by rw [HN2.out], by rw [HN2.out]; exact hle2, by trivial⟩
      case measure => simp [intOf]; omega
    · obtain ⟨N, hN⟩ : ∃ x, A + pSum (g.actors.take k) = x := ⟨_, rfl⟩
      have HE : Hid (N ≤ 1048576 → N = A + pSum g.actors) := Lib.hid fun h => by
        have : k = n := by omega
        rw [← hN, List.take_of_length_le (by have := HN.out; omega)]
      rw [hN] at hle ⊢
      have hgo2 : k < n → ¬ N ≤ 1048576 := fun h h2 => hgo ⟨h, by omega⟩
      clear hN hgo RA
      by_cases hlt : k < n
      · have hlti : (k : Int) < n := by omega
        have hsmi : ¬ (N : Int) ≤ 1048576 := by have := hgo2 hlt; omega
        clear hgo2 hlt
        go_wp2_with fail
        go_loopw [3, 5] (fun x i wr => ∃ (k : Nat), k ≤ m ∧ i = .int .i64 k ∧ x = .int .i64 ((N + eSum (g.edges.take k) : Nat) : Int) ∧ N + eSum (g.edges.take k) ≤ 300000000000000 ∧ wr = W) (fun _ i _ => m - (intOf i).toNat)
        case atStart => exact ⟨0, Nat.zero_le _, rfl, by simp [eSum], by simp [eSum]; omega, rfl⟩
        case round =>
          obtain ⟨k, hk, rfl, rfl, hle, hWW⟩ := hrel
          obtain rfl := hWW.symm
          by_cases hgo : k < m ∧ N + eSum (g.edges.take k) ≤ 1048576
          · obtain ⟨hlt, hsm⟩ := hgo
            have hlti : (k : Int) < m := by omega
            have hlt2 : k < g.edges.length := by have := HM.out; omega
            have hsmi : ((N + eSum (g.edges.take k) : Nat) : Int) ≤ 1048576 := by omega
            obtain ⟨b0, off, rfl, hcap, hb0, hrec⟩ := RE.out.at (by omega)
            obtain ⟨cs, hcs, hPR, hcl⟩ := hrec k hlt2
            obtain ⟨xs, rfl, hst⟩ := hPR
            have c4 := hcl 4 (by omega)
            simp at c4
            obtain ⟨sa, sc, hxs⟩ := Ints.slice hst
            subst hxs
            have hcapi : (m : Int) ≤ ec := by have := HM.out; omega
            have hpk := GR.out.starts _ (List.getElem_mem hlt2)
            have hT := eSum_take hlt2
            have hwr : IntKind.i64.wrap (((N + eSum (g.edges.take k) : Nat) : Int) + (g.edges[k].start.length : Int)) = ((N + eSum (g.edges.take (k + 1)) : Nat) : Int) := by rw [IntWalk.i64_in _ (by omega)]; omega
            obtain ⟨N1, hN⟩ : ∃ x, N + eSum (g.edges.take k) = x := ⟨_, rfl⟩
            obtain ⟨N2, hN2⟩ : ∃ x, N + eSum (g.edges.take (k + 1)) = x := ⟨_, rfl⟩
            have hle2 : N2 ≤ 300000000000000 := by omega
            have HN2 := Lib.hid hN2
            rw [hN, hN2] at hwr
            rw [hN] at hsmi ⊢
            clear hcl hcs hrec hst hpk hT hN hN2 hle hsm
            generalize g.edges[k].start.length = z at *
            have hwr := Lib.hid hwr
            go_wp2_with fail
            go_roundw
            case rel => exact ⟨k + 1, hlt, by go_num, by rw [HN2.out], by rw [HN2.out]; exact hle2, by trivial⟩
            case measure => simp [intOf]; omega
          · obtain ⟨N1, hN⟩ : ∃ x, N + eSum (g.edges.take k) = x := ⟨_, rfl⟩
            have HE2 : Hid (N1 ≤ 1048576 → N1 = A + pSum g.actors + eSum g.edges) := Lib.hid fun h => by
              have e1 : k = m := by omega
              have e2 := HE.out (by omega)
              rw [← hN, e2, List.take_of_length_le (by have := HM.out; omega)]
            rw [hN] at hle ⊢
            have hgo2 : k < m → ¬ N1 ≤ 1048576 := fun h h2 => hgo ⟨h, by omega⟩
            clear hN hgo RE
            by_cases hbig : N1 ≤ 1048576
            · have hlti : ¬ (k : Int) < m := by have : ¬ k < m := fun h => hgo2 h hbig; omega
              have hbi : ¬ (1048576 : Int) < N1 := by omega
              have HBG := Lib.hid hbig
              clear hgo2 hbig
              go_wp2
              go_ret
              exact ⟨_, rfl, fun _ => by rw [HA.out, ← HE2.out HBG.out]; exact HBG.out, HB.out⟩
            · have hbi : (1048576 : Int) < N1 := by omega
              have hsm2 : ¬ (N1 : Int) ≤ 1048576 := by omega
              clear hgo2 hbig
              by_cases hlt : k < m
              · have hlti : (k : Int) < m := by omega
                clear hlt
                go_wp2
                go_ret
                exact ⟨_, rfl, (fun h => by cases h), HB.out⟩
              · have hlti : ¬ (k : Int) < m := by omega
                clear hlt
                go_wp2
                go_ret
                exact ⟨_, rfl, (fun h => by cases h), HB.out⟩
      · have hlti : ¬ (k : Int) < n := by omega
        clear hgo2 hlt
        go_wp2_with fail
        go_loopw [3, 5] (fun x i wr => ∃ (k : Nat), k ≤ m ∧ i = .int .i64 k ∧ x = .int .i64 ((N + eSum (g.edges.take k) : Nat) : Int) ∧ N + eSum (g.edges.take k) ≤ 300000000000000 ∧ wr = W) (fun _ i _ => m - (intOf i).toNat)
        case atStart => exact ⟨0, Nat.zero_le _, rfl, by simp [eSum], by simp [eSum]; omega, rfl⟩
        case round =>
          obtain ⟨k, hk, rfl, rfl, hle, hWW⟩ := hrel
          obtain rfl := hWW.symm
          by_cases hgo : k < m ∧ N + eSum (g.edges.take k) ≤ 1048576
          · obtain ⟨hlt, hsm⟩ := hgo
            have hlti : (k : Int) < m := by omega
            have hlt2 : k < g.edges.length := by have := HM.out; omega
            have hsmi : ((N + eSum (g.edges.take k) : Nat) : Int) ≤ 1048576 := by omega
            obtain ⟨b0, off, rfl, hcap, hb0, hrec⟩ := RE.out.at (by omega)
            obtain ⟨cs, hcs, hPR, hcl⟩ := hrec k hlt2
            obtain ⟨xs, rfl, hst⟩ := hPR
            have c4 := hcl 4 (by omega)
            simp at c4
            obtain ⟨sa, sc, hxs⟩ := Ints.slice hst
            subst hxs
            have hcapi : (m : Int) ≤ ec := by have := HM.out; omega
            have hpk := GR.out.starts _ (List.getElem_mem hlt2)
            have hT := eSum_take hlt2
            have hwr : IntKind.i64.wrap (((N + eSum (g.edges.take k) : Nat) : Int) + (g.edges[k].start.length : Int)) = ((N + eSum (g.edges.take (k + 1)) : Nat) : Int) := by rw [IntWalk.i64_in _ (by omega)]; omega
            obtain ⟨N1, hN⟩ : ∃ x, N + eSum (g.edges.take k) = x := ⟨_, rfl⟩
            obtain ⟨N2, hN2⟩ : ∃ x, N + eSum (g.edges.take (k + 1)) = x := ⟨_, rfl⟩
            have hle2 : N2 ≤ 300000000000000 := by omega
            have HN2 := Lib.hid hN2
            rw [hN, hN2] at hwr
            rw [hN] at hsmi ⊢
            clear hcl hcs hrec hst hpk hT hN hN2 hle hsm
            generalize g.edges[k].start.length = z at *
            have hwr := Lib.hid hwr
            go_wp2_with fail
            go_roundw
            case rel => exact ⟨k + 1, hlt, by go_num, by rw [HN2.out], by rw [HN2.out]; exact hle2, by trivial⟩
            case measure => simp [intOf]; omega
          · obtain ⟨N1, hN⟩ : ∃ x, N + eSum (g.edges.take k) = x := ⟨_, rfl⟩
            have HE2 : Hid (N1 ≤ 1048576 → N1 = A + pSum g.actors + eSum g.edges) := Lib.hid fun h => by
              have e1 : k = m := by omega
              have e2 := HE.out (by omega)
              rw [← hN, e2, List.take_of_length_le (by have := HM.out; omega)]
            rw [hN] at hle ⊢
            have hgo2 : k < m → ¬ N1 ≤ 1048576 := fun h h2 => hgo ⟨h, by omega⟩
            clear hN hgo RE
            by_cases hbig : N1 ≤ 1048576
            · have hlti : ¬ (k : Int) < m := by have : ¬ k < m := fun h => hgo2 h hbig; omega
              have hbi : ¬ (1048576 : Int) < N1 := by omega
              have HBG := Lib.hid hbig
              clear hgo2 hbig
              go_wp2
              go_ret
              exact ⟨_, rfl, fun _ => by rw [HA.out, ← HE2.out HBG.out]; exact HBG.out, HB.out⟩
            · have hbi : (1048576 : Int) < N1 := by omega
              have hsm2 : ¬ (N1 : Int) ≤ 1048576 := by omega
              clear hgo2 hbig
              by_cases hlt : k < m
              · have hlti : (k : Int) < m := by omega
                clear hlt
                go_wp2
                go_ret
                exact ⟨_, rfl, (fun h => by cases h), HB.out⟩
              · have hlti : ¬ (k : Int) < m := by omega
                clear hlt
                go_wp2
                go_ret
                exact ⟨_, rfl, (fun h => by cases h), HB.out⟩
end Go.Proofs.Ytbmbfifempkhgaa

/- code's walk. -/
namespace Go.Proofs.Ytbmbfifempkhgaa
open Go.RowKit

theorem info_frame : (Try.prog.info? 172).map (fun i => (i.zero, i.size, i.bytes)) = some (some (.agg #[.int .i64 0, .int .i64 0]), 2, 16) := by kernel_rfl
theorem cwalkE_cons {P : GProg} {j : Nat} (h : j < P.ops.length) {st : CSt} : cwalkE P (P.ops.drop j) j st = if !soundOp P j P.ops[j] then (0, 200) else if cstepE P P.ops[j] st ≠ 0 then (0, cstepE P P.ops[j] st) else cwalkE P (P.ops.drop (j + 1)) (j + 1) (cstepS P j P.ops[j] st) := by
  rw [List.drop_eq_getElem_cons h, cwalkE]
theorem own_at {w : World} {o : Col} {c e sz n : Nat} {v : Value} {xs : List Value} (h : Own w o c e sz v (n + 1) xs) : ∃ g cap, v = .slice (some ⟨g, 0, none⟩) (n + 1) cap ∧ n + 1 ≤ cap ∧ cap ≤ maxLen := by
  rcases h.1.2 with ⟨_, h0⟩ | ⟨g, cap, cur, e, _, _, hnc, hmx, _⟩
  · omega
  · exact ⟨g, cap, e, hnc, hmx⟩
theorem own_frozen {w : World} {o : Col} {c e sz n g cap : Nat} {xs : List Value} (h : Own w o c e sz (.slice (some ⟨g, 0, none⟩) n cap) n xs) (i : Nat) : w.frozen? ⟨g, i, none⟩ = false := by
  rcases h.1.2 with ⟨e, _⟩ | ⟨g', cap, cur, e, _, hg, _⟩
  · cases e
  · cases e
    exact frozen_of_block hg i
def PairRet (r : Int × Int) (w : World) (e : Ending) (w' : World) : Prop := e = .returned (.tuple #[.int .i64 r.1, .int .i64 r.2]) ∧ Below w.heap.size w w'





set_option maxRecDepth 100000 in
set_option maxHeartbeats 4000000 in
theorem cwalk_any (w : World) (v : Value) (P : GProg) (hv : HasProg w v P) (hz : Sized P) : Calls Try.prog 74 #[v] w (PairRet (cwalkE P P.ops 0 (0, [])) w) := by
  obtain ⟨vp, vl, vo, rfl, rp, rl, ro⟩ := hv
  obtain ⟨ap, cp, rfl⟩ := rp.slice
  obtain ⟨al, cl, rfl⟩ := rl.slice
  obtain ⟨ao, co, rfl⟩ := ro.slice
  have HV : Hid (HasProg w (.agg #[.int .i64 P.memory, .int .i64 P.counters, .int .i64 P.ins, .int .i64 P.outs, .slice ap P.parts.length cp, .slice al P.lines.length cl, .slice ao P.ops.length co]) P) := Lib.hid ⟨_, _, _, rfl, rp, rl, ro⟩
  have HRO := Lib.hid ro
  have HZ := Lib.hid hz
  have z9 := hz.ops
  obtain ⟨r, hr⟩ : ∃ r, cwalkE P P.ops 0 (0, []) = r := ⟨_, rfl⟩
  rw [hr]
  have HR : Hid (cwalkE P (P.ops.drop 0) 0 (0, []) = r) := Lib.hid hr
  clear rp rl ro hr hz
  have hb1 := below_alloc w (.cells #[.int .i64 P.memory, .int .i64 P.counters, .int .i64 P.ins, .int .i64 P.outs, .slice ap P.parts.length cp, .slice al P.lines.length cl, .slice ao P.ops.length co] 39)
  have T1 := Turn.of_below (fun _ => 0) 9 hb1
  have hX : Blk _ (ext (fun _ => 0) w.heap.size 9) 9 _ _ _ := ⟨heap_alloc_new w (.cells #[.int .i64 P.memory, .int .i64 P.counters, .int .i64 P.ins, .int .i64 P.outs, .slice ap P.parts.length cp, .slice al P.lines.length cl, .slice ao P.ops.length co] 39), ext_new (Nat.le_refl _)⟩
  have K1 := (Kept.start w).turn T1 (fun h => h)
  generalize hW : w.alloc (.cells #[.int .i64 P.memory, .int .i64 P.counters, .int .i64 P.ins, .int .i64 P.outs, .slice ap P.parts.length cp, .slice al P.lines.length cl, .slice ao P.ops.length co] 39) = W at *
  have hsW : W.heap.size = w.heap.size + 1 := by rw [← hW]; simp
  have hb2 := below_alloc W (.cells #[.int .i64 (-1), .int .i64 0] 172)
  have T2 := Turn.of_below (ext (fun _ => 0) w.heap.size 9) 4 hb2
  have HK := Lib.hid (K1.turn T2 (fun h => h))
  have HPB := Lib.hid (hX.turn T2 (fun h => h))
  have HOW : Hid (Own _ (ext (ext (fun _ => 0) w.heap.size 9) W.heap.size 4) 4 172 2 (.slice (some ⟨W.heap.size, 0, none⟩) 1 1) 1 (stV (0, []))) := Lib.hid ⟨⟨rfl, .inr ⟨W.heap.size, 1, _, rfl, Nat.zero_le _, heap_alloc_new W (.cells #[.int .i64 (-1), .int .i64 0] 172), Nat.le_refl _, by unfold maxLen; omega, rfl, rfl⟩⟩, fun k hk => by obtain rfl := Option.some.inj hk; exact ext_new (Nat.le_refl _)⟩
  have y6 := HPB.out.cell 6 _ rfl
  generalize ext (ext (fun _ => 0) w.heap.size 9) W.heap.size 4 = q0 at *
  rw [hsW] at HOW
  clear hb1 T1 hX K1 hb2 T2
  go_enter Try.func74, Try.ntmps74
  go_wp2_with fail
  clear hW y6
  obtain ⟨n, hn⟩ : ∃ x, P.ops.length = x := ⟨_, rfl⟩
  have HN := Lib.hid hn
  rw [hn] at HPB HV z9 HRO ⊢
  clear hn
  go_loopw [4, 20] (fun v i wl => ∃ (j : Nat) (q : Col) (st : CSt), j ≤ n ∧ i = .int .i64 j ∧ Kept w.heap.size q w wl ∧ Blk wl q 9 w.heap.size 39 #[.int .i64 P.memory, .int .i64 P.counters, .int .i64 P.ins, .int .i64 P.outs, .slice ap P.parts.length cp, .slice al P.lines.length cl, .slice ao n co] ∧ Own wl q 4 172 2 v (st.2.length + 1) (stV st) ∧ StOk P j st ∧ cwalkE P (P.ops.drop j) j st = r) (fun _ i _ => n - (intOf i).toNat)
  case atStart => exact ⟨0, q0, (0, []), Nat.zero_le _, rfl, HK.out, HPB.out, HOW.out, ⟨⟨Int.le_refl _, by decide⟩, (fun f hf => by cases hf), Nat.le_refl _⟩, HR.out⟩
  case round =>
    clear HK HPB HOW HR
    obtain ⟨j, q, st, hj, rfl, hK, hB, hO, hS, hE⟩ := hrel
    have HK := Lib.hid hK
    have HPB := Lib.hid hB
    have HOW := Lib.hid hO
    have HST := Lib.hid hS
    have HE := Lib.hid hE
    obtain ⟨m, hm⟩ : ∃ x, st.2.length = x := ⟨_, rfl⟩
    have HM := Lib.hid hm
    have hmj := hS.len
    rw [hm] at HOW hmj
    clear hK hB hO hS hE
    obtain ⟨g, cap, rfl, hmc, hmx⟩ := own_at HOW.out
    by_cases hlt : j < n
    · have hlti : (j : Int) < n := by omega
      have hlt2 : j < P.ops.length := by have := HN.out; omega
      have hEc := HE.out
      rw [cwalkE_cons hlt2] at hEc
      obtain ⟨hc9, _, bo, oo, rfl, o1, o2, o3⟩ := HasRow.opAt (HRO.out.below HK.out.below) (List.getElem?_eq_getElem hlt2)
      have hcoi : (n : Int) ≤ co := by omega
      have HEC := Lib.hid hEc
      have HSO : Hid (∀ (w : World) (v : Value), HasProg w v P → Calls Try.prog 94 #[v, .int .i64 j] w (Tells (.bool (soundOp P j P.ops[j])) w)) := Lib.hid fun w v h => csound_any w v P j h HZ.out hlt2
      have HNX : Hid (soundOp P j P.ops[j] = true → StOk P (j + 1) (cstepS P j P.ops[j] st)) := Lib.hid fun h => cstep_ok HST.out hlt2 rfl h
      obtain ⟨x, hx⟩ : ∃ x, P.ops[j] = x := ⟨_, rfl⟩
      rw [hx] at o1 o2 o3 HEC HSO HNX
      obtain ⟨kd, xa, xb⟩ := x
      dsimp only at o1 o2 o3
      clear hEc hx HE
      have hbX := below_alloc wr (.cells #[.int .u8 kd, .int .i64 xa, .int .i64 xb] 61)
      have TX := Turn.of_below q 8 hbX
      have HX : Hid (Blk _ (ext q wr.heap.size 8) 8 _ _ _) := Lib.hid ⟨heap_alloc_new wr (.cells #[.int .u8 kd, .int .i64 xa, .int .i64 xb] 61), ext_new (Nat.le_refl _)⟩
      have HK2 := Lib.hid (HK.out.turn TX (fun h => h))
      have HP2 := Lib.hid (HPB.out.turn TX (fun h => h))
      have HO2 := Lib.hid (HOW.out.turn TX (fun h => h))
      have p0 := HP2.out.cell 0 _ rfl
      have p1 := HP2.out.cell 1 _ rfl
      have p2 := HP2.out.cell 2 _ rfl
      have p3 := HP2.out.cell 3 _ rfl
      have p4 := HP2.out.cell 4 _ rfl
      have p5 := HP2.out.cell 5 _ rfl
      have p6 := HP2.out.cell 6 _ rfl
      clear hbX TX HK HPB HOW
      go_wp2_with fail
      clear p0 p1 p2 p3 p4 p5 p6 o1 o2 o3
      refine (HSO.out _ _ (HV.out.below HK2.out.below)).mono ?_
      rintro e w5 ⟨rfl, hb5⟩
      have T5 := Turn.of_below (ext q wr.heap.size 8) 8 hb5
      have HK := Lib.hid (HK2.out.turn T5 (fun h => h))
      have HPB := Lib.hid (HP2.out.turn T5 (fun h => h))
      have HOW := Lib.hid (HO2.out.turn T5 (fun h => h))
      have hX5 := HX.out.turn T5 (fun h => h)
      have HX5 := Lib.hid hX5
      have x0 := hX5.cell 0 _ rfl
      clear T5 hb5 HK2 HP2 HO2 HX HSO hX5
      generalize ext (ext q wr.heap.size 8) _ 8 = q at *
      obtain ⟨X, hXe⟩ : ∃ x, wr.heap.size = x := ⟨_, rfl⟩
      rw [hXe] at HX5 x0 ⊢
      clear hXe
      obtain ⟨F, hF⟩ : ∃ x, soundOp P j ⟨kd, xa, xb⟩ = x := ⟨_, rfl⟩
      rw [hF] at HEC HNX ⊢
      have HF := Lib.hid hF
      clear hF
      cases F with
      | false =>
        obtain rfl : r = (0, 200) := by rw [← HEC.out]; rfl
        go_wp2
        go_ret2
        exact ⟨rfl, HK.out.below⟩
      | true =>
        replace HNX := Lib.hid (HNX.out rfl)
        rw [if_neg (by simp)] at HEC
        have hmw : IntKind.i64.wrap ((m : Int) + 1 - 1) = (m : Int) := by rw [IntWalk.i64_in _ (by omega)]; omega
        have hmi : (m : Int) + 1 ≤ cap := by omega
        by_cases k1 : kd = 1
        · subst k1
          have hcn : 1 ≤ m + 1 := by omega
          have x1 := HX5.out.cell 1 _ rfl
          by_cases hc1 : cap = 1
          · subst hc1
            obtain ⟨hm0, HM0⟩ : m = 0 ∧ Hid (m = 0) := ⟨by omega, Lib.hid (by omega)⟩
            clear hm0
            go_wp2_with fail
            go_loopw [50] (fun i wl => i = .int .i64 0 ∧ wl = w5) (fun _ _ => 0)
            case atStart => exact ⟨rfl, rfl⟩
            case round =>
              obtain ⟨rfl, hww⟩ := hrel
              obtain rfl := hww.symm
              have hm00 := HM0.out
              subst hm00
              have hbl : Below w5.heap.size w5 w5 := Below.refl _ _
              have hnone : ∀ t (ht : t < st.2.reverse.length), t < 0 → (opP P (st.2.reverse[t]).1).a ≠ xa := fun t _ h => by omega
              clear x1 x0
              have hany : st.2.any (fun f => decide ((opP P f.1).a = xa)) = false := by
                rw [List.any_eq_false]
                intro f hf
                obtain ⟨t, ht, e⟩ := List.mem_iff_getElem.1 (List.mem_reverse.2 hf)
                have := hnone t ht (by rw [List.length_reverse] at ht; have := HM.out; omega)
                rw [e] at this
                simpa using this
              have e1 : cstepE P ⟨1, xa, xb⟩ st = 0 := by rw [cstepE, if_pos rfl, hany]; rfl
              rw [e1, if_neg (by simp)] at HEC
              have e2 : cstepS P j ⟨1, xa, xb⟩ st = (st.1, (j, 0) :: st.2) := by rw [cstepS, if_pos rfl]
              rw [e2] at HEC HNX
              clear e1 e2 hany hnone
              have TL := Turn.of_below q 8 hbl
              have HK9 := Lib.hid (HK.out.turn TL (fun h => h))
              have HP9 := Lib.hid (HPB.out.turn TL (fun h => h))
              have HO9 := Lib.hid (HOW.out.turn TL (fun h => h))
              clear TL hbl HK HPB HOW
              obtain ⟨i0, hi, hz0, hz1, hz2⟩ := info_parts info_frame
              go_wp2_with (at_builtin; refine stop_here ?_)
              refine go_on ?_
              refine wpList_app rfl _ _ 173 rfl 0 172 i0 _ 2 16 Try.underlying173 hi hz0 hz1 hz2 rfl (.slice (some ⟨g, 0, none⟩) (0 + 1) 1) (0 + 1) _ rfl (HO9.out.1.alloc (.cells #[.int .i64 j, .int .i64 0] 172)) (some ⟨w5.heap.size, 0, none⟩) 1 1 [.int .i64 j, .int .i64 0] rfl rfl (fun h => by cases h) (news_alloc w5 [.int .i64 j, .int .i64 0] 172) (by simp [Value.oneCell']) (by unfold maxLen; omega) (grow_ok (by omega)) (Nat.zero_le _) ?_
              intro v7 w7 k1 k20 _ k4
              have hm7 : Mods (fun b => (Value.slice (some ⟨g, 0, none⟩) (0 + 1) 1).ownBlock = some b) w5 w7 := ((Mods.refl _ w5).alloc _).grown k20 (fun b hb _ => hb)
              have T7 := Turn.of_mods (C := fun x => x = 4) _ 4 hm7 (fun b _ hb => HO9.out.2 b hb)
              have k3 : w7.ownsRow 0 172 2 v7 (0 + 1 + 1) (stV (st.1, (j, 0) :: st.2)) := by rw [stV_push]; exact k1
              have HK7 := Lib.hid (HK9.out.turn T7 (by decide))
              have HP7 := Lib.hid (HP9.out.turn T7 (by decide))
              have HO7 : Hid (Own w7 (ext _ w5.heap.size 4) 4 172 2 v7 (((st.1, (j, (0 : Int)) :: st.2) : CSt).2.length + 1) (stV (st.1, (j, 0) :: st.2))) := Lib.hid ⟨by simp only [List.length_cons]; rw [HM.out]; exact k3, fun b hb => by
                rcases k4 with k4 | k4
                · rw [k4] at hb
                  exact (ext_old (HO9.out.1.lt b hb).2).trans (HO9.out.2 b hb)
                · rw [k4] at hb
                  have e := Option.some.inj hb
                  simp at e
                  exact ext_new (by omega)⟩
              obtain ⟨sp7, cp7, rfl⟩ := owns_slice k3
              clear k1 k20 k4 hm7 T7 k3 HK9 HP9 HO9
              go_wp2
              go_roundw
              case rel => exact ⟨j + 1, _, (st.1, (j, 0) :: st.2), hlt, by go_num, HK7.out, HP7.out, HO7.out, HNX.out, HEC.out⟩
              case measure => simp [intOf]; omega
          · go_wp2_with fail
            go_loopw [50] (fun i wl => ∃ (k : Nat), k ≤ m ∧ i = .int .i64 k ∧ Below w5.heap.size w5 wl ∧ ∀ t (ht : t < st.2.reverse.length), t < k → (opP P (st.2.reverse[t]).1).a ≠ xa) (fun i _ => m - (intOf i).toNat)
            case atStart => exact ⟨0, Nat.zero_le _, rfl, Below.refl _ _, fun t _ h => by omega⟩
            case round =>
              obtain ⟨k, hk, rfl, hbl, hnone⟩ := hrel
              by_cases hkm : k < m
              · have hkmi : (k : Int) < m := by omega
                have hks : k < st.2.length := by have := HM.out; omega
                have hkr : k < st.2.reverse.length := by simpa using hks
                have f1 := HOW.out.1.cells (g := g) rfl _ _ (stV_at st hks)
                have f2 := HOW.out.1.cells (g := g) rfl _ _ (stV_at2 st hks)
                rw [Addr.add_lit, Nat.zero_add, show (k + 1) * 2 = 2 + k * 2 by omega] at f1
                rw [Addr.add_lit, Nat.zero_add, show (k + 1) * 2 + 1 = 2 + k * 2 + 1 by omega] at f2
                have hfr := HST.out.frames _ (List.mem_reverse.1 (List.getElem_mem hkr))
                have HNO : Hid ((opP P (st.2.reverse[k]).1).a ≠ xa → ∀ t (ht : t < st.2.reverse.length), t < k + 1 → (opP P (st.2.reverse[t]).1).a ≠ xa) := Lib.hid fun h t ht h2 => by
                  by_cases e : t = k
                  · subst e; exact h
                  · exact hnone t ht (by omega)
                have HAN : Hid ((opP P (st.2.reverse[k]).1).a = xa → st.2.any (fun f => decide ((opP P f.1).a = xa)) = true) := Lib.hid fun h => List.any_eq_true.2 ⟨_, List.mem_reverse.1 (List.getElem_mem hkr), by simpa using h⟩
                obtain ⟨fr, hfr2⟩ : ∃ x, st.2.reverse[k] = x := ⟨_, rfl⟩
                rw [hfr2] at f1 f2 hfr HNO HAN
                have hp : fr.1 < P.ops.length := by omega
                have hoP : opP P fr.1 = P.ops[fr.1] := by unfold opP; rw [List.getElem?_eq_getElem hp]; rfl
                obtain ⟨_, _, bo', oo', eb, _, o2, _⟩ := HasRow.opAt (HRO.out.below HK.out.below) (List.getElem?_eq_getElem hp)
                cases eb
                rw [← hoP] at o2
                obtain ⟨pp, hpp⟩ : ∃ x, fr.1 = x := ⟨_, rfl⟩
                rw [hpp] at f1 hp
                have hpni : (pp : Int) < n := by have := HN.out; omega
                clear hoP
                rw [hpp] at o2 HNO HAN hfr
                obtain ⟨oa, hoa⟩ : ∃ x, (opP P pp).a = x := ⟨_, rfl⟩
                rw [hoa] at o2 HNO HAN
                have f1' := cell_later hbl f1
                have f2' := cell_later hbl f2
                have hbf := below_alloc wr (.cells #[.int .i64 pp, .int .i64 fr.2] 172)
                have hF0 := cells_row _ _ (heap_alloc_new wr (.cells #[.int .i64 pp, .int .i64 fr.2] 172)) 0 _ rfl
                have o2' := cell_later hbf (cell_later hbl o2)
                have x1' := cell_later hbf (cell_later hbl x1)
                have y6' := cell_later hbf (cell_later hbl (HPB.out.cell 6 _ rfl))
                have HBL := Lib.hid (below_dr (n := 1) (hbl.trans (hbf.mono hbl.size)))
                clear hfr hfr2 hpp hoa hbl hbf f1 f2 o2 hnone hp
                go_wp2_with fail
                refine wp_region_lex (fun w' => w'.cell? ⟨w.heap.size, 6, none⟩ = some (.slice (some ⟨bo, oo, none⟩) n co) ∧ w'.cell? ⟨wr.heap.size, 0, none⟩ = some (.int .i64 pp) ∧ w'.cell? ⟨bo, oo + pp * 3 + 1, none⟩ = some (.int .i64 oa) ∧ w'.cell? ⟨X, 1, none⟩ = some (.int .i64 xa)) [0, 1, 2, 3, 4, 5, 6, 7, 8, 9] [] (by kernel_rfl) (by kernel_rfl) rfl (fun _ _ hx h => ⟨hx.cell h.1, hx.cell h.2.1, hx.cell h.2.2.1, hx.cell h.2.2.2⟩) ⟨y6', hF0, o2', x1'⟩ ?_
                intro Q' hQ'
                simp only [pickOps, List.flatMap_cons, List.flatMap_nil, List.drop_succ_cons, List.drop_zero, List.take_succ_cons, List.take_zero, List.cons_append, List.nil_append, List.append_nil]
                by_cases hEq : oa = xa
                · have hEqb : (oa == xa) = true := by rw [beq_iff_eq]; exact hEq
                  have e1 : cstepE P ⟨1, xa, xb⟩ st = 201 := by rw [cstepE, if_pos rfl, HAN.out hEq]; rfl
                  rw [e1, if_pos (by simp)] at HEC
                  have e3 := HEC.out
                  subst e3
                  clear e1 hEq
                  repeat (first
                    | (refine wpReads_skip (by rfl) ?_; (try simp only [Act.put, List.setIfInBounds_toArray, List.set_cons_zero, List.set_cons_succ]))
                    | (refine wpReads_cons ?_ (by rfl) (by rfl) ?_ ?_; rotate_left; (intro wz hz; (try dsimp only at hz); go_simp; try with_reducible rfl); (try simp only [Act.put, List.setIfInBounds_toArray, List.set_cons_zero, List.set_cons_succ]))
                    | (refine wpReads_any ?_ (by rfl) ?_ ?_; rotate_left; (intro wz; go_simp; try with_reducible rfl); (try simp only [Act.put, List.setIfInBounds_toArray, List.set_cons_zero, List.set_cons_succ])))
                  refine wpReads_nil ?_
                  go_wp2
                  go_ret2
                  exact ⟨rfl, HK.out.below.trans (HBL.out.mono HK.out.size)⟩
                · have hEqb : (oa == xa) = false := by rw [beq_eq_false_iff_ne]; exact hEq
                  have HNE := Lib.hid (HNO.out hEq)
                  clear hEq
                  repeat (first
                    | (refine wpReads_skip (by rfl) ?_; (try simp only [Act.put, List.setIfInBounds_toArray, List.set_cons_zero, List.set_cons_succ]))
                    | (refine wpReads_cons ?_ (by rfl) (by rfl) ?_ ?_; rotate_left; (intro wz hz; (try dsimp only at hz); go_simp; try with_reducible rfl); (try simp only [Act.put, List.setIfInBounds_toArray, List.set_cons_zero, List.set_cons_succ]))
                    | (refine wpReads_any ?_ (by rfl) ?_ ?_; rotate_left; (intro wz; go_simp; try with_reducible rfl); (try simp only [Act.put, List.setIfInBounds_toArray, List.set_cons_zero, List.set_cons_succ])))
                  refine wpReads_nil ?_
                  go_wp2
                  go_roundw
                  case rel => exact ⟨k + 1, hkm, by go_num, HBL.out, HNE.out⟩
                  case measure => simp [intOf]; omega
              · obtain rfl : m = k := by omega
                clear hkm hk x1 x0
                have hany : st.2.any (fun f => decide ((opP P f.1).a = xa)) = false := by
                  rw [List.any_eq_false]
                  intro f hf
                  obtain ⟨t, ht, e⟩ := List.mem_iff_getElem.1 (List.mem_reverse.2 hf)
                  have := hnone t ht (by rw [List.length_reverse] at ht; have := HM.out; omega)
                  rw [e] at this
                  simpa using this
                have e1 : cstepE P ⟨1, xa, xb⟩ st = 0 := by rw [cstepE, if_pos rfl, hany]; rfl
                rw [e1, if_neg (by simp)] at HEC
                have e2 : cstepS P j ⟨1, xa, xb⟩ st = (st.1, (j, 0) :: st.2) := by rw [cstepS, if_pos rfl]
                rw [e2] at HEC HNX
                clear e1 e2 hany hnone
                have TL := Turn.of_below q 8 hbl
                have HK9 := Lib.hid (HK.out.turn TL (fun h => h))
                have HP9 := Lib.hid (HPB.out.turn TL (fun h => h))
                have HO9 := Lib.hid (HOW.out.turn TL (fun h => h))
                clear TL hbl HK HPB HOW
                obtain ⟨i0, hi, hz0, hz1, hz2⟩ := info_parts info_frame
                go_wp2_with (at_builtin; refine stop_here ?_)
                refine go_on ?_
                refine wpList_app rfl _ _ 173 rfl 0 172 i0 _ 2 16 Try.underlying173 hi hz0 hz1 hz2 rfl (.slice (some ⟨g, 0, none⟩) (m + 1) cap) (m + 1) _ rfl (HO9.out.1.alloc (.cells #[.int .i64 j, .int .i64 0] 172)) (some ⟨wr.heap.size, 0, none⟩) 1 1 [.int .i64 j, .int .i64 0] rfl rfl (fun h => by cases h) (news_alloc wr [.int .i64 j, .int .i64 0] 172) (by simp [Value.oneCell']) (by unfold maxLen; omega) (grow_ok (by omega)) (Nat.zero_le _) ?_
                intro v7 w7 k1 k20 _ k4
                have hm7 : Mods (fun b => (Value.slice (some ⟨g, 0, none⟩) (m + 1) cap).ownBlock = some b) wr w7 := ((Mods.refl _ wr).alloc _).grown k20 (fun b hb _ => hb)
                have T7 := Turn.of_mods (C := fun x => x = 4) _ 4 hm7 (fun b _ hb => HO9.out.2 b hb)
                have k3 : w7.ownsRow 0 172 2 v7 (m + 1 + 1) (stV (st.1, (j, 0) :: st.2)) := by rw [stV_push]; exact k1
                have HK7 := Lib.hid (HK9.out.turn T7 (by decide))
                have HP7 := Lib.hid (HP9.out.turn T7 (by decide))
                have HO7 : Hid (Own w7 (ext _ wr.heap.size 4) 4 172 2 v7 (((st.1, (j, (0 : Int)) :: st.2) : CSt).2.length + 1) (stV (st.1, (j, 0) :: st.2))) := Lib.hid ⟨by simp only [List.length_cons]; rw [HM.out]; exact k3, fun b hb => by
                  rcases k4 with k4 | k4
                  · rw [k4] at hb
                    exact (ext_old (HO9.out.1.lt b hb).2).trans (HO9.out.2 b hb)
                  · rw [k4] at hb
                    have e := Option.some.inj hb
                    simp at e
                    exact ext_new (by omega)⟩
                obtain ⟨sp7, cp7, rfl⟩ := owns_slice k3
                clear k1 k20 k4 hm7 T7 k3 HK9 HP9 HO9
                go_wp2
                go_roundw
                case rel => exact ⟨j + 1, _, (st.1, (j, 0) :: st.2), hlt, by go_num, HK7.out, HP7.out, HO7.out, HNX.out, HEC.out⟩
                case measure => simp [intOf]; omega
        by_cases k2 : kd = 2
        · subst k2
          have x1 := HX5.out.cell 1 _ rfl
          have x2 := HX5.out.cell 2 _ rfl
          have y6 := HPB.out.cell 6 _ rfl
          obtain ⟨b, fr⟩ := st
          cases fr with
          | nil =>
            have e1 : cstepE P ⟨2, xa, xb⟩ (b, []) = 201 := by rw [cstepE, if_neg (show ¬ (2 : Int) = 1 by decide), if_pos rfl]
            rw [e1, if_pos (by simp)] at HEC
            have e3 := HEC.out
            subst e3
            have hm0 : m = 0 := hm.symm
            have hmb : (((m : Int) + 1) == 1) = true := by rw [beq_iff_eq]; omega
            have HB9 := Lib.hid (below_dr (n := 1) HK.out.below)
            clear e1 hm hm0 k1
            go_wp2_with fail
            refine wp_region_lex (fun _ => True) [0, 1, 2, 3, 4, 5, 6, 7, 8, 9, 10, 11, 12, 13, 14, 15, 16, 17, 18, 19, 20, 21, 22, 23, 24, 25, 26] [] (by kernel_rfl) (by kernel_rfl) rfl (fun _ _ _ _ => trivial) trivial ?_
            intro Q' hQ'
            simp only [pickOps, List.flatMap_cons, List.flatMap_nil, List.drop_succ_cons, List.drop_zero, List.take_succ_cons, List.take_zero, List.cons_append, List.nil_append, List.append_nil]
            repeat (first
              | (refine wpReads_skip (by rfl) ?_; (try simp only [Act.put, List.setIfInBounds_toArray, List.set_cons_zero, List.set_cons_succ]))
              | (refine wpReads_cons ?_ (by rfl) (by rfl) ?_ ?_; rotate_left; (intro wz hz; (try dsimp only at hz); go_simp; try with_reducible rfl); (try simp only [Act.put, List.setIfInBounds_toArray, List.set_cons_zero, List.set_cons_succ]))
              | (refine wpReads_any ?_ (by rfl) ?_ ?_; rotate_left; (intro wz; go_simp; try with_reducible rfl); (try simp only [Act.put, List.setIfInBounds_toArray, List.set_cons_zero, List.set_cons_succ])))
            refine wpReads_nil ?_
            go_wp2
            go_ret2
            exact ⟨rfl, HB9.out⟩
          | cons f r' =>
            obtain ⟨pp, s⟩ := f
            obtain ⟨M1, hM1⟩ : ∃ x, r'.length = x := ⟨_, rfl⟩
            have hmM : m = M1 + 1 := by rw [← hm, ← hM1]; rfl
            have hfr := HST.out.frames _ List.mem_cons_self
            dsimp only at hfr
            have t0 := HOW.out.1.cells (g := g) rfl _ _ (stV_top (b, (pp, s) :: r')).1
            have t1 := HOW.out.1.cells (g := g) rfl _ _ (stV_top (b, (pp, s) :: r')).2
            rw [Addr.add_lit, Nat.zero_add, hm] at t0 t1
            dsimp only [topP, topS] at t0 t1
            have hp : pp < P.ops.length := by omega
            have hoP : opP P pp = P.ops[pp] := by unfold opP; rw [List.getElem?_eq_getElem hp]; rfl
            obtain ⟨-, -, bo', oo', eb, -, o2, o3⟩ := HasRow.opAt (HRO.out.below HK.out.below) (List.getElem?_eq_getElem hp)
            cases eb
            rw [← hoP] at o2 o3
            have hpni : (pp : Int) < n := by have := HN.out; omega
            obtain ⟨oa, hoa⟩ : ∃ x, (opP P pp).a = x := ⟨_, rfl⟩
            obtain ⟨ob, hob⟩ : ∃ x, (opP P pp).b = x := ⟨_, rfl⟩
            rw [hoa] at o2
            rw [hob] at o3 hfr
            have e1 : cstepE P ⟨2, xa, xb⟩ (b, (pp, s) :: r') = if oa ≠ xa ∨ xb ≠ pp + 1 then 201 else 0 := by rw [← hoa, cstepE, if_neg (show ¬ (2 : Int) = 1 by decide), if_pos rfl]
            rw [e1] at HEC
            have e2 : cstepS P j ⟨2, xa, xb⟩ (b, (pp, s) :: r') = addS (allP ob (s + 1)) (b, r') := by rw [← hob, cstepS, if_neg (show ¬ (2 : Int) = 1 by decide), if_pos rfl]
            rw [e2] at HEC HNX
            have hmb : (((m : Int) + 1) == 1) = false := by rw [beq_eq_false_iff_ne]; omega
            have hpw : IntKind.i64.wrap ((pp : Int) + 1) = (pp : Int) + 1 := IntWalk.i64_in _ (by omega)
            have HB9 := Lib.hid (below_dr (n := 1) HK.out.below)
            have HFR := Lib.hid hfr
            have HMM := Lib.hid hmM
            clear e1 e2 hoP hoa hob hp hfr k1 hm hmM
            go_wp2_with fail
            refine wp_region_lex (fun w' => w'.cell? ⟨w.heap.size, 6, none⟩ = some (.slice (some ⟨bo, oo, none⟩) n co) ∧ w'.cell? ⟨g, m * 2, none⟩ = some (.int .i64 pp) ∧ w'.cell? ⟨bo, oo + pp * 3 + 1, none⟩ = some (.int .i64 oa) ∧ w'.cell? ⟨X, 1, none⟩ = some (.int .i64 xa) ∧ w'.cell? ⟨X, 2, none⟩ = some (.int .i64 xb)) [0, 1, 2, 3, 4, 5, 6, 7, 8, 9, 10, 11, 12, 13, 14, 15, 16, 17, 18, 19, 20, 21, 22, 23, 24, 25, 26] [] (by kernel_rfl) (by kernel_rfl) rfl (fun _ _ hx h => ⟨hx.cell h.1, hx.cell h.2.1, hx.cell h.2.2.1, hx.cell h.2.2.2.1, hx.cell h.2.2.2.2⟩) ⟨y6, t0, o2, x1, x2⟩ ?_
            intro Q' hQ'
            simp only [pickOps, List.flatMap_cons, List.flatMap_nil, List.drop_succ_cons, List.drop_zero, List.take_succ_cons, List.take_zero, List.cons_append, List.nil_append, List.append_nil]
            by_cases hA : oa = xa
            · have hAb : (oa != xa) = false := by simp [hA]
              by_cases hBk : xb = (pp : Int) + 1
              · have hBb : (xb != (pp : Int) + 1) = false := by simp [hBk]
                have e9 : (if oa ≠ xa ∨ xb ≠ pp + 1 then (201 : Int) else 0) = 0 := if_neg (by intro h; rcases h with h | h; exact h hA; exact h hBk)
                rw [e9, if_neg (by simp)] at HEC
                clear e9
                have HA' := Lib.hid hA
                have HBK := Lib.hid hBk
                clear hA hBk
                repeat (first
                  | (refine wpReads_skip (by rfl) ?_; (try simp only [Act.put, List.setIfInBounds_toArray, List.set_cons_zero, List.set_cons_succ]))
                  | (refine wpReads_cons ?_ (by rfl) (by rfl) ?_ ?_; rotate_left; (intro wz hz; (try dsimp only at hz); go_simp; try with_reducible rfl); (try simp only [Act.put, List.setIfInBounds_toArray, List.set_cons_zero, List.set_cons_succ]))
                  | (refine wpReads_any ?_ (by rfl) ?_ ?_; rotate_left; (intro wz; go_simp; try with_reducible rfl); (try simp only [Act.put, List.setIfInBounds_toArray, List.set_cons_zero, List.set_cons_succ])))
                refine wpReads_nil ?_
                have hsw : IntKind.i64.wrap (s + 1) = s + 1 := IntWalk.i64_in _ (by have := HFR.out; omega)
                go_wp2_with fail
                refine wp_region_lex (fun w' => w'.cell? ⟨w.heap.size, 6, none⟩ = some (.slice (some ⟨bo, oo, none⟩) n co) ∧ w'.cell? ⟨g, m * 2, none⟩ = some (.int .i64 pp) ∧ w'.cell? ⟨bo, oo + pp * 3 + 2, none⟩ = some (.int .i64 ob)) [0, 1, 2, 3, 4, 5, 6, 7, 8, 9] [] (by kernel_rfl) (by kernel_rfl) rfl (fun _ _ hx h => ⟨hx.cell h.1, hx.cell h.2.1, hx.cell h.2.2⟩) ⟨y6, t0, o3⟩ ?_
                intro Q2 hQ2
                simp only [pickOps, List.flatMap_cons, List.flatMap_nil, List.drop_succ_cons, List.drop_zero, List.take_succ_cons, List.take_zero, List.cons_append, List.nil_append, List.append_nil]
                repeat (first
                  | (refine wpReads_skip (by rfl) ?_; (try simp only [Act.put, List.setIfInBounds_toArray, List.set_cons_zero, List.set_cons_succ]))
                  | (refine wpReads_cons ?_ (by rfl) (by rfl) ?_ ?_; rotate_left; (intro wz hz; (try dsimp only at hz); go_simp; try with_reducible rfl); (try simp only [Act.put, List.setIfInBounds_toArray, List.set_cons_zero, List.set_cons_succ]))
                  | (refine wpReads_any ?_ (by rfl) ?_ ?_; rotate_left; (intro wz; go_simp; try with_reducible rfl); (try simp only [Act.put, List.setIfInBounds_toArray, List.set_cons_zero, List.set_cons_succ])))
                refine wpReads_nil ?_
                have hob : 1 ≤ ob ∧ 0 ≤ s := by have := HFR.out; omega
                have hq := quo_ok hob.1
                have HST2 := Lib.hid (HST.out.pop)
                have HOW2 : Hid (Own w5 q 4 172 2 (.slice (some ⟨g, 0, none⟩) m cap) m (stV (b, r'))) := Lib.hid ⟨by
                  have h1 := owns_shrink (m := m) HOW.out.1 (by omega) (by omega)
                  have h2 := stV_pop b (pp, s) r'
                  rw [hM1, ← HMM.out] at h2
                  rw [h2] at h1
                  exact h1, HOW.out.2⟩
                have hm1w : IntKind.i64.wrap ((m : Int) - 1) = (M1 : Int) := by rw [IntWalk.i64_in _ (by omega)]; have := HMM.out; omega
                have hM1m : (M1 : Int) < m := by have := HMM.out; omega
                have hmc2 : (m : Int) ≤ cap := by omega
                have hmcn : m ≤ cap := by omega
                clear HOW t0 t1 o2 o3 x1 x2 x0 y6
                obtain ⟨Q9, hQ9⟩ : ∃ x, 131072 / ob = x := ⟨_, rfl⟩
                rw [hQ9] at hq
                by_cases hle : s + 1 ≤ Q9
                · have hmul := mul_ok hob.1 (show 0 ≤ s + 1 by omega) (by rw [hQ9]; exact hle)
                  have hAll : allP ob (s + 1) = 1 + ob * (s + 1) := if_pos (by rw [hQ9]; exact hle)
                  obtain ⟨MM, hMM⟩ : ∃ x, ob * (s + 1) = x := ⟨_, rfl⟩
                  rw [hMM] at hmul hAll
                  have hw1 : wrap64 (ob * (s + 1)) = MM := by rw [hMM]; exact IntWalk.wrap64_in _ (by omega)
                  have hw2 : wrap64 (1 + MM) = 1 + MM := IntWalk.wrap64_in _ (by omega)
                  have hle1 : s + 1 ≤ wrap64 (Int.tdiv 131072 ob) := by rw [hq]; exact hle
                  have hle2 : s + 1 ≤ 131072 / ob := by rw [hQ9]; exact hle
                  clear hMM hQ9 hq hle
                  have hs2 := topS_ok HST2.out
                  have hbump : IntKind.i64.wrap (topS (b, r') + (1 + MM)) = topS (b, r') + (1 + MM) := IntWalk.i64_in _ (by omega)
                  have t2 := HOW2.out.1.cells (g := g) rfl _ _ (stV_top (b, r')).2
                  rw [Addr.add_lit, Nat.zero_add] at t2
                  dsimp only at t2
                  rw [hM1] at t2
                  have f2 := own_frozen HOW2.out (M1 * 2 + 1)
                  have s1 := (HOW2.out.1.stored (M1 * 2 + 1) (.int .i64 (capI (topS (b, r') + (1 + MM))))).1
                  have es := stV_set (b, r') (capI (topS (b, r') + (1 + MM)))
                  dsimp only at es
                  rw [hM1] at es
                  rw [es] at s1
                  have T9 : Turn q q (fun x => x = 4) w5 ((w5.setCell ⟨g, M1 * 2 + 1, none⟩ (.int .i64 (capI (topS (b, r') + (1 + MM))))).drewN 2) := ⟨((Mods.refl (fun k => q k = 4) w5).setCell (p := ⟨g, M1 * 2 + 1, none⟩) (fun _ => HOW2.out.2 g rfl) _).drewN 2, fun _ _ => rfl⟩
                  have HK9 := Lib.hid (HK.out.turn T9 (by decide))
                  have HP9 := Lib.hid (HPB.out.turn T9 (by decide))
                  have HO9 : Hid (Own ((w5.setCell ⟨g, M1 * 2 + 1, none⟩ (.int .i64 (capI (topS (b, r') + (1 + MM))))).drewN 2) q 4 172 2 (.slice (some ⟨g, 0, none⟩) m cap) m (stV (setS (capI (topS (b, r') + (1 + MM))) (b, r')))) := Lib.hid ⟨s1, HOW2.out.2⟩
                  have HEQ : Hid (addS (allP ob (s + 1)) (b, r') = setS (capI (topS (b, r') + (1 + MM))) (b, r')) := Lib.hid (by rw [hAll]; rfl)
                  have HLE : Hid ((setS (capI (topS (b, r') + (1 + MM))) (b, r')).2.length + 1 = m) := Lib.hid (by rw [setS_len]; show r'.length + 1 = m; rw [hM1]; exact HMM.out.symm)
                  clear s1 es T9 HK HPB
                  go_wp2_with fail
                  refine (ccapped_any _ _).mono ?_
                  rintro e w9 ⟨rfl, rfl⟩
                  clear HOW2
                  go_wp2
                  go_roundw
                  case rel => exact ⟨j + 1, q, setS (capI (topS (b, r') + (1 + MM))) (b, r'), hlt, by go_num, HK9.out, HP9.out, by rw [HLE.out]; exact HO9.out, by rw [← HEQ.out]; exact HNX.out, by rw [← HEQ.out]; exact HEC.out⟩
                  case measure => simp [intOf]; omega
                · have hAll : allP ob (s + 1) = 131073 := if_neg (by rw [hQ9]; exact hle)
                  have hle1 : ¬ s + 1 ≤ wrap64 (Int.tdiv 131072 ob) := by rw [hq]; exact hle
                  have hle2 : ¬ s + 1 ≤ 131072 / ob := by rw [hQ9]; exact hle
                  clear hQ9 hq hle
                  have hs2 := topS_ok HST2.out
                  have hbump : IntKind.i64.wrap (topS (b, r') + (131073 : Int)) = topS (b, r') + (131073 : Int) := IntWalk.i64_in _ (by omega)
                  have t2 := HOW2.out.1.cells (g := g) rfl _ _ (stV_top (b, r')).2
                  rw [Addr.add_lit, Nat.zero_add] at t2
                  dsimp only at t2
                  rw [hM1] at t2
                  have f2 := own_frozen HOW2.out (M1 * 2 + 1)
                  have s1 := (HOW2.out.1.stored (M1 * 2 + 1) (.int .i64 (capI (topS (b, r') + (131073 : Int))))).1
                  have es := stV_set (b, r') (capI (topS (b, r') + (131073 : Int)))
                  dsimp only at es
                  rw [hM1] at es
                  rw [es] at s1
                  have T9 : Turn q q (fun x => x = 4) w5 ((w5.setCell ⟨g, M1 * 2 + 1, none⟩ (.int .i64 (capI (topS (b, r') + (131073 : Int))))).drewN 2) := ⟨((Mods.refl (fun k => q k = 4) w5).setCell (p := ⟨g, M1 * 2 + 1, none⟩) (fun _ => HOW2.out.2 g rfl) _).drewN 2, fun _ _ => rfl⟩
                  have HK9 := Lib.hid (HK.out.turn T9 (by decide))
                  have HP9 := Lib.hid (HPB.out.turn T9 (by decide))
                  have HO9 : Hid (Own ((w5.setCell ⟨g, M1 * 2 + 1, none⟩ (.int .i64 (capI (topS (b, r') + (131073 : Int))))).drewN 2) q 4 172 2 (.slice (some ⟨g, 0, none⟩) m cap) m (stV (setS (capI (topS (b, r') + (131073 : Int))) (b, r')))) := Lib.hid ⟨s1, HOW2.out.2⟩
                  have HEQ : Hid (addS (allP ob (s + 1)) (b, r') = setS (capI (topS (b, r') + (131073 : Int))) (b, r')) := Lib.hid (by rw [hAll]; rfl)
                  have HLE : Hid ((setS (capI (topS (b, r') + (131073 : Int))) (b, r')).2.length + 1 = m) := Lib.hid (by rw [setS_len]; show r'.length + 1 = m; rw [hM1]; exact HMM.out.symm)
                  clear s1 es T9 HK HPB
                  go_wp2_with fail
                  refine (ccapped_any _ _).mono ?_
                  rintro e w9 ⟨rfl, rfl⟩
                  clear HOW2
                  go_wp2
                  go_roundw
                  case rel => exact ⟨j + 1, q, setS (capI (topS (b, r') + (131073 : Int))) (b, r'), hlt, by go_num, HK9.out, HP9.out, by rw [HLE.out]; exact HO9.out, by rw [← HEQ.out]; exact HNX.out, by rw [← HEQ.out]; exact HEC.out⟩
                  case measure => simp [intOf]; omega
              · have hBb : (xb != (pp : Int) + 1) = true := by simpa using hBk
                have e9 : (if oa ≠ xa ∨ xb ≠ pp + 1 then (201 : Int) else 0) = 201 := if_pos (.inr hBk)
                rw [e9, if_pos (by simp)] at HEC
                clear e9
                have e3 := HEC.out
                subst e3
                clear hA hBk
                repeat (first
                  | (refine wpReads_skip (by rfl) ?_; (try simp only [Act.put, List.setIfInBounds_toArray, List.set_cons_zero, List.set_cons_succ]))
                  | (refine wpReads_cons ?_ (by rfl) (by rfl) ?_ ?_; rotate_left; (intro wz hz; (try dsimp only at hz); go_simp; try with_reducible rfl); (try simp only [Act.put, List.setIfInBounds_toArray, List.set_cons_zero, List.set_cons_succ]))
                  | (refine wpReads_any ?_ (by rfl) ?_ ?_; rotate_left; (intro wz; go_simp; try with_reducible rfl); (try simp only [Act.put, List.setIfInBounds_toArray, List.set_cons_zero, List.set_cons_succ])))
                refine wpReads_nil ?_
                go_wp2
                go_ret2
                exact ⟨rfl, HB9.out⟩
            · have hAb : (oa != xa) = true := by simpa using hA
              have e9 : (if oa ≠ xa ∨ xb ≠ pp + 1 then (201 : Int) else 0) = 201 := if_pos (.inl hA)
              rw [e9, if_pos (by simp)] at HEC
              clear e9
              have e3 := HEC.out
              subst e3
              clear hA
              repeat (first
                | (refine wpReads_skip (by rfl) ?_; (try simp only [Act.put, List.setIfInBounds_toArray, List.set_cons_zero, List.set_cons_succ]))
                | (refine wpReads_cons ?_ (by rfl) (by rfl) ?_ ?_; rotate_left; (intro wz hz; (try dsimp only at hz); go_simp; try with_reducible rfl); (try simp only [Act.put, List.setIfInBounds_toArray, List.set_cons_zero, List.set_cons_succ]))
                | (refine wpReads_any ?_ (by rfl) ?_ ?_; rotate_left; (intro wz; go_simp; try with_reducible rfl); (try simp only [Act.put, List.setIfInBounds_toArray, List.set_cons_zero, List.set_cons_succ])))
              refine wpReads_nil ?_
              go_wp2
              go_ret2
              exact ⟨rfl, HB9.out⟩
        have k1i : (kd == 1) = false := by rw [beq_eq_false_iff_ne]; exact k1
        have k2i : (kd == 2) = false := by rw [beq_eq_false_iff_ne]; exact k2
        have e2 : cstepS P j ⟨kd, xa, xb⟩ st = setS (capI (topS st + 1)) st := by rw [cstepS, if_neg k1, if_neg k2]; rfl
        rw [e2] at HEC HNX
        by_cases k0 : kd = 0
        · subst k0
          by_cases hm0 : m = 0
          · have hfr : st.2 = [] := List.eq_nil_of_length_eq_zero (by omega)
            have e1 : cstepE P ⟨0, xa, xb⟩ st = 0 := by rw [cstepE, if_neg k1, if_neg k2, if_pos rfl, if_pos hfr]
            rw [e1, if_neg (by simp)] at HEC
            have hm0i : ¬ (1 : Int) < (m : Int) + 1 := by omega
            clear e1 e2 hm0 hfr
            have hbump : IntKind.i64.wrap (topS st + 1) = topS st + 1 := IntWalk.i64_in _ (by have := topS_ok HST.out; omega)
            have t1 := HOW.out.1.cells (g := g) rfl _ _ (stV_top st).2
            rw [Addr.add_lit, Nat.zero_add, hm] at t1
            have f1 := own_frozen HOW.out (m * 2 + 1)
            have s1 := (HOW.out.1.stored (m * 2 + 1) (.int .i64 (capI (topS st + 1)))).1
            rw [← hm, stV_set] at s1
            rw [hm] at s1
            have T9 : Turn q q (fun x => x = 4) w5 (w5.setCell ⟨g, m * 2 + 1, none⟩ (.int .i64 (capI (topS st + 1)))) := ⟨(Mods.refl (fun k => q k = 4) w5).setCell (p := ⟨g, m * 2 + 1, none⟩) (fun _ => HOW.out.2 g rfl) _, fun _ _ => rfl⟩
            have HK9 := Lib.hid (HK.out.turn T9 (by decide))
            have HP9 := Lib.hid (HPB.out.turn T9 (by decide))
            have HO9 : Hid (Own _ q 4 172 2 (.slice (some ⟨g, 0, none⟩) (m + 1) cap) (m + 1) (stV (setS (capI (topS st + 1)) st))) := Lib.hid ⟨s1, HOW.out.2⟩
            clear s1 T9 HK HPB
            go_wp2_with fail
            refine (ccapped_any _ _).mono ?_
            rintro e w9 ⟨rfl, rfl⟩
            clear HOW
            go_wp2
            go_roundw
            case rel => exact ⟨j + 1, q, setS (capI (topS st + 1)) st, hlt, by go_num, HK9.out, HP9.out, by rw [setS_len, HM.out]; exact HO9.out, HNX.out, HEC.out⟩
            case measure => simp [intOf]; omega
          · have hfr : ¬ st.2 = [] := fun h => by rw [h] at hm; exact hm0 hm.symm
            have e1 : cstepE P ⟨0, xa, xb⟩ st = 201 := by rw [cstepE, if_neg k1, if_neg k2, if_pos rfl, if_neg hfr]
            rw [e1, if_pos (by simp)] at HEC
            have e3 := HEC.out
            subst e3
            have hm0i : (1 : Int) < (m : Int) + 1 := by omega
            clear e1 e2 hm0 hfr
            go_wp2
            go_ret2
            exact ⟨rfl, HK.out.below⟩
        · have k0i : (kd == 0) = false := by rw [beq_eq_false_iff_ne]; exact k0
          have e1 : cstepE P ⟨kd, xa, xb⟩ st = 0 := by rw [cstepE, if_neg k1, if_neg k2, if_neg k0]
          rw [e1, if_neg (by simp)] at HEC
          clear e1 e2
          have hbump : IntKind.i64.wrap (topS st + 1) = topS st + 1 := IntWalk.i64_in _ (by have := topS_ok HST.out; omega)
          have t1 := HOW.out.1.cells (g := g) rfl _ _ (stV_top st).2
          rw [Addr.add_lit, Nat.zero_add, hm] at t1
          have f1 := own_frozen HOW.out (m * 2 + 1)
          have s1 := (HOW.out.1.stored (m * 2 + 1) (.int .i64 (capI (topS st + 1)))).1
          rw [← hm, stV_set] at s1
          rw [hm] at s1
          have T9 : Turn q q (fun x => x = 4) w5 (w5.setCell ⟨g, m * 2 + 1, none⟩ (.int .i64 (capI (topS st + 1)))) := ⟨(Mods.refl (fun k => q k = 4) w5).setCell (p := ⟨g, m * 2 + 1, none⟩) (fun _ => HOW.out.2 g rfl) _, fun _ _ => rfl⟩
          have HK9 := Lib.hid (HK.out.turn T9 (by decide))
          have HP9 := Lib.hid (HPB.out.turn T9 (by decide))
          have HO9 : Hid (Own _ q 4 172 2 (.slice (some ⟨g, 0, none⟩) (m + 1) cap) (m + 1) (stV (setS (capI (topS st + 1)) st))) := Lib.hid ⟨s1, HOW.out.2⟩
          clear s1 T9 HK HPB
          go_wp2_with fail
          refine (ccapped_any _ _).mono ?_
          rintro e w9 ⟨rfl, rfl⟩
          clear HOW
          go_wp2
          go_roundw
          case rel => exact ⟨j + 1, q, setS (capI (topS st + 1)) st, hlt, by go_num, HK9.out, HP9.out, by rw [setS_len, HM.out]; exact HO9.out, HNX.out, HEC.out⟩
          case measure => simp [intOf]; omega
    · obtain rfl : n = j := by omega
      clear hlt hj
      have hfin := HE.out
      rw [List.drop_of_length_le (by have := HN.out; omega), cwalkE] at hfin
      have y6 := HPB.out.cell 6 _ rfl
      have hln : P.ops.length = n := HN.out
      have t0 := HOW.out.1.cells (g := g) rfl 1 (.int .i64 st.1) rfl
      rw [Addr.add_lit] at t0
      unfold cendE at hfin
      rw [hln] at hfin
      have hmi : (1 : Int) ≤ (m : Int) + 1 := by omega
      have hci : (m : Int) + 1 ≤ cap := by omega
      clear HE hln
      by_cases hn0 : n = 0
      · subst hn0
        rw [if_pos (.inl rfl)] at hfin
        subst hfin
        go_wp2
        go_ret2
        exact ⟨rfl, HK.out.below⟩
      · have hl : n - 1 < P.ops.length := by have := HN.out; omega
        obtain ⟨hc9, _, bo, oo, rfl, o1, o2, o3⟩ := HasRow.opAt (HRO.out.below HK.out.below) (List.getElem?_eq_getElem hl)
        have ho : opP P (n - 1) = P.ops[n - 1] := by unfold opP; rw [List.getElem?_eq_getElem hl]; rfl
        rw [ho] at hfin
        obtain ⟨x, hx⟩ : ∃ x, P.ops[n - 1] = x := ⟨_, rfl⟩
        rw [hx] at hfin o1
        clear ho hx o2 o3
        obtain ⟨N1, hN1⟩ : ∃ N1, n - 1 = N1 := ⟨_, rfl⟩
        have hnw : IntKind.i64.wrap ((n : Int) - 1) = (N1 : Int) := by rw [IntWalk.i64_in _ (by omega)]; omega
        rw [hN1] at o1
        have hni : (N1 : Int) < n := by omega
        have hcoi : (n : Int) ≤ co := by omega
        have hn0i : ((n : Int) == 0) = false := by rw [beq_eq_false_iff_ne]; omega
        have HN0 := Lib.hid hn0
        clear hl hN1 hn0
        by_cases kx : x.kind = 0
        · rw [kx] at o1
          rw [if_neg (by intro h; rcases h with h | h; exact HN0.out h; exact h kx)] at hfin
          by_cases hb : 131072 < st.1
          · rw [if_pos hb] at hfin
            subst hfin
            clear kx
            go_wp2
            go_ret2
            exact ⟨rfl, HK.out.below⟩
          · rw [if_neg hb] at hfin
            subst hfin
            clear kx
            go_wp2
            go_ret2
            exact ⟨rfl, HK.out.below⟩
        · rw [if_pos (.inr kx)] at hfin
          subst hfin
          have kxi : (x.kind != 0) = true := by simpa using kx
          clear kx
          go_wp2
          go_ret2
          exact ⟨rfl, HK.out.below⟩
end Go.Proofs.Ytbmbfifempkhgaa

/- code's Steps, Check. -/
namespace Go.Proofs.Ytbmbfifempkhgaa
open Go.RowKit

def withinB (n m : Int) : Bool := decide (0 ≤ n) && decide (n ≤ m)
def partsE : List GPart → Int
  | [] => 0
  | p :: r => if goodP p.tag p.params then partsE r else errP p.tag
def lineE (mem : Int) (l : GLine) : Int := if withinB l.base mem && withinB l.size (mem - l.base) then (if l.size < l.start.length then 88 else 0) else 190
def linesE (mem : Int) : List GLine → Int
  | [] => 0
  | l :: r => if lineE mem l = 0 then linesE mem r else lineE mem l
/-- the steps of a program, and what is wrong with it -/
def cstepsE (P : GProg) : Int × Int :=
  if withinB P.memory 1024 && withinB P.counters 17 && withinB P.ins 16 && withinB P.outs 16 then
    (if 32 < P.parts.length ∨ 96 < P.lines.length ∨ 131072 < P.ops.length then (0, 81)
    else if partsE P.parts ≠ 0 then (0, partsE P.parts) else if linesE P.memory P.lines ≠ 0 then (0, linesE P.memory P.lines) else cwalkE P P.ops 0 (0, []))
  else (0, 1)
theorem within_iff {n m : Int} : withinB n m = true ↔ 0 ≤ n ∧ n ≤ m := by simp [withinB]

theorem partsE_drop {l : List GPart} {j : Nat} (h : j < l.length) : partsE (l.drop j) = if goodP l[j].tag l[j].params then partsE (l.drop (j + 1)) else errP l[j].tag := by
  rw [List.drop_eq_getElem_cons h, partsE]
theorem linesE_drop {m : Int} {l : List GLine} {j : Nat} (h : j < l.length) : linesE m (l.drop j) = if lineE m l[j] = 0 then linesE m (l.drop (j + 1)) else lineE m l[j] := by
  rw [List.drop_eq_getElem_cons h, linesE]
theorem errP_ne (t : Int) : errP t ≠ 0 := by rcases errP_some t with h | h <;> rw [h] <;> decide


set_option maxRecDepth 100000 in
set_option maxHeartbeats 4000000 in
theorem csteps_any (w : World) (v : Value) (P : GProg) (hv : HasProg w v P) (hps : ∀ p ∈ P.parts, p.params.length ≤ 17600000000000) : Calls Try.prog 35 #[v] w (PairRet (cstepsE P) w) := by
  obtain ⟨vp, vl, vo, rfl, rp, rl, ro⟩ := hv
  obtain ⟨ap, cp, rfl⟩ := rp.slice
  obtain ⟨al, cl, rfl⟩ := rl.slice
  obtain ⟨ao, co, rfl⟩ := ro.slice
  have HV : Hid (HasProg w (.agg #[.int .i64 P.memory, .int .i64 P.counters, .int .i64 P.ins, .int .i64 P.outs, .slice ap P.parts.length cp, .slice al P.lines.length cl, .slice ao P.ops.length co]) P) := Lib.hid ⟨_, _, _, rfl, rp, rl, ro⟩
  have HRP := Lib.hid rp
  have HRL := Lib.hid rl
  have HPS := Lib.hid hps
  obtain ⟨r, hr⟩ : ∃ r, cstepsE P = r := ⟨_, rfl⟩
  rw [hr]
  unfold cstepsE at hr
  obtain ⟨F1, h1⟩ : ∃ x, withinB P.memory 1024 = x := ⟨_, rfl⟩
  obtain ⟨F2, h2⟩ : ∃ x, withinB P.counters 17 = x := ⟨_, rfl⟩
  obtain ⟨F3, h3⟩ : ∃ x, withinB P.ins 16 = x := ⟨_, rfl⟩
  obtain ⟨F4, h4⟩ : ∃ x, withinB P.outs 16 = x := ⟨_, rfl⟩
  rw [h1, h2, h3, h4] at hr
  have HF1 := Lib.hid h1
  have HF2 := Lib.hid h2
  have HF3 := Lib.hid h3
  have HF4 := Lib.hid h4
  have HR := Lib.hid hr
  have hb1 := below_alloc w (.cells #[.int .i64 P.memory, .int .i64 P.counters, .int .i64 P.ins, .int .i64 P.outs, .slice ap P.parts.length cp, .slice al P.lines.length cl, .slice ao P.ops.length co] 39)
  have hX := heap_alloc_new w (.cells #[.int .i64 P.memory, .int .i64 P.counters, .int .i64 P.ins, .int .i64 P.outs, .slice ap P.parts.length cp, .slice al P.lines.length cl, .slice ao P.ops.length co] 39)
  obtain ⟨W, hW⟩ : ∃ x, w.alloc (.cells #[.int .i64 P.memory, .int .i64 P.counters, .int .i64 P.ins, .int .i64 P.outs, .slice ap P.parts.length cp, .slice al P.lines.length cl, .slice ao P.ops.length co] 39) = x := ⟨_, rfl⟩
  rw [hW] at hb1 hX
  have p0 := cells_row _ _ hX 0 _ rfl
  have p1 := cells_row _ _ hX 1 _ rfl
  have p2 := cells_row _ _ hX 2 _ rfl
  have p3 := cells_row _ _ hX 3 _ rfl
  have p4 := cells_row _ _ hX 4 _ rfl
  have p5 := cells_row _ _ hX 5 _ rfl
  have p6 := cells_row _ _ hX 6 _ rfl
  have HB := Lib.hid hb1
  have HX := Lib.hid hX
  clear rp rl ro hr hps h1 h2 h3 h4 hb1 hX
  go_enter Try.func35, Try.ntmps35
  go_wp2_with fail
  -- value P.memory, bound 1024, flag name F1
  refine (cwithin_any _ _ _).mono ?_
  rintro e w5 ⟨rfl, rfl⟩
  rw [show (decide (0 ≤ P.memory) && decide (P.memory ≤ 1024)) = F1 from HF1.out]
  cases F1 with
  | false =>
    have e1 : r = (0, 1) := by rw [← HR.out]; simp
    subst e1
    go_wp2
    go_ret2
    exact ⟨rfl, HB.out⟩
  | true =>
    go_wp2_with fail
    -- value P.counters, bound 17, flag name F2
    refine (cwithin_any _ _ _).mono ?_
    rintro e w5 ⟨rfl, rfl⟩
    rw [show (decide (0 ≤ P.counters) && decide (P.counters ≤ 17)) = F2 from HF2.out]
    cases F2 with
    | false =>
      have e1 : r = (0, 1) := by rw [← HR.out]; simp
      subst e1
      go_wp2
      go_ret2
      exact ⟨rfl, HB.out⟩
    | true =>
      go_wp2_with fail
      -- value P.ins, bound 16, flag name F3
      refine (cwithin_any _ _ _).mono ?_
      rintro e w5 ⟨rfl, rfl⟩
      rw [show (decide (0 ≤ P.ins) && decide (P.ins ≤ 16)) = F3 from HF3.out]
      cases F3 with
      | false =>
        have e1 : r = (0, 1) := by rw [← HR.out]; simp
        subst e1
        go_wp2
        go_ret2
        exact ⟨rfl, HB.out⟩
      | true =>
        go_wp2_with fail
        -- value P.outs, bound 16, flag name F4
        refine (cwithin_any _ _ _).mono ?_
        rintro e w5 ⟨rfl, rfl⟩
        rw [show (decide (0 ≤ P.outs) && decide (P.outs ≤ 16)) = F4 from HF4.out]
        cases F4 with
        | false =>
          have e1 : r = (0, 1) := by rw [← HR.out]; simp
          subst e1
          go_wp2
          go_ret2
          exact ⟨rfl, HB.out⟩
        | true =>
          simp only [Bool.and_self, if_true] at HR
          have hs1 := within_iff.1 HF1.out
          have hs2 := within_iff.1 HF2.out
          have hs3 := within_iff.1 HF3.out
          have hs4 := within_iff.1 HF4.out
          by_cases hmany : 32 < P.parts.length ∨ 96 < P.lines.length ∨ 131072 < P.ops.length
          · rw [if_pos hmany] at HR
            have e1 := HR.out
            subst e1
            by_cases m1 : 32 < P.parts.length
            · have m1i : (32 : Int) < P.parts.length := by omega
              go_wp2
              go_ret2
              exact ⟨rfl, HB.out⟩
            · have m1i : ¬ (32 : Int) < P.parts.length := by omega
              by_cases m2 : 96 < P.lines.length
              · have m2i : (96 : Int) < P.lines.length := by omega
                go_wp2
                go_ret2
                exact ⟨rfl, HB.out⟩
              · have m2i : ¬ (96 : Int) < P.lines.length := by omega
                have m3i : (131072 : Int) < P.ops.length := by omega
                go_wp2
                go_ret2
                exact ⟨rfl, HB.out⟩
          · rw [if_neg hmany] at HR
            have m1i : ¬ (32 : Int) < P.parts.length := by omega
            have m2i : ¬ (96 : Int) < P.lines.length := by omega
            have m3i : ¬ (131072 : Int) < P.ops.length := by omega
            have hz : Sized P := ⟨by omega, by omega, by omega, by omega, by omega, by omega⟩
            have HZ := Lib.hid hz
            clear hmany hz
            go_wp2_with fail
            have hW0 := HB.out.size
            have HBW := Lib.hid (Below.refl W.heap.size W)
            obtain ⟨PE, hPE⟩ : ∃ x, partsE P.parts = x := ⟨_, rfl⟩
            obtain ⟨LE, hLE⟩ : ∃ x, linesE P.memory P.lines = x := ⟨_, rfl⟩
            rw [hPE, hLE] at HR
            have HPE : Hid (partsE (P.parts.drop 0) = PE) := Lib.hid hPE
            have HLE : Hid (linesE P.memory (P.lines.drop 0) = LE) := Lib.hid hLE
            clear hPE hLE hW p0 p1 p2 p3 p4 p5 p6 HF1 HF2 HF3 HF4
            go_loopw [53] (fun i wl => ∃ (j : Nat), j ≤ P.parts.length ∧ i = .int .i64 j ∧ Below W.heap.size W wl ∧ partsE (P.parts.drop j) = PE) (fun i _ => P.parts.length - (intOf i).toNat)
            case atStart => exact ⟨0, Nat.zero_le _, rfl, HBW.out, HPE.out⟩
            case round =>
              clear HBW HPE
              obtain ⟨j, hj, rfl, hb, hE⟩ := hrel
              have HBW := Lib.hid hb
              have HE := Lib.hid hE
              clear hb hE
              have HBB := Lib.hid (HB.out.trans (HBW.out.mono hW0))
              by_cases hlt : j < P.parts.length
              · have hlti : (j : Int) < P.parts.length := by omega
                have hEc := HE.out
                rw [partsE_drop hlt] at hEc
                obtain ⟨b0, off, rfl, hcap, hb0, hrec⟩ := HRP.out.at (by omega)
                obtain ⟨cs, hcs, hPR, hcl⟩ := hrec j hlt
                obtain ⟨y, rfl, hst⟩ := hPR
                have c0 := cell_later HBB.out (hcl 0 (by omega))
                have c1 := cell_later HBB.out (hcl 1 (by omega))
                simp [partHd] at c0 c1
                have hcapi : (P.parts.length : Int) ≤ cp := by omega
                obtain ⟨sa, sc, hxs⟩ := Ints.slice hst
                subst hxs
                have HST := Lib.hid hst
                have hpl := HPS.out _ (List.getElem_mem hlt)
                clear hcl hcs hrec hst HE
                generalize P.parts[j] = a at *
                have hbX := below_alloc wr (.cells #[.int .u8 a.tag, .slice sa a.params.length sc] 108)
                have hY := heap_alloc_new wr (.cells #[.int .u8 a.tag, .slice sa a.params.length sc] 108)
                have x0 := cells_row _ _ hY 0 _ rfl
                have x1 := cells_row _ _ hY 1 _ rfl
                have HB2 := Lib.hid (HBW.out.trans (hbX.mono HBW.out.size))
                have HB3 := Lib.hid (HBB.out.trans (hbX.mono HBB.out.size))
                clear hbX hY HBW HBB
                go_wp2_with fail
                clear c0 c1
                by_cases hg : goodP a.tag a.params
                · rw [if_pos hg] at hEc
                  have HE := Lib.hid hEc
                  clear hEc
                  refine (of_ok _ a.tag sa _ sc a.params hg hpl (HST.out.below HB3.out)).mono ?_
                  rintro e w6 ⟨vti, vto, rfl, q1, q2, hb6⟩
                  have HB4 := Lib.hid (HB2.out.trans (hb6.mono HB2.out.size))
                  clear q1 q2 hb6 x0 x1 HST
                  go_wp2
                  go_roundw
                  case rel => exact ⟨j + 1, hlt, by go_num, HB4.out, HE.out⟩
                  case measure => simp [intOf]; omega
                · rw [if_neg hg] at hEc
                  have hne := errP_ne a.tag
                  have hof := of_no _ a.tag sa _ sc a.params hg hpl (HST.out.below HB3.out)
                  obtain ⟨er, her⟩ : ∃ x, errP a.tag = x := ⟨_, rfl⟩
                  rw [her] at hEc hne hof
                  rw [← hEc, if_pos hne] at HR
                  have e1 := HR.out
                  subst e1
                  have HER := Lib.hid hne
                  clear hEc her hne
                  refine hof.mono ?_
                  clear hof
                  rintro e w6 ⟨rfl, hb6⟩
                  have HB5 := Lib.hid (HB3.out.trans (hb6.mono HB3.out.size))
                  have heri : (er != 0) = true := by simpa using HER.out
                  clear hb6 x0 x1 HST
                  go_wp2
                  go_ret2
                  exact ⟨rfl, HB5.out⟩
              · obtain rfl : P.parts.length = j := by omega
                have hEc := HE.out
                rw [List.drop_length, partsE] at hEc
                subst hEc
                rw [if_neg (by simp)] at HR
                clear HE hj hlt
                have y5 := cell_later HBW.out (cells_row _ _ HX.out 5 _ rfl)
                go_wp2_with fail
                clear y5
                go_loopw [73] (fun i wl => ∃ (j : Nat), j ≤ P.lines.length ∧ i = .int .i64 j ∧ Below W.heap.size W wl ∧ linesE P.memory (P.lines.drop j) = LE) (fun i _ => P.lines.length - (intOf i).toNat)
                case atStart => exact ⟨0, Nat.zero_le _, rfl, HBW.out, HLE.out⟩
                case round =>
                  clear HBW HBB HLE
                  obtain ⟨j, hj, rfl, hb, hE⟩ := hrel
                  have HBW := Lib.hid hb
                  have HE := Lib.hid hE
                  clear hb hE
                  have HBB := Lib.hid (HB.out.trans (HBW.out.mono hW0))
                  by_cases hlt : j < P.lines.length
                  · have hlti : (j : Int) < P.lines.length := by omega
                    have hEc := HE.out
                    rw [linesE_drop hlt] at hEc
                    obtain ⟨b0, off, rfl, hcap, hb0, hrec⟩ := HRL.out.at (by omega)
                    obtain ⟨cs, hcs, hPR, hcl⟩ := hrec j hlt
                    obtain ⟨y, rfl, hst⟩ := hPR
                    have c0 := cell_later HBB.out (hcl 0 (by omega))
                    have c1 := cell_later HBB.out (hcl 1 (by omega))
                    have c2 := cell_later HBB.out (hcl 2 (by omega))
                    simp [lineHd] at c0 c1 c2
                    have hcapi : (P.lines.length : Int) ≤ cl := by omega
                    obtain ⟨sa, sc, hxs⟩ := Ints.slice hst
                    subst hxs
                    clear hcl hcs hrec hst HE
                    generalize P.lines[j] = a at *
                    have hbX := below_alloc wr (.cells #[.int .i64 a.base, .int .i64 a.size, .slice sa a.start.length sc] 87)
                    have hY := heap_alloc_new wr (.cells #[.int .i64 a.base, .int .i64 a.size, .slice sa a.start.length sc] 87)
                    have hsY : (wr.alloc (.cells #[.int .i64 a.base, .int .i64 a.size, .slice sa a.start.length sc] 87)).heap.size = wr.heap.size + 1 := by simp
                    have hY2 := block_alloc hY (.cells #[.int .i64 a.base, .int .i64 a.size] 70)
                    have hbZ := below_alloc (wr.alloc (.cells #[.int .i64 a.base, .int .i64 a.size, .slice sa a.start.length sc] 87)) (.cells #[.int .i64 a.base, .int .i64 a.size] 70)
                    have hZ := heap_alloc_new (wr.alloc (.cells #[.int .i64 a.base, .int .i64 a.size, .slice sa a.start.length sc] 87)) (.cells #[.int .i64 a.base, .int .i64 a.size] 70)
                    rw [hsY] at hZ
                    have x0 := cells_row _ _ hY 0 _ rfl
                    have x1 := cells_row _ _ hY 1 _ rfl
                    have x1' := cells_row _ _ hY2 1 _ rfl
                    have x2' := cells_row _ _ hY2 2 _ rfl
                    have r0 := cells_row _ _ hZ 0 _ rfl
                    have r1 := cells_row _ _ hZ 1 _ rfl
                    have HB2 := Lib.hid ((HBW.out.trans (hbX.mono HBW.out.size)).trans (hbZ.mono (by have := HBW.out.size; omega)))
                    have HB3 := Lib.hid ((HBB.out.trans (hbX.mono HBB.out.size)).trans (hbZ.mono (by have := HBB.out.size; omega)))
                    have m0 := cell_later HB2.out (cells_row _ _ HX.out 0 _ rfl)
                    obtain ⟨B1, b1⟩ : ∃ x, withinB a.base P.memory = x := ⟨_, rfl⟩
                    obtain ⟨B2, b2⟩ : ∃ x, withinB a.size (P.memory - a.base) = x := ⟨_, rfl⟩
                    have hLn : lineE P.memory a = if B1 && B2 then (if a.size < a.start.length then 88 else 0) else 190 := by rw [← b1, ← b2]; rfl
                    rw [hLn] at hEc
                    have HEC := Lib.hid hEc
                    have HB1 := Lib.hid b1
                    have HBT := Lib.hid b2
                    clear hbX hY hY2 hbZ hZ hsY hLn hEc b1 b2 HBW HBB
                    go_wp2_with fail
                    clear c0 c1 c2 x0 x1
                    refine (cwithin_any _ _ _).mono ?_
                    rintro e w5 ⟨rfl, rfl⟩
                    rw [show (decide (0 ≤ a.base) && decide (a.base ≤ P.memory)) = B1 from HB1.out]
                    cases B1 with
                    | false =>
                      simp at HEC
                      rw [← HEC.out, if_pos (by decide)] at HR
                      have e1 := HR.out
                      subst e1
                      go_wp2
                      go_ret2
                      exact ⟨rfl, HB3.out⟩
                    | true =>
                      have hba := within_iff.1 HB1.out
                      have hsw : IntKind.i64.wrap (P.memory - a.base) = P.memory - a.base := IntWalk.i64_in _ (by omega)
                      go_wp2_with fail
                      refine (cwithin_any _ _ _).mono ?_
                      rintro e w5 ⟨rfl, rfl⟩
                      rw [show (decide (0 ≤ a.size) && decide (a.size ≤ P.memory - a.base)) = B2 from HBT.out]
                      cases B2 with
                      | false =>
                        simp at HEC
                        rw [← HEC.out, if_pos (by decide)] at HR
                        have e1 := HR.out
                        subst e1
                        go_wp2
                        go_ret2
                        exact ⟨rfl, HB3.out⟩
                      | true =>
                        by_cases hst : a.size < a.start.length
                        · simp only [Bool.and_self, if_true] at HEC
                          rw [if_pos hst, if_neg (by decide)] at HEC
                          rw [← HEC.out, if_pos (by decide)] at HR
                          have e1 := HR.out
                          subst e1
                          go_wp2
                          go_ret2
                          exact ⟨rfl, HB3.out⟩
                        · simp only [Bool.and_self, if_true] at HEC
                          rw [if_neg hst, if_pos rfl] at HEC
                          have hsti : ¬ a.size < (a.start.length : Int) := hst
                          go_wp2
                          go_roundw
                          case rel => exact ⟨j + 1, hlt, by go_num, HB2.out, HEC.out⟩
                          case measure => simp [intOf]; omega
                  · obtain rfl : P.lines.length = j := by omega
                    have hEc := HE.out
                    rw [List.drop_length, linesE] at hEc
                    subst hEc
                    rw [if_neg (by simp)] at HR
                    clear HE hj hlt
                    have y0 := cell_later HBW.out (cells_row _ _ HX.out 0 _ rfl)
                    have y1 := cell_later HBW.out (cells_row _ _ HX.out 1 _ rfl)
                    have y2 := cell_later HBW.out (cells_row _ _ HX.out 2 _ rfl)
                    have y3 := cell_later HBW.out (cells_row _ _ HX.out 3 _ rfl)
                    have y4 := cell_later HBW.out (cells_row _ _ HX.out 4 _ rfl)
                    have y5 := cell_later HBW.out (cells_row _ _ HX.out 5 _ rfl)
                    have y6 := cell_later HBW.out (cells_row _ _ HX.out 6 _ rfl)
                    go_wp2_with fail
                    clear y0 y1 y2 y3 y4 y5 y6
                    refine (cwalk_any _ _ P (HV.out.below HBB.out) HZ.out).mono ?_
                    rintro e w9 ⟨rfl, hb9⟩
                    rw [HR.out]
                    have HB9 := Lib.hid (HBB.out.trans (hb9.mono HBB.out.size))
                    clear hb9
                    go_wp2
                    go_ret2
                    exact ⟨rfl, HB9.out⟩
def checkC (P : GProg) : Int := (cstepsE P).2
set_option maxRecDepth 100000 in
theorem ccheck_any (w : World) (v : Value) (P : GProg) (hv : HasProg w v P) (hps : ∀ p ∈ P.parts, p.params.length ≤ 17600000000000) : Calls Try.prog 33 #[v] w (Tells (.int .i64 (checkC P)) w) := by
  obtain ⟨vp, vl, vo, rfl, rp, rl, ro⟩ := hv
  have hb1 := below_alloc w (.cells #[.int .i64 P.memory, .int .i64 P.counters, .int .i64 P.ins, .int .i64 P.outs, vp, vl, vo] 39)
  have hX := heap_alloc_new w (.cells #[.int .i64 P.memory, .int .i64 P.counters, .int .i64 P.ins, .int .i64 P.outs, vp, vl, vo] 39)
  have HV : Hid (HasProg w (.agg #[.int .i64 P.memory, .int .i64 P.counters, .int .i64 P.ins, .int .i64 P.outs, vp, vl, vo]) P) := Lib.hid ⟨_, _, _, rfl, rp, rl, ro⟩
  have HPS := Lib.hid hps
  have p0 := cells_row _ _ hX 0 _ rfl
  have p1 := cells_row _ _ hX 1 _ rfl
  have p2 := cells_row _ _ hX 2 _ rfl
  have p3 := cells_row _ _ hX 3 _ rfl
  have p4 := cells_row _ _ hX 4 _ rfl
  have p5 := cells_row _ _ hX 5 _ rfl
  have p6 := cells_row _ _ hX 6 _ rfl
  have HB := Lib.hid hb1
  obtain ⟨r, hr⟩ : ∃ r, cstepsE P = r := ⟨_, rfl⟩
  have HR := Lib.hid hr
  rw [checkC, hr]
  clear rp rl ro hb1 hX hps hr
  go_enter Try.func33, Try.ntmps33
  go_wp2_with fail
  clear p0 p1 p2 p3 p4 p5 p6
  refine (csteps_any _ _ P (HV.out.below HB.out) HPS.out).mono ?_
  rintro e w9 ⟨rfl, hb9⟩
  rw [HR.out]
  have HB9 := Lib.hid (HB.out.trans (hb9.mono HB.out.size))
  clear hb9
  go_wp2
  go_ret
  exact ⟨rfl, HB9.out⟩
end Go.Proofs.Ytbmbfifempkhgaa

/- What a firing's operations are on: the plain law of EmitPorts. No function in sight. -/
namespace Go.Proofs.Ytbmbfifempkhgaa
open Go.RowKit

/-- the operation at a place -/
def opAt (m : List (List GOp)) (k i : Nat) : Option GOp := (rowM m k)[i]?
theorem opAt_put (m : List (List GOp)) (a p : Nat) (kd x : Int) (k i : Nat) {y0 : GOp} (h0 : opAt m k i = some y0) : opAt (putM m a p kd x) k i = some (if a = k ∧ p = i then ⟨kd, x, y0.b⟩ else y0) := by
  unfold opAt putM at *
  by_cases ha : a = k
  · subst ha
    have hal : a < m.length := by
      rcases Nat.lt_or_ge a m.length with h | h
      · exact h
      · rw [rowM, List.getElem?_eq_none h] at h0; cases h0
    have e : rowM (m.set a (putL (rowM m a) p kd x)) a = putL (rowM m a) p kd x := by unfold rowM; rw [List.getElem?_set_self hal]; rfl
    rw [e, putL]
    by_cases hp : p = i
    · subst hp
      have hil : p < (rowM m a).length := (List.getElem?_eq_some_iff.1 h0).1
      rw [List.getElem?_set_self hil, if_pos ⟨rfl, rfl⟩, bAt, h0]
    · rw [List.getElem?_set_ne hp, h0, if_neg (fun h => hp h.2)]
  · have e : rowM (m.set a (putL (rowM m a) p kd x)) k = rowM m k := by unfold rowM; rw [List.getElem?_set_ne ha]
    rw [e, h0, if_neg (fun h => ha h.1)]
theorem opAt_all {f : Nat → Option (Int × Int)} {kd : Int} {m : List (List GOp)} {k i : Nat} {y0 : GOp} (h0 : opAt m k i = some y0) : ∀ n, (∀ t, t < n → ∀ a p, f t = some (a, p) → 0 ≤ a ∧ 0 ≤ p) →
    ∃ y, opAt (putAll f kd m n) k i = some y ∧ y.b = y0.b ∧ ((y = y0 ∧ ∀ t, t < n → f t ≠ some ((k : Int), (i : Int))) ∨ (y.kind = kd ∧ ∃ t, t < n ∧ y.a = t ∧ f t = some ((k : Int), (i : Int))))
  | 0, _ => ⟨y0, h0, rfl, .inl ⟨rfl, fun t h => by omega⟩⟩
  | n + 1, hf => by
    obtain ⟨y, h1, h2, h3⟩ := opAt_all (f := f) (kd := kd) h0 n (fun t ht => hf t (by omega))
    cases hft : f n with
    | none =>
      refine ⟨y, by rw [putAll, hft]; exact h1, h2, ?_⟩
      rcases h3 with ⟨h3, h4⟩ | ⟨h3, t, ht, h4⟩
      · refine .inl ⟨h3, fun t ht => ?_⟩
        by_cases e : t = n
        · subst e; rw [hft]; simp
        · exact h4 t (by omega)
      · exact .inr ⟨h3, t, by omega, h4⟩
    | some ap =>
      obtain ⟨a, p⟩ := ap
      obtain ⟨ha, hp⟩ := hf n (by omega) a p hft
      rw [putAll_succ hft]
      have h5 := opAt_put (putAll f kd m n) a.toNat p.toNat kd n k i h1
      by_cases hit : a.toNat = k ∧ p.toNat = i
      · rw [if_pos hit] at h5
        refine ⟨_, h5, h2, .inr ⟨rfl, n, by omega, rfl, ?_⟩⟩
        rw [hft]
        have e1 : a = (k : Int) := by omega
        have e2 : p = (i : Int) := by omega
        rw [e1, e2]
      · rw [if_neg hit] at h5
        refine ⟨y, h5, h2, ?_⟩
        rcases h3 with ⟨h3, h4⟩ | ⟨h3, t, ht, h4⟩
        · refine .inl ⟨h3, fun t ht e => ?_⟩
          by_cases e2 : t = n
          · subst e2
            rw [hft] at e
            have e3 := Option.some.inj e
            simp only [Prod.mk.injEq] at e3
            exact hit ⟨by omega, by omega⟩
          · exact h4 t (by omega) e
        · exact .inr ⟨h3, t, by omega, h4⟩

/-- what is marked -/
def markAt (side : List (List Bool)) (k i : Nat) : Prop := (side1 side (k : Int))[i]? = some true
theorem mark_take {side : List (List Bool)} {a p : Int} {k i : Nat} (h : markAt (takeS side a p) k i) : (a.toNat = k ∧ p.toNat = i) ∨ markAt side k i := by
  unfold markAt takeS side1 at *
  rw [Int.toNat_natCast] at *
  by_cases ha : a.toNat = k
  · subst ha
    by_cases hal : a.toNat < side.length
    · rw [List.getElem?_set_self hal, Option.getD_some] at h
      by_cases hp : p.toNat = i
      · exact .inl ⟨rfl, hp⟩
      · rw [List.getElem?_set_ne hp] at h
        exact .inr h
    · have e : (side.set a.toNat ((side[a.toNat]?.getD []).set p.toNat true))[a.toNat]? = none := List.getElem?_eq_none (by simpa using Nat.le_of_not_lt hal)
      rw [e] at h
      simp at h
  · rw [List.getElem?_set_ne ha] at h
    exact .inr h
theorem mark_edges : ∀ (l : List GEdge) (c : Chk) (k i : Nat), (markAt (edgesC c l).ins k i → (∃ e ∈ l, e.dst.toNat = k ∧ e.dport.toNat = i) ∨ markAt c.ins k i) ∧ (markAt (edgesC c l).outs k i → (∃ e ∈ l, e.src.toNat = k ∧ e.sport.toNat = i) ∨ markAt c.outs k i)
  | [], _, _, _ => ⟨fun h => .inr h, fun h => .inr h⟩
  | x :: l, c, k, i => by
    obtain ⟨h1, h2⟩ := mark_edges l (edgeC c x) k i
    constructor
    · intro h
      rcases h1 h with ⟨e, he, h⟩ | h
      · exact .inl ⟨e, List.mem_cons_of_mem _ he, h⟩
      · rcases mark_take h with h | h
        · exact .inl ⟨x, List.mem_cons_self, h⟩
        · exact .inr h
    · intro h
      rcases h2 h with ⟨e, he, h⟩ | h
      · exact .inl ⟨e, List.mem_cons_of_mem _ he, h⟩
      · rcases mark_take h with h | h
        · exact .inl ⟨x, List.mem_cons_self, h⟩
        · exact .inr h
theorem mark_ports : ∀ (l : List GPort) (side : List (List Bool)) (k i : Nat), markAt (portsS side l) k i → (∃ e ∈ l, e.actor.toNat = k ∧ e.port.toNat = i) ∨ markAt side k i
  | [], _, _, _, h => .inr h
  | x :: l, side, k, i, h => by
    rcases mark_ports l (takeS side x.actor x.port) k i h with ⟨e, he, h⟩ | h
    · exact .inl ⟨e, List.mem_cons_of_mem _ he, h⟩
    · rcases mark_take h with h | h
      · exact .inl ⟨x, List.mem_cons_self, h⟩
      · exact .inr h
theorem actorsC_marks : ∀ (l : List GActor) (c : Chk), (actorsC c l).ins = c.ins ++ l.map (fun a => List.replicate (insP a.tag a.params).length false) ∧ (actorsC c l).outs = c.outs ++ l.map (fun a => List.replicate (outsP a.tag a.params).length false)
  | [], _ => by simp [actorsC]
  | x :: l, c => by
    have := actorsC_marks l (actorC c x)
    simp only [actorsC, List.foldl_cons] at this ⊢
    rw [this.1, this.2]
    simp [actorC]
theorem mark_none {f : GActor → Nat} {l : List GActor} {k i : Nat} : ¬ markAt (l.map fun a => List.replicate (f a) false) k i := by
  unfold markAt side1
  rw [Int.toNat_natCast, List.getElem?_map]
  cases l[k]? with
  | none => simp
  | some a =>
    simp only [Option.map_some, Option.getD_some, List.getElem?_replicate]
    split <;> simp
theorem open_mark {ins outs : List (List Bool)} (h : openE ins outs = 0) {k i : Nat} : (k < ins.length → i < (side1 ins k).length → markAt ins k i) ∧ (k < outs.length → i < (side1 outs k).length → markAt outs k i) := by
  unfold openE at h
  split at h
  · rename_i h1
    simp only [Bool.and_eq_true, List.all_eq_true] at h1
    have key : ∀ side : List (List Bool), (∀ x ∈ side, ∀ y ∈ x, id y = true) → k < side.length → i < (side1 side k).length → markAt side k i := fun side hs hk hi => by
      unfold markAt side1 at *
      rw [Int.toNat_natCast] at *
      rw [List.getElem?_eq_getElem hk, Option.getD_some] at *
      rw [List.getElem?_eq_getElem hi]
      exact congrArg some (hs _ (List.getElem_mem hk) _ (List.getElem_mem hi))
    exact ⟨key ins h1.1, key outs h1.2⟩
  · cases h

def RightIn (g : GGraph) (k i : Nat) (y : GOp) : Prop := (y.kind = 3 ∧ ∃ t, ∃ h : t < g.edges.length, y.a = t ∧ g.edges[t].dst = k ∧ g.edges[t].dport = i) ∨ (y.kind = 4 ∧ ∃ t, ∃ h : t < g.ins.length, y.a = t ∧ g.ins[t].actor = k ∧ g.ins[t].port = i)
def RightOut (g : GGraph) (k i : Nat) (y : GOp) : Prop := (y.kind = 6 ∧ ∃ t, ∃ h : t < g.edges.length, y.a = t ∧ g.edges[t].src = k ∧ g.edges[t].sport = i) ∨ (y.kind = 7 ∧ ∃ t, ∃ h : t < g.outs.length, y.a = t ∧ g.outs[t].actor = k ∧ g.outs[t].port = i)

theorem edge_at {g : GGraph} {t : Nat} {f : GEdge → Int × Int} {a p : Int} (h : (match g.edges[t]? with | some e => some (f e) | none => none) = some (a, p)) : ∃ h : t < g.edges.length, f g.edges[t] = (a, p) := by
  by_cases ht : t < g.edges.length
  · rw [List.getElem?_eq_getElem ht] at h
    exact ⟨ht, Option.some.inj h⟩
  · rw [List.getElem?_eq_none (by omega)] at h; cases h
theorem port_at {l : List GPort} {t : Nat} {a p : Int} (h : pAt l t = some (a, p)) : ∃ h : t < l.length, l[t].actor = a ∧ l[t].port = p := by
  unfold pAt at h
  by_cases ht : t < l.length
  · rw [List.getElem?_eq_getElem ht] at h
    have := Option.some.inj h
    simp only [Prod.mk.injEq] at this
    exact ⟨ht, this⟩
  · rw [List.getElem?_eq_none (by omega)] at h; cases h

theorem right_in {g : GGraph} (hc : checkE g = 0) (hf : FirOk g) {k i : Nat} (hk : k < g.actors.length) {r : Int} (hr : (insP g.actors[k].tag g.actors[k].params)[i]? = some r) : ∃ y, opAt (matI2 g) k i = some y ∧ y.b = r ∧ RightIn g k i y := by
  have e0 : insF g k = rateL (insP g.actors[k].tag g.actors[k].params) := by unfold insF; rw [List.getElem?_eq_getElem hk]
  have h0 : opAt (matI0 g) k i = some ⟨0, 0, r⟩ := by
    unfold opAt
    rw [matI0, rowJ_row _ _ _ hk, if_pos hk, e0, rateL, List.getElem?_map, hr]; rfl
  obtain ⟨y1, a1, a2, a3⟩ := opAt_all (f := eDst g) (kd := 3) h0 g.edges.length (fun t ht a p e => by
    unfold eDst at e
    obtain ⟨ht, e2⟩ := edge_at (f := fun e => (e.dst, e.dport)) e
    simp only [Prod.mk.injEq] at e2
    have := hf.dst _ (List.getElem_mem ht)
    unfold InAt at this
    omega)
  obtain ⟨y2, b1, b2, b3⟩ := opAt_all (f := pAt g.ins) (kd := 4) a1 g.ins.length (fun t ht a p e => by
    obtain ⟨ht, e2, e3⟩ := port_at e
    have := hf.pin _ (List.getElem_mem ht)
    unfold InAt at this
    omega)
  refine ⟨y2, b1, by rw [b2, a2], ?_⟩
  rcases b3 with ⟨rfl, b4⟩ | ⟨b4, t, ht, b5, b6⟩
  · rcases a3 with ⟨rfl, a4⟩ | ⟨a4, t, ht, a5, a6⟩
    · exfalso
      obtain ⟨_, _, _, _, _, ho⟩ := checkE_parts hc
      have hl : lensB (portsS (chk2 g).ins g.ins) = g.actors.map (fun a => (insP a.tag a.params).length) := by
        have : ∀ (l : List GPort) (s : List (List Bool)), lensB (portsS s l) = lensB s := fun l => by
          induction l with
          | nil => intro s; rfl
          | cons x l ih => intro s; rw [portsS, List.foldl_cons, ← portsS, ih, takeS_lens]
        rw [this, chk2, (edgesC_lens _ _).1, chk1, (actorsC_lens _ _).1]; simp [chk0, lensB]
      have hlen : k < (portsS (chk2 g).ins g.ins).length := by
        have := congrArg List.length hl
        rw [lensB, List.length_map, List.length_map] at this
        omega
      have hil : i < (side1 (portsS (chk2 g).ins g.ins) (k : Int)).length := by
        rw [side1_len, hl, Int.toNat_natCast, List.getElem?_map, List.getElem?_eq_getElem hk]
        exact (List.getElem?_eq_some_iff.1 hr).1
      rcases mark_ports _ _ _ _ ((open_mark ho).1 hlen hil) with ⟨e, he, e1, e2⟩ | h
      · obtain ⟨t, ht, rfl⟩ := List.mem_iff_getElem.1 he
        have hp := hf.pin _ (List.getElem_mem ht)
        unfold InAt at hp
        refine b4 t ht ?_
        unfold pAt
        rw [List.getElem?_eq_getElem ht]
        have e3 : g.ins[t].actor = (k : Int) := by omega
        have e4 : g.ins[t].port = (i : Int) := by omega
        simp only [e3, e4]
      · rcases (mark_edges _ _ _ _).1 h with ⟨e, he, e1, e2⟩ | h
        · obtain ⟨t, ht, rfl⟩ := List.mem_iff_getElem.1 he
          have hp := hf.dst _ (List.getElem_mem ht)
          unfold InAt at hp
          refine a4 t ht ?_
          unfold eDst
          rw [List.getElem?_eq_getElem ht]
          have e3 : g.edges[t].dst = (k : Int) := by omega
          have e4 : g.edges[t].dport = (i : Int) := by omega
          simp only [e3, e4]
        · rw [chk1, (actorsC_marks _ _).1, chk0, List.nil_append] at h
          exact mark_none h
    · left
      unfold eDst at a6
      obtain ⟨ht, e2⟩ := edge_at (f := fun e => (e.dst, e.dport)) a6
      simp only [Prod.mk.injEq] at e2
      exact ⟨a4, t, ht, a5, e2⟩
  · right
    obtain ⟨ht, e2⟩ := port_at b6
    exact ⟨b4, t, ht, b5, e2⟩
theorem right_out {g : GGraph} (hc : checkE g = 0) (hf : FirOk g) {k i : Nat} (hk : k < g.actors.length) {r : Int} (hr : (outsP g.actors[k].tag g.actors[k].params)[i]? = some r) : ∃ y, opAt (matO2 g) k i = some y ∧ y.b = r ∧ RightOut g k i y := by
  have e0 : outsF g k = rateL (outsP g.actors[k].tag g.actors[k].params) := by unfold outsF; rw [List.getElem?_eq_getElem hk]
  have h0 : opAt (matO0 g) k i = some ⟨0, 0, r⟩ := by
    unfold opAt
    rw [matO0, rowJ_row _ _ _ hk, if_pos hk, e0, rateL, List.getElem?_map, hr]; rfl
  obtain ⟨y1, a1, a2, a3⟩ := opAt_all (f := eSrc g) (kd := 6) h0 g.edges.length (fun t ht a p e => by
    unfold eSrc at e
    obtain ⟨ht, e2⟩ := edge_at (f := fun e => (e.src, e.sport)) e
    simp only [Prod.mk.injEq] at e2
    have := hf.src _ (List.getElem_mem ht)
    unfold OutAt at this
    omega)
  obtain ⟨y2, b1, b2, b3⟩ := opAt_all (f := pAt g.outs) (kd := 7) a1 g.outs.length (fun t ht a p e => by
    obtain ⟨ht, e2, e3⟩ := port_at e
    have := hf.pout _ (List.getElem_mem ht)
    unfold OutAt at this
    omega)
  refine ⟨y2, b1, by rw [b2, a2], ?_⟩
  rcases b3 with ⟨rfl, b4⟩ | ⟨b4, t, ht, b5, b6⟩
  · rcases a3 with ⟨rfl, a4⟩ | ⟨a4, t, ht, a5, a6⟩
    · exfalso
      obtain ⟨_, _, _, _, _, ho⟩ := checkE_parts hc
      have hl : lensB (portsS (chk2 g).outs g.outs) = g.actors.map (fun a => (outsP a.tag a.params).length) := by
        have : ∀ (l : List GPort) (s : List (List Bool)), lensB (portsS s l) = lensB s := fun l => by
          induction l with
          | nil => intro s; rfl
          | cons x l ih => intro s; rw [portsS, List.foldl_cons, ← portsS, ih, takeS_lens]
        rw [this, chk2, (edgesC_lens _ _).2, chk1, (actorsC_lens _ _).2]; simp [chk0, lensB]
      have hlen : k < (portsS (chk2 g).outs g.outs).length := by
        have := congrArg List.length hl
        rw [lensB, List.length_map, List.length_map] at this
        omega
      have hil : i < (side1 (portsS (chk2 g).outs g.outs) (k : Int)).length := by
        rw [side1_len, hl, Int.toNat_natCast, List.getElem?_map, List.getElem?_eq_getElem hk]
        exact (List.getElem?_eq_some_iff.1 hr).1
      rcases mark_ports _ _ _ _ ((open_mark ho).2 hlen hil) with ⟨e, he, e1, e2⟩ | h
      · obtain ⟨t, ht, rfl⟩ := List.mem_iff_getElem.1 he
        have hp := hf.pout _ (List.getElem_mem ht)
        unfold OutAt at hp
        refine b4 t ht ?_
        unfold pAt
        rw [List.getElem?_eq_getElem ht]
        have e3 : g.outs[t].actor = (k : Int) := by omega
        have e4 : g.outs[t].port = (i : Int) := by omega
        simp only [e3, e4]
      · rcases (mark_edges _ _ _ _).2 h with ⟨e, he, e1, e2⟩ | h
        · obtain ⟨t, ht, rfl⟩ := List.mem_iff_getElem.1 he
          have hp := hf.src _ (List.getElem_mem ht)
          unfold OutAt at hp
          refine a4 t ht ?_
          unfold eSrc
          rw [List.getElem?_eq_getElem ht]
          have e3 : g.edges[t].src = (k : Int) := by omega
          have e4 : g.edges[t].sport = (i : Int) := by omega
          simp only [e3, e4]
        · rw [chk1, (actorsC_marks _ _).2, chk0, List.nil_append] at h
          exact mark_none h
    · left
      unfold eSrc at a6
      obtain ⟨ht, e2⟩ := edge_at (f := fun e => (e.src, e.sport)) a6
      simp only [Prod.mk.injEq] at e2
      exact ⟨a4, t, ht, a5, e2⟩
  · right
    obtain ⟨ht, e2⟩ := port_at b6
    exact ⟨b4, t, ht, b5, e2⟩

/-- the program of one firing -/
theorem one_firing {g : GGraph} {p : GPlan} {a : Int} (h : makeE g p (.cons 1 a .nil .nil) = 0) : ∃ k : Nat, a = k ∧ k < g.actors.length ∧ checkE g = 0 ∧ (makeP g p (.cons 1 a .nil .nil)).ops = rowM (matI2 g) k ++ [⟨5, k, 0⟩] ++ rowM (matO2 g) k ++ [⟨0, 0, 0⟩] := by
  have h0 := h
  unfold makeE at h
  split at h
  · rename_i h1; exact absurd h h1
  split at h
  · rename_i h1; exact absurd h h1
  split at h
  · cases h
  rename_i h1 h2 h3
  have hc : checkE g = 0 := Decidable.not_not.1 h1
  obtain ⟨_, _, hl⟩ := nest_facts (Decidable.not_not.1 h2)
  obtain ⟨l1, l2⟩ := hl.1 rfl
  have h4 : ¬ (g.actors.length : Int) ≤ a := fun h => h3 (by simp [strangeP, Nest.isNil, h])
  refine ⟨a.toNat, by omega, by omega, hc, ?_⟩
  rw [makeP, if_pos h0, makeG]
  simp only [rowP, Nest.isNil, leafP]
  rw [if_neg (by omega)]
  simp only [if_true, List.nil_append]
  rw [firP, finM_row _ _ _ (by rw [matI2_len]; omega), if_pos (by omega), finR]
end Go.Proofs.Ytbmbfifempkhgaa

/- HeavyLoops. -/
namespace Go.Proofs.Ytbmbfifempkhgaa
open Go.RowKit

def wloopP : Nest → Nat → Nat → Nat
  | .nil, _, n => n
  | .cons _ _ b r, d, n => if 65536 < n then n else wloopP r d (if 60 < d + 1 then 65537 else wloopP b (d + 1) (n + 1))
def weightP (l : Nest) (d n : Nat) : Nat := if 60 < d then 65537 else wloopP l d n
theorem wloopP_cons (t nd : Int) (b r : Nest) (d n : Nat) : wloopP (.cons t nd b r) d n = if 65536 < n then n else wloopP r d (weightP b (d + 1) (n + 1)) := by rw [wloopP, weightP]
theorem wloopP_le : ∀ (l : Nest) (d n : Nat), n ≤ 65537 → wloopP l d n ≤ 65537
  | .nil, _, _, h => h
  | .cons t nd b r, d, n, h => by
    rw [wloopP]
    split
    · exact h
    · refine wloopP_le r d _ ?_
      split
      · exact Nat.le_refl _
      · exact wloopP_le b (d + 1) (n + 1) (by omega)
theorem weightP_le (l : Nest) (d n : Nat) (h : n ≤ 65537) : weightP l d n ≤ 65537 := by
  unfold weightP
  split
  · exact Nat.le_refl _
  · exact wloopP_le l d n h
/-- how many loops there are -/
def nodesN : Nest → Nat
  | .nil => 0
  | .cons _ _ b r => 1 + nodesN b + nodesN r
theorem wloopP_nodes : ∀ (l : Nest) (d n : Nat), wloopP l d n ≤ 65536 → n + nodesN l ≤ wloopP l d n
  | .nil, _, n, _ => by simp [wloopP, nodesN]
  | .cons t nd b r, d, n, h => by
    rw [wloopP] at h ⊢
    by_cases hn : 65536 < n
    · rw [if_pos hn] at h; omega
    · rw [if_neg hn] at h ⊢
      by_cases hd : 60 < d + 1
      · rw [if_pos hd] at h ⊢
        have := wloopP_nodes r d _ h
        omega
      · rw [if_neg hd] at h ⊢
        have h1 := wloopP_nodes r d _ h
        have h2 := wloopP_nodes b (d + 1) (n + 1) (by omega)
        rw [nodesN]
        omega
theorem weight_nodes {l : Nest} (h : weightP l 0 0 ≤ 65536) : nodesN l ≤ 65536 := by
  unfold weightP at h
  rw [if_neg (by omega)] at h
  have := wloopP_nodes l 0 0 h
  omega
theorem nodesN_items : ∀ l : Nest, l.items.length ≤ nodesN l
  | .nil => Nat.le_refl _
  | .cons _ _ b r => by
    have := nodesN_items r
    simp only [Nest.items, List.length_cons, nodesN]
    omega
theorem nodesN_at : ∀ {l : Nest}, ∀ x ∈ l.items, nodesN x.2.2 ≤ nodesN l
  | .nil, x, hx => by simp [Nest.items] at hx
  | .cons _ _ _ r, x, hx => by
    simp only [Nest.items, List.mem_cons] at hx
    rcases hx with rfl | hx
    · simp only [nodesN]; omega
    · have := nodesN_at (l := r) x hx
      rw [nodesN]; omega

def WeightOk (D : Nat) : Prop := ∀ (w : World) (v : Value) (l : Nest) (d n : Nat), HasNestD D w v l → NSized l → d ≤ 61 → n ≤ 65537 → Calls Try.prog 75 #[v, .int .i64 d, .int .i64 n] w (Tells (.int .i64 (weightP l d n : Nat)) w)

set_option maxRecDepth 100000 in
theorem weight_zero : WeightOk 0 := by
  intro w v l d n hv hs hd hn
  obtain ⟨rfl, ao, cap, rfl⟩ := hv
  clear hs
  obtain ⟨r, hr⟩ : ∃ r, weightP .nil d n = r := ⟨_, rfl⟩
  rw [hr]
  have HR := Lib.hid hr
  clear hr
  by_cases h60 : 60 < d
  · have hi : (60 : Int) < d := by omega
    have e := HR.out
    rw [weightP, if_pos h60] at e
    subst e
    go_enter Try.func75, Try.ntmps75
    go_wp2
    go_ret
    exact ⟨rfl, Below.refl _ _⟩
  · have hi : ¬ (60 : Int) < d := by omega
    have e := HR.out
    rw [weightP, if_neg h60, wloopP] at e
    subst e
    go_enter Try.func75, Try.ntmps75
    go_wp2_with fail
    go_loopw [2, 7] (fun x i wr => i = .int .i64 0 ∧ x = .int .i64 n ∧ wr = w) (fun _ _ _ => 0)
    case atStart => exact ⟨rfl, rfl, rfl⟩
    case round =>
      obtain ⟨rfl, rfl, rfl⟩ := hrel
      go_wp2
      go_ret
      exact ⟨rfl, Below.refl _ _⟩

set_option maxRecDepth 100000 in
set_option maxHeartbeats 1000000 in
theorem weight_succ {D : Nat} (hw : WeightOk D) : WeightOk (D + 1) := by
  intro w v l d n hv hs hd hn
  have hv' : Recs w 3 (fun w x cs => ∃ y, cs = [.int .i64 x.1, .int .i64 x.2.1, y] ∧ HasNestD D w y x.2.2) v l.items := hv
  obtain ⟨ao, cap, rfl⟩ := hv'.slice
  obtain ⟨r, hr⟩ : ∃ r, weightP l d n = r := ⟨_, rfl⟩
  rw [hr]
  have HR := Lib.hid hr
  have HV := Lib.hid hv'
  have HS := Lib.hid hs
  have HL := Lib.hid (nsized_len hs)
  have HW := Lib.hid hw
  clear hr hv hv' hs hw
  by_cases h60 : 60 < d
  · have hi : (60 : Int) < d := by omega
    have e := HR.out
    rw [weightP, if_pos h60] at e
    subst e
    go_enter Try.func75, Try.ntmps75
    go_wp2
    go_ret
    exact ⟨rfl, Below.refl _ _⟩
  · have hi : ¬ (60 : Int) < d := by omega
    have HE : Hid (wloopP (l.drop 0) d n = r) := Lib.hid (by rw [drop_zero, ← HR.out, weightP, if_neg h60])
    have hd1 : IntKind.i64.wrap ((d : Int) + 1) = ((d + 1 : Nat) : Int) := by rw [IntWalk.i64_in _ (by omega)]; omega
    clear HR
    go_enter Try.func75, Try.ntmps75
    go_wp2_with fail
    go_loopw [2, 7] (fun x i wr => ∃ (j m : Nat), j ≤ l.items.length ∧ i = .int .i64 j ∧ x = .int .i64 m ∧ m ≤ 65537 ∧ Below w.heap.size w wr ∧ wloopP (l.drop j) d m = r) (fun _ i _ => l.items.length - (intOf i).toNat)
    case atStart => exact ⟨0, n, Nat.zero_le _, rfl, rfl, hn, Below.refl _ _, HE.out⟩
    case round =>
      clear HE
      obtain ⟨j, m, hj, rfl, rfl, hm, hb, hE⟩ := hrel
      have HB := Lib.hid hb
      have HE := Lib.hid hE
      clear hb hE
      by_cases hlt : j < l.items.length
      · have hlti : (j : Int) < l.items.length := by omega
        have hEc := HE.out
        rw [drop_items l j hlt, wloopP_cons] at hEc
        by_cases hbig : 65536 < m
        · rw [if_pos hbig] at hEc
          subst hEc
          have hbi : ¬ (m : Int) ≤ 65536 := by omega
          go_wp2
          go_ret
          exact ⟨rfl, HB.out⟩
        · rw [if_neg hbig] at hEc
          have hbi : (m : Int) ≤ 65536 := by omega
          obtain ⟨b0, off, rfl, hcap, hb0, hrec⟩ := HV.out.at (by omega)
          obtain ⟨cs, hcs, hPR, hcl⟩ := hrec j hlt
          obtain ⟨y, rfl, hy⟩ := hPR
          have c2 := cell_later HB.out (hcl 2 (by omega))
          simp at c2
          have hcapi : (l.items.length : Int) ≤ cap := by omega
          have HEC := Lib.hid hEc
          have HY := Lib.hid hy
          have HSb := Lib.hid (nsized_at HS.out _ (List.getElem_mem hlt))
          have hm1 : IntKind.i64.wrap ((m : Int) + 1) = ((m + 1 : Nat) : Int) := by rw [IntWalk.i64_in _ (by omega)]; omega
          clear hcl hcs hrec hEc hy HE
          generalize (l.items[j]).2.2 = b at *
          go_wp2_with fail
          refine (HW.out wr _ b (d + 1) (m + 1) (nestD_below D HY.out HB.out) HSb.out (by omega) (by omega)).mono ?_
          rintro e w4 ⟨rfl, hb4⟩
          have HB4 := Lib.hid (HB.out.trans (hb4.mono HB.out.size))
          have HLE := Lib.hid (weightP_le b (d + 1) (m + 1) (by omega))
          clear hb4 c2
          obtain ⟨z, hz⟩ : ∃ x, weightP b (d + 1) (m + 1) = x := ⟨_, rfl⟩
          rw [hz] at HEC HLE ⊢
          clear hz
          have hll := HL.out
          go_wp2
          go_roundw
          case rel => exact ⟨j + 1, z, hlt, by go_num, rfl, HLE.out, HB4.out, HEC.out⟩
          case measure => simp [intOf]; omega
      · obtain rfl : j = l.items.length := by omega
        have e := HE.out
        rw [drop_end, wloopP] at e
        subst e
        go_wp2
        go_ret
        exact ⟨rfl, HB.out⟩
theorem weight_any : ∀ D, WeightOk D
  | 0 => weight_zero
  | D + 1 => weight_succ (weight_any D)
set_option maxRecDepth 100000 in
theorem heavyloops_any (D : Nat) (w : World) (v : Value) (l : Nest) (hv : HasNestD D w v l) (hs : NSized l) : Calls Try.prog 36 #[v] w (Tells (.bool (decide (65536 < weightP l 0 0))) w) := by
  have HV := Lib.hid hv
  have HS := Lib.hid hs
  obtain ⟨B, hB⟩ : ∃ B, decide (65536 < weightP l 0 0) = B := ⟨_, rfl⟩
  rw [hB]
  have HBB := Lib.hid hB
  clear hv hs hB
  go_enter Try.func36, Try.ntmps36
  go_wp2_with fail
  refine (weight_any D w v l 0 0 HV.out HS.out (by omega) (by omega)).mono ?_
  rintro e w4 ⟨rfl, hb4⟩
  have HB := Lib.hid hb4
  clear hb4
  obtain ⟨z, hz⟩ : ∃ x, weightP l 0 0 = x := ⟨_, rfl⟩
  have hB := HBB.out
  rw [hz] at hB ⊢
  clear hz HBB
  by_cases h : 65536 < z
  · have hi : (65536 : Int) < z := by omega
    rw [decide_eq_true h] at hB
    subst hB
    go_wp2
    go_ret
    exact ⟨rfl, HB.out⟩
  · have hi : ¬ (65536 : Int) < z := by omega
    have hi2 : decide ((65536 : Int) < z) = false := decide_eq_false hi
    rw [decide_eq_false h] at hB
    subst hB
    clear h
    go_wp2
    go_ret
    exact ⟨rfl, HB.out⟩
end Go.Proofs.Ytbmbfifempkhgaa

/- nest.Check. -/
namespace Go.Proofs.Ytbmbfifempkhgaa
open Go.RowKit

set_option maxRecDepth 100000 in
theorem ncheck_any (D : Nat) (w : World) (v : Value) (l : Nest) (hv : HasNestD D w v l) (hs : NSized l) : Calls Try.prog 40 #[v] w (Tells (.int .i64 (nestCheckE l)) w) := by
  obtain ⟨ao, cap, rfl⟩ := nestD_slice D hv
  have hbK := below_alloc w (.cells #[.int .i64 0] 145)
  have hK : Blk (w.alloc (.cells #[.int .i64 0] 145)) (ext (fun _ => 0) w.heap.size 1) 1 w.heap.size 145 #[.int .i64 ((0 : Nat) : Int)] := ⟨heap_alloc_new w _, ext_new (Nat.le_refl _)⟩
  have HK := Lib.hid hK
  have HKe := Lib.hid ((Kept.start w).of_below 1 hbK)
  have HV := Lib.hid hv
  have HS := Lib.hid hs
  obtain ⟨E, hE⟩ : ∃ E, nestCheckE l = E := ⟨_, rfl⟩
  rw [hE]
  have HE := Lib.hid hE
  have hrow := Lib.hid (nrow_any D w _ (ext (fun _ => 0) w.heap.size 1) w.heap.size _ l 0 0 hv hs HKe.out hK (by omega) (by omega))
  clear hbK hK hv hs hE HK
  go_enter Try.func40, Try.ntmps40
  go_wp2_with fail
  refine (hrow.out).mono ?_
  rintro e w2 ⟨rfl, o2, T, hK2⟩
  have HK2 := Lib.hid (HKe.out.turn T (by decide))
  clear T hK2 hrow HKe
  obtain ⟨r, hr⟩ : ∃ r, nestE l 0 0 = r := ⟨_, rfl⟩
  obtain ⟨r1, r2⟩ := r
  rw [hr]
  have HR := Lib.hid hr
  clear hr
  by_cases h0 : r1 = 0
  · subst h0
    have HTM := Lib.hid (times_of l 0 0 (by rw [HR.out]))
    go_wp2_with fail
    refine (ntotal_any D _ _ l (nestD_below D HV.out HK2.out.below) HS.out HTM.out).mono ?_
    rintro e w3 ⟨rfl, hb3⟩
    have HB3 := Lib.hid (HK2.out.below.trans (hb3.mono HK2.out.size))
    clear hb3
    obtain ⟨tt, ht⟩ : ∃ x, totalP l 0 = x := ⟨_, rfl⟩
    rw [ht]
    have HT := Lib.hid ht
    clear ht
    by_cases h1 : 2048 < tt
    · have e : E = 5 := by rw [← HE.out, nestCheckE, HR.out, if_neg (by simp), HT.out, if_pos h1]
      subst e
      go_wp2
      go_ret
      exact ⟨rfl, HB3.out⟩
    · have e : E = 0 := by rw [← HE.out, nestCheckE, HR.out, if_neg (by simp), HT.out, if_neg h1]
      subst e
      go_wp2
      go_ret
      exact ⟨rfl, HB3.out⟩
  · have e : E = r1 := by rw [← HE.out, nestCheckE, HR.out, if_pos (by simpa using h0)]
    subst e
    go_wp2
    go_ret
    exact ⟨rfl, HK2.out.below⟩
end Go.Proofs.Ytbmbfifempkhgaa

/- nest's measure. -/
namespace Go.Proofs.Ytbmbfifempkhgaa
open Go.RowKit

/-- firings, heads, deep -/
abbrev Meas := Nat × Nat × Nat
def headM (t : Int) (s : Meas) : Meas := (s.1, if 1 < t then s.2.1 + 1 else s.2.1, s.2.2)
def leafM (s : Meas) : Meas := (s.1 + 1, s.2)
def deepM (d : Nat) (s : Meas) : Meas := (s.1, s.2.1, max s.2.2 (d + 1))
def measP : Nest → Nat → Meas → Meas
  | .nil, _, s => s
  | .cons t _ b r, d, s => measP r d (if b.isNil then leafM (headM t s) else measP b (d + 1) (deepM d (headM t s)))
def oneM (t : Int) (b : Nest) (d : Nat) (s : Meas) : Meas := if b.isNil then leafM (headM t s) else measP b (d + 1) (deepM d (headM t s))
theorem measP_cons {t nd : Int} {b r : Nest} {d : Nat} {s : Meas} : measP (.cons t nd b r) d s = measP r d (oneM t b d s) := rfl
theorem measP_le : ∀ (l : Nest) (d : Nat) (s : Meas), (measP l d s).1 ≤ s.1 + nodesN l ∧ (measP l d s).2.1 ≤ s.2.1 + nodesN l ∧ (measP l d s).2.2 ≤ max s.2.2 (d + depthN l)
  | .nil, d, s => by simp [measP, nodesN, depthN]; omega
  | .cons t nd b r, d, s => by
    rw [measP_cons, nodesN, depthN]
    obtain ⟨r1, r2, r3⟩ := measP_le r d (oneM t b d s)
    have ho : (oneM t b d s).1 ≤ s.1 + 1 + nodesN b ∧ (oneM t b d s).2.1 ≤ s.2.1 + 1 + nodesN b ∧ (oneM t b d s).2.2 ≤ max s.2.2 (d + (depthN b + 1)) := by
      unfold oneM
      have hh : (headM t s).2.1 ≤ s.2.1 + 1 := by simp only [headM]; split <;> omega
      split
      · refine ⟨by simp only [leafM, headM]; omega, ?_, by simp only [leafM, headM]; omega⟩
        show (headM t s).2.1 ≤ _
        omega
      · obtain ⟨b1, b2, b3⟩ := measP_le b (d + 1) (deepM d (headM t s))
        simp only [deepM] at b1 b2 b3
        have e1 : (headM t s).1 = s.1 := rfl
        have e2 : (headM t s).2.2 = s.2.2 := rfl
        refine ⟨by simp only [deepM]; omega, by simp only [deepM]; omega, by simp only [deepM]; omega⟩
    omega
def MeasV (s : Meas) (tot : Int) : Array Value := #[.int .i64 s.1, .int .i64 s.2.1, .int .i64 s.2.2, .int .i64 tot]
def MeasRet (w : World) (o : Col) (K : Nat) (s : Meas) (tot : Int) (e : Ending) (w' : World) : Prop := e = .returned (.tuple #[]) ∧ ∃ o', Turn o o' (fun x => x = 1) w w' ∧ Blk w' o' 1 K 82 (MeasV s tot)
def MeasOk (D : Nat) : Prop := ∀ (w0 w : World) (o : Col) (K : Nat) (v : Value) (l : Nest) (d : Nat) (s : Meas) (tot : Int), HasNestD D w0 v l → NSized l → Kept w0.heap.size o w0 w → Blk w o 1 K 82 (MeasV s tot) →
  s.1 + nodesN l ≤ 1000000000 ∧ s.2.1 + nodesN l ≤ 1000000000 ∧ s.2.2 ≤ 1000 ∧ d + depthN l ≤ 1000 → Calls Try.prog 71 #[v, .int .i64 d, .pointer (some ⟨K, 0, none⟩)] w (MeasRet w o K (measP l d s) tot)

set_option maxRecDepth 100000 in
theorem meas_zero : MeasOk 0 := by
  intro w0 w o K v l d s tot hv hs hk hb hn
  obtain ⟨rfl, ao, cap, rfl⟩ := hv
  have HT := Lib.hid (Turn.refl o (fun x => x = 1) w)
  have HB := Lib.hid hb
  clear hk hb hs hn
  go_enter Try.func71, Try.ntmps71
  go_wp2_with fail
  go_loopw [10] (fun i wr => i = .int .i64 0 ∧ wr = w) (fun _ _ => 0)
  case atStart => exact ⟨rfl, rfl⟩
  case round =>
    obtain ⟨rfl, rfl⟩ := hrel
    go_wp2
    go_end0
    exact ⟨rfl, _, HT.out, HB.out⟩

theorem meas_set0 (a b c : Nat) (tot : Int) : (MeasV (a, b, c) tot).setIfInBounds 0 (.int .i64 ((a : Int) + 1)) = MeasV (a + 1, b, c) tot := rfl
theorem meas_set1 (a b c : Nat) (tot : Int) : (MeasV (a, b, c) tot).setIfInBounds 1 (.int .i64 ((b : Int) + 1)) = MeasV (a, b + 1, c) tot := rfl
theorem meas_set2 (a b c e : Nat) (tot : Int) : (MeasV (a, b, c) tot).setIfInBounds 2 (.int .i64 (e : Int)) = MeasV (a, b, e) tot := rfl
theorem meas_set2' (a b c d : Nat) (tot : Int) : (MeasV (a, b, c) tot).setIfInBounds 2 (.int .i64 ((d : Int) + 1)) = MeasV (a, b, d + 1) tot := rfl


set_option maxRecDepth 100000 in
set_option maxHeartbeats 2000000 in
theorem meas_succ {D : Nat} (hrow : MeasOk D) : MeasOk (D + 1) := by
  intro w0 w o K v l d s tot hv hs hk hb hn
  have hv' : Recs w0 3 (fun w x cs => ∃ y, cs = [.int .i64 x.1, .int .i64 x.2.1, y] ∧ HasNestD D w y x.2.2) v l.items := hv
  obtain ⟨ao, cap, rfl⟩ := hv'.slice
  obtain ⟨r, hr⟩ : ∃ r, measP l d s = r := ⟨_, rfl⟩
  rw [hr]
  have HE := Lib.hid (show measP (l.drop 0) d s = r by rw [drop_zero]; exact hr)
  have HN0 : Hid (s.1 + nodesN (l.drop 0) ≤ 1000000000 ∧ s.2.1 + nodesN (l.drop 0) ≤ 1000000000 ∧ s.2.2 ≤ 1000 ∧ d + depthN (l.drop 0) ≤ 1000) := Lib.hid (by rw [drop_zero]; exact hn)
  have HV := Lib.hid hv'
  have HS := Lib.hid hs
  have HL := Lib.hid (nsized_len hs)
  have HROW := Lib.hid hrow
  have HT0 := Lib.hid (Turn.refl o (fun x => x = 1) w)
  have HK0 := Lib.hid hk
  have HB0 := Lib.hid hb
  clear hv hv' hs hk hb hrow hr hn
  go_enter Try.func71, Try.ntmps71
  go_wp2_with fail
  go_loopw [10] (fun i wr => ∃ (j : Nat) (q : Col) (zf zh zd : Nat), j ≤ l.items.length ∧ i = .int .i64 j ∧ Kept w0.heap.size q w0 wr ∧ Turn o q (fun x => x = 1) w wr ∧ Blk wr q 1 K 82 (MeasV (zf, zh, zd) tot) ∧ (zf + nodesN (l.drop j) ≤ 1000000000 ∧ zh + nodesN (l.drop j) ≤ 1000000000 ∧ zd ≤ 1000 ∧ d + depthN (l.drop j) ≤ 1000) ∧ measP (l.drop j) d (zf, zh, zd) = r) (fun i _ => l.items.length - (intOf i).toNat)
  case atStart => exact ⟨0, o, s.1, s.2.1, s.2.2, Nat.zero_le _, rfl, HK0.out, HT0.out, HB0.out, HN0.out, HE.out⟩
  case round =>
    clear HK0 HT0 HB0 HE HN0
    obtain ⟨j, q, zf, zh, zd, hj, rfl, hK, hT, hB, hN, hE⟩ := hrel
    have HE := Lib.hid hE
    have HN := Lib.hid hN
    by_cases hlt : j < l.items.length
    · have hlti : (j : Int) < l.items.length := by omega
      obtain ⟨b0, off, rfl, hcap, hb0, hrec⟩ := HV.out.at (by omega)
      obtain ⟨cs, hcs, hPR, hcl⟩ := hrec j hlt
      obtain ⟨y, rfl, hy⟩ := hPR
      have c0 := cell_later hK.below (hcl 0 (by omega))
      have c1 := cell_later hK.below (hcl 1 (by omega))
      have c2 := cell_later hK.below (hcl 2 (by omega))
      simp at c0 c1 c2
      have hcapi : (l.items.length : Int) ≤ cap := by omega
      have hEc := HE.out
      have hNc := HN.out
      rw [drop_items l j hlt] at hEc hNc
      rw [measP_cons] at hEc
      rw [nodesN, depthN] at hNc
      have HEC := Lib.hid hEc
      have HNC := Lib.hid hNc
      have HY := Lib.hid hy
      have HSb := Lib.hid (nsized_at HS.out _ (List.getElem_mem hlt))
      obtain ⟨ya, yc, hys⟩ := nestD_slice D hy
      subst hys
      clear hcl hcs hrec hEc hNc hy HE HN hN hE
      generalize (l.items[j]).1 = t at *
      generalize (l.items[j]).2.1 = nd at *
      generalize (l.items[j]).2.2 = b at *
      have hnil0 := isNil_len b
      generalize b.items.length = bl at *
      have HNIL := Lib.hid hnil0
      clear hnil0
      have hbX := below_alloc wr (.cells #[.int .i64 t, .int .i64 nd, .slice ya bl yc] 51)
      have TX := Turn.of_below q 8 hbX
      have HX : Hid (Blk _ (ext q wr.heap.size 8) 8 _ _ _) := Lib.hid ⟨heap_alloc_new wr (.cells #[.int .i64 t, .int .i64 nd, .slice ya bl yc] 51), ext_new (Nat.le_refl _)⟩
      have HK := Lib.hid (hK.turn TX (fun h => h))
      have HT := Lib.hid (hT.trans (TX.mono (D := fun x => x = 1) (fun _ h => h.elim)) (fun _ h => h))
      have hBlt := hB.lt
      have HB := Lib.hid (hB.turn TX (fun h => h))
      have x0 := HX.out.cell 0 _ rfl
      clear hbX TX hK hT hB
      obtain ⟨X, hX⟩ : ∃ x, wr.heap.size = x := ⟨_, rfl⟩
      have hKX : K ≠ X := by have := hBlt; omega
      have hXK : X ≠ K := fun h => hKX h.symm
      rw [hX] at HX x0 HK HT HB
      generalize ext q X 8 = q8 at *
      clear hBlt
      have hw1 : IntKind.i64.wrap ((zh : Int) + 1) = ((zh + 1 : Nat) : Int) := by rw [IntWalk.i64_in _ (by have := HNC.out; omega)]; omega
      have y0 : World.cell? _ ⟨K, 0, none⟩ = some (.int .i64 (zf : Int)) := HB.out.cell 0 _ rfl
      have y1 : World.cell? _ ⟨K, 1, none⟩ = some (.int .i64 (zh : Int)) := HB.out.cell 1 _ rfl
      have y2 : World.cell? _ ⟨K, 2, none⟩ = some (.int .i64 (zd : Int)) := HB.out.cell 2 _ rfl
      have x2 : World.cell? _ ⟨X, 2, none⟩ = some (.slice ya bl yc) := HX.out.cell 2 _ rfl
      have g0 := HB.out.frozen 0
      have g1 := HB.out.frozen 1
      have g2 := HB.out.frozen 2
      have hw0 : IntKind.i64.wrap ((zf : Int) + 1) = ((zf + 1 : Nat) : Int) := by rw [IntWalk.i64_in _ (by have := HNC.out; omega)]; omega
      have hwd : IntKind.i64.wrap ((d : Int) + 1) = ((d + 1 : Nat) : Int) := by rw [IntWalk.i64_in _ (by have := HNC.out; omega)]; omega
      by_cases hb0' : bl = 0
      · subst hb0'
        have HBN : Hid (b.isNil = true) := Lib.hid (by rw [HNIL.out]; rfl)
        by_cases h1 : 1 < t
        · have hll := HL.out
          have hnc := HNC.out
          go_wp2
          -- a cell of the block is set: 1 index, .int .i64 ((zh : Int) + 1) value, meas_set1 law of the cells
          obtain ⟨bn, Tn⟩ := HB.out.set 1 (.int .i64 ((zh : Int) + 1))
          rw [meas_set1] at bn
          have HTn := Lib.hid (HT.out.trans Tn (fun _ h => h))
          have HKn := Lib.hid (HK.out.turn Tn (by decide))
          have HBn := Lib.hid bn
          clear bn Tn HT HK HB
          have HT := HTn
          have HK := HKn
          have HB := HBn
          clear HTn HKn HBn
          -- a cell of the block is set: 0 index, .int .i64 ((zf : Int) + 1) value, meas_set0 law of the cells
          obtain ⟨bn, Tn⟩ := HB.out.set 0 (.int .i64 ((zf : Int) + 1))
          rw [meas_set0] at bn
          have HTn := Lib.hid (HT.out.trans Tn (fun _ h => h))
          have HKn := Lib.hid (HK.out.turn Tn (by decide))
          have HBn := Lib.hid bn
          clear bn Tn HT HK HB
          have HT := HTn
          have HK := HKn
          have HB := HBn
          clear HTn HKn HBn
          -- zf + 1, zh + 1, zd the triple, h1 facts
          have HEF : Hid (measP (l.drop (j + 1)) d (zf + 1, zh + 1, zd) = r) := Lib.hid (by have e := HEC.out; simpa only [oneM, HBN.out, leafM, headM, h1, if_true, if_false] using e)
          go_roundw
          case rel => exact ⟨j + 1, _, _, _, _, hlt, by go_num, HK.out, HT.out, HB.out, by omega, HEF.out⟩
          case measure => simp [intOf]; omega
        · have hll := HL.out
          have hnc := HNC.out
          go_wp2
          -- a cell of the block is set: 0 index, .int .i64 ((zf : Int) + 1) value, meas_set0 law of the cells
          obtain ⟨bn, Tn⟩ := HB.out.set 0 (.int .i64 ((zf : Int) + 1))
          rw [meas_set0] at bn
          have HTn := Lib.hid (HT.out.trans Tn (fun _ h => h))
          have HKn := Lib.hid (HK.out.turn Tn (by decide))
          have HBn := Lib.hid bn
          clear bn Tn HT HK HB
          have HT := HTn
          have HK := HKn
          have HB := HBn
          clear HTn HKn HBn
          -- zf + 1, zh, zd the triple, if_neg (show ¬ 1 < t by omega) facts
          have HEF : Hid (measP (l.drop (j + 1)) d (zf + 1, zh, zd) = r) := Lib.hid (by have e := HEC.out; simpa only [oneM, HBN.out, leafM, headM, if_neg (show ¬ 1 < t by omega), if_true, if_false] using e)
          go_roundw
          case rel => exact ⟨j + 1, _, _, _, _, hlt, by go_num, HK.out, HT.out, HB.out, by omega, HEF.out⟩
          case measure => simp [intOf]; omega
      · have hb1 : ¬ (bl : Int) = 0 := by omega
        have HBN : Hid (b.isNil = false) := Lib.hid (by rw [HNIL.out]; simpa using hb0')
        by_cases h1 : 1 < t
        · by_cases h2 : (zd : Int) < d + 1
          · have hm : max zd (d + 1) = d + 1 := by omega
            go_wp2_with fail
            -- a cell of the block is set: 1 index, .int .i64 ((zh : Int) + 1) value, meas_set1 law of the cells
            obtain ⟨bn, Tn⟩ := HB.out.set 1 (.int .i64 ((zh : Int) + 1))
            rw [meas_set1] at bn
            have HTn := Lib.hid (HT.out.trans Tn (fun _ h => h))
            have HKn := Lib.hid (HK.out.turn Tn (by decide))
            have HBn := Lib.hid bn
            clear bn Tn HT HK HB
            have HT := HTn
            have HK := HKn
            have HB := HBn
            clear HTn HKn HBn
            -- a cell of the block is set: 2 index, .int .i64 ((d : Int) + 1) value, meas_set2' law of the cells
            obtain ⟨bn, Tn⟩ := HB.out.set 2 (.int .i64 ((d : Int) + 1))
            rw [meas_set2'] at bn
            have HTn := Lib.hid (HT.out.trans Tn (fun _ h => h))
            have HKn := Lib.hid (HK.out.turn Tn (by decide))
            have HBn := Lib.hid bn
            clear bn Tn HT HK HB
            have HT := HTn
            have HK := HKn
            have HB := HBn
            clear HTn HKn HBn
            -- zf, zh + 1, d + 1 the triple, h1, hm facts
            have HEF : Hid (measP (l.drop (j + 1)) d (measP b (d + 1) (zf, zh + 1, d + 1)) = r) := Lib.hid (by have e := HEC.out; simpa only [oneM, HBN.out, deepM, headM, h1, hm, if_true, if_false, Bool.false_eq_true] using e)
            have hnc := HNC.out
            have hle := measP_le b (d + 1) (zf, zh + 1, d + 1)
            refine (HROW.out w0 _ _ K _ b (d + 1) (zf, zh + 1, d + 1) tot HY.out HSb.out HK.out HB.out ?_).mono ?_
            · simp only at hle hnc ⊢
              omega
            clear hle
            rintro e w' ⟨rfl, o', hT', hB'⟩
            have hle := measP_le b (d + 1) (zf, zh + 1, d + 1)
            obtain ⟨⟨zf', zh', zd'⟩, hz'⟩ : ∃ z', measP b (d + 1) (zf, zh + 1, d + 1) = z' := ⟨_, rfl⟩
            rw [hz'] at hle hB'
            have HEG := Lib.hid (show measP (l.drop (j + 1)) d (zf', zh', zd') = r by rw [← hz']; exact HEF.out)
            have HKr := Lib.hid (HK.out.turn hT' (by decide))
            have HTr := Lib.hid (HT.out.trans hT' (fun _ h => h))
            have HBr := Lib.hid hB'
            clear hT' hB' hz'
            have hll := HL.out
            go_wp2
            go_roundw
            case rel => exact ⟨j + 1, _, _, _, _, hlt, by go_num, HKr.out, HTr.out, HBr.out, by omega, HEG.out⟩
            case measure => simp [intOf]; omega
          · have hm : max zd (d + 1) = zd := by omega
            go_wp2_with fail
            -- a cell of the block is set: 1 index, .int .i64 ((zh : Int) + 1) value, meas_set1 law of the cells
            obtain ⟨bn, Tn⟩ := HB.out.set 1 (.int .i64 ((zh : Int) + 1))
            rw [meas_set1] at bn
            have HTn := Lib.hid (HT.out.trans Tn (fun _ h => h))
            have HKn := Lib.hid (HK.out.turn Tn (by decide))
            have HBn := Lib.hid bn
            clear bn Tn HT HK HB
            have HT := HTn
            have HK := HKn
            have HB := HBn
            clear HTn HKn HBn
            -- a cell of the block is set: 2 index, .int .i64 (zd : Int) value, meas_set2 law of the cells
            obtain ⟨bn, Tn⟩ := HB.out.set 2 (.int .i64 (zd : Int))
            rw [meas_set2] at bn
            have HTn := Lib.hid (HT.out.trans Tn (fun _ h => h))
            have HKn := Lib.hid (HK.out.turn Tn (by decide))
            have HBn := Lib.hid bn
            clear bn Tn HT HK HB
            have HT := HTn
            have HK := HKn
            have HB := HBn
            clear HTn HKn HBn
            -- zf, zh + 1, zd the triple, h1, hm facts
            have HEF : Hid (measP (l.drop (j + 1)) d (measP b (d + 1) (zf, zh + 1, zd)) = r) := Lib.hid (by have e := HEC.out; simpa only [oneM, HBN.out, deepM, headM, h1, hm, if_true, if_false, Bool.false_eq_true] using e)
            have hnc := HNC.out
            have hle := measP_le b (d + 1) (zf, zh + 1, zd)
            refine (HROW.out w0 _ _ K _ b (d + 1) (zf, zh + 1, zd) tot HY.out HSb.out HK.out HB.out ?_).mono ?_
            · simp only at hle hnc ⊢
              omega
            clear hle
            rintro e w' ⟨rfl, o', hT', hB'⟩
            have hle := measP_le b (d + 1) (zf, zh + 1, zd)
            obtain ⟨⟨zf', zh', zd'⟩, hz'⟩ : ∃ z', measP b (d + 1) (zf, zh + 1, zd) = z' := ⟨_, rfl⟩
            rw [hz'] at hle hB'
            have HEG := Lib.hid (show measP (l.drop (j + 1)) d (zf', zh', zd') = r by rw [← hz']; exact HEF.out)
            have HKr := Lib.hid (HK.out.turn hT' (by decide))
            have HTr := Lib.hid (HT.out.trans hT' (fun _ h => h))
            have HBr := Lib.hid hB'
            clear hT' hB' hz'
            have hll := HL.out
            go_wp2
            go_roundw
            case rel => exact ⟨j + 1, _, _, _, _, hlt, by go_num, HKr.out, HTr.out, HBr.out, by omega, HEG.out⟩
            case measure => simp [intOf]; omega
        · by_cases h2 : (zd : Int) < d + 1
          · have hm : max zd (d + 1) = d + 1 := by omega
            go_wp2_with fail
            -- a cell of the block is set: 2 index, .int .i64 ((d : Int) + 1) value, meas_set2' law of the cells
            obtain ⟨bn, Tn⟩ := HB.out.set 2 (.int .i64 ((d : Int) + 1))
            rw [meas_set2'] at bn
            have HTn := Lib.hid (HT.out.trans Tn (fun _ h => h))
            have HKn := Lib.hid (HK.out.turn Tn (by decide))
            have HBn := Lib.hid bn
            clear bn Tn HT HK HB
            have HT := HTn
            have HK := HKn
            have HB := HBn
            clear HTn HKn HBn
            -- zf, zh, d + 1 the triple, if_neg (show ¬ 1 < t by omega), hm facts
            have HEF : Hid (measP (l.drop (j + 1)) d (measP b (d + 1) (zf, zh, d + 1)) = r) := Lib.hid (by have e := HEC.out; simpa only [oneM, HBN.out, deepM, headM, if_neg (show ¬ 1 < t by omega), hm, if_true, if_false, Bool.false_eq_true] using e)
            have hnc := HNC.out
            have hle := measP_le b (d + 1) (zf, zh, d + 1)
            refine (HROW.out w0 _ _ K _ b (d + 1) (zf, zh, d + 1) tot HY.out HSb.out HK.out HB.out ?_).mono ?_
            · simp only at hle hnc ⊢
              omega
            clear hle
            rintro e w' ⟨rfl, o', hT', hB'⟩
            have hle := measP_le b (d + 1) (zf, zh, d + 1)
            obtain ⟨⟨zf', zh', zd'⟩, hz'⟩ : ∃ z', measP b (d + 1) (zf, zh, d + 1) = z' := ⟨_, rfl⟩
            rw [hz'] at hle hB'
            have HEG := Lib.hid (show measP (l.drop (j + 1)) d (zf', zh', zd') = r by rw [← hz']; exact HEF.out)
            have HKr := Lib.hid (HK.out.turn hT' (by decide))
            have HTr := Lib.hid (HT.out.trans hT' (fun _ h => h))
            have HBr := Lib.hid hB'
            clear hT' hB' hz'
            have hll := HL.out
            go_wp2
            go_roundw
            case rel => exact ⟨j + 1, _, _, _, _, hlt, by go_num, HKr.out, HTr.out, HBr.out, by omega, HEG.out⟩
            case measure => simp [intOf]; omega
          · have hm : max zd (d + 1) = zd := by omega
            go_wp2_with fail
            -- a cell of the block is set: 2 index, .int .i64 (zd : Int) value, meas_set2 law of the cells
            obtain ⟨bn, Tn⟩ := HB.out.set 2 (.int .i64 (zd : Int))
            rw [meas_set2] at bn
            have HTn := Lib.hid (HT.out.trans Tn (fun _ h => h))
            have HKn := Lib.hid (HK.out.turn Tn (by decide))
            have HBn := Lib.hid bn
            clear bn Tn HT HK HB
            have HT := HTn
            have HK := HKn
            have HB := HBn
            clear HTn HKn HBn
            -- zf, zh, zd the triple, if_neg (show ¬ 1 < t by omega), hm facts
            have HEF : Hid (measP (l.drop (j + 1)) d (measP b (d + 1) (zf, zh, zd)) = r) := Lib.hid (by have e := HEC.out; simpa only [oneM, HBN.out, deepM, headM, if_neg (show ¬ 1 < t by omega), hm, if_true, if_false, Bool.false_eq_true] using e)
            have hnc := HNC.out
            have hle := measP_le b (d + 1) (zf, zh, zd)
            refine (HROW.out w0 _ _ K _ b (d + 1) (zf, zh, zd) tot HY.out HSb.out HK.out HB.out ?_).mono ?_
            · simp only at hle hnc ⊢
              omega
            clear hle
            rintro e w' ⟨rfl, o', hT', hB'⟩
            have hle := measP_le b (d + 1) (zf, zh, zd)
            obtain ⟨⟨zf', zh', zd'⟩, hz'⟩ : ∃ z', measP b (d + 1) (zf, zh, zd) = z' := ⟨_, rfl⟩
            rw [hz'] at hle hB'
            have HEG := Lib.hid (show measP (l.drop (j + 1)) d (zf', zh', zd') = r by rw [← hz']; exact HEF.out)
            have HKr := Lib.hid (HK.out.turn hT' (by decide))
            have HTr := Lib.hid (HT.out.trans hT' (fun _ h => h))
            have HBr := Lib.hid hB'
            clear hT' hB' hz'
            have hll := HL.out
            go_wp2
            go_roundw
            case rel => exact ⟨j + 1, _, _, _, _, hlt, by go_num, HKr.out, HTr.out, HBr.out, by omega, HEG.out⟩
            case measure => simp [intOf]; omega
    · obtain rfl : l.items.length = j := by omega
      have e := HE.out
      rw [drop_end, measP] at e
      subst e
      have HT := Lib.hid hT
      have HB := Lib.hid hB
      go_wp2
      go_end0
      exact ⟨rfl, _, HT.out, HB.out⟩
end Go.Proofs.Ytbmbfifempkhgaa

/- nest.Measure. -/
namespace Go.Proofs.Ytbmbfifempkhgaa
open Go.RowKit

theorem meas_any : ∀ D, MeasOk D
  | 0 => meas_zero
  | D + 1 => meas_succ (meas_any D)

/-- what Measure tells -/
def sizeP (l : Nest) : Array Value := MeasV (measP l 0 (0, 0, 0)) (totalP l 0)
def MeasureRet (w : World) (l : Nest) (e : Ending) (w' : World) : Prop :=
  e = .returned (.tuple #[.agg (if nestCheckE l = 0 then sizeP l else MeasV (0, 0, 0) 0), .int .i64 (nestCheckE l)]) ∧ Below w.heap.size w w' ∧ w.heap.size ≤ w'.heap.size

abbrev setSize (w : World) (R : Nat) (a b c d : Value) : World := (((w.setCell ⟨R, 0, none⟩ a).setCell ⟨R, 1, none⟩ b).setCell ⟨R, 2, none⟩ c).setCell ⟨R, 3, none⟩ d
theorem size_set {w : World} {R : Nat} {t : TypeId} {y0 y1 y2 y3 : Value} (h : w.heap[R]? = some (.cells #[y0, y1, y2, y3] t (0, 0))) (a b c d : Value) : (setSize w R a b c d).heap[R]? = some (.cells #[a, b, c, d] t (0, 0)) :=
  block_setCell (block_setCell (block_setCell (block_setCell h 0 a) 1 b) 2 c) 3 d
theorem size_below {w0 w : World} {R : Nat} (h : Below w0.heap.size w0 w) (hs : w0.heap.size ≤ w.heap.size) (hR : w0.heap.size ≤ R) (a b c d : Value) : Below w0.heap.size w0 (setSize w R a b c d) :=
  have m : Mods (fun k => w0.heap.size ≤ k) w (setSize w R a b c d) :=
    (((Mods.refl _ w).setCell (p := ⟨R, 0, none⟩) (fun _ => hR) a).setCell (p := ⟨R, 1, none⟩) (fun _ => hR) b).setCell (p := ⟨R, 2, none⟩) (fun _ => hR) c |>.setCell (p := ⟨R, 3, none⟩) (fun _ => hR) d
  h.trans (m.below hs (fun k hk f => by omega))
theorem size_size (w : World) (R : Nat) (a b c d : Value) : (setSize w R a b c d).heap.size = w.heap.size := by simp only [setSize, size_setCell']

set_option maxRecDepth 100000 in
set_option maxHeartbeats 2000000 in
theorem measure_any (D : Nat) (w : World) (v : Value) (l : Nest) (hv : HasNestD D w v l) (hs : NSized l) (hn : nodesN l ≤ 65536) : Calls Try.prog 32 #[v] w (MeasureRet w l) := by
  obtain ⟨ao, cap, rfl⟩ := nestD_slice D hv
  have HV := Lib.hid hv
  have HS := Lib.hid hs
  have HN := Lib.hid hn
  have hbR := below_alloc w (.cells #[.int .i64 0, .int .i64 0, .int .i64 0, .int .i64 0] 82)
  have hR : Blk (w.alloc (.cells #[.int .i64 0, .int .i64 0, .int .i64 0, .int .i64 0] 82)) (ext (fun _ => 0) w.heap.size 2) 2 w.heap.size 82 #[.int .i64 0, .int .i64 0, .int .i64 0, .int .i64 0] := ⟨heap_alloc_new w _, ext_new (Nat.le_refl _)⟩
  have HR := Lib.hid hR
  have HK := Lib.hid ((Kept.start w).of_below 2 hbR)
  obtain ⟨E, hE⟩ : ∃ E, nestCheckE l = E := ⟨_, rfl⟩
  have HE := Lib.hid hE
  clear hv hs hn hbR hR hE
  generalize ext (fun _ => 0) w.heap.size 2 = o at *
  obtain ⟨R, hRs⟩ : ∃ R, w.heap.size = R := ⟨_, rfl⟩
  rw [hRs] at HR
  go_enter Try.func32, Try.ntmps32
  go_wp2_with fail
  refine (ncheck_any D _ _ l (nestD_below D HV.out HK.out.below) HS.out).mono ?_
  rintro e w1 ⟨rfl, hb1⟩
  rw [HE.out]
  have T1 := Turn.of_below o 8 hb1
  replace HK := Lib.hid (HK.out.turn T1 (fun h => h))
  replace HR := Lib.hid (HR.out.turn T1 (fun h => h))
  clear T1 hb1
  generalize ext o _ 8 = o1 at *
  by_cases h0 : E = 0
  · subst h0
    have h00 : (nestE l 0 0).1 = 0 := by
      have e := HE.out
      unfold nestCheckE at e
      split at e
      · rename_i h; exact absurd e h
      · rename_i h; simpa using h
    have HTM := Lib.hid (times_of l 0 0 h00)
    have HD := Lib.hid (nestE_count l 0 0 (by omega) h00).2.2.1
    have ml := measP_le l 0 (0, 0, 0)
    clear h00
    go_wp2_with fail
    refine (ntotal_any D _ _ l (nestD_below D HV.out HK.out.below) HS.out HTM.out).mono ?_
    rintro e w2 ⟨rfl, hb2⟩
    have T2 := Turn.of_below o1 8 hb2
    replace HK := Lib.hid (HK.out.turn T2 (fun h => h))
    replace HR := Lib.hid (HR.out.turn T2 (fun h => h))
    clear T2 hb2
    generalize ext o1 _ 8 = o2 at *
    obtain ⟨tt, ht⟩ : ∃ x, totalP l 0 = x := ⟨_, rfl⟩
    rw [ht]
    have HT := Lib.hid ht
    clear ht
    have hbX := below_alloc w2 (.cells #[.int .i64 0, .int .i64 0, .int .i64 0, .int .i64 tt] 82)
    have hX : Blk (w2.alloc (.cells #[.int .i64 0, .int .i64 0, .int .i64 0, .int .i64 tt] 82)) (ext o2 w2.heap.size 1) 1 w2.heap.size 82 (MeasV (0, 0, 0) tt) := ⟨heap_alloc_new w2 _, ext_new (Nat.le_refl _)⟩
    have HX := Lib.hid hX
    have T3 := Turn.of_below o2 1 hbX
    replace HK := Lib.hid (HK.out.turn T3 (fun h => h))
    replace HR := Lib.hid (HR.out.turn T3 (fun h => h))
    clear T3 hbX hX
    generalize ext o2 _ 1 = o3 at *
    go_wp2_with fail
    refine (meas_any D w _ o3 _ _ l 0 (0, 0, 0) tt HV.out HS.out HK.out HX.out ?_).mono ?_
    · have h1 := HN.out
      have h2 := HD.out
      simp only
      omega
    rintro e w3 ⟨rfl, o4, hT, hX⟩
    obtain ⟨⟨zf, zh, zd⟩, hz⟩ : ∃ z, measP l 0 (0, 0, 0) = z := ⟨_, rfl⟩
    rw [hz] at hX
    have HZ := Lib.hid hz
    replace HK := Lib.hid (HK.out.turn hT (by decide))
    replace HR := Lib.hid (HR.out.turn hT (by decide))
    clear HX ml hT hz
    have HX := Lib.hid hX
    have x0 : World.cell? w3 _ = some (.int .i64 (zf : Int)) := HX.out.cell 0 _ rfl
    have x1 : World.cell? w3 _ = some (.int .i64 (zh : Int)) := HX.out.cell 1 _ rfl
    have x2 : World.cell? w3 _ = some (.int .i64 (zd : Int)) := HX.out.cell 2 _ rfl
    have x3 : World.cell? w3 _ = some (.int .i64 tt) := HX.out.cell 3 _ rfl
    have r0 := HR.out.cell 0 _ rfl
    have r1 := HR.out.cell 1 _ rfl
    have r2 := HR.out.cell 2 _ rfl
    have r3 := HR.out.cell 3 _ rfl
    have f0 := HR.out.frozen 0
    have f1 := HR.out.frozen 1
    have f2 := HR.out.frozen 2
    have f3 := HR.out.frozen 3
    clear hX
    go_wp2
    refine bodyPost_ret_by (results_row_tmp rfl _ _ _ _ _ _ _ rfl (size_set HR.out.1 _ _ _ _) Try.underlying82 rfl (by kernel_rfl)) rfl ?_
    refine ⟨?_, size_below HK.out.below HK.out.size (by omega) _ _ _ _, by rw [size_size]; exact HK.out.size⟩
    rw [HE.out, if_pos rfl, sizeP, HZ.out, HT.out]
    rfl
  · have r0 := HR.out.cell 0 _ rfl
    have r1 := HR.out.cell 1 _ rfl
    have r2 := HR.out.cell 2 _ rfl
    have r3 := HR.out.cell 3 _ rfl
    have f0 := HR.out.frozen 0
    have f1 := HR.out.frozen 1
    have f2 := HR.out.frozen 2
    have f3 := HR.out.frozen 3
    go_wp2
    refine bodyPost_ret_by (results_row_tmp rfl _ _ _ _ _ _ _ rfl (size_set HR.out.1 _ _ _ _) Try.underlying82 rfl (by kernel_rfl)) rfl ?_
    refine ⟨?_, size_below HK.out.below HK.out.size (by omega) _ _ _ _, by rw [size_size]; exact HK.out.size⟩
    rw [HE.out, if_neg h0]
    rfl
end Go.Proofs.Ytbmbfifempkhgaa
