/- What holds of the machine all the way; an operation's way through the program. No function in sight. -/
import Derived.Test.YtnnnpippekpibaaSvmStepsZ4
import Derived.Test.YtnnnpippekpibaaSvmStepsZ1
import Derived.Test.YtnnnpippekpibaaSvmStepsZ3
import Derived.Test.YtnnnpippekpibaaSvmStepsZ2
namespace Go.Proofs.Ytnnnpippekpibaa
open Go.RowKit

/-- what holds of a program that passes -/
structure POk (P : GProg) : Prop where
  mem : 0 ≤ P.memory ∧ P.memory ≤ 1024
  counters : 0 ≤ P.counters ∧ P.counters ≤ 17
  ins : 0 ≤ P.ins ∧ P.ins ≤ 16
  outs : 0 ≤ P.outs ∧ P.outs ≤ 16
  nparts : P.parts.length ≤ 32
  nlines : P.lines.length ≤ 96
  nops : P.ops.length ≤ 131072
  parts : ∀ p ∈ P.parts, goodP p.tag p.params
  lines : ∀ l ∈ P.lines, 0 ≤ l.base ∧ 0 ≤ l.size ∧ l.base + l.size ≤ P.memory ∧ l.start.length ≤ l.size
  ops : ∀ i (h : i < P.ops.length), soundOp P i P.ops[i] = true

theorem cwalk_sound {P : GProg} : ∀ (L : List GOp) (i : Nat) (st : CSt) {S : Int}, cwalkE P L i st = (S, 0) → ∀ k (h : k < L.length), soundOp P (i + k) L[k] = true
  | [], _, _, _, _, k, h => by simp at h
  | x :: r, i, st, S, h, k, hk => by
    rw [cwalkE] at h
    by_cases hs : soundOp P i x = true
    · rw [hs] at h
      simp only [Bool.not_true, Bool.false_eq_true, if_false] at h
      by_cases he : cstepE P x st = 0
      · rw [if_neg (by simp [he])] at h
        cases k with
        | zero => exact hs
        | succ k =>
          have := cwalk_sound r (i + 1) _ h k (by simpa using hk)
          rw [show i + (k + 1) = i + 1 + k by omega]
          exact this
      · rw [if_pos he] at h
        simp at h
        exact absurd h.2 he
    · simp [hs] at h
theorem partsE_in : ∀ l : List GPart, partsE l = 0 → ∀ p ∈ l, goodP p.tag p.params
  | [], _, p, hp => by cases hp
  | q :: r, h, p, hp => by
    rw [partsE] at h
    by_cases hg : goodP q.tag q.params
    · rw [if_pos hg] at h
      rcases List.mem_cons.1 hp with rfl | hp
      · exact hg
      · exact partsE_in r h p hp
    · rw [if_neg hg] at h
      exact absurd h (errP_ne _)
theorem linesE_in (m : Int) : ∀ l : List GLine, linesE m l = 0 → ∀ p ∈ l, 0 ≤ p.base ∧ 0 ≤ p.size ∧ p.base + p.size ≤ m ∧ p.start.length ≤ p.size
  | [], _, p, hp => by cases hp
  | q :: r, h, p, hp => by
    rw [linesE] at h
    by_cases hq : lineE m q = 0
    · rw [if_pos hq] at h
      rcases List.mem_cons.1 hp with rfl | hp
      · unfold lineE at hq
        split at hq
        · rename_i h1
          simp only [Bool.and_eq_true, within_iff] at h1
          split at hq
          · omega
          · omega
        · omega
      · exact linesE_in m r h p hp
    · rw [if_neg hq] at h
      exact absurd h hq
theorem pok_of {P : GProg} {S : Int} (h : cstepsE P = (S, 0)) : POk P := by
  unfold cstepsE at h
  split at h
  · rename_i hw
    simp only [Bool.and_eq_true, within_iff] at hw
    split at h
    · simp at h
    · rename_i h1
      split at h
      · rename_i h2; simp at h; exact absurd h.2 h2
      · rename_i h2
        split at h
        · rename_i h3; simp at h; exact absurd h.2 h3
        · rename_i h3
          refine ⟨hw.1.1.1, hw.1.1.2, hw.1.2, hw.2, by omega, by omega, by omega, partsE_in _ (by omega), linesE_in _ _ (by omega), fun i hi => ?_⟩
          have := cwalk_sound _ _ _ h i hi
          rwa [Nat.zero_add] at this
  · simp at h

/-- an operation's numbers -/
structure OpIn (P : GProg) (x : GOp) : Prop where
  kind : x.kind = 0 ∨ x.kind = 1 ∨ x.kind = 2 ∨ x.kind = 3 ∨ x.kind = 4 ∨ x.kind = 5 ∨ x.kind = 6 ∨ x.kind = 7
  zero : x.kind = 0 → x.a = 0 ∧ x.b = 0
  cnt : x.kind = 1 ∨ x.kind = 2 → 0 ≤ x.a ∧ x.a < P.counters
  times : x.kind = 1 → 1 ≤ x.b ∧ x.b ≤ 2048
  to : x.kind = 2 → 0 ≤ x.b ∧ x.b < P.ops.length
  line : x.kind = 3 ∨ x.kind = 6 → 0 ≤ x.a ∧ x.a < P.lines.length
  ins : x.kind = 4 → 0 ≤ x.a ∧ x.a < P.ins
  outs : x.kind = 7 → 0 ≤ x.a ∧ x.a < P.outs
  part : x.kind = 5 → 0 ≤ x.a ∧ x.a < P.parts.length
  rate : x.kind = 3 ∨ x.kind = 4 ∨ x.kind = 6 ∨ x.kind = 7 → 1 ≤ x.b ∧ x.b ≤ 64
theorem sound_in {P : GProg} {i : Nat} {x : GOp} (h : soundOp P i x = true) : OpIn P x := by
  unfold soundOp at h
  by_cases h0 : x.kind = 0
  · rw [if_pos h0] at h
    simp only [Bool.and_eq_true, decide_eq_true_eq] at h
    refine ⟨.inl h0, fun _ => ⟨h.1.1, h.1.2⟩, ?_, ?_, ?_, ?_, ?_, ?_, ?_, ?_⟩ <;> intro hk <;> omega
  · rw [if_neg h0] at h
    simp only [Bool.and_eq_true, decide_eq_true_eq] at h
    obtain ⟨⟨⟨s1, s2⟩, s3⟩, s4⟩ := h
    have hl : ∀ k, x.kind = k → limP P x.kind = limP P k := fun k e => by rw [e]
    by_cases h1 : x.kind = 1
    · rw [hl _ h1] at s2 s3 s4
      simp [limP] at s2 s3 s4
      refine ⟨by omega, ?_, ?_, ?_, ?_, ?_, ?_, ?_, ?_, ?_⟩ <;> intro hk <;> omega
    by_cases h2 : x.kind = 2
    · rw [hl _ h2] at s2 s3 s4
      simp [limP] at s2 s3 s4
      refine ⟨by omega, ?_, ?_, ?_, ?_, ?_, ?_, ?_, ?_, ?_⟩ <;> intro hk <;> omega
    by_cases h3 : x.kind = 3 ∨ x.kind = 6
    · have hq : limP P x.kind = (((P.lines.length : Nat) : Int), (1 : Int), (64 : Int)) := by rcases h3 with e | e <;> rw [e] <;> simp [limP]
      rw [hq] at s2 s3 s4
      simp only at s2 s3 s4
      refine ⟨by omega, ?_, ?_, ?_, ?_, ?_, ?_, ?_, ?_, ?_⟩ <;> intro hk <;> omega
    by_cases h4 : x.kind = 4
    · rw [hl _ h4] at s2 s3 s4
      simp [limP] at s2 s3 s4
      refine ⟨by omega, ?_, ?_, ?_, ?_, ?_, ?_, ?_, ?_, ?_⟩ <;> intro hk <;> omega
    by_cases h5 : x.kind = 5
    · rw [hl _ h5] at s2 s3 s4
      simp [limP] at s2 s3 s4
      refine ⟨by omega, ?_, ?_, ?_, ?_, ?_, ?_, ?_, ?_, ?_⟩ <;> intro hk <;> omega
    by_cases h7 : x.kind = 7
    · rw [hl _ h7] at s2 s3 s4
      simp [limP] at s2 s3 s4
      refine ⟨by omega, ?_, ?_, ?_, ?_, ?_, ?_, ?_, ?_, ?_⟩ <;> intro hk <;> omega
    · unfold limP at s2
      rw [if_neg h1, if_neg h2, if_neg h3, if_neg h4, if_neg h7, if_neg h5] at s2
      simp only at s2
      omega

/-- as many operations are left in this period, ahead of the last -/
def Rest (P : GProg) (s : Nat × List Int) (d : Nat) : Prop := ∃ e, CRuns P.ops P.counters.toNat s d (e, List.replicate P.counters.toNat 0) ∧ P.ops[e]? = some ⟨0, 0, 0⟩ ∧ e + 1 = P.ops.length
theorem rest_zero {P : GProg} {s : Nat × List Int} (h : Rest P s 0) : ctlOp P.ops s.1 = ⟨0, 0, 0⟩ ∧ s.2 = List.replicate P.counters.toNat 0 ∧ s.1 + 1 = P.ops.length := by
  obtain ⟨e, h1, h2, h3⟩ := h
  have h4 : s = (e, List.replicate P.counters.toNat 0) := h1.is
  subst h4
  exact ⟨ctlOp_at h2, rfl, h3⟩
theorem rest_kind {P : GProg} {s : Nat × List Int} {d : Nat} (h : Rest P s d) : (ctlOp P.ops s.1).kind = 0 ↔ d = 0 := by
  constructor
  · intro hk
    cases d with
    | zero => rfl
    | succ d =>
      obtain ⟨e, h1, _, _⟩ := h
      exact absurd hk (h1.ok 0 (by omega)).kind
  · rintro rfl
    rw [(rest_zero h).1]
theorem rest_lt {P : GProg} {s : Nat × List Int} {d : Nat} (h : Rest P s d) : s.1 < P.ops.length := by
  cases d with
  | zero => have := (rest_zero h).2.2; omega
  | succ d =>
    obtain ⟨e, h1, _, _⟩ := h
    exact (h1.ok 0 (by omega)).lt
theorem ctlOk_zeros (n : Nat) : CtlOk n (List.replicate n 0) := ⟨List.length_replicate, fun x hx => by rw [List.eq_of_mem_replicate hx]; omega⟩
theorem rest_cs {P : GProg} {s : Nat × List Int} {d : Nat} (h : Rest P s d) : CtlOk P.counters.toNat s.2 := by
  cases d with
  | zero => rw [(rest_zero h).2.1]; exact ctlOk_zeros _
  | succ d =>
    obtain ⟨e, h1, _, _⟩ := h
    exact (h1.ok 0 (by omega)).cs
theorem ctlI_succ (ops : List GOp) (s : Nat × List Int) (k : Nat) : ctlI ops s (k + 1) = ctlI ops (ctlS ops s) k := by
  have := ctlI_add ops s 1 k
  rw [Nat.add_comm 1 k] at this
  exact this
theorem rest_step {P : GProg} {s : Nat × List Int} {d : Nat} (h : Rest P s (d + 1)) : Rest P (ctlS P.ops s) d := by
  obtain ⟨e, h1, h2, h3⟩ := h
  refine ⟨e, ⟨fun k hk => ?_, ?_⟩, h2, h3⟩
  · have := h1.ok (k + 1) (by omega)
    rwa [ctlI_succ] at this
  · have := h1.is
    rwa [ctlI_succ] at this
theorem rest_start {P : GProg} {S : Int} (h : cstepsE P = (S, 0)) : 1 ≤ S ∧ S ≤ 131072 ∧ Rest P (0, List.replicate P.counters.toNat 0) (S.toNat - 1) := by
  obtain ⟨m, h1, h2, e, h3, h4, h5⟩ := ctl_period h
  refine ⟨by omega, by omega, e, ?_, h4, h5⟩
  rw [show S.toNat - 1 = m by omega]
  exact h3

structure LOk (P : GProg) (l : LineP) : Prop where
  reg : l.base + l.size ≤ P.memory.toNat
  cnt : l.cnt ≤ l.size
  pos : l.pos ≤ l.size ∧ (0 < l.size → l.pos < l.size)
structure MOk (P : GProg) (F s : Nat) (m : MachP) : Prop where
  mem : m.mem.length = P.memory.toNat
  memf : ∀ x ∈ m.mem, Fits x
  lines : m.lines.length = P.lines.length
  line : ∀ l ∈ m.lines, LOk P l
  fed : m.fed.length = P.ins.toNat
  fedf : ∀ r ∈ m.fed, r.length ≤ F ∧ ∀ x ∈ r, Fits x
  out : m.out.length = P.outs.toNat
  outf : ∀ r ∈ m.out, r.length ≤ 64 * s ∧ ∀ x ∈ r, Fits x
  bods : m.bods.length = P.parts.length
  bodf : ∀ b ∈ m.bods, 0 ≤ b.2 ∧ b.2 ≤ s ∧ ∀ x ∈ b.1, Fits x
  hand : m.hand.length ≤ 64 ∧ ∀ x ∈ m.hand, Fits x
  ctl : ∃ d, d < 131072 ∧ Rest P (m.next, m.cs) d
  per : m.periods ≤ s
  last : ∀ e, m.last = some e → e.cells = [] ∧ (e.halt = 3 ∨ e.halt = 4) ∧ (0 ≤ e.op ∧ e.op < 131072) ∧ (0 ≤ e.kind ∧ e.kind ≤ 7) ∧ (-1 ≤ e.line ∧ e.line < 96)
end Go.Proofs.Ytnnnpippekpibaa

/- The invariant stays; a period has as many operations as it has. No function in sight. -/
namespace Go.Proofs.Ytnnnpippekpibaa
open Go.RowKit

theorem fits_z : Fits 0 := by unfold Fits; omega
theorem layP_len : ∀ (l : List Nat) (ts mem : List Int), (layP mem l ts).length = mem.length
  | [], ts, mem => by cases ts <;> rfl
  | c :: l, [], mem => rfl
  | c :: l, t :: ts, mem => by rw [layP, layP_len l ts, List.length_set]
theorem layP_fits : ∀ (l : List Nat) (ts mem : List Int), (∀ x ∈ ts, Fits x) → (∀ x ∈ mem, Fits x) → ∀ x ∈ layP mem l ts, Fits x
  | [], ts, mem, _, h, x, hx => by cases ts <;> exact h x hx
  | c :: l, [], mem, _, h, x, hx => h x hx
  | c :: l, t :: ts, mem, ht, h, x, hx => by
    rw [layP] at hx
    refine layP_fits l ts _ (fun y hy => ht y (List.mem_cons_of_mem _ hy)) (fun y hy => ?_) x hx
    rcases List.mem_or_eq_of_mem_set hy with hy | rfl
    · exact h y hy
    · exact ht y List.mem_cons_self
theorem gainP_fits {mem : List Int} (h : ∀ x ∈ mem, Fits x) (l : List Nat) : ∀ x ∈ gainP mem l, Fits x := by
  intro x hx
  obtain ⟨c, hc, rfl⟩ := List.mem_map.1 hx
  by_cases hl : c < mem.length
  · rw [List.getElem?_eq_getElem hl]
    exact h _ (List.getElem_mem hl)
  · rw [List.getElem?_eq_none (by omega)]
    exact fits_z
theorem placesP_len (l : LineP) (a n : Nat) : (placesP l a n).length = n := by simp [placesP]
theorem gainP_len (mem : List Int) (l : List Nat) : (gainP mem l).length = l.length := by simp [gainP]
theorem rowAt_ok {l : List (List Int)} {Q : List Int → Prop} (h : ∀ r ∈ l, Q r) (h0 : Q []) (k : Nat) : Q (rowAt l k) := by
  unfold rowAt
  by_cases hk : k < l.length
  · rw [List.getElem?_eq_getElem hk]
    exact h _ (List.getElem_mem hk)
  · rw [List.getElem?_eq_none (by omega)]
    exact h0
theorem lineAt_ok {P : GProg} {m : MachP} (h : ∀ l ∈ m.lines, LOk P l) (k : Nat) : LOk P (lineAt m k) := by
  unfold lineAt
  by_cases hk : k < m.lines.length
  · rw [List.getElem?_eq_getElem hk]
    exact h _ (List.getElem_mem hk)
  · rw [List.getElem?_eq_none (by omega)]
    exact ⟨Nat.zero_le _, Nat.le_refl _, Nat.le_refl _, fun h => by cases h⟩
theorem all_set {α : Type} {Q : α → Prop} {l : List α} (h : ∀ x ∈ l, Q x) {k : Nat} {v : α} (hv : Q v) : ∀ x ∈ l.set k v, Q x := fun x hx => by
  rcases List.mem_or_eq_of_mem_set hx with hx | rfl
  · exact h x hx
  · exact hv
theorem all_take {l : List Int} (h : ∀ x ∈ l, Fits x) (n : Nat) : ∀ x ∈ l.take n, Fits x := fun x hx => h x (List.mem_of_mem_take hx)
theorem all_drop {l : List Int} (h : ∀ x ∈ l, Fits x) (n : Nat) : ∀ x ∈ l.drop n, Fits x := fun x hx => h x (List.mem_of_mem_drop hx)
theorem dealtP_fits : ∀ (rs : List Int) {l : List Int}, (∀ x ∈ l, Fits x) → ∀ r ∈ dealtP rs l, ∀ x ∈ r, Fits x
  | [], _, _, r, hr => by cases hr
  | k :: rs, l, h, r, hr => by
    rcases List.mem_cons.1 hr with rfl | hr
    · exact all_take h _
    · exact dealtP_fits rs (all_drop h _) r hr
def PFits (P : GProg) : Prop := ∀ p ∈ P.parts, ∀ x ∈ p.params, Fits x
theorem partAt_ok {P : GProg} {Q : GPart → Prop} (h : ∀ p ∈ P.parts, Q p) {k : Nat} (hk : k < P.parts.length) : Q (partAt P k) := by
  unfold partAt
  rw [List.getElem?_eq_getElem hk]
  exact h _ (List.getElem_mem hk)
theorem bodAt_ok {m : MachP} {Q : List Int × Int → Prop} (h : ∀ p ∈ m.bods, Q p) {k : Nat} (hk : k < m.bods.length) : Q (bodAt m k) := by
  unfold bodAt
  rw [List.getElem?_eq_getElem hk]
  exact h _ (List.getElem_mem hk)
theorem MOk.later {P : GProg} {F s : Nat} {m : MachP} (h : MOk P F s m) : MOk P F (s + 1) m :=
  { h with outf := fun r hr => ⟨by have := (h.outf r hr).1; omega, (h.outf r hr).2⟩, bodf := fun b hb => by have := h.bodf b hb; exact ⟨this.1, by omega, this.2.2⟩, per := by have := h.per; omega }

theorem doesX_ok {P : GProg} {F s : Nat} {m : MachP} {x : GOp} (hP : POk P) (hf : PFits P) (h : MOk P F s m) (hx : OpIn P x) : MOk P F (s + 1) (doesX P x m).2.2 := by
  have H := h.later
  unfold doesX
  by_cases h0 : x.kind = 0
  · rw [if_pos h0, endX]
    split
    · exact H
    · exact { H with per := by have := h.per; show m.periods + 1 ≤ s + 1; omega }
  rw [if_neg h0]
  by_cases h3 : x.kind = 3
  · rw [if_pos h3, takeX]
    split
    · exact H
    · rename_i hno
      have hl := lineAt_ok h.line x.a.toNat
      have hr := hx.rate (.inl h3)
      refine { H with lines := by rw [← h.lines]; exact List.length_set, line := all_set h.line ⟨hl.reg, by have := hl.cnt; show (lineAt m x.a.toNat).cnt - x.b.toNat ≤ (lineAt m x.a.toNat).size; omega, ?_⟩, hand := ⟨?_, fun y hy => ?_⟩ }
      · have h1 := hl.cnt
        have h2 : 0 < (lineAt m x.a.toNat).size := by omega
        exact ⟨Nat.le_of_lt (Nat.mod_lt _ h2), fun _ => Nat.mod_lt _ h2⟩
      · show (_ ++ _ : List Int).length ≤ 64
        rw [List.length_append, gainP_len, placesP_len]
        omega
      · rcases List.mem_append.1 hy with hy | hy
        · exact h.hand.2 y hy
        · exact gainP_fits h.memf _ y hy
  rw [if_neg h3]
  by_cases h4 : x.kind = 4
  · rw [if_pos h4, readX]
    split
    · exact H
    · split
      · exact H
      · have hr := rowAt_ok (Q := fun r : List Int => r.length ≤ F ∧ ∀ x ∈ r, Fits x) h.fedf ⟨Nat.zero_le _, fun _ h => by cases h⟩ x.a.toNat
        refine { H with fed := by rw [← h.fed]; exact List.length_set, fedf := all_set (Q := fun r : List Int => r.length ≤ F ∧ ∀ x ∈ r, Fits x) h.fedf ⟨by rw [List.length_drop]; have := hr.1; omega, all_drop hr.2 _⟩, hand := ⟨?_, fun y hy => ?_⟩ }
        · show (_ ++ _ : List Int).length ≤ 64
          rw [List.length_append, List.length_take]
          omega
        · rcases List.mem_append.1 hy with hy | hy
          · exact h.hand.2 y hy
          · exact all_take hr.2 _ y hy
  rw [if_neg h4]
  by_cases h5 : x.kind = 5
  · rw [if_pos h5, callX]
    split
    · exact H
    · split
      · exact H
      · have ha := hx.part h5
        have hk : x.a.toNat < P.parts.length := by omega
        have hb := bodAt_ok (Q := fun b => 0 ≤ b.2 ∧ b.2 ≤ s ∧ ∀ x ∈ b.1, Fits x) h.bodf (k := x.a.toNat) (by rw [h.bods]; exact hk)
        have hs := shot_ok (t := (partAt P x.a.toNat).tag) (n := (bodAt m x.a.toNat).2) (partAt_ok hP.parts hk) (partAt_ok hf hk) hb.2.2 (dealtP_fits (insP (partAt P x.a.toNat).tag (partAt P x.a.toNat).params) h.hand.2)
        change (∀ l ∈ (callS P x m).outs, _) ∧ (callS P x m).outs.flatten.length ≤ 64 ∧ (∀ x_1 ∈ (callS P x m).keep, _) ∧ _ ≤ (callS P x m).n ∧ (callS P x m).n ≤ _ at hs
        refine { H with bods := by rw [← h.bods]; exact List.length_set, bodf := all_set (Q := fun b : List Int × Int => 0 ≤ b.2 ∧ b.2 ≤ ((s + 1 : Nat) : Int) ∧ ∀ x ∈ b.1, Fits x) H.bodf ⟨?_, ?_, hs.2.2.1⟩, hand := ⟨hs.2.1, fun y hy => ?_⟩ }
        · have := hb.1; have := hs.2.2.2; show 0 ≤ (callS P x m).n; omega
        · have := hb.2.1; have := hs.2.2.2; show (callS P x m).n ≤ _; omega
        · obtain ⟨l, hl, hy⟩ := List.mem_flatten.1 hy
          exact hs.1 l hl y hy
  rw [if_neg h5]
  by_cases h6 : x.kind = 6
  · rw [if_pos h6, giveX]
    split
    · exact H
    · rename_i hno
      have hl := lineAt_ok h.line x.a.toNat
      refine { H with mem := by rw [← h.mem]; exact layP_len _ _ _, memf := layP_fits _ _ _ (all_take h.hand.2 _) h.memf, lines := by rw [← h.lines]; exact List.length_set, line := all_set h.line ⟨hl.reg, by show (lineAt m x.a.toNat).cnt + x.b.toNat ≤ (lineAt m x.a.toNat).size; omega, hl.pos⟩, hand := ⟨by show (m.hand.drop _).length ≤ 64; rw [List.length_drop]; have := h.hand.1; omega, all_drop h.hand.2 _⟩ }
  rw [if_neg h6]
  by_cases h7 : x.kind = 7
  · rw [if_pos h7, writeX]
    split
    · exact H
    · have hb := hx.rate (.inr (.inr (.inr h7)))
      have hr := rowAt_ok (Q := fun r : List Int => r.length ≤ 64 * s ∧ ∀ x ∈ r, Fits x) h.outf ⟨Nat.zero_le _, fun _ h => by cases h⟩ x.a.toNat
      refine { H with out := by rw [← h.out]; exact List.length_set, outf := all_set (Q := fun r : List Int => r.length ≤ 64 * (s + 1) ∧ ∀ x ∈ r, Fits x) H.outf ⟨?_, fun y hy => ?_⟩, hand := ⟨by show (m.hand.drop _).length ≤ 64; rw [List.length_drop]; have := h.hand.1; omega, all_drop h.hand.2 _⟩ }
      · rw [List.length_append, List.length_take]
        have := hr.1
        omega
      · rcases List.mem_append.1 hy with hy | hy
        · exact hr.2 y hy
        · exact all_take h.hand.2 _ y hy
  rw [if_neg h7]
  exact H

/-- the way: an operation that went on -/
theorem wayX_rest {P : GProg} {S : Int} (hS : cstepsE P = (S, 0)) {m : MachP} {d : Nat} (h : Rest P (m.next, m.cs) d) : (∃ d', d = d' + 1 ∧ Rest P (wayX P m) d') ∨ (d = 0 ∧ wayX P m = (0, List.replicate P.counters.toNat 0) ∧ Rest P (wayX P m) (S.toNat - 1)) := by
  unfold wayX
  cases d with
  | zero =>
    have h1 := rest_zero h
    have h2 := h1.2.1
    simp only at h1 h2
    rw [if_pos (by rw [h1.1]), h2]
    exact .inr ⟨rfl, rfl, (rest_start hS).2.2⟩
  | succ d =>
    have hk : ¬ (ctlOp P.ops m.next).kind = 0 := fun e => by have := (rest_kind h).1 e; omega
    rw [if_neg hk]
    exact .inl ⟨d, rfl, rest_step h⟩
theorem rest_op {P : GProg} (hP : POk P) {s : Nat × List Int} {d : Nat} (h : Rest P s d) : s.1 < P.ops.length ∧ P.ops[s.1]? = some (ctlOp P.ops s.1) ∧ OpIn P (ctlOp P.ops s.1) := by
  have hl := rest_lt h
  have e : P.ops[s.1]? = some (P.ops[s.1]) := List.getElem?_eq_getElem hl
  have e2 := ctlOp_at e
  rw [e2]
  exact ⟨hl, e, sound_in (hP.ops _ hl)⟩
theorem evX_ok {P : GProg} (hP : POk P) {m : MachP} {d : Nat} (hr : Rest P (m.next, m.cs) d) (h : Int) (c : List Nat) : (0 ≤ (evX P m h c).op ∧ (evX P m h c).op < 131072) ∧ (0 ≤ (evX P m h c).kind ∧ (evX P m h c).kind ≤ 7) ∧ (-1 ≤ (evX P m h c).line ∧ (evX P m h c).line < 96) := by
  obtain ⟨h1, _, h3⟩ := rest_op hP hr
  have h4 := hP.nops
  have h5 := hP.nlines
  have h6 := h3.kind
  have h7 := h3.line
  unfold evX
  simp only at h1 h6 h7 ⊢
  refine ⟨by omega, by omega, ?_⟩
  split
  · have := h7 (by assumption); omega
  · omega

theorem mstep_ok {P : GProg} {S : Int} {F s : Nat} {m : MachP} (hS : cstepsE P = (S, 0)) (hf : PFits P) (h : MOk P F s m) : MOk P F (s + 1) (mstep P m).2 := by
  have hP := pok_of hS
  obtain ⟨d, hd, hr⟩ := h.ctl
  have hb := rest_start hS
  unfold mstep
  rcases hlast : m.last with _ | e
  · simp only
    have hD := doesX_ok hP hf h (rest_op hP hr).2.2
    split
    · refine { hD with ctl := ?_ }
      rcases wayX_rest hS hr with ⟨d', rfl, h1⟩ | ⟨_, _, h1⟩
      · exact ⟨d', by omega, h1⟩
      · exact ⟨_, by omega, h1⟩
    · rename_i hno
      split
      · exact h.later
      · rename_i hno2
        refine { h.later with last := ?_ }
        intro e he
        obtain rfl := Option.some.inj he
        refine ⟨rfl, ?_, evX_ok hP hr _ _⟩
        rcases doesX_cases P (ctlOp P.ops m.next) m with h1 | h1 | h1 | h1 | h1
        · exact absurd (.inl h1) hno
        · exact absurd (.inr h1) hno
        · exact absurd (by rw [h1]) hno2
        · rw [h1]; exact .inl rfl
        · rw [h1]; exact .inr rfl
  · exact h.later

/-- a machine that goes -/
structure Went (P : GProg) (S : Int) (m m' : MachP) (d : Nat) (h : Int) : Prop where
  going : h = 0 → ∃ d', d = d' + 1 ∧ Rest P (m'.next, m'.cs) d' ∧ m'.periods = m.periods ∧ m'.last = none
  done : h = 1 → d = 0 ∧ m'.next = 0 ∧ m'.cs = List.replicate P.counters.toNat 0 ∧ Rest P (m'.next, m'.cs) (S.toNat - 1) ∧ m'.periods = m.periods + 1 ∧ m'.last = none
  stops : h ≠ 0 → h ≠ 1 → m'.periods = m.periods ∧ m'.next = m.next ∧ m'.cs = m.cs
theorem mstep_went {P : GProg} {S : Int} (hS : cstepsE P = (S, 0)) {m : MachP} {d : Nat} (hl : ∀ e, m.last = some e → e.halt ≠ 0 ∧ e.halt ≠ 1) (hr : Rest P (m.next, m.cs) d) : Went P S m (mstep P m).2 d (mstep P m).1.halt := by
  unfold mstep
  rcases hlast : m.last with _ | e
  · simp only
    split
    · rename_i hgo
      refine ⟨fun h => ?_, fun h => ?_, fun h1 h2 => absurd hgo (by rintro (h | h) <;> first | exact h1 h | exact h2 h)⟩
      · obtain ⟨k, p1, p2, p3, p4⟩ := doesX_going h
        rcases wayX_rest hS hr with ⟨d', h1, h2⟩ | ⟨h1, _, _⟩
        · exact ⟨d', h1, h2, p1, p4.trans hlast⟩
        · exact absurd ((rest_kind hr).2 h1) k
      · obtain ⟨k, p1⟩ := doesX_end h
        rcases wayX_rest hS hr with ⟨d', h1, h2⟩ | ⟨h1, h2, h3⟩
        · have := (rest_kind hr).1 k
          omega
        · refine ⟨h1, congrArg Prod.fst h2, congrArg Prod.snd h2, h3, ?_, ?_⟩
          · show (doesX P (ctlOp P.ops m.next) m).2.2.periods = _; rw [p1]
          · show (doesX P (ctlOp P.ops m.next) m).2.2.last = _; rw [p1]; exact hlast
    · rename_i hno
      split
      · exact ⟨fun h => (by cases h), fun h => (by cases h), fun _ _ => ⟨rfl, rfl, rfl⟩⟩
      · exact ⟨fun h => absurd (.inl h) hno, fun h => absurd (.inr h) hno, fun _ _ => ⟨rfl, rfl, rfl⟩⟩
  · have := hl e hlast
    exact ⟨fun h => absurd h this.1, fun h => absurd h this.2, fun _ _ => ⟨rfl, rfl, rfl⟩⟩
end Go.Proofs.Ytnnnpippekpibaa

/- Rows that begin somewhere in their block: a list of the call's own whose front is cut off, and append onto it. No function in sight. -/
namespace Go.Proofs.Ytnnnpippekpibaa
open Go.RowKit

/-- v is a slice of the call's own, wherever it begins in its block, that reads as xs (elements of one cell) -/
def OffRow (w : World) (o : Col) (c : Nat) (e : TypeId) (v : Value) (xs : List Value) : Prop :=
  (xs = [] ∧ v = .slice none 0 0) ∨
  ∃ g off cap cur, v = .slice (some ⟨g, off, none⟩) xs.length cap ∧ w.heap[g]? = some (.cells cur e (0, 0)) ∧ o g = c ∧ xs.length ≤ cap ∧ off + cap ≤ cur.size ∧ cap ≤ maxLen ∧ (cur.toList.drop off).take xs.length = xs
theorem OffRow.nil (w : World) (o : Col) (c : Nat) (e : TypeId) : OffRow w o c e (.slice none 0 0) [] := .inl ⟨rfl, rfl⟩
theorem OffRow.turn {w w' : World} {o o' : Col} {C : Nat → Prop} {c : Nat} {e : TypeId} {v : Value} {xs : List Value} (h : OffRow w o c e v xs) (T : Turn o o' C w w') (hc : ¬ C c) : OffRow w' o' c e v xs := by
  rcases h with h | ⟨g, off, cap, cur, h1, h2, h3, h4, h5, h6, h7⟩
  · exact .inl h
  · obtain ⟨k1, k2⟩ := T.block h2 (by rw [h3]; exact hc)
    exact .inr ⟨g, off, cap, cur, h1, k1, k2.trans h3, h4, h5, h6, h7⟩
theorem OffRow.slice {w : World} {o : Col} {c : Nat} {e : TypeId} {v : Value} {xs : List Value} (h : OffRow w o c e v xs) : ∃ ao cap, v = .slice ao xs.length cap := by
  rcases h with ⟨rfl, h⟩ | ⟨g, off, cap, cur, h1, _⟩
  · exact ⟨none, 0, h⟩
  · exact ⟨_, _, h1⟩
theorem OffRow.vals {w : World} {o : Col} {c : Nat} {e : TypeId} {v : Value} {xs : List Value} (h : OffRow w o c e v xs) : Vals w o c v xs := by
  rcases h with ⟨rfl, h⟩ | ⟨g, off, cap, cur, h1, h2, h3, h4, h5, h6, h7⟩
  · exact .inl ⟨rfl, _, _, h⟩
  · by_cases hp : 0 < xs.length
    · refine .inr ⟨hp, g, off, cap, h1, h4, block_lt h2, h3, fun k hk => ?_⟩
      have h8 : xs[k]? = cur.toList[off + k]? := by
        rw [← h7, List.getElem?_take_of_lt hk, List.getElem?_drop]
      have h9 : off + k < cur.size := by omega
      rw [h8]
      refine cells_row w g h2 (off + k) _ ?_
      rw [← Array.getElem?_toList]
      rw [List.getElem?_eq_getElem (by simpa using h9)]
      rfl
    · have : xs = [] := List.eq_nil_of_length_eq_zero (by omega)
      subst this
      exact .inl ⟨rfl, _, _, h1⟩
/-- the front is cut off -/
theorem OffRow.drop {w : World} {o : Col} {c : Nat} {e : TypeId} {g off n cap : Nat} {xs : List Value} (h : OffRow w o c e (.slice (some ⟨g, off, none⟩) n cap) xs) {k : Nat} (hk : k ≤ xs.length) (_hc : cap ≠ k) : OffRow w o c e (.slice (some ⟨g, off + k, none⟩) (n - k) (cap - k)) (xs.drop k) := by
  rcases h with ⟨_, h⟩ | ⟨g, off, cap, cur, h1, h2, h3, h4, h5, h6, h7⟩
  · cases h
  · cases h1
    refine .inr ⟨g, off + k, cap - k, cur, by rw [List.length_drop], h2, h3, by rw [List.length_drop]; omega, by omega, by omega, ?_⟩
    rw [List.length_drop, ← List.drop_drop, ← List.drop_take, h7]
/-- all is cut off, the room too -/
theorem OffRow.empty {w : World} {o : Col} {c : Nat} {e : TypeId} {g off n cap : Nat} {xs : List Value} (h : OffRow w o c e (.slice (some ⟨g, off, none⟩) n cap) xs) : OffRow w o c e (.slice (some ⟨g, off, none⟩) 0 0) [] := by
  rcases h with ⟨_, h⟩ | ⟨g, off, cap, cur, h1, h2, h3, h4, h5, h6, h7⟩
  · cases h
  · cases h1
    exact .inr ⟨g, off, 0, cur, rfl, h2, h3, Nat.le_refl _, by omega, by omega, rfl⟩
theorem OffRow.of_own {w : World} {o : Col} {c : Nat} {e : TypeId} {v : Value} {n : Nat} {xs : List Value} (h : Own w o c e 1 v n xs) : OffRow w o c e v xs := by
  obtain ⟨⟨hl, h⟩, ho⟩ := h
  rw [Nat.mul_one] at hl
  rcases h with ⟨rfl, h⟩ | ⟨g, cap, cur, rfl, _, h2, h3, h4, h5, h6⟩
  · exact .inl ⟨List.eq_nil_of_length_eq_zero (by omega), rfl⟩
  · refine .inr ⟨g, 0, cap, cur, by rw [hl], h2, ho g rfl, by omega, by omega, h4, ?_⟩
    rw [Nat.mul_one] at h6
    rw [List.drop_zero, hl, h6]

theorem run_room_off {P : Program} (w : World) (t ty e : TypeId) (i : TypeInfo) (ht : P.underlying t = some (.slice e)) (hi : P.info? e = some i) (h1s : i.size = 1)
    (g off sLen sCap : Nat) (cur : Array Value) (hg : w.heap[g]? = some (.cells cur e (0, 0)))
    (a : Addr) (m c : Nat) (news : List Value) (hl : news.length = m) (hnews : ∀ j u, news[j]? = some u → w.cell? (a.add j) = some u) (h1 : ∀ u ∈ news, u.oneCell' = true)
    (hroom : sLen + m ≤ sCap) (hfit : off + sCap ≤ cur.size) :
    (Builtin.append_ #[t, t] ty #[.slice (some ⟨g, off, none⟩) sLen sCap, .slice (some a) m c]).run P w =
      .ok (.slice (some ⟨g, off, none⟩) (sLen + m) sCap) (w.setRow g (cur.toList.take (off + sLen) ++ news ++ cur.toList.drop (off + sLen + news.length)).toArray) := by
  have hf := run_firstCells_some (P := P) w i.size m a m c news (by rw [h1s, hl, Nat.mul_one]) hnews
  have hst := run_storeCells_at P g (off + sLen) e news 0 cur w hg (by omega) h1
  simp only [Nat.add_zero] at hst
  rw [h1s] at hf
  simp [Builtin.append_, run_underlying ht, sizeOf, typeInfo, hi, Builtin.lenOf, hroom, hf, Addr.add_lit, hst, h1s]

/-- append onto a row of the call's own, wherever it begins -/
theorem run_app_off {P : Program} (w : World) (o : Col) (k : Nat) (t ty e : TypeId) (i : TypeInfo) (z : Value) (bytes : Nat) (ht : P.underlying t = some (.slice e)) (hi : P.info? e = some i) (hz : i.zero = some z)
    (hsize : i.size = 1) (hby : i.bytes = bytes) (hzs : z.cells.size = 1)
    (v : Value) (xs : List Value) (hown : OffRow w o k e v xs)
    (ao : Option Addr) (m c : Nat) (news : List Value) (hl : news.length = m) (hnone : ao = none → m = 0) (hnews : ∀ a, ao = some a → ∀ j u, news[j]? = some u → w.cell? (a.add j) = some u) (h1 : ∀ u ∈ news, u.oneCell' = true)
    (h63 : xs.length + m ≤ maxLen) (hgrow : ∀ old, old < xs.length + m → Builtin.nextslicecap (xs.length + m) old * bytes ≤ 281474976710656) :
    ∃ v' w', (Builtin.append_ #[t, t] ty #[v, .slice ao m c]).run P w = .ok v' w' ∧ Turn o (ext o w.heap.size k) (fun x => x = k) w w' ∧ OffRow w' (ext o w.heap.size k) k e v' (xs ++ news) := by
  have T0 : Turn o (ext o w.heap.size k) (fun x => x = k) w w := ⟨Mods.refl _ _, fun j hj => ext_old hj⟩
  have hlo : (xs ++ news).length = xs.length + m := by rw [List.length_append, hl]
  cases ao with
  | none =>
    obtain rfl := hnone rfl
    have hn : news = [] := List.eq_nil_of_length_eq_zero hl
    subst hn
    rw [List.append_nil]
    refine ⟨v, w, ?_, T0, ?_⟩
    · rcases hown with ⟨rfl, rfl⟩ | ⟨g, off, cap, cur, rfl, h2, h3, h4, h5, h6, h7⟩
      · simp [Builtin.append_, run_underlying ht, sizeOf, typeInfo, hi, Builtin.lenOf, Builtin.firstCells]
      · simp [Builtin.append_, run_underlying ht, sizeOf, typeInfo, hi, Builtin.lenOf, Builtin.firstCells, h4, storeCells]
    · rcases hown with h | ⟨g, off, cap, cur, h1, h2, h3, h⟩
      · exact .inl h
      · exact .inr ⟨g, off, cap, cur, h1, h2, (ext_old (block_lt h2)).trans h3, h⟩
  | some a =>
    have hnews := hnews a rfl
    have hsmall : xs.length + m ≤ 9223372036854775807 := by simp only [maxLen] at h63; omega
    have grown : ∀ (old : Nat), old < xs.length + m →
        Turn o (ext o w.heap.size k) (fun x => x = k) w (w.drew.alloc (.cells (xs.toArray ++ news.toArray ++ Builtin.zeroCells z.cells (grownCap w (xs.length + m) old e - (xs.length + m))) e)) ∧
        OffRow (w.drew.alloc (.cells (xs.toArray ++ news.toArray ++ Builtin.zeroCells z.cells (grownCap w (xs.length + m) old e - (xs.length + m))) e)) (ext o w.heap.size k) k e (.slice (some ⟨w.heap.size, 0, none⟩) (xs.length + m) (grownCap w (xs.length + m) old e)) (xs ++ news) := by
      intro old ho
      have hge := grownCap_ge w (xs.length + m) old e
      have hcm : grownCap w (xs.length + m) old e ≤ maxLen := grownCap_le_maxLen w (xs.length + m) old e h63
      have hb : Below w.heap.size w (w.drew.alloc (.cells (xs.toArray ++ news.toArray ++ Builtin.zeroCells z.cells (grownCap w (xs.length + m) old e - (xs.length + m))) e)) := ⟨rfl, rfl, rfl, by simp, fun k hk => Below.heap_alloc w.drew _ k (by simpa using hk)⟩
      refine ⟨(Turn.of_below o k hb).mono (fun _ h => h.elim), .inr ⟨w.heap.size, 0, _, _, by rw [hlo], heap_alloc_new w.drew _, ext_new (Nat.le_refl _), by rw [hlo]; exact hge, ?_, hcm, ?_⟩⟩
      · simp only [Array.size_append, List.size_toArray, size_zeroCells, hzs, hl]
        omega
      · simp only [Array.toList_append, List.append_assoc, List.drop_zero]
        rw [← List.append_assoc]
        exact List.take_left
    rcases hown with ⟨rfl, rfl⟩ | ⟨g, off, cap, cur, rfl, h2, h3, h4, h5, h6, h7⟩
    · by_cases hm : m = 0
      · subst hm
        have hn : news = [] := List.eq_nil_of_length_eq_zero hl
        subst hn
        refine ⟨.slice none 0 0, w, ?_, T0, OffRow.nil _ _ _ _⟩
        simp [Builtin.append_, run_underlying ht, sizeOf, typeInfo, hi, Builtin.lenOf, Builtin.firstCells, loadCells, loadCellsFrom]
      · have hb0 := hgrow 0 (by simp; omega)
        simp only [List.length_nil, Nat.zero_add, nextslicecap_zero (need := m) (by omega)] at hb0
        have hr := run_append_nil (P := P) w t ty e i z ht hi hz a m c news (by rw [hsize, hl, Nat.mul_one]) hnews (by omega) (by have := hsmall; simp at this; omega) (by rw [hby]; exact hb0)
        have hgr := grown 0 (by simp; omega)
        simp only [List.length_nil, Nat.zero_add, List.nil_append, Array.empty_append] at hgr ⊢
        exact ⟨_, _, hr, hgr.1, hgr.2⟩
    · by_cases hroom : xs.length + m ≤ cap
      · have hr := run_room_off (P := P) w t ty e i ht hi hsize g off xs.length cap cur h2 a m c news hl hnews h1 hroom h5
        have hm : Mods (fun j => j = g) w (w.setRow g (cur.toList.take (off + xs.length) ++ news ++ cur.toList.drop (off + xs.length + news.length)).toArray) := ⟨rfl, rfl, rfl, by simp, fun j _ hj => setRow_other w g j _ hj⟩
        refine ⟨_, _, hr, Turn.of_mods o k hm (fun j _ e => by rw [e]; exact h3), .inr ⟨g, off, cap, _, by rw [hlo], setRow_heap w g cur _ e _ h2, (ext_old (block_lt h2)).trans h3, by rw [hlo]; exact hroom, ?_, h6, ?_⟩⟩
        · simp only [List.size_toArray, List.length_append, List.length_take, List.length_drop, Array.length_toList]
          omega
        · simp only [hlo]
          have e1 : (cur.toList.take (off + xs.length)).drop off = xs := by rw [List.drop_take, Nat.add_sub_cancel_left, h7]
          have hlt : (cur.toList.take (off + xs.length)).length = off + xs.length := by
            have hcl : cur.toList.length = cur.size := Array.length_toList
            rw [List.length_take]
            omega
          rw [List.append_assoc, List.drop_append_of_le_length (by rw [hlt]; omega), e1, ← List.append_assoc, ← hlo]
          exact List.take_left
      · have holds : ∀ j u, xs[j]? = some u → w.cell? ((⟨g, off, none⟩ : Addr).add j) = some u := fun j u hu => by
          have hj := (List.getElem?_eq_some_iff.1 hu).1
          rw [Addr.add_lit]
          refine cells_row w g h2 (off + j) u ?_
          rw [← h7, List.getElem?_take_of_lt hj, List.getElem?_drop] at hu
          rw [← Array.getElem?_toList]
          exact hu
        have hr := run_append_grow (P := P) w t ty e i z ht hi hz ⟨g, off, none⟩ xs.length cap xs (by rw [hsize, Nat.mul_one]) holds a m c news (by rw [hsize, hl, Nat.mul_one]) hnews (by omega) (by omega) (by rw [hby]; exact hgrow cap (by omega))
        have hgr := grown cap (by omega)
        exact ⟨_, _, hr, hgr.1, hgr.2⟩

theorem wpList_app_off {P : Program} {w : World} {ops : Array Oper} {rest : List Oper} {op : Oper} {a : Go.Act} {Q : Exit → Go.Act → World → Prop} (hgd : op.guard = none) (s x : Operand) (t : TypeId)
    (ho : op.op = .call { callee := .builtin .append, args := #[s, x], argTypes := #[t, t] })
    (o : Col) (k : Nat) (e : TypeId) (i : TypeInfo) (z : Value) (bytes : Nat) (ht : P.underlying t = some (.slice e)) (hi : P.info? e = some i) (hz : i.zero = some z)
    (hsize : i.size = 1) (hby : i.bytes = bytes) (hzs : z.cells.size = 1)
    (v : Value) (xs : List Value) (hs : a.eval s = v) (hown : OffRow w o k e v xs)
    (ao : Option Addr) (m c : Nat) (news : List Value) (hx : a.eval x = .slice ao m c) (hl : news.length = m) (hnone : ao = none → m = 0) (hnews : ∀ ad, ao = some ad → ∀ j u, news[j]? = some u → w.cell? (ad.add j) = some u) (h1 : ∀ u ∈ news, u.oneCell' = true)
    (h63 : xs.length + m ≤ maxLen) (hgrow : ∀ old, old < xs.length + m → Builtin.nextslicecap (xs.length + m) old * bytes ≤ 281474976710656)
    (h : ∀ v' w', Turn o (ext o w.heap.size k) (fun x => x = k) w w' → OffRow w' (ext o w.heap.size k) k e v' (xs ++ news) → wpList P ops Q rest (a.put op.dst v') w') : wpList P ops Q (op :: rest) a w := by
  refine wpList_plain hgd fun K hK => ?_
  obtain ⟨v', w', hr, h2, h3⟩ := run_app_off (P := P) w o k t op.type e i z bytes ht hi hz hsize hby hzs v xs hown ao m c news hl hnone hnews h1 h63 hgrow
  unfold Oper.wp execOp
  simp only [ho, resolve, invoke, builtin, Sem.run_bind, Sem.run_pure, Result.andThen_ok, List.map_toArray, List.map_cons, List.map_nil, hs, hx, hr]
  exact hK _ _ (h v' w' h2 h3)
end Go.Proofs.Ytnnnpippekpibaa

/- The machine in memory. No function in sight. -/
namespace Go.Proofs.Ytnnnpippekpibaa
open Go.RowKit

/-- one cell of a row of the call's own is written -/
theorem Own.setAt {w : World} {o : Col} {c : Nat} {e : TypeId} {size g cap n : Nat} {xs : List Value} (h : Own w o c e size (.slice (some ⟨g, 0, none⟩) n cap) n xs) {i : Nat} (_hi : i < xs.length) (u : Value) :
    Own (w.setCell ⟨g, i, none⟩ u) o c e size (.slice (some ⟨g, 0, none⟩) n cap) n (xs.set i u) ∧ Turn o o (fun x => x = c) w (w.setCell ⟨g, i, none⟩ u) := by
  obtain ⟨⟨hl, h⟩, ho⟩ := h
  rcases h with ⟨h, _⟩ | ⟨g', cap', cur, h1, hb, h2, h3, h4, h5, h6⟩
  · cases h
  · cases h1
    refine ⟨⟨⟨by rw [List.length_set]; exact hl, .inr ⟨g, cap, cur.setIfInBounds i u, rfl, hb, block_setCell h2 i u, h3, h4, by rw [Array.size_setIfInBounds]; exact h5, ?_⟩⟩, ho⟩, ⟨(Mods.refl (fun k => o k = c) w).setCell (p := ⟨g, i, none⟩) (fun _ => ho g rfl) u, fun _ _ => rfl⟩⟩
    rw [Array.toList_setIfInBounds, List.take_set, h6]
/-- where a row of the call's own lies -/
theorem Own.addr {w : World} {o : Col} {c : Nat} {e : TypeId} {size n : Nat} {v : Value} {xs : List Value} (h : Own w o c e size v n xs) (hp : 0 < n) : ∃ g cap, v = .slice (some ⟨g, 0, none⟩) n cap ∧ n ≤ cap ∧ w.heap[g]?.isSome = true := by
  rcases h.1.2 with ⟨_, h0⟩ | ⟨g, cap, cur, h1, hb, h2, h3, _⟩
  · omega
  · exact ⟨g, cap, h1, h3, by rw [h2]; rfl⟩
theorem Own.cellAt {w : World} {o : Col} {c : Nat} {e : TypeId} {size g n cap : Nat} {xs : List Value} (h : Own w o c e size (.slice (some ⟨g, 0, none⟩) n cap) n xs) {i : Nat} {u : Value} (hu : xs[i]? = some u) : w.cell? ⟨g, i, none⟩ = some u := by
  have := h.1.cells (g := g) rfl i u hu
  rw [Addr.add_lit] at this
  simpa using this

/-- the cells of lines -/
def lineV (l : LineP) : List Value := [.int .i64 l.base, .int .i64 l.size, .int .i64 l.pos, .int .i64 l.cnt]
def linesV (l : List LineP) : List Value := l.flatMap lineV
theorem linesV_len : ∀ l : List LineP, (linesV l).length = l.length * 4
  | [] => rfl
  | x :: l => by
    have := linesV_len l
    simp only [linesV, List.flatMap_cons, List.length_append, List.length_cons] at this ⊢
    rw [this]
    simp [lineV]
    omega
theorem linesV_get : ∀ (l : List LineP) (k i : Nat) (hk : k < l.length), i < 4 → (linesV l)[k * 4 + i]? = (lineV l[k])[i]?
  | [], k, i, hk, _ => by simp at hk
  | x :: l, 0, i, _, hi => by
    rw [Nat.zero_mul, Nat.zero_add]
    show (lineV x ++ linesV l)[i]? = _
    rw [List.getElem?_append_left (by simp [lineV]; omega)]
    rfl
  | x :: l, k + 1, i, hk, hi => by
    have ih := linesV_get l k i (by simpa using hk) hi
    show (lineV x ++ linesV l)[(k + 1) * 4 + i]? = _
    rw [List.getElem?_append_right (by simp [lineV]; omega), show (k + 1) * 4 + i - (lineV x).length = k * 4 + i by simp [lineV]; omega, ih]
    rfl
theorem linesV_set : ∀ (l : List LineP) (k i : Nat) (u : Value) (y : LineP) (hk : k < l.length), i < 4 → (lineV l[k]).set i u = lineV y → (linesV l).set (k * 4 + i) u = linesV (l.set k y)
  | [], k, i, u, y, hk, _, _ => by simp at hk
  | x :: l, 0, i, u, y, _, hi, h => by
    rw [Nat.zero_mul, Nat.zero_add]
    show (lineV x ++ linesV l).set i u = lineV y ++ linesV l
    rw [List.set_append_left _ _ (by simp [lineV]; omega), ← h]
    rfl
  | x :: l, k + 1, i, u, y, hk, hi, h => by
    have ih := linesV_set l k i u y (by simpa using hk) hi h
    show (lineV x ++ linesV l).set ((k + 1) * 4 + i) u = lineV x ++ linesV (l.set k y)
    rw [List.set_append_right _ _ (by simp [lineV]; omega), show (k + 1) * 4 + i - (lineV x).length = k * 4 + i by simp [lineV]; omega, ih]

/-- rows in rows: the outer a block, each inner of a colour of its own -/
structure Rows2 (w : World) (o : Col) (c d g : Nat) (l : List (List Int)) (vs : List Value) : Prop where
  len : vs.length = l.length
  blk : Blk w o c g 37 vs.toArray
  row : ∀ k (h : k < l.length), OffRow w o (d + k) 3 (vs[k]'(by rw [len]; exact h)) (ivs l[k])
theorem Rows2.turn {w w' : World} {o o' : Col} {C : Nat → Prop} {c d g : Nat} {l : List (List Int)} {vs : List Value} (h : Rows2 w o c d g l vs) (T : Turn o o' C w w') (hc : ¬ C c) (hd : ∀ k, k < l.length → ¬ C (d + k)) : Rows2 w' o' c d g l vs :=
  ⟨h.len, h.blk.turn T hc, fun k hk => (h.row k hk).turn T (hd k hk)⟩
/-- a row is put in -/
theorem Rows2.put {w w1 : World} {o o1 : Col} {c d g : Nat} {l : List (List Int)} {vs : List Value} {k : Nat} {v : Value} {r : List Int} (h : Rows2 w o c d g l vs) (hk : k < l.length) (T : Turn o o1 (fun x => x = d + k) w w1) (hc : c < d) (hv : OffRow w1 o1 (d + k) 3 v (ivs r)) :
    Rows2 (w1.setCell ⟨g, k, none⟩ v) o1 c d g (l.set k r) (vs.set k v) ∧ Turn o o1 (fun x => x = c ∨ x = d + k) w (w1.setCell ⟨g, k, none⟩ v) := by
  have hb := h.blk.turn T (by omega)
  have hs := hb.set k v
  have T2 : Turn o o1 (fun x => x = c ∨ x = d + k) w (w1.setCell ⟨g, k, none⟩ v) := (T.mono (fun x hx => Or.inr hx)).trans hs.2 (fun x hx => Or.inl hx)
  refine ⟨⟨by rw [List.length_set, List.length_set]; exact h.len, by have := hs.1; rwa [List.setIfInBounds_toArray] at this, fun j hj => ?_⟩, T2⟩
  rw [List.length_set] at hj
  by_cases e : j = k
  · subst e
    simp only [List.getElem_set_self]
    exact hv.turn hs.2 (by omega)
  · simp only [List.getElem_set_ne (Ne.symm e)]
    exact ((h.row j hj).turn T (by omega)).turn hs.2 (by omega)

/-- the machine's block -/
def lastV : Option EvP → List Value
  | none => [.bool false, .int .i64 0, .int .u8 0, .int .i64 0, .slice none 0 0, .int .u8 0]
  | some e => [.bool true, .int .i64 e.op, .int .u8 e.kind, .int .i64 e.line, .slice none 0 0, .int .u8 e.halt]
structure MVals where
  mem : Nat
  lines : Value
  fed : Nat
  out : Nat
  ops : Value
  takes : Value
  bods : Value
  cs : Nat
  hand : Value
  feds : List Value
  outs : List Value
  ptrs : List Nat
def machV (m : MachP) (v : MVals) : List Value :=
  [.slice (some ⟨v.mem, 0, none⟩) m.mem.length m.mem.length, v.lines, .slice (some ⟨v.fed, 0, none⟩) m.fed.length m.fed.length, .slice (some ⟨v.out, 0, none⟩) m.out.length m.out.length, v.ops, v.takes, v.bods, .slice (some ⟨v.cs, 0, none⟩) m.cs.length m.cs.length, v.hand, .int .i64 m.next, .int .i64 m.periods] ++ lastV m.last
structure MachAt (w : World) (o : Col) (M b : Nat) (P : GProg) (m : MachP) (v : MVals) : Prop where
  blk : Blk w o M b 72 (machV m v).toArray
  mem : Blk w o (M + 1) v.mem 3 (ivs m.mem).toArray
  lines : Own w o (M + 2) 78 4 v.lines m.lines.length (linesV m.lines)
  fed : Rows2 w o (M + 3) (M + 16) v.fed m.fed v.feds
  out : Rows2 w o (M + 4) (M + 32) v.out m.out v.outs
  ops : Own w o (M + 5) 43 3 v.ops P.ops.length (opsV P.ops)
  takes : Own w o (M + 6) 3 1 v.takes P.parts.length (ivs (P.parts.map fun p => (takesP p : Int)))
  bods : Own w o (M + 7) 82 1 v.bods P.parts.length (v.ptrs.map fun b => .pointer (some ⟨b, 0, none⟩))
  ptrs : v.ptrs.length = P.parts.length
  acts : ∀ k (h : k < P.parts.length), ActM w o (M + 64 + 2 * k) (M + 65 + 2 * k) (v.ptrs[k]'(by rw [ptrs]; exact h)) (partAt P k) (bodAt m k)
  cs : Blk w o (M + 8) v.cs 3 (ivs m.cs).toArray
  hand : OffRow w o (M + 9) 3 v.hand (ivs m.hand)
  small : m.fed.length ≤ 16 ∧ m.out.length ≤ 16 ∧ P.parts.length ≤ 32
/-- the machine's colours -/
def Mine (M : Nat) (x : Nat) : Prop := M ≤ x ∧ x < M + 200
/-- what has the machine's colours stays -/
theorem MachAt.turn {w w' : World} {o o' : Col} {C : Nat → Prop} {M b : Nat} {P : GProg} {m : MachP} {v : MVals} (h : MachAt w o M b P m v) (T : Turn o o' C w w') (hC : ∀ k, C k → ¬ Mine M k) : MachAt w' o' M b P m v := by
  have hn : ∀ k, k < 200 → ¬ C (M + k) := fun k hk hc => hC _ hc (by unfold Mine; omega)
  have hs := h.small
  exact ⟨h.blk.turn T (hn 0 (by omega)), h.mem.turn T (hn _ (by omega)), h.lines.turn T (hn _ (by omega)), h.fed.turn T (hn _ (by omega)) (fun k hk => by rw [Nat.add_assoc]; exact hn _ (by omega)), h.out.turn T (hn _ (by omega)) (fun k hk => by rw [Nat.add_assoc]; exact hn _ (by omega)), h.ops.turn T (hn _ (by omega)), h.takes.turn T (hn _ (by omega)), h.bods.turn T (hn _ (by omega)), h.ptrs, fun k hk => (h.acts k hk).turn T (by rw [Nat.add_assoc]; exact hn _ (by omega)) (by rw [Nat.add_assoc]; exact hn _ (by omega)), h.cs.turn T (hn _ (by omega)), h.hand.turn T (hn _ (by omega)), hs⟩

section
variable {w w1 : World} {o o1 : Col} {M b : Nat} {P : GProg} {m : MachP} {v : MVals}

theorem MachAt.cell (h : MachAt w o M b P m v) (i : Nat) {u : Value} (hu : (machV m v)[i]? = some u) : w.cell? ⟨b, i, none⟩ = some u := h.blk.cell i u (by simpa using hu)
/-- its block is another, all else stays -/
theorem MachAt.reblock {m' : MachP} (h : MachAt w o M b P m v) (T : Turn o o1 (fun x => x = M) w w1) (hb : Blk w1 o1 M b 72 (machV m' v).toArray) (e1 : m'.mem = m.mem) (e2 : m'.lines = m.lines) (e3 : m'.fed = m.fed) (e4 : m'.out = m.out) (e5 : m'.bods = m.bods) (e6 : m'.cs = m.cs) (e7 : m'.hand = m.hand) : MachAt w1 o1 M b P m' v := by
  have hbk : ∀ k, bodAt m' k = bodAt m k := fun k => by unfold bodAt; rw [e5]
  exact ⟨hb, by rw [e1]; exact h.mem.turn T (by omega), by rw [e2]; exact h.lines.turn T (by omega), by rw [e3]; exact h.fed.turn T (by omega) (fun k _ => by omega), by rw [e4]; exact h.out.turn T (by omega) (fun k _ => by omega), h.ops.turn T (by omega), h.takes.turn T (by omega), h.bods.turn T (by omega), h.ptrs, fun k hk => by rw [hbk]; exact (h.acts k hk).turn T (by omega) (by omega), by rw [e6]; exact h.cs.turn T (by omega), by rw [e7]; exact h.hand.turn T (by omega), by rw [e3, e4]; exact h.small⟩
/-- its block is written, all else stays -/
theorem MachAt.block {m' : MachP} (h : MachAt w o M b P m v) (i : Nat) (u : Value) (e : (machV m v).set i u = machV m' v) (e1 : m'.mem = m.mem) (e2 : m'.lines = m.lines) (e3 : m'.fed = m.fed) (e4 : m'.out = m.out) (e5 : m'.bods = m.bods) (e6 : m'.cs = m.cs) (e7 : m'.hand = m.hand) :
    MachAt (w.setCell ⟨b, i, none⟩ u) o M b P m' v ∧ Turn o o (Mine M) w (w.setCell ⟨b, i, none⟩ u) := by
  have hs := h.blk.set i u
  refine ⟨h.reblock hs.2 (by have := hs.1; rw [List.setIfInBounds_toArray, e] at this; exact this) e1 e2 e3 e4 e5 e6 e7, hs.2.mono (fun x hx => by unfold Mine; omega)⟩
/-- the hand is another -/
theorem MachAt.setHand {hv : Value} {l : List Int} (h : MachAt w o M b P m v) (T : Turn o o1 (fun x => x = M + 9) w w1) (hh : OffRow w1 o1 (M + 9) 3 hv (ivs l)) :
    MachAt (w1.setCell ⟨b, 8, none⟩ hv) o1 M b P { m with hand := l } { v with hand := hv } ∧ Turn o o1 (Mine M) w (w1.setCell ⟨b, 8, none⟩ hv) := by
  have hb := h.blk.turn T (by omega)
  have hs := hb.set 8 hv
  have T2 : Turn o o1 (fun x => x = M + 9 ∨ x = M) w (w1.setCell ⟨b, 8, none⟩ hv) := (T.mono (fun x hx => Or.inl hx)).trans hs.2 (fun x hx => Or.inr hx)
  refine ⟨⟨by have := hs.1; rw [List.setIfInBounds_toArray] at this; exact this, h.mem.turn T2 (by omega), h.lines.turn T2 (by omega), h.fed.turn T2 (by omega) (fun k _ => by omega), h.out.turn T2 (by omega) (fun k _ => by omega), h.ops.turn T2 (by omega), h.takes.turn T2 (by omega), h.bods.turn T2 (by omega), h.ptrs, fun k hk => (h.acts k hk).turn T2 (by omega) (by omega), h.cs.turn T2 (by omega), hh.turn hs.2 (by omega), h.small⟩, T2.mono (fun x hx => by unfold Mine; omega)⟩
/-- a cell of the memory -/
theorem MachAt.setMem (h : MachAt w o M b P m v) (k : Nat) (x : Int) :
    MachAt (w.setCell ⟨v.mem, k, none⟩ (.int .i64 x)) o M b P { m with mem := m.mem.set k x } v ∧ Turn o o (Mine M) w (w.setCell ⟨v.mem, k, none⟩ (.int .i64 x)) := by
  have hs := h.mem.set k (.int .i64 x)
  have T := hs.2
  have e : (ivs m.mem).set k (.int .i64 x) = ivs (m.mem.set k x) := by simp [ivs, List.map_set]
  have hb : machV { m with mem := m.mem.set k x } v = machV m v := by
    unfold machV
    simp only [List.length_set]
  refine ⟨⟨by rw [hb]; exact h.blk.turn T (by omega), by have := hs.1; rw [List.setIfInBounds_toArray, e] at this; exact this, h.lines.turn T (by omega), h.fed.turn T (by omega) (fun k _ => by omega), h.out.turn T (by omega) (fun k _ => by omega), h.ops.turn T (by omega), h.takes.turn T (by omega), h.bods.turn T (by omega), h.ptrs, fun k hk => (h.acts k hk).turn T (by omega) (by omega), h.cs.turn T (by omega), h.hand.turn T (by omega), h.small⟩, T.mono (fun x hx => by unfold Mine; omega)⟩
/-- a counter -/
theorem MachAt.setCs (h : MachAt w o M b P m v) (k : Nat) (x : Int) :
    MachAt (w.setCell ⟨v.cs, k, none⟩ (.int .i64 x)) o M b P { m with cs := m.cs.set k x } v ∧ Turn o o (Mine M) w (w.setCell ⟨v.cs, k, none⟩ (.int .i64 x)) := by
  have hs := h.cs.set k (.int .i64 x)
  have T := hs.2
  have e : (ivs m.cs).set k (.int .i64 x) = ivs (m.cs.set k x) := by simp [ivs, List.map_set]
  have hb : machV { m with cs := m.cs.set k x } v = machV m v := by
    unfold machV
    simp only [List.length_set]
  refine ⟨⟨by rw [hb]; exact h.blk.turn T (by omega), h.mem.turn T (by omega), h.lines.turn T (by omega), h.fed.turn T (by omega) (fun k _ => by omega), h.out.turn T (by omega) (fun k _ => by omega), h.ops.turn T (by omega), h.takes.turn T (by omega), h.bods.turn T (by omega), h.ptrs, fun k hk => (h.acts k hk).turn T (by omega) (by omega), by have := hs.1; rw [List.setIfInBounds_toArray, e] at this; exact this, h.hand.turn T (by omega), h.small⟩, T.mono (fun x hx => by unfold Mine; omega)⟩
/-- a cell of a line -/
theorem MachAt.setLine {g cap k i : Nat} {u : Value} {y : LineP} (h : MachAt w o M b P m v) (hg : v.lines = .slice (some ⟨g, 0, none⟩) m.lines.length cap) (hk : k < m.lines.length) (hi : i < 4) (hu : (lineV m.lines[k]).set i u = lineV y) :
    MachAt (w.setCell ⟨g, k * 4 + i, none⟩ u) o M b P { m with lines := m.lines.set k y } v ∧ Turn o o (Mine M) w (w.setCell ⟨g, k * 4 + i, none⟩ u) := by
  have hl := h.lines
  rw [hg] at hl
  have hs := hl.setAt (i := k * 4 + i) (by rw [linesV_len]; omega) u
  rw [linesV_set _ k i u y hk hi hu, ← hg] at hs
  have T := hs.2
  have hb : machV { m with lines := m.lines.set k y } v = machV m v := rfl
  refine ⟨⟨by rw [hb]; exact h.blk.turn T (by omega), h.mem.turn T (by omega), by rw [List.length_set]; exact hs.1, h.fed.turn T (by omega) (fun k _ => by omega), h.out.turn T (by omega) (fun k _ => by omega), h.ops.turn T (by omega), h.takes.turn T (by omega), h.bods.turn T (by omega), h.ptrs, fun k hk => (h.acts k hk).turn T (by omega) (by omega), h.cs.turn T (by omega), h.hand.turn T (by omega), h.small⟩, T.mono (fun x hx => by unfold Mine; omega)⟩
/-- an input's tokens -/
theorem MachAt.setFed {k : Nat} {r : Value} {l : List Int} (h : MachAt w o M b P m v) (hk : k < m.fed.length) (T : Turn o o1 (fun x => x = M + 16 + k) w w1) (hr : OffRow w1 o1 (M + 16 + k) 3 r (ivs l)) :
    MachAt (w1.setCell ⟨v.fed, k, none⟩ r) o1 M b P { m with fed := m.fed.set k l } { v with feds := v.feds.set k r } ∧ Turn o o1 (Mine M) w (w1.setCell ⟨v.fed, k, none⟩ r) := by
  have h16 := h.small
  obtain ⟨h1, T2⟩ := h.fed.put hk T (by omega) hr
  have hb : machV { m with fed := m.fed.set k l } { v with feds := v.feds.set k r } = machV m v := by
    unfold machV
    simp only [List.length_set]
  refine ⟨⟨by rw [hb]; exact h.blk.turn T2 (by omega), h.mem.turn T2 (by omega), h.lines.turn T2 (by omega), h1, h.out.turn T2 (by omega) (fun k _ => by omega), h.ops.turn T2 (by omega), h.takes.turn T2 (by omega), h.bods.turn T2 (by omega), h.ptrs, fun k hk => (h.acts k hk).turn T2 (by omega) (by omega), h.cs.turn T2 (by omega), h.hand.turn T2 (by omega), by have := h.small; simp only [List.length_set]; exact this⟩, T2.mono (fun x hx => by unfold Mine; omega)⟩
/-- an output's -/
theorem MachAt.setOut {k : Nat} {r : Value} {l : List Int} (h : MachAt w o M b P m v) (hk : k < m.out.length) (T : Turn o o1 (fun x => x = M + 32 + k) w w1) (hr : OffRow w1 o1 (M + 32 + k) 3 r (ivs l)) :
    MachAt (w1.setCell ⟨v.out, k, none⟩ r) o1 M b P { m with out := m.out.set k l } { v with outs := v.outs.set k r } ∧ Turn o o1 (Mine M) w (w1.setCell ⟨v.out, k, none⟩ r) := by
  have h16 := h.small
  obtain ⟨h1, T2⟩ := h.out.put hk T (by omega) hr
  have hb : machV { m with out := m.out.set k l } { v with outs := v.outs.set k r } = machV m v := by
    unfold machV
    simp only [List.length_set]
  refine ⟨⟨by rw [hb]; exact h.blk.turn T2 (by omega), h.mem.turn T2 (by omega), h.lines.turn T2 (by omega), h.fed.turn T2 (by omega) (fun k _ => by omega), h1, h.ops.turn T2 (by omega), h.takes.turn T2 (by omega), h.bods.turn T2 (by omega), h.ptrs, fun k hk => (h.acts k hk).turn T2 (by omega) (by omega), h.cs.turn T2 (by omega), h.hand.turn T2 (by omega), by have := h.small; simp only [List.length_set]; exact this⟩, T2.mono (fun x hx => by unfold Mine; omega)⟩
/-- a part that fired -/
theorem MachAt.setAct {k : Nat} {x : List Int × Int} (h : MachAt w o M b P m v) (hl : m.bods.length = P.parts.length) (hk : k < P.parts.length) (T : Turn o o1 (fun x => x = M + 64 + 2 * k) w w1) (ha : ActM w1 o1 (M + 64 + 2 * k) (M + 65 + 2 * k) (v.ptrs[k]'(by rw [h.ptrs]; exact hk)) (partAt P k) x) :
    MachAt w1 o1 M b P { m with bods := m.bods.set k x } v ∧ Turn o o1 (Mine M) w w1   := by
  have h16 := h.small
  refine ⟨⟨h.blk.turn T (by omega), h.mem.turn T (by omega), h.lines.turn T (by omega), h.fed.turn T (by omega) (fun k _ => by omega), h.out.turn T (by omega) (fun k _ => by omega), h.ops.turn T (by omega), h.takes.turn T (by omega), h.bods.turn T (by omega), h.ptrs, fun j hj => ?_, h.cs.turn T (by omega), h.hand.turn T (by omega), h.small⟩, T.mono (fun x hx => by unfold Mine; omega)⟩
  by_cases e : j = k
  · subst e
    have : bodAt { m with bods := m.bods.set j x } j = x := by
      unfold bodAt
      rw [List.getElem?_set_self (by rw [hl]; exact hk)]
      rfl
    rw [this]
    exact ha
  · have : bodAt { m with bods := m.bods.set k x } j = bodAt m j := by
      unfold bodAt
      rw [List.getElem?_set_ne (Ne.symm e)]
    rw [this]
    exact (h.acts j hj).turn T (by omega) (by omega)
end
end Go.Proofs.Ytnnnpippekpibaa

/- The places of a line's tokens. -/
namespace Go.Proofs.Ytnnnpippekpibaa
open Go.RowKit

/-- a list of the call's own -/
def NewInts (w : World) (l : List Int) (e : Ending) (w' : World) : Prop := ∃ v, e = .returned v ∧ w'.ownsRow w.heap.size 3 1 v l.length (ivs l) ∧ Below w.heap.size w w'

theorem castL_len (l : List Nat) : (castL l).length = l.length := by simp [castL]
theorem placesP_succ (l : LineP) (d n : Nat) : ivs (castL (placesP l d (n + 1))) = ivs (castL (placesP l d n)) ++ [.int .i64 ((l.base + (l.pos + d + n) % l.size : Nat) : Int)] := by
  simp [placesP, castL, List.range_succ, ivs]

set_option maxRecDepth 100000 in
set_option maxHeartbeats 1000000 in
theorem cells_any (w : World) (g a : Nat) (l : LineP) (d n : Nat) (h0 : w.cell? ⟨g, a, none⟩ = some (.int .i64 l.base)) (h1 : w.cell? ⟨g, a + 1, none⟩ = some (.int .i64 l.size)) (h2 : w.cell? ⟨g, a + 2, none⟩ = some (.int .i64 l.pos))
    (hs : 0 < n → 0 < l.size) (hb : (l.base ≤ 100000 ∧ l.size ≤ 100000) ∧ l.pos ≤ 100000 ∧ d ≤ 100000 ∧ n ≤ 100000) :
    Calls Try.prog 68 #[.pointer (some ⟨g, a, none⟩), .int .i64 d, .int .i64 n] w (NewInts w (castL (placesP l d n))) := by
  obtain ⟨i0, hi, hz0, hz1, hz2⟩ := info_parts info_int
  have HI := Lib.hid hi
  obtain ⟨⟨b1, b2⟩, b3, b4, b5⟩ := hb
  go_enter Try.func68, Try.ntmps68
  go_wp2_with fail
  go_loopw [7, 10] (fun v i wl => ∃ (k : Nat), k ≤ n ∧ i = .int .i64 k ∧ Below w.heap.size w wl ∧ wl.ownsRow w.heap.size 3 1 v k (ivs (castL (placesP l d k)))) (fun _ i _ => n - (intOf i).toNat)
  case atStart => exact ⟨0, Nat.zero_le _, rfl, Below.refl _ _, World.ownsRow_nil w w.heap.size 3 1⟩
  case round =>
    obtain ⟨k, hk, rfl, hbl, hO⟩ := hrel
    have HB := Lib.hid hbl
    have HO := Lib.hid hO
    by_cases hlt : k < n
    · have hsz := hs (by omega)
      have hlti : (k : Int) < n := by omega
      have c0 := cell_later hbl h0
      have c1 := cell_later hbl h1
      have c2 := cell_later hbl h2
      have hml := Nat.mod_lt (l.pos + d + k) hsz
      have hP := placesP_succ l d k
      obtain ⟨X, hX⟩ : ∃ x : Int, ((l.base + (l.pos + d + k) % l.size : Nat) : Int) = x := ⟨_, rfl⟩
      rw [hX] at hP
      obtain ⟨r, hr⟩ : ∃ x : Int, (((l.pos + d + k) % l.size : Nat) : Int) = x := ⟨_, rfl⟩
      have key : IntKind.i64.wrap ((l.base : Int) + (IntKind.i64.wrap (IntKind.i64.wrap ((l.pos : Int) + d) + k)).tmod (l.size : Int)) = X := by
        rw [IntWalk.i64_in ((l.pos : Int) + d) (by omega), IntWalk.i64_in ((l.pos : Int) + d + k) (by omega), Int.tmod_eq_emod_of_nonneg (by omega), show ((l.pos : Int) + d + k) % (l.size : Int) = r by rw [← hr]; rfl, IntWalk.i64_in _ (by omega)]
        omega
      have hne : ¬ (l.size : Int) = 0 := by omega
      obtain ⟨bz, hbz⟩ : ∃ x : Int, (l.base : Int) = x := ⟨_, rfl⟩
      obtain ⟨Sz, hSz⟩ : ∃ x : Int, (l.size : Int) = x := ⟨_, rfl⟩
      obtain ⟨pz, hpz⟩ : ∃ x : Int, (l.pos : Int) = x := ⟨_, rfl⟩
      rw [hbz] at c0 key
      rw [hSz] at c1 hne key
      rw [hpz] at c2 key
      have HKEY := Lib.hid key
      clear hbz hSz hpz hr key
      have HP := Lib.hid hP
      obtain ⟨sa, sc, rfl⟩ := owns_slice hO
      clear hX hml hP hO hbl hs h0 h1 h2
      go_wp2_with fail
      refine wp_region_lex (fun w' => w'.cell? ⟨g, a, none⟩ = some (.int .i64 bz) ∧ w'.cell? ⟨g, a + 1, none⟩ = some (.int .i64 Sz) ∧ w'.cell? ⟨g, a + 2, none⟩ = some (.int .i64 pz)) [0, 1, 2, 3, 4, 5, 6, 7, 8, 9, 10, 11, 12, 13, 14, 15, 16, 17, 18, 19, 20] [21, 22, 23] (by kernel_rfl) (by kernel_rfl) rfl (fun _ _ hx h => ⟨hx.cell h.1, hx.cell h.2.1, hx.cell h.2.2⟩) ⟨c0, c1, c2⟩ ?_
      intro Q' hQ'
      simp only [pickOps, List.flatMap_cons, List.flatMap_nil, List.drop_succ_cons, List.drop_zero, List.take_succ_cons, List.take_zero, List.cons_append, List.nil_append, List.append_nil]
      repeat (first
        | (refine wpReads_skip (by rfl) ?_; (try simp only [Act.put, List.setIfInBounds_toArray, List.set_cons_zero, List.set_cons_succ]))
        | (refine wpReads_cons ?_ (by rfl) (by rfl) ?_ ?_; rotate_left; (intro wz hz; (try dsimp only at hz); go_simp; try with_reducible rfl); (try simp only [Act.put, List.setIfInBounds_toArray, List.set_cons_zero, List.set_cons_succ]))
        | (refine wpReads_any ?_ (by rfl) ?_ ?_; rotate_left; (intro wz; go_simp; try with_reducible rfl); (try simp only [Act.put, List.setIfInBounds_toArray, List.set_cons_zero, List.set_cons_succ])))
      refine wpReads_nil ?_
      simp only [HKEY.out]
      obtain ⟨wx, hwx⟩ : ∃ x, wr.drew = x := ⟨_, rfl⟩
      have HB2 := Lib.hid (HB.out.drew)
      have hO2 : wr.drew.ownsRow w.heap.size 3 1 (.slice sa k sc) k (ivs (castL (placesP l d k))) := HO.out
      rw [hwx] at HB2 hO2 ⊢
      have HO2 := Lib.hid hO2
      clear hwx hO2 HO HB c0 c1 c2
      go_wp2_with (at_builtin; refine stop_here ?_)
      refine go_on ?_
      refine wpList_app rfl _ _ 37 rfl w.heap.size 3 i0 _ 1 8 Try.underlying37 HI.out hz0 hz1 hz2 rfl (.slice sa k sc) k _ rfl (HO2.out.alloc _) (some ⟨wx.heap.size, 0, none⟩) 1 1 [.int .i64 X] rfl rfl (fun h => by cases h) (news_alloc wx [.int .i64 X] 3) (by simp [Value.oneCell']) (by unfold maxLen; omega) (grow_ok (by omega)) (by have := HB2.out.size; simp; omega) ?_
      intro v7 w7 k1 k20 _ _
      have hb7 := HB2.out.trans (below_app HO2.out k20 HB2.out.size)
      rw [← HP.out] at k1
      have K1 := Lib.hid k1
      clear k1 k20
      go_wp2
      go_roundw
      case rel => exact ⟨k + 1, hlt, by go_num, hb7, K1.out⟩
      case measure => simp [intOf]; omega
    · obtain rfl : k = n := by omega
      obtain ⟨sa, sc, rfl⟩ := owns_slice hO
      clear hO hbl
      go_wp2
      go_ret
      exact ⟨_, rfl, by rw [castL_len, placesP_len]; exact HO.out, HB.out⟩
end Go.Proofs.Ytnnnpippekpibaa

/- Tokens are taken out of the memory. -/
namespace Go.Proofs.Ytnnnpippekpibaa
open Go.RowKit

theorem notMine {M k : Nat} (h : 200 ≤ k) : ¬ Mine M (M + k) := by unfold Mine; omega
theorem lineAt_is {m : MachP} {k : Nat} (h : k < m.lines.length) : lineAt m k = m.lines[k] := by unfold lineAt; rw [List.getElem?_eq_getElem h]; rfl
theorem place_lt {l : LineP} {d n N c : Nat} (h : l.base + l.size ≤ N) (hs : 0 < l.size) (hc : c ∈ placesP l d n) : c < N := by
  obtain ⟨k, _, rfl⟩ := List.mem_map.1 hc
  have := Nat.mod_lt (l.pos + d + k) hs
  omega
theorem mem_cell {w : World} {o : Col} {M b : Nat} {P : GProg} {m : MachP} {v : MVals} (h : MachAt w o M b P m v) {c : Nat} (hc : c < m.mem.length) : w.cell? ⟨v.mem, c, none⟩ = some (.int .i64 (m.mem[c]?.getD 0)) := h.mem.cell c _ (by simp [ivs, hc])
/-- a line's cells -/
theorem line_cells {w : World} {o : Col} {M b : Nat} {P : GProg} {m : MachP} {v : MVals} (h : MachAt w o M b P m v) {k : Nat} (hk : k < m.lines.length) : ∃ g cap, v.lines = .slice (some ⟨g, 0, none⟩) m.lines.length cap ∧ m.lines.length ≤ cap ∧ w.cell? ⟨g, k * 4, none⟩ = some (.int .i64 (lineAt m k).base) ∧ w.cell? ⟨g, k * 4 + 1, none⟩ = some (.int .i64 (lineAt m k).size) ∧ w.cell? ⟨g, k * 4 + 2, none⟩ = some (.int .i64 (lineAt m k).pos) ∧ w.cell? ⟨g, k * 4 + 3, none⟩ = some (.int .i64 (lineAt m k).cnt) ∧ ∀ i, w.frozen? ⟨g, i, none⟩ = false := by
  obtain ⟨g, cap, e, hc, _⟩ := h.lines.addr (by omega)
  have hl := h.lines
  rw [e] at hl
  have hx : ∀ i u, i < 4 → (lineV m.lines[k])[i]? = some u → w.cell? ⟨g, k * 4 + i, none⟩ = some u := fun i u hi hu => hl.cellAt (by rw [linesV_get _ _ _ hk hi]; exact hu)
  rw [lineAt_is hk]
  exact ⟨g, cap, e, hc, hx 0 _ (by omega) rfl, hx 1 _ (by omega) rfl, hx 2 _ (by omega) rfl, hx 3 _ (by omega) rfl, fun i => own_frozen hl i⟩
/-- what the walk lays a list's cell as -/
theorem own_get {w : World} {N n : Nat} {ao : Option Addr} {cap : Nat} {l : List Int} (h : w.ownsRow N 3 1 (.slice ao n cap) l.length (ivs l)) {j : Nat} (hj : j < l.length) : ∃ g, ao = some ⟨g, 0, none⟩ ∧ n = l.length ∧ n ≤ cap ∧ N ≤ g ∧ g < w.heap.size ∧ w.cell? ⟨g, j, none⟩ = some (.int .i64 (l[j]?.getD 0)) := by
  rcases h.2 with ⟨_, h0⟩ | ⟨g, cap', cur, e, hb, hg, hc, _⟩
  · omega
  · cases e
    have := h.cells (g := g) rfl j (.int .i64 (l[j]?.getD 0)) (by simp [ivs, hj])
    rw [Addr.add_lit, Nat.zero_add] at this
    exact ⟨g, rfl, rfl, hc, hb, block_lt hg, this⟩

def ReadRet (w : World) (o : Col) (M b : Nat) (P : GProg) (m : MachP) (v : MVals) (k n : Nat) (e : Ending) (w' : World) : Prop :=
  ∃ o' tv wv, e = .returned (.tuple #[tv, wv]) ∧ Turn o o' (Mine M) w w' ∧ MachAt w' o' M b P { m with lines := m.lines.set k { lineAt m k with pos := ((lineAt m k).pos + n) % (lineAt m k).size, cnt := (lineAt m k).cnt - n } } v ∧
    Ints w' o' (M + 211) tv (gainP m.mem (placesP (lineAt m k) 0 n)) ∧ Ints w' o' (M + 210) wv (castL (placesP (lineAt m k) 0 n))

theorem gain_succ (mem : List Int) (pl : List Nat) {j : Nat} (hj : j < pl.length) : ivs ((gainP mem pl).take (j + 1)) = ivs ((gainP mem pl).take j) ++ [.int .i64 (mem[pl[j]]?.getD 0)] := by
  rw [List.take_succ_eq_append_getElem (by simp [gainP]; exact hj)]
  simp [gainP, ivs]

set_option maxRecDepth 100000 in
set_option maxHeartbeats 2000000 in
theorem sread_any {w : World} {o : Col} {M b : Nat} {P : GProg} {m : MachP} {v : MVals} {F s : Nat} (h : MachAt w o M b P m v) (hP : POk P) (hm : MOk P F s m) {k n : Nat} (hk : k < m.lines.length) (hn : 0 < n) (hc : n ≤ (lineAt m k).cnt) {g : Nat} {cap : Nat} (hg : v.lines = .slice (some ⟨g, 0, none⟩) m.lines.length cap) :
    Calls Try.prog 61 #[.pointer (some ⟨b, 0, none⟩), .pointer (some ⟨g, k * 4, none⟩), .int .i64 n] w (ReadRet w o M b P m v k n) := by
  obtain ⟨i0, hi, hz0, hz1, hz2⟩ := info_parts info_int
  have HI := Lib.hid hi
  have hL := lineAt_ok hm.line k
  have hPm := hP.mem
  have hmem := hm.mem
  have hr1 := hL.reg
  have hr2 := hL.cnt
  have hr3 := hL.pos
  obtain ⟨g', cap', e', hcap, q0, q1, q2, q3, qf⟩ := line_cells h hk
  rw [hg] at e'
  cases e'
  have HM := Lib.hid h
  have HMM := Lib.hid hm
  have HG := Lib.hid hg
  have HLL := Lib.hid (lineAt_is hk)
  have HL : Hid (∃ x, lineAt m k = x) := Lib.hid ⟨_, rfl⟩
  obtain ⟨l, hl⟩ := HL.out
  have HE := Lib.hid hl
  rw [hl] at q0 q1 q2 q3 hr1 hr2 hr3 hc
  unfold ReadRet
  rw [hl]
  have hsz : 0 < l.size := by omega
  have hn64 : n ≤ 1024 := by omega
  have HQ := Lib.hid qf
  clear hl hL hm hg h qf HL
  go_enter Try.func61, Try.ntmps61
  go_wp2_with fail
  refine (cells_any w g (k * 4) l 0 n q0 q1 q2 (fun _ => hsz) (by omega)).mono ?_
  rintro e w1 ⟨wv, rfl, K1, hb1⟩
  have HK1 := Lib.hid K1
  have HB1 := Lib.hid hb1
  obtain ⟨wa, wc, rfl⟩ := owns_slice K1
  rw [castL_len, placesP_len] at *
  obtain ⟨pl, hpl⟩ : ∃ x, placesP l 0 n = x := ⟨_, rfl⟩
  have hpn : pl.length = n := by rw [← hpl]; exact placesP_len _ _ _
  have HPL : Hid (∀ c ∈ pl, c < m.mem.length) := Lib.hid fun c hc => by
    rw [← hpl] at hc
    exact place_lt (by omega) hsz hc
  rw [hpl] at HK1
  have HPN := Lib.hid hpn
  have HPE := Lib.hid hpl
  clear K1 hb1 hpl hpn
  go_wp2_with fail
  go_loopw [9, 17] (fun tv i wl => ∃ (j : Nat), j ≤ n ∧ i = .int .i64 j ∧ Below w1.heap.size w1 wl ∧ wl.ownsRow w1.heap.size 3 1 tv j (ivs ((gainP m.mem pl).take j))) (fun _ i _ => n - (intOf i).toNat)
  case atStart => exact ⟨0, Nat.zero_le _, rfl, Below.refl _ _, by rw [List.take_zero]; exact World.ownsRow_nil w1 w1.heap.size 3 1⟩
  case round =>
    obtain ⟨j, hj, rfl, hbl, hO⟩ := hrel
    have HB := Lib.hid hbl
    have HO := Lib.hid hO
    have hB := HB1.out.trans (hbl.mono HB1.out.size)
    obtain ⟨sa, sc, rfl⟩ := owns_slice hO
    by_cases hlt : j < n
    · have hlti : (j : Int) < n := by omega
      have hjp : j < pl.length := by have := HPN.out; omega
      have hK1 := HK1.out
      rw [← HPN.out, ← castL_len] at hK1
      obtain ⟨wg, rfl, -, hwc, -, -, f1⟩ := own_get hK1 (by rw [castL_len]; exact hjp)
      rw [castL_len, HPN.out] at hwc
      have hcm := HPL.out pl[j] (List.getElem_mem hjp)
      have f2 := mem_cell HM.out hcm
      have hgs := gain_succ m.mem pl hjp
      rw [show (castL pl)[j]?.getD 0 = ((pl[j] : Nat) : Int) by simp [castL, hjp]] at f1
      obtain ⟨c, hcc⟩ : ∃ x, pl[j] = x := ⟨_, rfl⟩
      rw [hcc] at f1 f2 hcm hgs
      have f1' := cell_later hbl f1
      have f2' := cell_later hB f2
      have f0' := cell_later hB (HM.out.cell 0 (u := .slice (some ⟨v.mem, 0, none⟩) m.mem.length m.mem.length) rfl)
      have hci : (c : Int) < m.mem.length := by omega
      have hwci : (n : Int) ≤ wc := by omega
      have HGS := Lib.hid hgs
      clear f1 f2 hgs hcc hK1 hO hbl hB hr1 hr2 hr3 hc
      go_wp2_with (at_builtin; refine stop_here ?_)
      refine go_on ?_
      refine wpList_app rfl _ _ 37 rfl w1.heap.size 3 i0 _ 1 8 Try.underlying37 HI.out hz0 hz1 hz2 rfl (.slice sa j sc) j _ rfl (HO.out.alloc _) (some ⟨wr.heap.size, 0, none⟩) 1 1 [.int .i64 (m.mem[c]?.getD 0)] rfl rfl (fun h => by cases h) (news_alloc wr [.int .i64 (m.mem[c]?.getD 0)] 3) (by simp [Value.oneCell']) (by unfold maxLen; omega) (grow_ok (by omega)) (by have := HB.out.size; simp; omega) ?_
      intro v7 w7 k1 k20 _ _
      have hb7 := HB.out.trans (below_app HO.out k20 HB.out.size)
      rw [← HGS.out] at k1
      have K1 := Lib.hid k1
      clear k1 k20 f0' f1' f2'
      go_wp2
      go_roundw
      case rel => exact ⟨j + 1, hlt, by go_num, hb7, K1.out⟩
      case measure => simp [intOf]; omega
    · obtain rfl : j = n := by omega
      have hgl : (gainP m.mem pl).take j = gainP m.mem pl := List.take_of_length_le (by rw [gainP_len, HPN.out]; omega)
      rw [hgl] at hO
      have Ta := Turn.of_below o (M + 210) HB1.out
      have Tb := Turn.of_below (ext o w.heap.size (M + 210)) (M + 211) hbl
      have hA : Ints wr (ext (ext o w.heap.size (M + 210)) w1.heap.size (M + 211)) (M + 210) (.slice wa j wc) (castL pl) := by
        have hK1 := HK1.out
        rw [← HPN.out, ← castL_len] at hK1
        have := (own_ints hK1 (o := ext o w.heap.size (M + 210)) (d := M + 210) (fun k hk => ext_new (hK1.lt k hk).1)).turn Tb (fun h => h)
        rw [castL_len, HPN.out] at this
        exact this
      have hT : Ints wr (ext (ext o w.heap.size (M + 210)) w1.heap.size (M + 211)) (M + 211) (.slice sa j sc) (gainP m.mem pl) := by
        have e : j = (gainP m.mem pl).length := by rw [gainP_len, HPN.out]
        exact (Own.vals (e := 3) (n := j) ⟨owns_base hO (fun _ _ => Nat.zero_le _), fun k hk => ext_new (hO.lt k hk).1⟩)
      have h1 := (HM.out.turn Ta (fun _ h => h.elim)).turn Tb (fun _ h => h.elim)
      have hlc := line_cells h1 hk
      obtain ⟨g9, cap9, e9, -, c0, c1, c2, c3, cf⟩ := hlc
      rw [HG.out] at e9
      cases e9
      rw [HE.out] at c1 c2 c3
      have T1 : Turn o (ext (ext o w.heap.size (M + 210)) w1.heap.size (M + 211)) (fun _ => False) w wr := Ta.trans Tb (fun _ h => h)
      have HT1 := Lib.hid T1
      have H1 := Lib.hid h1
      have HA := Lib.hid hA
      have HTT := Lib.hid hT
      clear hgl hO Ta Tb hA hT h1 T1 c0 hbl hB HO HB HM HK1
      generalize ext (ext o w.heap.size (M + 210)) w1.heap.size (M + 211) = q at *
      obtain ⟨r, hr⟩ : ∃ x : Int, (((l.pos + j) % l.size : Nat) : Int) = x := ⟨_, rfl⟩
      obtain ⟨rc, hrc⟩ : ∃ x : Int, ((l.cnt - j : Nat) : Int) = x := ⟨_, rfl⟩
      have key : Int.tmod (IntKind.i64.wrap ((l.pos : Int) + j)) (l.size : Int) = r := by
        rw [IntWalk.i64_in _ (by omega), Int.tmod_eq_emod_of_nonneg (by omega), ← hr]
        rfl
      have e4 : IntKind.i64.wrap ((l.cnt : Int) - j) = rc := by rw [IntWalk.i64_in _ (by omega)]; omega
      have hne : ¬ (l.size : Int) = 0 := by omega
      have hLk : m.lines[k] = l := HLL.out.symm.trans HE.out
      have S1 := H1.out.setLine (k := k) (i := 2) (u := .int .i64 r) (y := { l with pos := (l.pos + j) % l.size }) HG.out hk (by omega) (by rw [hLk, ← hr]; rfl)
      have hk2 : k < (m.lines.set k { l with pos := (l.pos + j) % l.size }).length := by rw [List.length_set]; exact hk
      have hG2 : v.lines = .slice (some ⟨g, 0, none⟩) (m.lines.set k { l with pos := (l.pos + j) % l.size }).length cap := by rw [List.length_set]; exact HG.out
      have S2 := S1.1.setLine (k := k) (i := 3) (u := .int .i64 rc) (y := { l with pos := (l.pos + j) % l.size, cnt := l.cnt - j }) hG2 hk2 (by omega) (by simp only [List.getElem_set_self]; rw [← hrc]; rfl)
      have HS1 := Lib.hid S1
      have HS2 := Lib.hid S2
      have d0 := cf (k * 4 + 2)
      have d1 := cf (k * 4 + 3)
      obtain ⟨Sz, hSz⟩ : ∃ x : Int, (l.size : Int) = x := ⟨_, rfl⟩
      obtain ⟨pz, hpz⟩ : ∃ x : Int, (l.pos : Int) = x := ⟨_, rfl⟩
      obtain ⟨cz, hcz⟩ : ∃ x : Int, (l.cnt : Int) = x := ⟨_, rfl⟩
      rw [hSz] at c1 key hne
      rw [hpz] at c2 key
      rw [hcz] at c3 e4
      have HKEY := Lib.hid key
      clear hSz hpz hcz hr hrc key cf hLk hk2 hG2 S1 S2 hr1 hr2 hr3 hc
      go_wp2_with fail
      refine wp_region_lex (fun w' => w'.cell? ⟨g, k * 4 + 1, none⟩ = some (.int .i64 Sz) ∧ w'.cell? ⟨g, k * 4 + 2, none⟩ = some (.int .i64 pz)) [0, 1, 2, 3, 4, 5, 6, 7, 8, 9, 10, 11, 12, 13, 14] [15] (by kernel_rfl) (by kernel_rfl) rfl (fun _ _ hx h => ⟨hx.cell h.1, hx.cell h.2⟩) ⟨c1, c2⟩ ?_
      intro Q' hQ'
      simp only [pickOps, List.flatMap_cons, List.flatMap_nil, List.drop_succ_cons, List.drop_zero, List.take_succ_cons, List.take_zero, List.cons_append, List.nil_append, List.append_nil]
      repeat (first
        | (refine wpReads_skip (by rfl) ?_; (try simp only [Act.put, List.setIfInBounds_toArray, List.set_cons_zero, List.set_cons_succ]))
        | (refine wpReads_cons ?_ (by rfl) (by rfl) ?_ ?_; rotate_left; (intro wz hz; (try dsimp only at hz); go_simp; try with_reducible rfl); (try simp only [Act.put, List.setIfInBounds_toArray, List.set_cons_zero, List.set_cons_succ]))
        | (refine wpReads_any ?_ (by rfl) ?_ ?_; rotate_left; (intro wz; go_simp; try with_reducible rfl); (try simp only [Act.put, List.setIfInBounds_toArray, List.set_cons_zero, List.set_cons_succ])))
      refine wpReads_nil ?_
      simp only [HKEY.out]
      go_wp2
      go_ret2
      have T2 := (HT1.out.mono (D := Mine M) (fun _ h => h.elim)).trans (HS1.out.2.trans HS2.out.2 (fun _ h => h)) (fun _ h => h)
      have hfin := HS2.out.1
      simp only [List.set_set] at hfin
      have T12 := HS1.out.2.trans HS2.out.2 (fun _ h => h)
      rw [HPE.out]
      refine ⟨_, _, _, rfl, T2.drewN 1, hfin.turn ((Turn.refl _ (fun _ => False) _).drewN 1) (fun _ h => h.elim), ?_, ?_⟩
      · exact (HTT.out.turn T12 (notMine (by omega))).drewN 1
      · exact (HA.out.turn T12 (notMine (by omega))).drewN 1
end Go.Proofs.Ytnnnpippekpibaa

/- Tokens are laid into the memory. -/
namespace Go.Proofs.Ytnnnpippekpibaa
open Go.RowKit

theorem lay_succ : ∀ (pl : List Nat) (ts mem : List Int) (j : Nat) (h : j < pl.length) (h2 : j < ts.length), layP mem (pl.take (j + 1)) (ts.take (j + 1)) = (layP mem (pl.take j) (ts.take j)).set pl[j] ts[j]
  | [], _, _, _, h, _ => by simp at h
  | _ :: _, [], _, _, _, h => by simp at h
  | c :: pl, t :: ts, mem, 0, _, _ => by cases pl <;> rfl
  | c :: pl, t :: ts, mem, j + 1, h, h2 => by
    rw [List.take_succ_cons, List.take_succ_cons, List.take_succ_cons, List.take_succ_cons, layP, layP]
    exact lay_succ pl ts _ j (by simpa using h) (by simpa using h2)

def LayRet (w : World) (o : Col) (M b : Nat) (P : GProg) (m : MachP) (v : MVals) (k : Nat) (ts : List Int) (e : Ending) (w' : World) : Prop :=
  ∃ o' wv, e = .returned wv ∧ Turn o o' (Mine M) w w' ∧ MachAt w' o' M b P { m with mem := layP m.mem (placesP (lineAt m k) (lineAt m k).cnt ts.length) ts, lines := m.lines.set k { lineAt m k with cnt := (lineAt m k).cnt + ts.length } } v ∧
    Ints w' o' (M + 210) wv (castL (placesP (lineAt m k) (lineAt m k).cnt ts.length))

set_option maxRecDepth 100000 in
set_option maxHeartbeats 2000000 in
theorem slay_any {w : World} {o : Col} {M b : Nat} {P : GProg} {m : MachP} {v : MVals} {F s : Nat} (h : MachAt w o M b P m v) (hP : POk P) (hm : MOk P F s m) {k : Nat} {ts : List Int} {tv : Value} {ct : Nat} (hts : Ints w o ct tv ts) (hct : ct ≠ M + 1) (hk : k < m.lines.length) (hn : 0 < ts.length) (hc : (lineAt m k).cnt + ts.length ≤ (lineAt m k).size) {g : Nat} {cap : Nat} (hg : v.lines = .slice (some ⟨g, 0, none⟩) m.lines.length cap) :
    Calls Try.prog 63 #[.pointer (some ⟨b, 0, none⟩), .pointer (some ⟨g, k * 4, none⟩), tv] w (LayRet w o M b P m v k ts) := by
  have hL := lineAt_ok hm.line k
  have hPm := hP.mem
  have hmem := hm.mem
  have hr1 := hL.reg
  have hr3 := hL.pos
  obtain ⟨g', cap', e', hcap, q0, q1, q2, q3, qf⟩ := line_cells h hk
  rw [hg] at e'
  cases e'
  have HM := Lib.hid h
  have HG := Lib.hid hg
  have HLL := Lib.hid (lineAt_is hk)
  have HL : Hid (∃ x, lineAt m k = x) := Lib.hid ⟨_, rfl⟩
  obtain ⟨l, hl⟩ := HL.out
  have HE := Lib.hid hl
  rw [hl] at q0 q1 q2 q3 hr1 hr3 hc
  unfold LayRet
  rw [hl]
  obtain ⟨ta, tc, rfl⟩ := hts.slice
  have HTS := Lib.hid hts
  obtain ⟨n, hnn⟩ : ∃ x, ts.length = x := ⟨_, rfl⟩
  have HN := Lib.hid hnn
  rw [hnn] at hn hc HTS ⊢
  have hsz : 0 < l.size := by omega
  have hn64 : n ≤ 1024 := by omega
  have hreg : l.base + l.size ≤ m.mem.length := by omega
  have hlen : m.mem.length ≤ 1024 := by omega
  clear hmem hPm hr1
  clear hl hL hm hg h qf HL hts hnn
  go_enter Try.func63, Try.ntmps63
  go_wp2_with fail
  refine (cells_any w g (k * 4) l l.cnt n q0 q1 q2 (fun _ => hsz) (by omega)).mono ?_
  rintro e w1 ⟨wv, rfl, K1, hb1⟩
  have HB1 := Lib.hid hb1
  obtain ⟨wa, wc, rfl⟩ := owns_slice K1
  rw [castL_len, placesP_len] at K1 ⊢
  obtain ⟨pl, hpl⟩ : ∃ x, placesP l l.cnt n = x := ⟨_, rfl⟩
  have hpn : pl.length = n := by rw [← hpl]; exact placesP_len _ _ _
  have HPL : Hid (∀ c ∈ pl, c < m.mem.length) := Lib.hid fun c hc => by
    rw [← hpl] at hc
    exact place_lt (by omega) hsz hc
  rw [hpl] at K1
  have HPE := Lib.hid hpl
  have T1 := Turn.of_below o (M + 210) hb1
  have hA : Ints w1 (ext o w.heap.size (M + 210)) (M + 210) (.slice wa n wc) (castL pl) := Own.vals (e := 3) (n := n) ⟨owns_base K1 (fun _ _ => Nat.zero_le _), fun k hk => ext_new (K1.lt k hk).1⟩
  have hT := HTS.out.turn T1 (fun h => h)
  have hM := HM.out.turn T1 (fun _ h => h.elim)
  have HM1 := Lib.hid hM
  have HA := Lib.hid hA
  have HT1 := Lib.hid T1
  have HTT := Lib.hid hT
  have HPN := Lib.hid hpn
  clear K1 hb1 hpl hpn hA hT hM T1 HTS HM HB1 q0 q1 q2 q3
  generalize ext o w.heap.size (M + 210) = q at *
  go_wp2_with fail
  go_loopw [20] (fun i wl => ∃ (j : Nat), j ≤ n ∧ i = .int .i64 j ∧ Turn q q (fun x => x = M + 1) w1 wl ∧ MachAt wl q M b P { m with mem := layP m.mem (pl.take j) (ts.take j) } v) (fun i _ => n - (intOf i).toNat)
  case atStart => exact ⟨0, Nat.zero_le _, rfl, Turn.refl _ _ _, by rw [List.take_zero, List.take_zero]; exact HM1.out⟩
  case round =>
    obtain ⟨j, hj, rfl, hTl, hMl⟩ := hrel
    have HTL := Lib.hid hTl
    have HML := Lib.hid hMl
    by_cases hlt : j < n
    · have hlti : (j : Int) < n := by omega
      have hjp : j < pl.length := by have := HPN.out; omega
      have hjt : j < ts.length := by have := HN.out; omega
      have hA := HA.out.turn hTl (by omega)
      obtain ⟨wg, wo, rfl, -, hwc, -, -, f1⟩ := Ints.at hA (by rw [castL_len]; omega)
      have f1 := f1 j (by rw [castL_len]; exact hjp)
      have hTk := HTT.out.turn hTl hct
      obtain ⟨tg, to, rfl, -, htc, -, -, f3⟩ := Ints.at hTk (by omega)
      have f3 := f3 j hjt
      have hcm := HPL.out pl[j] (List.getElem_mem hjp)
      rw [show (castL pl)[j]?.getD 0 = ((pl[j] : Nat) : Int) by simp [castL, hjp]] at f1
      rw [show ts[j]?.getD 0 = ts[j] by simp [hjt]] at f3
      have hls := lay_succ pl ts m.mem j hjp hjt
      obtain ⟨c, hcc⟩ : ∃ x, pl[j] = x := ⟨_, rfl⟩
      obtain ⟨t, htt⟩ : ∃ x, ts[j] = x := ⟨_, rfl⟩
      rw [hcc] at f1 hcm hls
      rw [htt] at f3 hls
      have f0 := hMl.cell 0 (u := .slice (some ⟨v.mem, 0, none⟩) (layP m.mem (pl.take j) (ts.take j)).length (layP m.mem (pl.take j) (ts.take j)).length) rfl
      rw [layP_len] at f0
      have fr := hMl.mem.frozen c
      have f2 := mem_cell hMl (c := c) (by simp only [layP_len]; exact hcm)
      have S1 := hMl.setMem c t
      simp only at S1
      rw [← hls] at S1
      have S2 := (hMl.mem.set c (.int .i64 t)).2
      have HS1 := Lib.hid S1.1
      have HS2 := Lib.hid (hTl.trans S2 (fun _ h => h))
      have hci : (c : Int) < m.mem.length := by omega
      have hwci : (n : Int) ≤ wc := by omega
      have htci : (n : Int) ≤ tc := by omega
      have f2' : ∃ u, wr.cell? ⟨v.mem, c, none⟩ = some u := ⟨_, f2⟩
      clear hls hcc htt hA hTk hMl hTl S1 S2 hr3 hc HML HTL
      go_wp2_with fail
      refine wp_region_lex (fun w' => w'.cell? ⟨b, 0, none⟩ = some (.slice (some ⟨v.mem, 0, none⟩) m.mem.length m.mem.length) ∧ w'.cell? ⟨tg, to + j, none⟩ = some (.int .i64 t)) [0, 1, 2, 3, 4, 5, 6, 7, 8, 9] [10] (by kernel_rfl) (by kernel_rfl) rfl (fun _ _ hx h => ⟨hx.cell h.1, hx.cell h.2⟩) ⟨f0, f3⟩ ?_
      intro Q' hQ'
      simp only [pickOps, List.flatMap_cons, List.flatMap_nil, List.drop_succ_cons, List.drop_zero, List.take_succ_cons, List.take_zero, List.cons_append, List.nil_append, List.append_nil]
      repeat (first
        | (refine wpReads_skip (by rfl) ?_; (try simp only [Act.put, List.setIfInBounds_toArray, List.set_cons_zero, List.set_cons_succ]))
        | (refine wpReads_cons ?_ (by rfl) (by rfl) ?_ ?_; rotate_left; (intro wz hz; (try dsimp only at hz); go_simp; try with_reducible rfl); (try simp only [Act.put, List.setIfInBounds_toArray, List.set_cons_zero, List.set_cons_succ]))
        | (refine wpReads_any ?_ (by rfl) ?_ ?_; rotate_left; (intro wz; go_simp; try with_reducible rfl); (try simp only [Act.put, List.setIfInBounds_toArray, List.set_cons_zero, List.set_cons_succ])))
      refine wpReads_nil ?_
      go_wp2
      go_roundw
      case rel => exact ⟨j + 1, hlt, by go_num, HS2.out.drewN 1, HS1.out.turn ((Turn.refl _ (fun _ => False) _).drewN 1) (fun _ h => h.elim)⟩
      case measure => simp [intOf]; omega
    · obtain rfl : j = n := by omega
      have hpt : pl.take j = pl := List.take_of_length_le (by rw [HPN.out]; omega)
      have htt : ts.take j = ts := List.take_of_length_le (by rw [HN.out]; omega)
      rw [hpt, htt] at hMl
      have hA := HA.out.turn hTl (by omega)
      obtain ⟨g9, cap9, e9, -, c0, c1, c2, c3, cf⟩ := line_cells hMl (k := k) hk
      rw [HG.out] at e9
      cases e9
      have hle : lineAt { m with mem := layP m.mem pl ts } k = l := HE.out
      rw [hle] at c3
      obtain ⟨rc, hrc⟩ : ∃ x : Int, ((l.cnt + j : Nat) : Int) = x := ⟨_, rfl⟩
      have e4 : IntKind.i64.wrap ((l.cnt : Int) + j) = rc := by rw [IntWalk.i64_in _ (by omega)]; omega
      have hLk : m.lines[k] = l := HLL.out.symm.trans HE.out
      have S1 := hMl.setLine (k := k) (i := 3) (u := .int .i64 rc) (y := { l with cnt := l.cnt + j }) HG.out hk (by omega) (by show (lineV m.lines[k]).set _ _ = _; rw [hLk, ← hrc]; rfl)
      have HS1 := Lib.hid S1
      have HA2 := Lib.hid hA
      have d1 := cf (k * 4 + 3)
      have HTL := Lib.hid ((HT1.out.mono (D := Mine M) (fun _ h => h.elim)).trans hTl (fun x h => by rw [h]; unfold Mine; omega))
      obtain ⟨cz, hcz⟩ : ∃ x : Int, (l.cnt : Int) = x := ⟨_, rfl⟩
      rw [hcz] at c3 e4
      clear hcz hrc cf hLk S1 hr3 hc hA hTl hMl hpt htt c0 c1 c2 hle HML
      go_wp2
      go_ret
      rw [HPE.out]
      refine ⟨_, _, rfl, HTL.out.trans HS1.out.2 (fun _ h => h), HS1.out.1, ?_⟩
      exact HA2.out.turn HS1.out.2 (notMine (by omega))
end Go.Proofs.Ytnnnpippekpibaa

/- An operation's event in memory; what an operation answers; end, head, back. -/
namespace Go.Proofs.Ytnnnpippekpibaa
open Go.RowKit

/-- all that a machine's operations may turn -/
def MineX (M x : Nat) : Prop := M ≤ x ∧ x < M + 206
theorem Mine.x {M : Nat} (x : Nat) (h : Mine M x) : MineX M x := by unfold Mine at h; unfold MineX; omega
theorem notMineX {M k : Nat} (h : 206 ≤ k) : ¬ MineX M (M + k) := by unfold MineX; omega

/-- an event in memory: its block has colour M + 205, its cells' list M + 210 -/
def EvAt (w : World) (o : Col) (M eb : Nat) (op kd ln h : Int) (cells : List Int) : Prop :=
  ∃ cv, Blk w o (M + 205) eb 39 #[.int .i64 op, .int .u8 kd, .int .i64 ln, cv, .int .u8 h] ∧ Ints w o (M + 210) cv cells ∧ (cells = [] → cv = .slice none 0 0)
section
variable {w w' : World} {o o' : Col} {C : Nat → Prop} {M eb : Nat} {op kd ln h : Int} {cells : List Int}
theorem EvAt.turn (H : EvAt w o M eb op kd ln h cells) (T : Turn o o' C w w') (h1 : ¬ C (M + 205)) (h2 : ¬ C (M + 210)) : EvAt w' o' M eb op kd ln h cells := by
  obtain ⟨cv, a, b, c⟩ := H
  exact ⟨cv, a.turn T h1, b.turn T h2, c⟩
theorem EvAt.halt (H : EvAt w o M eb op kd ln h cells) (x : Int) : EvAt (w.setCell ⟨eb, 4, none⟩ (.int .u8 x)) o M eb op kd ln x cells ∧ Turn o o (fun c => c = M + 205) w (w.setCell ⟨eb, 4, none⟩ (.int .u8 x)) := by
  obtain ⟨cv, a, b, c⟩ := H
  obtain ⟨s, T⟩ := a.set 4 (.int .u8 x)
  exact ⟨⟨cv, s, b.turn T (by omega), c⟩, T⟩
theorem EvAt.list (H : EvAt w o M eb op kd ln h cells) {v : Value} {l : List Int} (hv : Ints w o (M + 210) v l) (hl : 0 < l.length) : EvAt (w.setCell ⟨eb, 3, none⟩ v) o M eb op kd ln h l ∧ Turn o o (fun c => c = M + 205) w (w.setCell ⟨eb, 3, none⟩ v) := by
  obtain ⟨cv, a, b, _⟩ := H
  obtain ⟨s, T⟩ := a.set 3 v
  exact ⟨⟨v, s, hv.turn T (by omega), fun e => by rw [e] at hl; simp at hl⟩, T⟩
theorem EvAt.frozen (H : EvAt w o M eb op kd ln h cells) (i : Nat) : w.frozen? ⟨eb, i, none⟩ = false := by
  obtain ⟨cv, a, b, _⟩ := H
  exact a.frozen i
theorem EvAt.reads (H : EvAt w o M eb op kd ln h cells) : ∃ a0 c0, w.cell? ⟨eb, 3, none⟩ = some (.slice a0 cells.length c0) ∧ w.cell? ⟨eb, 4, none⟩ = some (.int .u8 h) ∧ w.cell? ⟨eb, 0, none⟩ = some (.int .i64 op) ∧ w.cell? ⟨eb, 1, none⟩ = some (.int .u8 kd) ∧ w.cell? ⟨eb, 2, none⟩ = some (.int .i64 ln) ∧ Ints w o (M + 210) (.slice a0 cells.length c0) cells := by
  obtain ⟨cv, a, b, _⟩ := H
  obtain ⟨a0, c0, rfl⟩ := b.slice
  exact ⟨a0, c0, a.cell 3 _ rfl, a.cell 4 _ rfl, a.cell 0 _ rfl, a.cell 1 _ rfl, a.cell 2 _ rfl, b⟩
theorem EvAt.noList (H : EvAt w o M eb op kd ln h []) : w.cell? ⟨eb, 3, none⟩ = some (.slice none 0 0) := by
  obtain ⟨cv, a, b, c⟩ := H
  rw [← c rfl]
  exact a.cell 3 _ rfl
end

/-- the machine goes on: what is next stands one less in its block -/
def DoGo (w : World) (o : Col) (M b : Nat) (P : GProg) (eb : Nat) (op kd ln h : Int) (cells : List Nat) (m' : MachP) (e : Ending) (w' : World) : Prop :=
  ∃ o' v', e = .returned (.tuple #[]) ∧ Turn o o' (MineX M) w w' ∧ w'.cell? ⟨b, 9, none⟩ = some (.int .i64 ((m'.next : Int) - 1)) ∧ w'.frozen? ⟨b, 9, none⟩ = false ∧
    MachAt (w'.setCell ⟨b, 9, none⟩ (.int .i64 (m'.next : Int))) o' M b P m' v' ∧ EvAt w' o' M eb op kd ln h (castL cells)
/-- the machine does not -/
def DoStop (w : World) (o : Col) (M b : Nat) (P : GProg) (m : MachP) (eb : Nat) (op kd ln h : Int) (e : Ending) (w' : World) : Prop :=
  ∃ o' v', e = .returned (.tuple #[]) ∧ Turn o o' (MineX M) w w' ∧ MachAt w' o' M b P m v' ∧ EvAt w' o' M eb op kd ln h []

section
variable {w : World} {o : Col} {M b : Nat} {P : GProg} {m : MachP} {v : MVals}
theorem MachAt.frozen (h : MachAt w o M b P m v) (i : Nat) : w.frozen? ⟨b, i, none⟩ = false := h.blk.frozen i
theorem MachAt.setNext (h : MachAt w o M b P m v) (n : Nat) : MachAt (w.setCell ⟨b, 9, none⟩ (.int .i64 (n : Int))) o M b P { m with next := n } v ∧ Turn o o (Mine M) w (w.setCell ⟨b, 9, none⟩ (.int .i64 (n : Int))) :=
  h.block 9 _ (by unfold machV; rcases m.last with _ | e <;> rfl) rfl rfl rfl rfl rfl rfl rfl
theorem MachAt.setPer (h : MachAt w o M b P m v) (n : Nat) : MachAt (w.setCell ⟨b, 10, none⟩ (.int .i64 (n : Int))) o M b P { m with periods := n } v ∧ Turn o o (Mine M) w (w.setCell ⟨b, 10, none⟩ (.int .i64 (n : Int))) :=
  h.block 10 _ (by unfold machV; rcases m.last with _ | e <;> rfl) rfl rfl rfl rfl rfl rfl rfl
/-- what is next is written over -/
theorem MachAt.overNext (h : MachAt w o M b P m v) (x : Int) (n : Nat) : (w.setCell ⟨b, 9, none⟩ (.int .i64 x)).cell? ⟨b, 9, none⟩ = some (.int .i64 x) ∧ (w.setCell ⟨b, 9, none⟩ (.int .i64 x)).frozen? ⟨b, 9, none⟩ = false ∧ Turn o o (Mine M) w (w.setCell ⟨b, 9, none⟩ (.int .i64 x)) ∧
    MachAt ((w.setCell ⟨b, 9, none⟩ (.int .i64 x)).setCell ⟨b, 9, none⟩ (.int .i64 (n : Int))) o M b P { m with next := n } v := by
  obtain ⟨b1, T1⟩ := h.blk.set 9 (.int .i64 x)
  obtain ⟨b2, T2⟩ := b1.set 9 (.int .i64 (n : Int))
  refine ⟨b1.cell 9 _ (by unfold machV; simp), b1.frozen 9, T1.mono (fun c hc => by unfold Mine; omega), h.reblock (T1.trans T2 (fun _ h => h)) ?_ rfl rfl rfl rfl rfl rfl rfl⟩
  simp only [List.setIfInBounds_toArray, List.set_set] at b2
  exact b2
/-- what goes on one behind the other -/
theorem DoGo.next {eb : Nat} {op kd ln h : Int} {cells : List Nat} {e : Ending} {w' : World} {o' : Col} {v' : MVals} {m' : MachP} (he : e = .returned (.tuple #[])) (T : Turn o o' (MineX M) w w') (hM : MachAt w' o' M b P m' v') (hE : EvAt w' o' M eb op kd ln h (castL cells)) : DoGo w o M b P eb op kd ln h cells { m' with next := m'.next + 1 } e w' := by
  refine ⟨o', v', he, T, ?_, hM.frozen 9, (hM.setNext (m'.next + 1)).1, hE⟩
  have := hM.cell 9 (u := .int .i64 (m'.next : Int)) (by unfold machV; rfl)
  rw [this]
  simp
end

set_option maxRecDepth 100000 in
theorem full_any {w : World} {o : Col} {M b : Nat} {P : GProg} {m : MachP} {v : MVals} (h : MachAt w o M b P m v) (n : Nat) (hn : m.hand.length ≤ 100000 ∧ n ≤ 100000) :
    Calls Try.prog 60 #[.pointer (some ⟨b, 0, none⟩), .int .i64 n] w (SameW (.bool (decide (64 < m.hand.length + n))) w) := by
  have c8 := h.cell 8 (u := v.hand) (by unfold machV; rfl)
  obtain ⟨ao, cap, e⟩ := h.hand.slice
  rw [ivs_len] at e
  rw [e] at c8
  obtain ⟨a, ha⟩ : ∃ x : Nat, m.hand.length = x := ⟨_, rfl⟩
  rw [ha] at c8 hn ⊢
  obtain ⟨s, hs⟩ : ∃ x : Int, ((a + n : Nat) : Int) = x := ⟨_, rfl⟩
  have e1 : IntKind.i64.wrap ((a : Int) + n) = s := by rw [IntWalk.i64_in _ (by omega)]; omega
  clear h e ha
  by_cases hx : 64 < a + n
  · have hxi : (64 : Int) < s := by omega
    rw [decide_eq_true hx]
    clear hs hx
    go_enter Try.func60, Try.ntmps60
    go_wp2
    go_ret
    exact ⟨rfl, rfl⟩
  · have hxi : ¬ (64 : Int) < s := by omega
    rw [decide_eq_false hx]
    clear hs hx
    go_enter Try.func60, Try.ntmps60
    go_wp2
    go_ret
    exact ⟨rfl, rfl⟩

def opA (x : GOp) : Value := .agg #[.int .u8 x.kind, .int .i64 x.a, .int .i64 x.b]

set_option maxRecDepth 100000 in
set_option maxHeartbeats 1000000 in
theorem end_any {w : World} {o : Col} {M b eb : Nat} {P : GProg} {m : MachP} {v : MVals} {op kd ln : Int} (x : GOp) (h : MachAt w o M b P m v) (hE : EvAt w o M eb op kd ln 0 []) (hb : m.hand.length ≤ 64) (hp : m.periods ≤ 1000000000000) :
    Calls Try.prog 44 #[.pointer (some ⟨b, 0, none⟩), opA x, .pointer (some ⟨eb, 0, none⟩)] w
      (if 0 < m.hand.length then DoStop w o M b P m eb op kd ln 4 else DoGo w o M b P eb op kd ln 1 [] { m with periods := m.periods + 1, next := 0 }) := by
  have hbx := below_alloc w (.cells #[.int .u8 x.kind, .int .i64 x.a, .int .i64 x.b] 43)
  have Tx := Turn.of_below o (M + 206) hbx
  have h1 := h.turn Tx (fun _ h => h.elim)
  have hE1 := hE.turn Tx (fun h => h) (fun h => h)
  generalize ext o w.heap.size (M + 206) = q at *
  have c8 := h1.cell 8 (u := v.hand) (by unfold machV; rfl)
  have c10 := h1.cell 10 (u := .int .i64 (m.periods : Int)) (by unfold machV; rfl)
  have c9 := h1.cell 9 (u := .int .i64 (m.next : Int)) (by unfold machV; rfl)
  have f9 := h1.frozen 9
  have f10 := h1.frozen 10
  obtain ⟨ao, cap, e⟩ := h1.hand.slice
  rw [ivs_len] at e
  rw [e] at c8
  have fe := hE1.frozen 4
  obtain ⟨_, _, _, x4, _⟩ := hE1.reads
  have HM := Lib.hid h1
  have HE := Lib.hid hE1
  have HT := Lib.hid Tx
  clear h hE hbx Tx h1 hE1 e
  unfold opA
  by_cases hx : 0 < m.hand.length
  · rw [if_pos hx]
    have hxi : (0 : Int) < (m.hand.length : Int) := by omega
    have S := HE.out.halt 4
    have HS := Lib.hid S
    clear S
    go_enter Try.func44, Try.ntmps44
    go_wp2
    go_end0
    exact ⟨q, v, rfl, (HT.out.mono (D := MineX M) (fun _ h => h.elim)).trans HS.out.2 (fun c hc => by rw [hc]; unfold MineX; omega), HM.out.turn HS.out.2 (fun c hc => by rw [hc]; exact notMine (by omega)), HS.out.1⟩
  · rw [if_neg hx]
    have hxi : ¬ (0 : Int) < (m.hand.length : Int) := by omega
    have S := HE.out.halt 1
    have m2 := HM.out.turn S.2 (fun c hc => by rw [hc]; exact notMine (by omega))
    have S3 := m2.setPer (m.periods + 1)
    have S4 := S3.1.overNext (-1) 0
    obtain ⟨pz, hpz⟩ : ∃ x : Int, ((m.periods + 1 : Nat) : Int) = x := ⟨_, rfl⟩
    have e1 : IntKind.i64.wrap ((m.periods : Int) + 1) = pz := by rw [IntWalk.i64_in _ (by omega)]; omega
    rw [hpz] at S3 S4
    have E4 := (S.1.turn S3.2 (notMine (by omega)) (notMine (by omega))).turn S4.2.2.1 (notMine (by omega)) (notMine (by omega))
    have HS := Lib.hid S.2
    have HS3 := Lib.hid S3.2
    have HS4 := Lib.hid S4
    have HE4 := Lib.hid E4
    clear S S3 S4 E4 m2 hpz
    go_enter Try.func44, Try.ntmps44
    go_wp2
    go_end0
    refine ⟨q, v, rfl, ?_, HS4.out.1, HS4.out.2.1, HS4.out.2.2.2, HE4.out⟩
    have T := (HT.out.mono (D := MineX M) (fun _ h => h.elim)).trans HS.out (fun c hc => by rw [hc]; unfold MineX; omega)
    exact (T.trans HS3.out Mine.x).trans HS4.out.2.2.1 Mine.x
end Go.Proofs.Ytnnnpippekpibaa

/- The machine's head and back. -/
namespace Go.Proofs.Ytnnnpippekpibaa
open Go.RowKit

section
variable {w : World} {o : Col} {M b : Nat} {P : GProg} {m : MachP} {v : MVals}
theorem cs_cell (h : MachAt w o M b P m v) {k : Nat} (hk : k < m.cs.length) : w.cell? ⟨v.cs, k, none⟩ = some (.int .i64 (m.cs[k]?.getD 0)) := h.cs.cell k _ (by simp [ivs, hk])
end
theorem DoGo.drewN {w w' : World} {o : Col} {M b : Nat} {P : GProg} {eb : Nat} {op kd ln h : Int} {cells : List Nat} {m' : MachP} {e : Ending} (H : DoGo w o M b P eb op kd ln h cells m' e w') (n : Nat) : DoGo w o M b P eb op kd ln h cells m' e (w'.drewN n) := by
  obtain ⟨o', v', h0, h1, h2, h3, h4, h5⟩ := H
  exact ⟨o', v', h0, h1.drewN n, h2, h3, h4.turn ((Turn.refl o' (fun _ => False) _).drewN n) (fun _ h => h.elim), h5.turn ((Turn.refl o' (fun _ => False) _).drewN n) (fun h => h) (fun h => h)⟩
theorem DoStop.drewN {w w' : World} {o : Col} {M b : Nat} {P : GProg} {m : MachP} {eb : Nat} {op kd ln h : Int} {e : Ending} (H : DoStop w o M b P m eb op kd ln h e w') (n : Nat) : DoStop w o M b P m eb op kd ln h e (w'.drewN n) := by
  obtain ⟨o', v', h0, h1, h4, h5⟩ := H
  exact ⟨o', v', h0, h1.drewN n, h4.turn ((Turn.refl o' (fun _ => False) _).drewN n) (fun _ h => h.elim), h5.turn ((Turn.refl o' (fun _ => False) _).drewN n) (fun h => h) (fun h => h)⟩

set_option maxRecDepth 100000 in
set_option maxHeartbeats 1000000 in
theorem head_any {w : World} {o : Col} {M b eb : Nat} {P : GProg} {m : MachP} {v : MVals} {op kd ln : Int} (x : GOp) (h : MachAt w o M b P m v) (hE : EvAt w o M eb op kd ln 0 []) {a : Nat} (ha : x.a = a) (hk : a < m.cs.length) :
    Calls Try.prog 45 #[.pointer (some ⟨b, 0, none⟩), opA x, .pointer (some ⟨eb, 0, none⟩)] w (DoGo w o M b P eb op kd ln 0 [] { m with cs := m.cs.set a x.b, next := m.next + 1 }) := by
  obtain ⟨kd', xa, xb⟩ := x
  dsimp only at ha ⊢
  subst ha
  unfold opA
  dsimp only
  have hbx := below_alloc w (.cells #[.int .u8 kd', .int .i64 (a : Int), .int .i64 xb] 43)
  have Tx := Turn.of_below o (M + 206) hbx
  have h1 := h.turn Tx (fun _ h => h.elim)
  have hE1 := hE.turn Tx (fun h => h) (fun h => h)
  have hX : Blk (w.alloc (.cells #[.int .u8 kd', .int .i64 (a : Int), .int .i64 xb] 43)) (ext o w.heap.size (M + 206)) (M + 206) w.heap.size 43 #[.int .u8 kd', .int .i64 (a : Int), .int .i64 xb] := ⟨heap_alloc_new w _, ext_new (Nat.le_refl _)⟩
  have x1 := hX.cell 1 _ rfl
  have x2 := hX.cell 2 _ rfl
  generalize ext o w.heap.size (M + 206) = q at *
  clear h hE hbx
  have c5 := h1.cell 7 (u := .slice (some ⟨v.cs, 0, none⟩) m.cs.length m.cs.length) (by unfold machV; rfl)
  have ck := cs_cell h1 hk
  have fk := h1.cs.frozen a
  have S := h1.setCs a xb
  have HM := Lib.hid (DoGo.next (e := .returned (.tuple #[])) (w := w) (o := o) (cells := []) rfl ((Tx.mono (D := MineX M) (fun _ h => h.elim)).trans S.2 Mine.x) S.1 (hE1.turn S.2 (notMine (by omega)) (notMine (by omega))))
  have hki : (a : Int) < m.cs.length := by omega
  clear Tx h1 hE1 S
  go_enter Try.func45, Try.ntmps45
  go_wp2_with fail
  refine wp_region_lex (fun w' => w'.cell? ⟨b, 7, none⟩ = some (.slice (some ⟨v.cs, 0, none⟩) m.cs.length m.cs.length) ∧ w'.cell? ⟨w.heap.size, 1, none⟩ = some (.int .i64 a) ∧ w'.cell? ⟨w.heap.size, 2, none⟩ = some (.int .i64 xb)) [0, 1, 2, 3, 4, 5, 6, 7, 8] [9] (by kernel_rfl) (by kernel_rfl) rfl (fun _ _ hx h => ⟨hx.cell h.1, hx.cell h.2.1, hx.cell h.2.2⟩) ⟨c5, x1, x2⟩ ?_
  intro Q' hQ'
  simp only [pickOps, List.flatMap_cons, List.flatMap_nil, List.drop_succ_cons, List.drop_zero, List.take_succ_cons, List.take_zero, List.cons_append, List.nil_append, List.append_nil]
  repeat (first
    | (refine wpReads_skip (by rfl) ?_; (try simp only [Act.put, List.setIfInBounds_toArray, List.set_cons_zero, List.set_cons_succ]))
    | (refine wpReads_cons ?_ (by rfl) (by rfl) ?_ ?_; rotate_left; (intro wz hz; (try dsimp only at hz); go_simp; try with_reducible rfl); (try simp only [Act.put, List.setIfInBounds_toArray, List.set_cons_zero, List.set_cons_succ]))
    | (refine wpReads_any ?_ (by rfl) ?_ ?_; rotate_left; (intro wz; go_simp; try with_reducible rfl); (try simp only [Act.put, List.setIfInBounds_toArray, List.set_cons_zero, List.set_cons_succ])))
  refine wpReads_nil ?_
  go_wp2
  go_end0
  exact HM.out.drewN 1

set_option maxRecDepth 100000 in
set_option maxHeartbeats 1000000 in
theorem back_any {w : World} {o : Col} {M b eb : Nat} {P : GProg} {m : MachP} {v : MVals} {op kd ln : Int} (x : GOp) (h : MachAt w o M b P m v) (hE : EvAt w o M eb op kd ln 0 []) {a t : Nat} (ha : x.a = a) (ht : x.b = t) (htn : t ≤ 1000000) (hk : a < m.cs.length) {c : Int} (hc : m.cs[a]?.getD 0 = c) (hcf : -100000 ≤ c ∧ c ≤ 100000) :
    Calls Try.prog 46 #[.pointer (some ⟨b, 0, none⟩), opA x, .pointer (some ⟨eb, 0, none⟩)] w (DoGo w o M b P eb op kd ln 0 [] { m with cs := m.cs.set a (c - 1), next := if 0 < c - 1 then t else m.next + 1 }) := by
  obtain ⟨kd', xa, xb⟩ := x
  dsimp only at ha ht ⊢
  subst ha ht
  unfold opA
  dsimp only
  have hbx := below_alloc w (.cells #[.int .u8 kd', .int .i64 (a : Int), .int .i64 (t : Int)] 43)
  have Tx := Turn.of_below o (M + 206) hbx
  have h1 := h.turn Tx (fun _ h => h.elim)
  have hE1 := hE.turn Tx (fun h => h) (fun h => h)
  have hX : Blk (w.alloc (.cells #[.int .u8 kd', .int .i64 (a : Int), .int .i64 (t : Int)] 43)) (ext o w.heap.size (M + 206)) (M + 206) w.heap.size 43 #[.int .u8 kd', .int .i64 (a : Int), .int .i64 (t : Int)] := ⟨heap_alloc_new w _, ext_new (Nat.le_refl _)⟩
  have x1 := hX.cell 1 _ rfl
  have x2 := hX.cell 2 _ rfl
  generalize ext o w.heap.size (M + 206) = q at *
  clear h hE hbx
  have c7 := h1.cell 7 (u := .slice (some ⟨v.cs, 0, none⟩) m.cs.length m.cs.length) (by unfold machV; rfl)
  have ck := cs_cell h1 hk
  rw [hc] at ck
  have fk := h1.cs.frozen a
  have f9 := h1.frozen 9
  have S := h1.setCs a (c - 1)
  have e1 : IntKind.i64.wrap (c - 1) = c - 1 := IntWalk.i64_in _ (by omega)
  have hki : (a : Int) < m.cs.length := by omega
  have z7 := S.1.cell 7 (u := .slice (some ⟨v.cs, 0, none⟩) (m.cs.set a (c - 1)).length (m.cs.set a (c - 1)).length) (by unfold machV; rfl)
  rw [List.length_set] at z7
  have zk := cs_cell S.1 (k := a) (by simpa using hk)
  rw [show ({ m with cs := m.cs.set a (c - 1) } : MachP).cs[a]?.getD 0 = c - 1 by simp [hk]] at zk
  have hX2 := hX.turn S.2 (notMine (by omega))
  have z1 := hX2.cell 1 _ rfl
  have z2 := hX2.cell 2 _ rfl
  have g9 := S.1.frozen 9
  have z9 := S.1.cell 9 (u := .int .i64 (m.next : Int)) (by unfold machV; rfl)
  have TT := (Tx.mono (D := MineX M) (fun _ h => h.elim)).trans S.2 Mine.x
  have EE := hE1.turn S.2 (notMine (by omega)) (notMine (by omega))
  have HS := Lib.hid S.1
  have HT := Lib.hid TT
  have HE := Lib.hid EE
  clear Tx h1 hE1 S TT EE hX hX2
  by_cases hp : 0 < c - 1
  · rw [if_pos hp]
    have S9 := HS.out.overNext ((t : Int) - 1) t
    have HS9 := Lib.hid S9
    have e2 : IntKind.i64.wrap ((t : Int) - 1) = (t : Int) - 1 := IntWalk.i64_in _ (by omega)
    clear S9
    go_enter Try.func46, Try.ntmps46
    go_wp2_with fail
    refine wp_region_lex (fun w' => w'.cell? ⟨b, 7, none⟩ = some (.slice (some ⟨v.cs, 0, none⟩) m.cs.length m.cs.length) ∧ w'.cell? ⟨w.heap.size, 1, none⟩ = some (.int .i64 a) ∧ w'.cell? ⟨v.cs, a, none⟩ = some (.int .i64 c)) [0, 1, 2, 3, 4, 5, 6, 7, 8, 9] [10] (by kernel_rfl) (by kernel_rfl) rfl (fun _ _ hx h => ⟨hx.cell h.1, hx.cell h.2.1, hx.cell h.2.2⟩) ⟨c7, x1, ck⟩ ?_
    intro Q' hQ'
    simp only [pickOps, List.flatMap_cons, List.flatMap_nil, List.drop_succ_cons, List.drop_zero, List.take_succ_cons, List.take_zero, List.cons_append, List.nil_append, List.append_nil]
    repeat (first
      | (refine wpReads_skip (by rfl) ?_; (try simp only [Act.put, List.setIfInBounds_toArray, List.set_cons_zero, List.set_cons_succ]))
      | (refine wpReads_cons ?_ (by rfl) (by rfl) ?_ ?_; rotate_left; (intro wz hz; (try dsimp only at hz); go_simp; try with_reducible rfl); (try simp only [Act.put, List.setIfInBounds_toArray, List.set_cons_zero, List.set_cons_succ]))
      | (refine wpReads_any ?_ (by rfl) ?_ ?_; rotate_left; (intro wz; go_simp; try with_reducible rfl); (try simp only [Act.put, List.setIfInBounds_toArray, List.set_cons_zero, List.set_cons_succ])))
    refine wpReads_nil ?_
    go_wp2_with fail
    refine wp_region_lex (fun w' => w'.cell? ⟨b, 7, none⟩ = some (.slice (some ⟨v.cs, 0, none⟩) m.cs.length m.cs.length) ∧ w'.cell? ⟨w.heap.size, 1, none⟩ = some (.int .i64 a) ∧ w'.cell? ⟨v.cs, a, none⟩ = some (.int .i64 (c - 1))) [0, 1, 2, 3, 4, 5, 6, 7, 8] [] (by kernel_rfl) (by kernel_rfl) rfl (fun _ _ hx h => ⟨hx.cell h.1, hx.cell h.2.1, hx.cell h.2.2⟩) ⟨z7, z1, zk⟩ ?_
    intro Q' hQ'
    simp only [pickOps, List.flatMap_cons, List.flatMap_nil, List.drop_succ_cons, List.drop_zero, List.take_succ_cons, List.take_zero, List.cons_append, List.nil_append, List.append_nil]
    repeat (first
      | (refine wpReads_skip (by rfl) ?_; (try simp only [Act.put, List.setIfInBounds_toArray, List.set_cons_zero, List.set_cons_succ]))
      | (refine wpReads_cons ?_ (by rfl) (by rfl) ?_ ?_; rotate_left; (intro wz hz; (try dsimp only at hz); go_simp; try with_reducible rfl); (try simp only [Act.put, List.setIfInBounds_toArray, List.set_cons_zero, List.set_cons_succ]))
      | (refine wpReads_any ?_ (by rfl) ?_ ?_; rotate_left; (intro wz; go_simp; try with_reducible rfl); (try simp only [Act.put, List.setIfInBounds_toArray, List.set_cons_zero, List.set_cons_succ])))
    refine wpReads_nil ?_
    go_wp2
    go_end0
    have hfin : DoGo w o M b P eb op kd ln 0 [] { m with cs := m.cs.set a (c - 1), next := t } (.returned (.tuple #[])) (((w.alloc (.cells #[.int .u8 kd', .int .i64 (a : Int), .int .i64 (t : Int)] 43)).setCell ⟨v.cs, a, none⟩ (.int .i64 (c - 1))).setCell ⟨b, 9, none⟩ (.int .i64 ((t : Int) - 1))) :=
      ⟨q, v, rfl, HT.out.trans HS9.out.2.2.1 Mine.x, HS9.out.1, HS9.out.2.1, HS9.out.2.2.2, HE.out.turn HS9.out.2.2.1 (notMine (by omega)) (notMine (by omega))⟩
    exact hfin.drewN 2
  · rw [if_neg hp]
    go_enter Try.func46, Try.ntmps46
    go_wp2_with fail
    refine wp_region_lex (fun w' => w'.cell? ⟨b, 7, none⟩ = some (.slice (some ⟨v.cs, 0, none⟩) m.cs.length m.cs.length) ∧ w'.cell? ⟨w.heap.size, 1, none⟩ = some (.int .i64 a) ∧ w'.cell? ⟨v.cs, a, none⟩ = some (.int .i64 c)) [0, 1, 2, 3, 4, 5, 6, 7, 8, 9] [10] (by kernel_rfl) (by kernel_rfl) rfl (fun _ _ hx h => ⟨hx.cell h.1, hx.cell h.2.1, hx.cell h.2.2⟩) ⟨c7, x1, ck⟩ ?_
    intro Q' hQ'
    simp only [pickOps, List.flatMap_cons, List.flatMap_nil, List.drop_succ_cons, List.drop_zero, List.take_succ_cons, List.take_zero, List.cons_append, List.nil_append, List.append_nil]
    repeat (first
      | (refine wpReads_skip (by rfl) ?_; (try simp only [Act.put, List.setIfInBounds_toArray, List.set_cons_zero, List.set_cons_succ]))
      | (refine wpReads_cons ?_ (by rfl) (by rfl) ?_ ?_; rotate_left; (intro wz hz; (try dsimp only at hz); go_simp; try with_reducible rfl); (try simp only [Act.put, List.setIfInBounds_toArray, List.set_cons_zero, List.set_cons_succ]))
      | (refine wpReads_any ?_ (by rfl) ?_ ?_; rotate_left; (intro wz; go_simp; try with_reducible rfl); (try simp only [Act.put, List.setIfInBounds_toArray, List.set_cons_zero, List.set_cons_succ])))
    refine wpReads_nil ?_
    go_wp2_with fail
    refine wp_region_lex (fun w' => w'.cell? ⟨b, 7, none⟩ = some (.slice (some ⟨v.cs, 0, none⟩) m.cs.length m.cs.length) ∧ w'.cell? ⟨w.heap.size, 1, none⟩ = some (.int .i64 a) ∧ w'.cell? ⟨v.cs, a, none⟩ = some (.int .i64 (c - 1))) [0, 1, 2, 3, 4, 5, 6, 7, 8] [] (by kernel_rfl) (by kernel_rfl) rfl (fun _ _ hx h => ⟨hx.cell h.1, hx.cell h.2.1, hx.cell h.2.2⟩) ⟨z7, z1, zk⟩ ?_
    intro Q' hQ'
    simp only [pickOps, List.flatMap_cons, List.flatMap_nil, List.drop_succ_cons, List.drop_zero, List.take_succ_cons, List.take_zero, List.cons_append, List.nil_append, List.append_nil]
    repeat (first
      | (refine wpReads_skip (by rfl) ?_; (try simp only [Act.put, List.setIfInBounds_toArray, List.set_cons_zero, List.set_cons_succ]))
      | (refine wpReads_cons ?_ (by rfl) (by rfl) ?_ ?_; rotate_left; (intro wz hz; (try dsimp only at hz); go_simp; try with_reducible rfl); (try simp only [Act.put, List.setIfInBounds_toArray, List.set_cons_zero, List.set_cons_succ]))
      | (refine wpReads_any ?_ (by rfl) ?_ ?_; rotate_left; (intro wz; go_simp; try with_reducible rfl); (try simp only [Act.put, List.setIfInBounds_toArray, List.set_cons_zero, List.set_cons_succ])))
    refine wpReads_nil ?_
    go_wp2
    go_end0
    have hfin : DoGo w o M b P eb op kd ln 0 [] { m with cs := m.cs.set a (c - 1), next := m.next + 1 } (.returned (.tuple #[])) ((w.alloc (.cells #[.int .u8 kd', .int .i64 (a : Int), .int .i64 (t : Int)] 43)).setCell ⟨v.cs, a, none⟩ (.int .i64 (c - 1))) := DoGo.next rfl HT.out HS.out HE.out
    exact hfin.drewN 2
end Go.Proofs.Ytnnnpippekpibaa

/- A region that draws its order: what only reads, one call, what only looks at its answer, the rest in whatever order. No program in sight. -/
namespace Go.Proofs.Ytnnnpippekpibaa
section
variable {P : Program} {md : Region.Mode} {ops : Array Oper} {Q : Exit → Go.Act → World → Prop} {S : World → Prop}

theorem closedL_setAll : ∀ (r : List Nat) (listed : Array Bool), closedL md ops listed → stageHead md ops (fun _ => true) r listed = true → closedL md ops (setAll listed r)
  | [], _, h, _ => h
  | i :: r, listed, h, hB => by
    simp only [stageHead, Bool.and_eq_true] at hB
    obtain ⟨⟨hrdy, _⟩, hB'⟩ := hB
    have hrdy' : i ∈ Region.ready md ops listed := by simpa using hrdy
    exact closedL_setAll r _ (closedL_set h hrdy') hB'

theorem wpReads_mono {Q' : Go.Act → Prop} {Q : Go.Act → Prop} (hq : ∀ a, Q a → Q' a) : ∀ (l : List Oper) (a : Go.Act), wpReads P ops S Q l a → wpReads P ops S Q' l a
  | [], a, h => hq a h
  | _ :: r, _, ⟨v, hy, hk⟩ => ⟨v, hy, wpReads_mono hq r _ hk⟩

theorem wpOp_of_listK {i : Nat} {K K0 : Go.Act → World → Prop} {a : Go.Act} {w : World} (hi : i < ops.size) (hK : ∀ a w, K0 a w → K a w) (h : wpList P ops (EndK Q K0) (pickOps ops [i]) a w) : wpOp P ops Q i K a w := by
  have ho : ops[i]? = some ops[i] := Array.getElem?_eq_getElem hi
  rw [pick_one ho []] at h
  have hw : wpOp P ops (EndK Q K0) i (wpList P ops (EndK Q K0) (pickOps ops [])) a w := by unfold wpOp; simp only [ho]; exact h
  exact wpOp_endK (fun a' w' h' => hK a' w' h') hw

def midOK (md : Region.Mode) (ops : Array Oper) (r1 : List Nat) (k : Nat) (r2 M : List Nat) : Bool :=
  Region.noSelect ops && ((r1 ++ r2).all fun i => anyAt ops i || (List.range ops.size).all fun j => madeB ops j || (r1 ++ r2).contains j || M.contains j || behindB md ops ops.size j i) &&
  stageHead md ops (fun _ => true) r1 (Array.replicate ops.size false) && decide (Region.ready md ops (setAll (Array.replicate ops.size false) r1) = [k]) &&
  stageHead md ops (fun _ => true) r2 ((setAll (Array.replicate ops.size false) r1).setIfInBounds k true)

theorem wp_region_mid {id : Nat} {l : List Oper} {a : Go.Act} {w : World} (S : World → Prop) (r1 : List Nat) (k : Nat) (r2 M : List Nat) (n : Nat) (hm : P.follows .mixedOrders = true)
    (hB : midOK .any l.toArray r1 k r2 M = true) (hlen : r1.length + ((r2.length + n) + 1) = l.length) (hS : S w.drew)
    (h : ∀ Q' : Exit → Go.Act → World → Prop, (∀ a w, Q .normal a w → Q' .normal a w) → wpReads P l.toArray S (fun a' => wpList P l.toArray (EndK Q' fun a1 w1 => S w1 ∧ wpReads P l.toArray S (fun a2 => wpAnyT P .any l.toArray Q' S (bsOf l.toArray (r1 ++ r2) M) n (setAll ((setAll (Array.replicate l.length false) r1).setIfInBounds k true) r2) a2 w1) (pickOps l.toArray r2) a1) (pickOps l.toArray [k]) a' w.drew) (pickOps l.toArray r1) a) :
    (Code.region id l.toArray true).wp P Q a w := by
  refine wp_region_noPanic ?_
  refine wp_region_any hm ?_
  simp only [midOK, Bool.and_eq_true, List.all_eq_true, List.mem_range, Bool.or_eq_true, decide_eq_true_eq] at hB
  obtain ⟨⟨⟨⟨hsel, hbe⟩, h1⟩, hk⟩, h2⟩ := hB
  refine wpAny_of_T (S := S) (B := bsOf l.toArray (r1 ++ r2) M) _ _ _ _ ?_
  have hbe' : ∀ i ∈ (r1 ++ r2), anyAt l.toArray i = false → ∀ j, j < l.toArray.size → madeB l.toArray j = true ∨ (r1 ++ r2).contains j = true ∨ M.contains j = true ∨ behindB .any l.toArray l.toArray.size j i = true := fun i hi hany j hj => by
    rcases hbe i hi with h0 | h0
    · rw [hany] at h0; cases h0
    rcases h0 j hj with ((h1 | h1) | h1) | h1
    · exact .inl h1
    · exact .inr (.inl h1)
    · exact .inr (.inr (.inl h1))
    · exact .inr (.inr (.inr h1))
  have hcl0 : closedL .any l.toArray (Array.replicate l.toArray.size false) := fun j oj _ hl => by rw [getD_replicate_false] at hl; cases hl
  have hcl1 := closedL_setAll r1 _ hcl0 h1
  have hkr : k ∈ Region.ready .any l.toArray (setAll (Array.replicate l.toArray.size false) r1) := by rw [hk]; simp
  have hcl2 := closedL_set hcl1 hkr
  have hh := h (NoPanic Q) (fun _ _ h => NoPanic.normal h)
  have key := wpAnyT_reads (P := P) (md := .any) (Q := NoPanic Q) (S := S) (reads := r1 ++ r2) (M := M) (n := (r2.length + n) + 1) hsel (fun c a a' w h => h) hbe' r1 (Array.replicate l.toArray.size false) a { w with drawn := w.drawn + 1 } (fun i hi => by simp [hi]) hcl0 h1 hS
  rw [hlen] at key
  have hk' : Region.ready .any l.toArray (setAll (Array.replicate l.toArray.size false) r1) = [k] := hk
  have go : wpReads P l.toArray S (fun a' => wpAnyT P .any l.toArray (NoPanic Q) S (bsOf l.toArray (r1 ++ r2) M) (r2.length + n + 1) (setAll (Array.replicate l.toArray.size false) r1) a' { w with drawn := w.drawn + 1 }) (pickOps l.toArray r1) a := by
    refine wpReads_mono (fun a' ha' => ?_) _ _ hh
    refine ⟨fun h0 => (by rw [h0] at hk'; cases hk'), fun j hj => ?_⟩
    rw [hk'] at hj
    obtain rfl : j = k := by simpa using hj
    refine wpOp_of_listK (ready_lt hkr) (fun a1 w1 h1' => ?_) ha'
    obtain ⟨hS1, hr2⟩ := h1'
    refine ⟨fun _ _ => hS1, ?_⟩
    exact wpAnyT_reads (P := P) (md := .any) (Q := NoPanic Q) (S := S) (reads := r1 ++ r2) (M := M) (n := n) hsel (fun c a a' w h => h) hbe' r2 _ a1 w1 (fun i hi => by simp [hi]) hcl2 h2 hS1 (by simpa using hr2)
  have := key go
  simpa using this
end
end Go.Proofs.Ytnnnpippekpibaa

/- The machine's take. -/
namespace Go.Proofs.Ytnnnpippekpibaa
open Go.RowKit

theorem MachAt.drewN {w : World} {o : Col} {M b : Nat} {P : GProg} {m : MachP} {v : MVals} (h : MachAt w o M b P m v) (n : Nat) : MachAt (w.drewN n) o M b P m v := h.turn ((Turn.refl o (fun _ => False) w).drewN n) (fun _ h => h.elim)
theorem EvAt.drewN {w : World} {o : Col} {M eb : Nat} {op kd ln h : Int} {cells : List Int} (H : EvAt w o M eb op kd ln h cells) (n : Nat) : EvAt (w.drewN n) o M eb op kd ln h cells := H.turn ((Turn.refl o (fun _ => False) w).drewN n) (fun h => h) (fun h => h)
theorem EvAt.stop {w w1 : World} {o q : Col} {M b eb : Nat} {P : GProg} {m : MachP} {v : MVals} {op kd ln : Int} (hE : EvAt w1 q M eb op kd ln 0 []) (hM : MachAt w1 q M b P m v) (T : Turn o q (MineX M) w w1) (h : Int) : DoStop w o M b P m eb op kd ln h (.returned (.tuple #[])) (w1.setCell ⟨eb, 4, none⟩ (.int .u8 h)) := by
  have S := hE.halt h
  exact ⟨q, v, rfl, T.trans S.2 (fun c hc => by rw [hc]; unfold MineX; omega), hM.turn S.2 (fun c hc => by rw [hc]; exact notMine (by omega)), S.1⟩
/-- what a list of the call's own hands to append -/
theorem ints_news {w : World} {o : Col} {c : Nat} {ao : Option Addr} {n cap : Nat} {l : List Int} (h : Ints w o c (.slice ao n cap) l) : (ao = none → n = 0) ∧ ∀ ad, ao = some ad → ∀ j u, (ivs l)[j]? = some u → w.cell? (ad.add j) = some u := Vals.news h

set_option maxRecDepth 100000 in
set_option maxHeartbeats 2000000 in
theorem take_any {w : World} {o : Col} {M b eb : Nat} {P : GProg} {m : MachP} {v : MVals} {F s : Nat} {op kd ln : Int} (x : GOp) (h : MachAt w o M b P m v) (hE : EvAt w o M eb op kd ln 0 []) (hP : POk P) (hm : MOk P F s m) {k n : Nat} (ha : x.a = k) (ht : x.b = n) (hk : k < m.lines.length) (hn : 0 < n ∧ n ≤ 64) :
    Calls Try.prog 47 #[.pointer (some ⟨b, 0, none⟩), opA x, .pointer (some ⟨eb, 0, none⟩)] w
      (if (lineAt m k).cnt < n ∨ 64 < m.hand.length + n then DoStop w o M b P m eb op kd ln 4 else DoGo w o M b P eb op kd ln 0 (placesP (lineAt m k) 0 n) { m with
        hand := m.hand ++ gainP m.mem (placesP (lineAt m k) 0 n)
        lines := m.lines.set k { lineAt m k with pos := ((lineAt m k).pos + n) % (lineAt m k).size, cnt := (lineAt m k).cnt - n }
        next := m.next + 1 }) := by
  obtain ⟨kd', xa, xb⟩ := x
  dsimp only at ha ht ⊢
  subst ha ht
  unfold opA
  dsimp only
  have hbx := below_alloc w (.cells #[.int .u8 kd', .int .i64 (k : Int), .int .i64 (n : Int)] 43)
  have Tx := Turn.of_below o (M + 206) hbx
  have h1 := h.turn Tx (fun _ h => h.elim)
  have hE1 := hE.turn Tx (fun h => h) (fun h => h)
  have hX : Blk (w.alloc (.cells #[.int .u8 kd', .int .i64 (k : Int), .int .i64 (n : Int)] 43)) (ext o w.heap.size (M + 206)) (M + 206) w.heap.size 43 #[.int .u8 kd', .int .i64 (k : Int), .int .i64 (n : Int)] := ⟨heap_alloc_new w _, ext_new (Nat.le_refl _)⟩
  have x1 := hX.cell 1 _ rfl
  have x2 := hX.cell 2 _ rfl
  generalize ext o w.heap.size (M + 206) = q at *
  clear h hE hbx
  have hhl := hm.hand.1
  have HMK := Lib.hid hm
  obtain ⟨g, cap, hg, hcap, -, -, -, q3, -⟩ := line_cells h1 hk
  have c1 := h1.cell 1 (u := v.lines) (by unfold machV; rfl)
  rw [hg] at c1
  have HG := Lib.hid hg
  have hki : (k : Int) < m.lines.length := by omega
  have HX := Lib.hid hX
  have HM := Lib.hid h1
  have HE := Lib.hid hE1
  have HT := Lib.hid (Tx.mono (D := MineX M) (fun _ h => h.elim))
  have fe := hE1.frozen 4
  obtain ⟨_, _, _, x4, _⟩ := hE1.reads
  clear hm hg hX h1 hE1 Tx
  by_cases hA : (lineAt m k).cnt < n
  · rw [if_pos (Or.inl hA)]
    obtain ⟨cz, hcz⟩ : ∃ x : Int, ((lineAt m k).cnt : Int) = x := ⟨_, rfl⟩
    rw [hcz] at q3
    have hlt : cz < (n : Int) := by omega
    clear hcz hA
    go_enter Try.func47, Try.ntmps47
    go_wp2_with fail
    refine wp_region_lex (fun w' => w'.cell? ⟨b, 1, none⟩ = some (.slice (some ⟨g, 0, none⟩) m.lines.length cap) ∧ w'.cell? ⟨w.heap.size, 1, none⟩ = some (.int .i64 k)) [0, 1, 2, 3, 4, 5, 6, 7, 8] [] (by kernel_rfl) (by kernel_rfl) rfl (fun _ _ hx h => ⟨hx.cell h.1, hx.cell h.2⟩) ⟨c1, x1⟩ ?_
    intro Q' hQ'
    simp only [pickOps, List.flatMap_cons, List.flatMap_nil, List.drop_succ_cons, List.drop_zero, List.take_succ_cons, List.take_zero, List.cons_append, List.nil_append, List.append_nil]
    repeat (first
      | (refine wpReads_skip (by rfl) ?_; (try simp only [Act.put, List.setIfInBounds_toArray, List.set_cons_zero, List.set_cons_succ]))
      | (refine wpReads_cons ?_ (by rfl) (by rfl) ?_ ?_; rotate_left; (intro wz hz; (try dsimp only at hz); go_simp; try with_reducible rfl); (try simp only [Act.put, List.setIfInBounds_toArray, List.set_cons_zero, List.set_cons_succ]))
      | (refine wpReads_any ?_ (by rfl) ?_ ?_; rotate_left; (intro wz; go_simp; try with_reducible rfl); (try simp only [Act.put, List.setIfInBounds_toArray, List.set_cons_zero, List.set_cons_succ])))
    refine wpReads_nil ?_
    go_wp2_with fail
    refine wp_region_lex (fun w' => w'.cell? ⟨g, k * 4 + 3, none⟩ = some (.int .i64 cz) ∧ w'.cell? ⟨w.heap.size, 2, none⟩ = some (.int .i64 n)) [0, 1, 2, 3, 4, 5, 6, 7, 8, 9, 10] [11, 12] (by kernel_rfl) (by kernel_rfl) rfl (fun _ _ hx h => ⟨hx.cell h.1, hx.cell h.2⟩) ⟨q3, x2⟩ ?_
    intro Q' hQ'
    simp only [pickOps, List.flatMap_cons, List.flatMap_nil, List.drop_succ_cons, List.drop_zero, List.take_succ_cons, List.take_zero, List.cons_append, List.nil_append, List.append_nil]
    repeat (first
      | (refine wpReads_skip (by rfl) ?_; (try simp only [Act.put, List.setIfInBounds_toArray, List.set_cons_zero, List.set_cons_succ]))
      | (refine wpReads_cons ?_ (by rfl) (by rfl) ?_ ?_; rotate_left; (intro wz hz; (try dsimp only at hz); go_simp; try with_reducible rfl); (try simp only [Act.put, List.setIfInBounds_toArray, List.set_cons_zero, List.set_cons_succ]))
      | (refine wpReads_any ?_ (by rfl) ?_ ?_; rotate_left; (intro wz; go_simp; try with_reducible rfl); (try simp only [Act.put, List.setIfInBounds_toArray, List.set_cons_zero, List.set_cons_succ])))
    refine wpReads_nil ?_
    go_wp2
    go_end0
    exact (EvAt.stop HE.out HM.out HT.out 4).drewN 2
  · have hnlt : ¬ ((lineAt m k).cnt : Int) < (n : Int) := by omega
    by_cases hB : 64 < m.hand.length + n
    · rw [if_pos (Or.inr hB)]
      obtain ⟨cz, hcz⟩ : ∃ x : Int, ((lineAt m k).cnt : Int) = x := ⟨_, rfl⟩
      rw [hcz] at q3 hnlt
      have hnb : decide (cz < (n : Int)) = false := decide_eq_false hnlt
      have HB := Lib.hid (decide_eq_true hB)
      clear hcz hA hB
      go_enter Try.func47, Try.ntmps47
      go_wp2_with fail
      refine wp_region_lex (fun w' => w'.cell? ⟨b, 1, none⟩ = some (.slice (some ⟨g, 0, none⟩) m.lines.length cap) ∧ w'.cell? ⟨w.heap.size, 1, none⟩ = some (.int .i64 k)) [0, 1, 2, 3, 4, 5, 6, 7, 8] [] (by kernel_rfl) (by kernel_rfl) rfl (fun _ _ hx h => ⟨hx.cell h.1, hx.cell h.2⟩) ⟨c1, x1⟩ ?_
      intro Q' hQ'
      simp only [pickOps, List.flatMap_cons, List.flatMap_nil, List.drop_succ_cons, List.drop_zero, List.take_succ_cons, List.take_zero, List.cons_append, List.nil_append, List.append_nil]
      repeat (first
        | (refine wpReads_skip (by rfl) ?_; (try simp only [Act.put, List.setIfInBounds_toArray, List.set_cons_zero, List.set_cons_succ]))
        | (refine wpReads_cons ?_ (by rfl) (by rfl) ?_ ?_; rotate_left; (intro wz hz; (try dsimp only at hz); go_simp; try with_reducible rfl); (try simp only [Act.put, List.setIfInBounds_toArray, List.set_cons_zero, List.set_cons_succ]))
        | (refine wpReads_any ?_ (by rfl) ?_ ?_; rotate_left; (intro wz; go_simp; try with_reducible rfl); (try simp only [Act.put, List.setIfInBounds_toArray, List.set_cons_zero, List.set_cons_succ])))
      refine wpReads_nil ?_
      go_wp2_with fail
      refine wp_region_lex (fun w' => w'.cell? ⟨g, k * 4 + 3, none⟩ = some (.int .i64 cz) ∧ w'.cell? ⟨w.heap.size, 2, none⟩ = some (.int .i64 n)) [0, 1, 2, 3, 4, 5, 6, 7, 8, 9, 10] [11, 12] (by kernel_rfl) (by kernel_rfl) rfl (fun _ _ hx h => ⟨hx.cell h.1, hx.cell h.2⟩) ⟨q3, x2⟩ ?_
      intro Q' hQ'
      simp only [pickOps, List.flatMap_cons, List.flatMap_nil, List.drop_succ_cons, List.drop_zero, List.take_succ_cons, List.take_zero, List.cons_append, List.nil_append, List.append_nil]
      repeat (first
        | (refine wpReads_skip (by rfl) ?_; (try simp only [Act.put, List.setIfInBounds_toArray, List.set_cons_zero, List.set_cons_succ]))
        | (refine wpReads_cons ?_ (by rfl) (by rfl) ?_ ?_; rotate_left; (intro wz hz; (try dsimp only at hz); go_simp; try with_reducible rfl); (try simp only [Act.put, List.setIfInBounds_toArray, List.set_cons_zero, List.set_cons_succ]))
        | (refine wpReads_any ?_ (by rfl) ?_ ?_; rotate_left; (intro wz; go_simp; try with_reducible rfl); (try simp only [Act.put, List.setIfInBounds_toArray, List.set_cons_zero, List.set_cons_succ])))
      refine wpReads_nil ?_
      go_wp2_with fail
      refine (full_any (HM.out.drewN 2) n (by omega)).mono ?_
      rintro e w5 ⟨rfl, rfl⟩
      rw [HB.out]
      go_wp2
      go_end0
      exact (EvAt.stop HE.out HM.out HT.out 4).drewN 2
    · rw [if_neg (by omega)]
      have HA := Lib.hid hA
      obtain ⟨cz, hcz⟩ : ∃ x : Int, ((lineAt m k).cnt : Int) = x := ⟨_, rfl⟩
      rw [hcz] at q3 hnlt
      have hnb : decide (cz < (n : Int)) = false := decide_eq_false hnlt
      have HB := Lib.hid (decide_eq_false hB)
      clear hcz hA
      obtain ⟨i0, hi, hz0, hz1, hz2⟩ := info_parts info_int
      have HI := Lib.hid hi
      go_enter Try.func47, Try.ntmps47
      go_wp2_with fail
      refine wp_region_lex (fun w' => w'.cell? ⟨b, 1, none⟩ = some (.slice (some ⟨g, 0, none⟩) m.lines.length cap) ∧ w'.cell? ⟨w.heap.size, 1, none⟩ = some (.int .i64 k)) [0, 1, 2, 3, 4, 5, 6, 7, 8] [] (by kernel_rfl) (by kernel_rfl) rfl (fun _ _ hx h => ⟨hx.cell h.1, hx.cell h.2⟩) ⟨c1, x1⟩ ?_
      intro Q' hQ'
      simp only [pickOps, List.flatMap_cons, List.flatMap_nil, List.drop_succ_cons, List.drop_zero, List.take_succ_cons, List.take_zero, List.cons_append, List.nil_append, List.append_nil]
      repeat (first
        | (refine wpReads_skip (by rfl) ?_; (try simp only [Act.put, List.setIfInBounds_toArray, List.set_cons_zero, List.set_cons_succ]))
        | (refine wpReads_cons ?_ (by rfl) (by rfl) ?_ ?_; rotate_left; (intro wz hz; (try dsimp only at hz); go_simp; try with_reducible rfl); (try simp only [Act.put, List.setIfInBounds_toArray, List.set_cons_zero, List.set_cons_succ]))
        | (refine wpReads_any ?_ (by rfl) ?_ ?_; rotate_left; (intro wz; go_simp; try with_reducible rfl); (try simp only [Act.put, List.setIfInBounds_toArray, List.set_cons_zero, List.set_cons_succ])))
      refine wpReads_nil ?_
      go_wp2_with fail
      refine wp_region_lex (fun w' => w'.cell? ⟨g, k * 4 + 3, none⟩ = some (.int .i64 cz) ∧ w'.cell? ⟨w.heap.size, 2, none⟩ = some (.int .i64 n)) [0, 1, 2, 3, 4, 5, 6, 7, 8, 9, 10] [11, 12] (by kernel_rfl) (by kernel_rfl) rfl (fun _ _ hx h => ⟨hx.cell h.1, hx.cell h.2⟩) ⟨q3, x2⟩ ?_
      intro Q' hQ'
      simp only [pickOps, List.flatMap_cons, List.flatMap_nil, List.drop_succ_cons, List.drop_zero, List.take_succ_cons, List.take_zero, List.cons_append, List.nil_append, List.append_nil]
      repeat (first
        | (refine wpReads_skip (by rfl) ?_; (try simp only [Act.put, List.setIfInBounds_toArray, List.set_cons_zero, List.set_cons_succ]))
        | (refine wpReads_cons ?_ (by rfl) (by rfl) ?_ ?_; rotate_left; (intro wz hz; (try dsimp only at hz); go_simp; try with_reducible rfl); (try simp only [Act.put, List.setIfInBounds_toArray, List.set_cons_zero, List.set_cons_succ]))
        | (refine wpReads_any ?_ (by rfl) ?_ ?_; rotate_left; (intro wz; go_simp; try with_reducible rfl); (try simp only [Act.put, List.setIfInBounds_toArray, List.set_cons_zero, List.set_cons_succ])))
      refine wpReads_nil ?_
      go_wp2_with fail
      refine (full_any (HM.out.drewN 2) n (by omega)).mono ?_
      rintro e w5 ⟨rfl, rfl⟩
      rw [HB.out]
      go_wp2_with fail
      refine wp_region_mid (fun w' => w'.cell? ⟨w.heap.size, 2, none⟩ = some (.int .i64 n)) [0, 1, 2, 3, 4, 5] 6 [7, 8, 9] [6, 10] 2 (by kernel_rfl) (by kernel_rfl) rfl x2 ?_
      intro Q' hQ'
      simp only [pickOps, List.flatMap_cons, List.flatMap_nil, List.drop_succ_cons, List.drop_zero, List.take_succ_cons, List.take_zero, List.cons_append, List.nil_append, List.append_nil]
      repeat (first
        | (refine wpReads_skip (by rfl) ?_; (try simp only [Act.put, List.setIfInBounds_toArray, List.set_cons_zero, List.set_cons_succ]))
        | (refine wpReads_cons ?_ (by rfl) (by rfl) ?_ ?_; rotate_left; (intro wz hz; (try dsimp only at hz); go_simp; try with_reducible rfl); (try simp only [Act.put, List.setIfInBounds_toArray, List.set_cons_zero, List.set_cons_succ]))
        | (refine wpReads_any ?_ (by rfl) ?_ ?_; rotate_left; (intro wz; go_simp; try with_reducible rfl); (try simp only [Act.put, List.setIfInBounds_toArray, List.set_cons_zero, List.set_cons_succ])))
      refine wpReads_nil ?_
      go_wp2_with fail
      refine (sread_any (HM.out.drewN 3) hP HMK.out hk hn.1 (by have := HA.out; omega) HG.out).mono ?_
      rintro e w6 ⟨o6, tv, wv, rfl, T6, M6, I6, J6⟩
      have E6 := (HE.out.drewN 3).turn T6 (notMine (by omega)) (notMine (by omega))
      have T6' := (HT.out.drewN 3).trans T6 Mine.x
      have y2 := (HX.out.turn ((Turn.refl q (fun _ => False) _).drewN 3) (fun h => h)).turn T6 (notMine (by omega))
      have y2 := y2.cell 2 _ rfl
      go_wp2
      refine ⟨y2, ?_⟩
      repeat (first
        | (refine wpReads_skip (by rfl) ?_; (try simp only [Act.put, List.setIfInBounds_toArray, List.set_cons_zero, List.set_cons_succ]))
        | (refine wpReads_cons ?_ (by rfl) (by rfl) ?_ ?_; rotate_left; (intro wz hz; (try dsimp only at hz); go_simp; try with_reducible rfl); (try simp only [Act.put, List.setIfInBounds_toArray, List.set_cons_zero, List.set_cons_succ]))
        | (refine wpReads_any ?_ (by rfl) ?_ ?_; rotate_left; (intro wz; go_simp; try with_reducible rfl); (try simp only [Act.put, List.setIfInBounds_toArray, List.set_cons_zero, List.set_cons_succ])))
      refine wpReads_nil ?_
      obtain ⟨ta, tc, rfl⟩ := I6.slice
      obtain ⟨wa, wc, rfl⟩ := J6.slice
      obtain ⟨hnone, hnews⟩ := Vals.news I6
      have c8 := M6.cell 8 (u := v.hand) (by unfold machV; rfl)
      have htl : (ivs (gainP m.mem (placesP (lineAt m k) 0 n))).length = (gainP m.mem (placesP (lineAt m k) 0 n)).length := ivs_len _
      have hgl : (gainP m.mem (placesP (lineAt m k) 0 n)).length = n := by rw [gainP_len, placesP_len]
      have HH := Lib.hid M6
      have HE6 := Lib.hid E6
      have HT6 := Lib.hid T6'
      have HJ := Lib.hid J6
      have HNO := Lib.hid hnone
      have HNE := Lib.hid hnews
      have HTL := Lib.hid (htl.trans hgl)
      have HTL2 := Lib.hid htl
      clear M6 E6 T6' T6 I6 J6 hnone hnews htl hgl HX q3 c1 x1 x2 x4 fe
      refine wpAnyT_one (i := 10) (by kernel_rfl) ?_
      simp only [pickOps, List.flatMap_cons, List.flatMap_nil, List.drop_succ_cons, List.drop_zero, List.take_succ_cons, List.take_zero, List.append_nil]
      go_wp2
      refine ⟨by intros; exact y2, ?_⟩
      refine wpAnyT_list (ks := [11]) (fun _ _ hx h => hx.cell h) (by kernel_rfl) ?_
      simp only [pickOps, List.flatMap_cons, List.flatMap_nil, List.drop_succ_cons, List.drop_zero, List.take_succ_cons, List.take_zero, List.append_nil]
      go_wp2_with (at_builtin; refine stop_here ?_)
      refine go_on ?_
      refine wpList_app_off rfl _ _ 37 rfl o6 (M + 9) 3 i0 _ 8 Try.underlying37 HI.out hz0 hz1 hz2 rfl v.hand (ivs m.hand) rfl HH.out.hand ta _ tc (ivs (gainP m.mem (placesP (lineAt m k) 0 n))) rfl HTL2.out HNO.out HNE.out (ivs_one _) (by rw [← HTL2.out, HTL.out, ivs_len]; unfold maxLen; omega) (grow_ok (by rw [← HTL2.out, HTL.out, ivs_len]; omega)) ?_
      intro v7 w7 T7 O7
      obtain ⟨sp7, cp7, hv7⟩ := O7.slice
      simp only [List.length_append, List.length_map] at hv7
      subst hv7
      have M7 := HH.out.setHand (l := m.hand ++ gainP m.mem (placesP (lineAt m k) 0 n)) T7 (by rw [ivs, List.map_append]; exact O7)
      have E7 := HE6.out.turn M7.2 (notMine (by omega)) (notMine (by omega))
      have J7 := HJ.out.turn M7.2 (notMine (by omega))
      have X7 := HH.out.blk.turn T7 (by omega)
      have c8 := X7.cell 8 v.hand (by simp [machV])
      have f8 := X7.frozen 8
      have E8 := E7.list J7 (by rw [castL_len, placesP_len]; exact hn.1)
      have f3 := E7.frozen 3
      obtain ⟨_, _, x3, _⟩ := E7.reads
      have hfin := DoGo.next (b := b) (op := op) (kd := kd) (ln := ln) (h := 0) (e := .returned (.tuple #[])) (cells := placesP (lineAt m k) 0 n) rfl ((HT6.out.trans M7.2 Mine.x).trans E8.2 (fun c hc => by rw [hc]; unfold MineX; omega)) (M7.1.turn E8.2 (fun c hc => by rw [hc]; exact notMine (by omega))) E8.1
      have HFIN := Lib.hid hfin
      clear hfin E8 E7 J7 X7 M7 T7 O7 HH HE6 HT6 HJ y2
      go_wp2
      go_end0
      exact HFIN.out
end Go.Proofs.Ytnnnpippekpibaa

/- The machine's give. -/
namespace Go.Proofs.Ytnnnpippekpibaa
open Go.RowKit

/-- the front of a row -/
theorem OffRow.front {w : World} {o : Col} {c : Nat} {e : TypeId} {g off n cap : Nat} {xs : List Value} (h : OffRow w o c e (.slice (some ⟨g, off, none⟩) n cap) xs) {k : Nat} (hk : k ≤ xs.length) : Vals w o c (.slice (some ⟨g, off, none⟩) k cap) (xs.take k) := by
  rcases h with ⟨_, h⟩ | ⟨g', off', cap', cur, h1, h2, h3, h4, h5, h6, h7⟩
  · cases h
  · cases h1
    by_cases hp : 0 < k
    · refine .inr ⟨by rw [List.length_take]; omega, g, off, cap, by rw [List.length_take, Nat.min_eq_left hk], by rw [List.length_take]; omega, block_lt h2, h3, fun j hj => ?_⟩
      rw [List.length_take] at hj
      have h8 : xs[j]? = cur.toList[off + j]? := by rw [← h7, List.getElem?_take_of_lt (by omega), List.getElem?_drop]
      have h9 : off + j < cur.size := by omega
      rw [List.getElem?_take_of_lt (by omega), h8]
      refine cells_row w g h2 (off + j) _ ?_
      rw [← Array.getElem?_toList, List.getElem?_eq_getElem (by simpa using h9)]
      rfl
    · obtain rfl : k = 0 := by omega
      exact .inl ⟨List.take_zero, _, _, rfl⟩
/-- the front is cut off, as Go does it -/
theorem OffRow.cut {w : World} {o : Col} {c : Nat} {e : TypeId} {g off n cap : Nat} {xs : List Value} (h : OffRow w o c e (.slice (some ⟨g, off, none⟩) n cap) xs) {k : Nat} (hk : k ≤ xs.length) : OffRow w o c e (.slice (if cap = k then some ⟨g, off, none⟩ else some ⟨g, off + k, none⟩) (n - k) (cap - k)) (xs.drop k) := by
  by_cases hc : cap = k
  · rw [if_pos hc]
    have h0 := h.empty
    rcases h with ⟨_, h⟩ | ⟨g', off', cap', cur, h1, h2, h3, h4, _⟩
    · cases h
    · cases h1
      have e : k = xs.length := by omega
      rw [show xs.length - k = 0 by omega, show cap - k = 0 by omega, e, List.drop_length]
      exact h0
  · rw [if_neg hc]
    exact h.drop hk hc
theorem OffRow.some {w : World} {o : Col} {c : Nat} {e : TypeId} {v : Value} {xs : List Value} (h : OffRow w o c e v xs) (hp : 0 < xs.length) : ∃ g off cap, v = .slice (some ⟨g, off, none⟩) xs.length cap ∧ xs.length ≤ cap ∧ cap ≤ maxLen := by
  rcases h with ⟨rfl, _⟩ | ⟨g, off, cap, cur, h1, _, _, h4, _, h6, _⟩
  · simp at hp
  · exact ⟨g, off, cap, h1, h4, h6⟩



set_option maxRecDepth 100000 in
set_option maxHeartbeats 2000000 in
theorem give_any {w : World} {o : Col} {M b eb : Nat} {P : GProg} {m : MachP} {v : MVals} {F s : Nat} {op kd ln : Int} (x : GOp) (h : MachAt w o M b P m v) (hE : EvAt w o M eb op kd ln 0 []) (hP : POk P) (hm : MOk P F s m) {k n : Nat} (ha : x.a = k) (ht : x.b = n) (hk : k < m.lines.length) (hn : 0 < n ∧ n ≤ 64) :
    Calls Try.prog 50 #[.pointer (some ⟨b, 0, none⟩), opA x, .pointer (some ⟨eb, 0, none⟩)] w
      (if m.hand.length < n ∨ (lineAt m k).size < (lineAt m k).cnt + n then DoStop w o M b P m eb op kd ln 4 else DoGo w o M b P eb op kd ln 0 (placesP (lineAt m k) (lineAt m k).cnt n) { m with
        mem := layP m.mem (placesP (lineAt m k) (lineAt m k).cnt n) (m.hand.take n)
        lines := m.lines.set k { lineAt m k with cnt := (lineAt m k).cnt + n }
        hand := m.hand.drop n
        next := m.next + 1 }) := by
  obtain ⟨kd', xa, xb⟩ := x
  dsimp only at ha ht ⊢
  subst ha ht
  unfold opA
  dsimp only
  have hbx := below_alloc w (.cells #[.int .u8 kd', .int .i64 (k : Int), .int .i64 (n : Int)] 43)
  have Tx := Turn.of_below o (M + 206) hbx
  have h1 := h.turn Tx (fun _ h => h.elim)
  have hE1 := hE.turn Tx (fun h => h) (fun h => h)
  have hX : Blk (w.alloc (.cells #[.int .u8 kd', .int .i64 (k : Int), .int .i64 (n : Int)] 43)) (ext o w.heap.size (M + 206)) (M + 206) w.heap.size 43 #[.int .u8 kd', .int .i64 (k : Int), .int .i64 (n : Int)] := ⟨heap_alloc_new w _, ext_new (Nat.le_refl _)⟩
  have x1 := hX.cell 1 _ rfl
  have x2 := hX.cell 2 _ rfl
  generalize ext o w.heap.size (M + 206) = q at *
  clear h hE hbx
  have hhl := hm.hand.1
  have HMK := Lib.hid hm
  have hL := lineAt_ok hm.line k
  have hl1 := hL.reg
  have hl2 := hL.cnt
  have hl3 := hP.mem
  obtain ⟨g, cap, hg, hcap, -, q1, -, q3, -⟩ := line_cells h1 hk
  have c1 := h1.cell 1 (u := v.lines) (by unfold machV; rfl)
  rw [hg] at c1
  have c8 := h1.cell 8 (u := v.hand) (by unfold machV; rfl)
  obtain ⟨ha, hc, hv⟩ := h1.hand.slice
  rw [ivs_len] at hv
  rw [hv] at c8
  have HHV := Lib.hid hv
  have HG := Lib.hid hg
  have hki : (k : Int) < m.lines.length := by omega
  have HX := Lib.hid hX
  have HM := Lib.hid h1
  have HE := Lib.hid hE1
  have HT := Lib.hid (Tx.mono (D := MineX M) (fun _ h => h.elim))
  have fe := hE1.frozen 4
  obtain ⟨_, _, _, x4, _⟩ := hE1.reads
  clear hm hg hX h1 hE1 Tx hv hL
  obtain ⟨cz, hcz⟩ : ∃ x : Int, ((lineAt m k).cnt : Int) = x := ⟨_, rfl⟩
  obtain ⟨sz, hsz⟩ : ∃ x : Int, ((lineAt m k).size : Int) = x := ⟨_, rfl⟩
  rw [hcz] at q3
  rw [hsz] at q1
  have e1 : IntKind.i64.wrap (cz + (n : Int)) = cz + (n : Int) := IntWalk.i64_in _ (by omega)
  by_cases hA : m.hand.length < n
  · rw [if_pos (Or.inl hA)]
    have hb : (m.hand.length : Int) < (n : Int) := by omega
    clear hcz hsz hA hl1 hl2 hl3
    go_enter Try.func50, Try.ntmps50
    go_wp2_with fail
    refine wp_region_lex (fun w' => w'.cell? ⟨b, 1, none⟩ = some (.slice (some ⟨g, 0, none⟩) m.lines.length cap) ∧ w'.cell? ⟨w.heap.size, 1, none⟩ = some (.int .i64 k)) [0, 1, 2, 3, 4, 5, 6, 7, 8] [] (by kernel_rfl) (by kernel_rfl) rfl (fun _ _ hx h => ⟨hx.cell h.1, hx.cell h.2⟩) ⟨c1, x1⟩ ?_
    intro Q' hQ'
    simp only [pickOps, List.flatMap_cons, List.flatMap_nil, List.drop_succ_cons, List.drop_zero, List.take_succ_cons, List.take_zero, List.cons_append, List.nil_append, List.append_nil]
    repeat (first
      | (refine wpReads_skip (by rfl) ?_; (try simp only [Act.put, List.setIfInBounds_toArray, List.set_cons_zero, List.set_cons_succ]))
      | (refine wpReads_cons ?_ (by rfl) (by rfl) ?_ ?_; rotate_left; (intro wz hz; (try dsimp only at hz); go_simp; try with_reducible rfl); (try simp only [Act.put, List.setIfInBounds_toArray, List.set_cons_zero, List.set_cons_succ]))
      | (refine wpReads_any ?_ (by rfl) ?_ ?_; rotate_left; (intro wz; go_simp; try with_reducible rfl); (try simp only [Act.put, List.setIfInBounds_toArray, List.set_cons_zero, List.set_cons_succ])))
    refine wpReads_nil ?_
    go_wp2_with fail
    refine wp_region_lex (fun w' => w'.cell? ⟨b, 8, none⟩ = some (.slice ha m.hand.length hc) ∧ w'.cell? ⟨g, k * 4 + 3, none⟩ = some (.int .i64 cz) ∧ w'.cell? ⟨g, k * 4 + 1, none⟩ = some (.int .i64 sz) ∧ w'.cell? ⟨w.heap.size, 2, none⟩ = some (.int .i64 n)) [0, 1, 2, 3, 4, 5, 6, 7, 8, 9, 10, 11, 12, 13, 14, 15, 16, 17, 18, 19, 20, 21, 22] [] (by kernel_rfl) (by kernel_rfl) rfl (fun _ _ hx h => ⟨hx.cell h.1, hx.cell h.2.1, hx.cell h.2.2.1, hx.cell h.2.2.2⟩) ⟨c8, q3, q1, x2⟩ ?_
    intro Q' hQ'
    simp only [pickOps, List.flatMap_cons, List.flatMap_nil, List.drop_succ_cons, List.drop_zero, List.take_succ_cons, List.take_zero, List.cons_append, List.nil_append, List.append_nil]
    repeat (first
      | (refine wpReads_skip (by rfl) ?_; (try simp only [Act.put, List.setIfInBounds_toArray, List.set_cons_zero, List.set_cons_succ]))
      | (refine wpReads_cons ?_ (by rfl) (by rfl) ?_ ?_; rotate_left; (intro wz hz; (try dsimp only at hz); go_simp; try with_reducible rfl); (try simp only [Act.put, List.setIfInBounds_toArray, List.set_cons_zero, List.set_cons_succ]))
      | (refine wpReads_any ?_ (by rfl) ?_ ?_; rotate_left; (intro wz; go_simp; try with_reducible rfl); (try simp only [Act.put, List.setIfInBounds_toArray, List.set_cons_zero, List.set_cons_succ])))
    refine wpReads_nil ?_
    go_wp2
    go_end0
    exact (EvAt.stop HE.out HM.out HT.out 4).drewN 2
  · have hb : decide (m.hand.length < n) = false := decide_eq_false (by omega)
    have hb1 : ¬ (m.hand.length : Int) < (n : Int) := by omega
    by_cases hB : (lineAt m k).size < (lineAt m k).cnt + n
    · rw [if_pos (Or.inr hB)]
      have hb2 : decide (sz < cz + (n : Int)) = true := decide_eq_true (by omega)
      clear hcz hsz hA hB hl1 hl2 hl3
      go_enter Try.func50, Try.ntmps50
      go_wp2_with fail
      refine wp_region_lex (fun w' => w'.cell? ⟨b, 1, none⟩ = some (.slice (some ⟨g, 0, none⟩) m.lines.length cap) ∧ w'.cell? ⟨w.heap.size, 1, none⟩ = some (.int .i64 k)) [0, 1, 2, 3, 4, 5, 6, 7, 8] [] (by kernel_rfl) (by kernel_rfl) rfl (fun _ _ hx h => ⟨hx.cell h.1, hx.cell h.2⟩) ⟨c1, x1⟩ ?_
      intro Q' hQ'
      simp only [pickOps, List.flatMap_cons, List.flatMap_nil, List.drop_succ_cons, List.drop_zero, List.take_succ_cons, List.take_zero, List.cons_append, List.nil_append, List.append_nil]
      repeat (first
        | (refine wpReads_skip (by rfl) ?_; (try simp only [Act.put, List.setIfInBounds_toArray, List.set_cons_zero, List.set_cons_succ]))
        | (refine wpReads_cons ?_ (by rfl) (by rfl) ?_ ?_; rotate_left; (intro wz hz; (try dsimp only at hz); go_simp; try with_reducible rfl); (try simp only [Act.put, List.setIfInBounds_toArray, List.set_cons_zero, List.set_cons_succ]))
        | (refine wpReads_any ?_ (by rfl) ?_ ?_; rotate_left; (intro wz; go_simp; try with_reducible rfl); (try simp only [Act.put, List.setIfInBounds_toArray, List.set_cons_zero, List.set_cons_succ])))
      refine wpReads_nil ?_
      go_wp2_with fail
      refine wp_region_lex (fun w' => w'.cell? ⟨b, 8, none⟩ = some (.slice ha m.hand.length hc) ∧ w'.cell? ⟨g, k * 4 + 3, none⟩ = some (.int .i64 cz) ∧ w'.cell? ⟨g, k * 4 + 1, none⟩ = some (.int .i64 sz) ∧ w'.cell? ⟨w.heap.size, 2, none⟩ = some (.int .i64 n)) [0, 1, 2, 3, 4, 5, 6, 7, 8, 9, 10, 11, 12, 13, 14, 15, 16, 17, 18, 19, 20, 21, 22] [] (by kernel_rfl) (by kernel_rfl) rfl (fun _ _ hx h => ⟨hx.cell h.1, hx.cell h.2.1, hx.cell h.2.2.1, hx.cell h.2.2.2⟩) ⟨c8, q3, q1, x2⟩ ?_
      intro Q' hQ'
      simp only [pickOps, List.flatMap_cons, List.flatMap_nil, List.drop_succ_cons, List.drop_zero, List.take_succ_cons, List.take_zero, List.cons_append, List.nil_append, List.append_nil]
      repeat (first
        | (refine wpReads_skip (by rfl) ?_; (try simp only [Act.put, List.setIfInBounds_toArray, List.set_cons_zero, List.set_cons_succ]))
        | (refine wpReads_cons ?_ (by rfl) (by rfl) ?_ ?_; rotate_left; (intro wz hz; (try dsimp only at hz); go_simp; try with_reducible rfl); (try simp only [Act.put, List.setIfInBounds_toArray, List.set_cons_zero, List.set_cons_succ]))
        | (refine wpReads_any ?_ (by rfl) ?_ ?_; rotate_left; (intro wz; go_simp; try with_reducible rfl); (try simp only [Act.put, List.setIfInBounds_toArray, List.set_cons_zero, List.set_cons_succ])))
      refine wpReads_nil ?_
      go_wp2
      go_end0
      exact (EvAt.stop HE.out HM.out HT.out 4).drewN 2
    · rw [if_neg (by omega)]
      have hb2 : decide (sz < cz + (n : Int)) = false := decide_eq_false (by omega)
      have HA := Lib.hid hA
      have HB := Lib.hid hB
      obtain ⟨gh, oh, hc', hv2, hcl, hcm⟩ := (HM.out.hand).some (by rw [ivs_len]; omega)
      rw [ivs_len] at hv2 hcl
      rw [HHV.out] at hv2
      simp only [Value.slice.injEq] at hv2
      obtain ⟨rfl, -, rfl⟩ := hv2
      have hnc : (n : Int) ≤ hc := by omega
      have hc0 : ¬ hc = 0 := by omega
      clear hcz hsz hA hB hl1 hl2 hl3
      go_enter Try.func50, Try.ntmps50
      go_wp2_with fail
      refine wp_region_lex (fun w' => w'.cell? ⟨b, 1, none⟩ = some (.slice (some ⟨g, 0, none⟩) m.lines.length cap) ∧ w'.cell? ⟨w.heap.size, 1, none⟩ = some (.int .i64 k)) [0, 1, 2, 3, 4, 5, 6, 7, 8] [] (by kernel_rfl) (by kernel_rfl) rfl (fun _ _ hx h => ⟨hx.cell h.1, hx.cell h.2⟩) ⟨c1, x1⟩ ?_
      intro Q' hQ'
      simp only [pickOps, List.flatMap_cons, List.flatMap_nil, List.drop_succ_cons, List.drop_zero, List.take_succ_cons, List.take_zero, List.cons_append, List.nil_append, List.append_nil]
      repeat (first
        | (refine wpReads_skip (by rfl) ?_; (try simp only [Act.put, List.setIfInBounds_toArray, List.set_cons_zero, List.set_cons_succ]))
        | (refine wpReads_cons ?_ (by rfl) (by rfl) ?_ ?_; rotate_left; (intro wz hz; (try dsimp only at hz); go_simp; try with_reducible rfl); (try simp only [Act.put, List.setIfInBounds_toArray, List.set_cons_zero, List.set_cons_succ]))
        | (refine wpReads_any ?_ (by rfl) ?_ ?_; rotate_left; (intro wz; go_simp; try with_reducible rfl); (try simp only [Act.put, List.setIfInBounds_toArray, List.set_cons_zero, List.set_cons_succ])))
      refine wpReads_nil ?_
      go_wp2_with fail
      refine wp_region_lex (fun w' => w'.cell? ⟨b, 8, none⟩ = some (.slice (some ⟨gh, oh, none⟩) m.hand.length hc) ∧ w'.cell? ⟨g, k * 4 + 3, none⟩ = some (.int .i64 cz) ∧ w'.cell? ⟨g, k * 4 + 1, none⟩ = some (.int .i64 sz) ∧ w'.cell? ⟨w.heap.size, 2, none⟩ = some (.int .i64 n)) [0, 1, 2, 3, 4, 5, 6, 7, 8, 9, 10, 11, 12, 13, 14, 15, 16, 17, 18, 19, 20, 21, 22] [] (by kernel_rfl) (by kernel_rfl) rfl (fun _ _ hx h => ⟨hx.cell h.1, hx.cell h.2.1, hx.cell h.2.2.1, hx.cell h.2.2.2⟩) ⟨c8, q3, q1, x2⟩ ?_
      intro Q' hQ'
      simp only [pickOps, List.flatMap_cons, List.flatMap_nil, List.drop_succ_cons, List.drop_zero, List.take_succ_cons, List.take_zero, List.cons_append, List.nil_append, List.append_nil]
      repeat (first
        | (refine wpReads_skip (by rfl) ?_; (try simp only [Act.put, List.setIfInBounds_toArray, List.set_cons_zero, List.set_cons_succ]))
        | (refine wpReads_cons ?_ (by rfl) (by rfl) ?_ ?_; rotate_left; (intro wz hz; (try dsimp only at hz); go_simp; try with_reducible rfl); (try simp only [Act.put, List.setIfInBounds_toArray, List.set_cons_zero, List.set_cons_succ]))
        | (refine wpReads_any ?_ (by rfl) ?_ ?_; rotate_left; (intro wz; go_simp; try with_reducible rfl); (try simp only [Act.put, List.setIfInBounds_toArray, List.set_cons_zero, List.set_cons_succ])))
      refine wpReads_nil ?_
      go_wp2_with fail
      refine wp_region_lex (fun w' => w'.cell? ⟨b, 8, none⟩ = some (.slice (some ⟨gh, oh, none⟩) m.hand.length hc) ∧ w'.cell? ⟨w.heap.size, 2, none⟩ = some (.int .i64 n)) [0, 1, 2, 3, 4, 5, 6, 7, 8, 9, 10, 11] [12, 13, 14, 15] (by kernel_rfl) (by kernel_rfl) rfl (fun _ _ hx h => ⟨hx.cell h.1, hx.cell h.2⟩) ⟨c8, x2⟩ ?_
      intro Q' hQ'
      simp only [pickOps, List.flatMap_cons, List.flatMap_nil, List.drop_succ_cons, List.drop_zero, List.take_succ_cons, List.take_zero, List.cons_append, List.nil_append, List.append_nil]
      repeat (first
        | (refine wpReads_skip (by rfl) ?_; (try simp only [Act.put, List.setIfInBounds_toArray, List.set_cons_zero, List.set_cons_succ]))
        | (refine wpReads_cons ?_ (by rfl) (by rfl) ?_ ?_; rotate_left; (intro wz hz; (try dsimp only at hz); go_simp; try with_reducible rfl); (try simp only [Act.put, List.setIfInBounds_toArray, List.set_cons_zero, List.set_cons_succ]))
        | (refine wpReads_any ?_ (by rfl) ?_ ?_; rotate_left; (intro wz; go_simp; try with_reducible rfl); (try simp only [Act.put, List.setIfInBounds_toArray, List.set_cons_zero, List.set_cons_succ])))
      refine wpReads_nil ?_
      have hlen : (m.hand.take n).length = n := by rw [List.length_take]; have := HA.out; omega
      have hTS : Ints ((w.alloc (.cells #[.int .u8 kd', .int .i64 (k : Int), .int .i64 (n : Int)] 43)).drewN 3) q (M + 9) (.slice (some ⟨gh, oh, none⟩) n hc) (m.hand.take n) := by
        have := (HM.out.drewN 3).hand
        rw [HHV.out] at this
        have := this.front (k := n) (by rw [ivs_len]; have := HA.out; omega)
        rw [ivs, ← List.map_take] at this
        exact this
      have HTS := Lib.hid hTS
      have HLEN := Lib.hid hlen
      clear hTS hlen
      go_wp2_with fail
      refine (slay_any (HM.out.drewN 3) hP HMK.out HTS.out (by omega) hk (by rw [HLEN.out]; exact hn.1) (by rw [HLEN.out]; have := HB.out; omega) HG.out).mono ?_
      rintro e w6 ⟨o6, wv, rfl, T6, M6, J6⟩
      rw [HLEN.out] at M6 J6
      obtain ⟨wa, wc, rfl⟩ := J6.slice
      have E6 := (HE.out.drewN 3).turn T6 (notMine (by omega)) (notMine (by omega))
      have E7 := E6.list J6 (by rw [castL_len, placesP_len]; exact hn.1)
      have M7 := M6.turn E7.2 (fun c hc => by rw [hc]; exact notMine (by omega))
      have T7 := ((HT.out.drewN 3).trans T6 Mine.x).trans E7.2 (fun c hc => by rw [hc]; unfold MineX; omega)
      have X7 := ((HX.out.turn ((Turn.refl q (fun _ => False) _).drewN 3) (fun h => h)).turn T6 (notMine (by omega))).turn E7.2 (by omega)
      have y2 := X7.cell 2 _ rfl
      have y8 := M7.cell 8 (u := v.hand) (by unfold machV; rfl)
      rw [HHV.out] at y8
      have g8 := M7.frozen 8
      have hcut := M7.hand
      rw [HHV.out] at hcut
      have hcut := hcut.cut (k := n) (by rw [ivs_len]; have := HA.out; exact Nat.le_of_not_lt this)
      rw [ivs, ← List.map_drop] at hcut
      have M8 := M7.setHand (Turn.refl _ _ _) hcut
      have E8 := E7.1.turn M8.2 (notMine (by omega)) (notMine (by omega))
      have HFIN := Lib.hid (DoGo.next (b := b) (op := op) (kd := kd) (ln := ln) (h := 0) (e := .returned (.tuple #[])) (cells := placesP (lineAt m k) (lineAt m k).cnt n) rfl (T7.trans M8.2 Mine.x) M8.1 E8)
      have f3 := E6.frozen 3
      obtain ⟨_, _, x3, _⟩ := E6.reads
      have hnl : (n : Int) ≤ m.hand.length := by have := HA.out; omega
      clear E6 E7 M7 T7 X7 hcut M8 E8 T6 M6 J6 HTS HLEN q3 q1 c1 c8 x1 x2 x4
      by_cases hcn : hc = n
      · rw [if_pos hcn, show hc - n = 0 by omega] at HFIN
        go_wp2_with fail
        refine wp_region_lex (fun w' => w'.cell? ⟨b, 8, none⟩ = some (.slice (some ⟨gh, oh, none⟩) m.hand.length hc) ∧ w'.cell? ⟨w.heap.size, 2, none⟩ = some (.int .i64 n)) [0, 1, 2, 3, 4, 5, 6, 7] [8, 9, 10] (by kernel_rfl) (by kernel_rfl) rfl (fun _ _ hx h => ⟨hx.cell h.1, hx.cell h.2⟩) ⟨y8, y2⟩ ?_
        intro Q' hQ'
        simp only [pickOps, List.flatMap_cons, List.flatMap_nil, List.drop_succ_cons, List.drop_zero, List.take_succ_cons, List.take_zero, List.cons_append, List.nil_append, List.append_nil]
        repeat (first
          | (refine wpReads_skip (by rfl) ?_; (try simp only [Act.put, List.setIfInBounds_toArray, List.set_cons_zero, List.set_cons_succ]))
          | (refine wpReads_cons ?_ (by rfl) (by rfl) ?_ ?_; rotate_left; (intro wz hz; (try dsimp only at hz); go_simp; try with_reducible rfl); (try simp only [Act.put, List.setIfInBounds_toArray, List.set_cons_zero, List.set_cons_succ]))
          | (refine wpReads_any ?_ (by rfl) ?_ ?_; rotate_left; (intro wz; go_simp; try with_reducible rfl); (try simp only [Act.put, List.setIfInBounds_toArray, List.set_cons_zero, List.set_cons_succ])))
        refine wpReads_nil ?_
        go_wp2
        go_end0
        exact HFIN.out.drewN 1
      · rw [if_neg hcn] at HFIN
        go_wp2_with fail
        refine wp_region_lex (fun w' => w'.cell? ⟨b, 8, none⟩ = some (.slice (some ⟨gh, oh, none⟩) m.hand.length hc) ∧ w'.cell? ⟨w.heap.size, 2, none⟩ = some (.int .i64 n)) [0, 1, 2, 3, 4, 5, 6, 7] [8, 9, 10] (by kernel_rfl) (by kernel_rfl) rfl (fun _ _ hx h => ⟨hx.cell h.1, hx.cell h.2⟩) ⟨y8, y2⟩ ?_
        intro Q' hQ'
        simp only [pickOps, List.flatMap_cons, List.flatMap_nil, List.drop_succ_cons, List.drop_zero, List.take_succ_cons, List.take_zero, List.cons_append, List.nil_append, List.append_nil]
        repeat (first
          | (refine wpReads_skip (by rfl) ?_; (try simp only [Act.put, List.setIfInBounds_toArray, List.set_cons_zero, List.set_cons_succ]))
          | (refine wpReads_cons ?_ (by rfl) (by rfl) ?_ ?_; rotate_left; (intro wz hz; (try dsimp only at hz); go_simp; try with_reducible rfl); (try simp only [Act.put, List.setIfInBounds_toArray, List.set_cons_zero, List.set_cons_succ]))
          | (refine wpReads_any ?_ (by rfl) ?_ ?_; rotate_left; (intro wz; go_simp; try with_reducible rfl); (try simp only [Act.put, List.setIfInBounds_toArray, List.set_cons_zero, List.set_cons_succ])))
        refine wpReads_nil ?_
        go_wp2
        go_end0
        exact HFIN.out.drewN 1
end Go.Proofs.Ytnnnpippekpibaa
