/- A region that draws its order, walked in one order, where one of the forced operations writes: after it the fact that the readers lean on is shown anew. No program in sight. -/
import Derived.Test.YtifhnealecndnaaLex
namespace Go.Proofs.Ytifhnealecndnaa
section
variable {P : Program} {md : Region.Mode} {ops : Array Oper} {Q : Exit → Act → World → Prop} {S : World → Prop}

/-- the forced ones, one behind the other; behind those in M the fact S stands -/
def wpSeqM (P : Program) (ops : Array Oper) (Q : Exit → Act → World → Prop) (S : World → Prop) (M : List Nat) : List Nat → Act → World → Prop
  | [], a, w => Q .normal a w
  | k :: r, a, w => wpOp P ops Q k (fun a' w' => (M.contains k = true → S w') ∧ wpSeqM P ops Q S M r a' w') a w

theorem madeB_some {k : Nat} (h : madeB ops k = true) : ∃ o, ops[k]? = some o ∧ makesB o = true := by
  unfold madeB at h
  cases ho : ops[k]? with
  | none => rw [ho] at h; cases h
  | some o => rw [ho] at h; exact ⟨o, rfl, h⟩

theorem wpAnyT_of_seqM {B : Nat → Bool} {M : List Nat} (hSx : ∀ w w', Ext w w' → S w → S w') : ∀ (ks : List Nat) (listed : Array Bool) (a : Act) (w : World),
    (∀ k ∈ ks, B k = true → madeB ops k = true ∨ M.contains k = true) → seqL md ops ks listed = true → wpSeqM P ops Q S M ks a w → wpAnyT P md ops Q S B ks.length listed a w
  | [], _, _, _, _, hB, h => ⟨by simpa [seqL] using hB, h⟩
  | k :: ks, listed, a, w, hmk, hB, h => by
    simp only [seqL, Bool.and_eq_true, decide_eq_true_eq] at hB
    refine ⟨fun h1 => (by rw [hB.1] at h1; cases h1), fun i hi => ?_⟩
    rw [hB.1] at hi
    have hik : i = k := by simpa using hi
    subst hik
    have hw : wpOp P ops Q i (fun a' w' => (M.contains i = true → S w') ∧ wpSeqM P ops Q S M ks a' w') a w := h
    by_cases hb : B i = true
    · rcases hmk i (by simp) hb with hm | hm
      · obtain ⟨o, ho, hmo⟩ := madeB_some hm
        exact wpOp_mono (fun a' w' h' => ⟨fun _ hS => hSx _ _ h'.1 hS, wpAnyT_of_seqM hSx ks _ a' w' (fun k hk => hmk k (by simp [hk])) hB.2 h'.2.2⟩) (wpOp_makes ho hmo hw)
      · exact wpOp_mono (fun a' w' h' => ⟨fun _ _ => h'.1 hm, wpAnyT_of_seqM hSx ks _ a' w' (fun k hk => hmk k (by simp [hk])) hB.2 h'.2⟩) hw
    · exact wpOp_mono (fun a' w' h' => ⟨fun hbb => absurd hbb hb, wpAnyT_of_seqM hSx ks _ a' w' (fun k hk => hmk k (by simp [hk])) hB.2 h'.2⟩) hw

def lexOKM (md : Region.Mode) (ops : Array Oper) (reads tail M : List Nat) : Bool :=
  Region.noSelect ops && (reads.all fun i => anyAt ops i || (List.range ops.size).all fun j => madeB ops j || reads.contains j || M.contains j || behindB md ops ops.size j i) &&
  (tail.all fun k => !reads.contains k) && lexHeadB md ops tail reads (Array.replicate ops.size false)

theorem wpAnyT_lexM {reads tail M : List Nat} (hsel : Region.noSelect ops = true) (hQ : ∀ c a a' w, Q (.panic c) a w → Q (.panic c) a' w)
    (hbe : ∀ i ∈ reads, anyAt ops i = false → ∀ j, j < ops.size → madeB ops j = true ∨ reads.contains j = true ∨ M.contains j = true ∨ behindB md ops ops.size j i = true) (hd : ∀ k ∈ tail, reads.contains k = false) (hSx : ∀ w w', Ext w w' → S w → S w') :
    ∀ (r : List Nat) (listed : Array Bool) (a : Act) (w : World), (∀ i ∈ r, i ∈ reads) → closedL md ops listed → lexHeadB md ops tail r listed = true → S w →
      wpReads P ops S (fun a' => wpSeqM P ops Q S M tail a' w) (pickOps ops r) a →
      wpAnyT P md ops Q S (fun j => madeB ops j || reads.contains j || M.contains j) (r.length + tail.length) listed a w
  | [], listed, a, w, _, _, hB, _, h => by
    rw [show ([] : List Nat).length + tail.length = tail.length by simp]
    refine wpAnyT_of_seqM hSx tail listed a w (fun k hk hb => ?_) hB h
    have hb' : (madeB ops k || reads.contains k || M.contains k) = true := hb
    rw [hd k hk, Bool.or_false, Bool.or_eq_true] at hb'
    exact hb'
  | i :: r, listed, a, w, hr, hcl, hB, hS, h => by
    simp only [lexHeadB, Bool.and_eq_true] at hB
    obtain ⟨⟨hrdy, hfree⟩, hB'⟩ := hB
    have hrdy' : i ∈ Region.ready md ops listed := by simpa using hrdy
    have hlt := ready_lt hrdy'
    have hi : ops[i]? = some ops[i] := Array.getElem?_eq_getElem hlt
    have hp : pickOps ops (i :: r) = ops[i] :: pickOps ops r := pick_one hi r
    rw [hp] at h
    obtain ⟨v, hy, hK⟩ := h
    rw [show (i :: r).length + tail.length = (r.length + tail.length) + 1 by simp; omega]
    refine wpAnyT_first (S' := fun w => anyB ops[i] = true ∨ S w) hi (Region.noSelect_spec hsel) (fun c a w h => hQ c _ _ w h) (fun j listed w w' hc hj hiun hb hS => ?_) (fun w _ _ h => h) _ listed a w hcl (Region.free_spec hi hfree) hrdy' hy (.inr hS) ?_
    · rcases hS with hS | hS
      · exact .inl hS
      · cases hany : anyB ops[i] with
        | true => exact .inl rfl
        | false =>
          right
          rcases hbe i (hr i (by simp)) (by unfold anyAt; rw [hi]; exact hany) j (ready_lt hj) with h1 | h1 | h1 | h1
          · exact hb (by simp [h1]) hS
          · exact hb (by rw [h1]; simp) hS
          · exact hb (by rw [h1]; simp) hS
          · have := behind_ready hc h1 hj
            rw [hiun] at this
            cases this
    · exact wpAnyT_lexM hsel hQ hbe hd hSx r _ _ w (fun x hx => hr x (by simp [hx])) (closedL_set hcl hrdy') hB' hS hK

/-- it ends there, and K holds -/
def EndsAt (K : Act → World → Prop) : Exit → Act → World → Prop
  | .normal, a, w => K a w
  | _, _, _ => False

theorem wpOp_endsAt {K0 K K' : Act → World → Prop} (hK : ∀ a w, K a w → K' a w) {i : Nat} {a : Act} {w : World} (h : wpOp P ops (EndsAt K0) i K a w) : wpOp P ops Q i K' a w := by
  unfold wpOp at *
  cases ho : ops[i]? with
  | none => simp only [ho] at h ⊢; exact hK _ _ h
  | some o =>
    simp only [ho] at h ⊢
    split
    · rename_i hw
      simp only [hw, if_true] at h
      have h1 := h.resolve_right (fun h => by obtain ⟨_, _, h⟩ := h.2; exact h)
      left
      unfold Oper.wp at *
      generalize (execOp a.eval o).run P w = r at h1
      cases r with
      | ok x w' =>
        cases x <;> simp only [Oper.upon] at h1 ⊢
        case value => exact hK _ _ h1
        case skip => exact hK _ _ h1
        case defer => exact hK _ _ h1
        case enter f args =>
          refine h1.mono fun e w'' he => ?_
          cases e with
          | returned v => exact hK _ _ he
          | panicked c => exact he.elim
          | outgrown => obtain ⟨_, _, h⟩ := he; exact h.elim
        case row => exact h1.mono fun v w'' he => hK _ _ he
      | halt x w' => cases x <;> simp only [Oper.upon] at h1 ⊢ <;> exact h1.elim
    · rename_i hw
      simp only [hw] at h
      exact hK _ _ h

theorem wpSeqM_of_list {M ks : List Nat} (hM : ∀ k ∈ ks, M.contains k = false) : ∀ (ks' : List Nat), (∀ k ∈ ks', k ∈ ks) → (∀ k ∈ ks', k < ops.size) → ∀ (a : Act) (w : World), wpList P ops Q (pickOps ops ks') a w → wpSeqM P ops Q S M ks' a w
  | [], _, _, _, _, h => h
  | k :: r, hs, hl, a, w, h => by
    have hk : k < ops.size := hl k (by simp)
    have hi : ops[k]? = some ops[k] := Array.getElem?_eq_getElem hk
    rw [pick_one hi r] at h
    have hw : wpOp P ops Q k (wpList P ops Q (pickOps ops r)) a w := by unfold wpOp; simp only [hi]; exact h
    exact wpOp_mono (fun a' w' h' => ⟨fun hm => (by rw [hM k (hs k (by simp))] at hm; cases hm), wpSeqM_of_list hM r (fun x hx => hs x (by simp [hx])) (fun x hx => hl x (by simp [hx])) a' w' h'⟩) hw

/-- the one that writes is k: first those up to it, then S, then the rest -/
theorem wpSeqM_split {k : Nat} {ks2 : List Nat} (hk2 : ks2.contains k = false) (hl2 : ∀ x ∈ ks2, x < ops.size) : ∀ (ks1 : List Nat), (∀ x ∈ ks1 ++ [k], x < ops.size) → ks1.contains k = false → ∀ (a : Act) (w : World),
    wpList P ops (EndsAt fun a w => S w ∧ wpList P ops Q (pickOps ops ks2) a w) (pickOps ops (ks1 ++ [k])) a w → wpSeqM P ops Q S [k] (ks1 ++ k :: ks2) a w
  | [], hl, _, a, w, h => by
    have hk : k < ops.size := hl k (by simp)
    have hi : ops[k]? = some ops[k] := Array.getElem?_eq_getElem hk
    simp only [List.nil_append] at h ⊢
    rw [pick_one hi []] at h
    have hw : wpOp P ops (EndsAt fun a w => S w ∧ wpList P ops Q (pickOps ops ks2) a w) k (wpList P ops (EndsAt fun a w => S w ∧ wpList P ops Q (pickOps ops ks2) a w) (pickOps ops [])) a w := by unfold wpOp; simp only [hi]; exact h
    exact wpOp_endsAt (fun a' w' h' => ⟨fun _ => h'.1, wpSeqM_of_list (ks := ks2) (fun x hx => by simp only [List.contains_eq_mem, decide_eq_false_iff_not] at hk2 ⊢; simp; rintro rfl; exact hk2 hx) ks2 (fun _ h => h) hl2 a' w' h'.2⟩) hw
  | x :: r, hl, hc, a, w, h => by
    have hx : x < ops.size := hl x (by simp)
    have hi : ops[x]? = some ops[x] := Array.getElem?_eq_getElem hx
    simp only [List.cons_append] at h ⊢
    rw [pick_one hi (r ++ [k])] at h
    have hw : wpOp P ops (EndsAt fun a w => S w ∧ wpList P ops Q (pickOps ops ks2) a w) x (wpList P ops (EndsAt fun a w => S w ∧ wpList P ops Q (pickOps ops ks2) a w) (pickOps ops (r ++ [k]))) a w := by unfold wpOp; simp only [hi]; exact h
    have hne : x ≠ k := fun e => by subst e; simp at hc
    exact wpOp_endsAt (fun a' w' h' => ⟨fun hm => (by simp at hm; exact absurd hm hne), wpSeqM_split hk2 hl2 r (fun y hy => hl y (by simp at hy ⊢; exact .inr hy)) (by simp at hc ⊢; exact hc.2) a' w' h'⟩) hw

def ltAll (ops : Array Oper) (l : List Nat) : Bool := l.all fun k => decide (k < ops.size)
theorem ltAll_spec {l : List Nat} (h : ltAll ops l = true) : ∀ k ∈ l, k < ops.size := fun k hk => by
  unfold ltAll at h
  exact of_decide_eq_true (List.all_eq_true.1 h k hk)

/-- 'wp_region_lex', where one forced operation (k) writes -/
theorem wp_region_lex1 {id : Nat} {l : List Oper} {a : Act} {w : World} (S : World → Prop) (reads ks1 : List Nat) (k : Nat) (ks2 : List Nat) (hm : P.follows .mixedOrders = true)
    (hB : lexOKM .any l.toArray reads (ks1 ++ k :: ks2) [k] = true) (hlt : (ltAll l.toArray (ks1 ++ [k]) && ltAll l.toArray ks2 && !ks1.contains k && !ks2.contains k) = true) (hlen : reads.length + (ks1 ++ k :: ks2).length = l.length) (hSx : ∀ w w', Ext w w' → S w → S w') (hS : S w.drew)
    (h : ∀ Q' : Exit → Act → World → Prop, (∀ a w, Q .normal a w → Q' .normal a w) → wpReads P l.toArray S (fun a' => wpList P l.toArray (EndsAt fun a w => S w ∧ wpList P l.toArray Q' (pickOps l.toArray ks2) a w) (pickOps l.toArray (ks1 ++ [k])) a' w.drew) (pickOps l.toArray reads) a) : (Code.region id l.toArray true).wp P Q a w := by
  refine wp_region_noPanic ?_
  refine wp_region_any hm ?_
  simp only [lexOKM, Bool.and_eq_true, List.all_eq_true, List.mem_range, Bool.or_eq_true, Bool.not_eq_true'] at hB
  obtain ⟨⟨⟨hsel, hbe⟩, hd⟩, hl⟩ := hB
  simp only [Bool.and_eq_true, Bool.not_eq_true'] at hlt
  obtain ⟨⟨⟨hl1, hl2⟩, hc1⟩, hc2⟩ := hlt
  refine wpAny_of_T (S := S) (B := fun j => madeB l.toArray j || reads.contains j || [k].contains j) _ _ _ _ ?_
  have hr : ∀ (rs : List Oper) (a : Act), wpReads P l.toArray S (fun a' => wpList P l.toArray (EndsAt fun a w => S w ∧ wpList P l.toArray (NoPanic Q) (pickOps l.toArray ks2) a w) (pickOps l.toArray (ks1 ++ [k])) a' w.drew) rs a →
      wpReads P l.toArray S (fun a' => wpSeqM P l.toArray (NoPanic Q) S [k] (ks1 ++ k :: ks2) a' w.drew) rs a := by
    intro rs
    induction rs with
    | nil => exact fun a h => wpSeqM_split hc2 (ltAll_spec hl2) ks1 (ltAll_spec hl1) hc1 a _ h
    | cons o r ih => exact fun a ⟨v, hy, h⟩ => ⟨v, hy, ih _ h⟩
  have key := wpAnyT_lexM (P := P) (md := .any) (Q := NoPanic Q) (S := S) (reads := reads) (tail := ks1 ++ k :: ks2) (M := [k]) hsel (fun c a a' w h => h) (fun i hi hany j hj => by
    rcases hbe i hi with h0 | h0
    · rw [hany] at h0; cases h0
    rcases h0 j hj with ((h1 | h1) | h1) | h1
    · exact .inl h1
    · exact .inr (.inl h1)
    · exact .inr (.inr (.inl h1))
    · exact .inr (.inr (.inr h1))) hd hSx reads (Array.replicate l.toArray.size false) a { w with drawn := w.drawn + 1 } (fun _ h => h)
    (fun j oj _ hl => by rw [getD_replicate_false] at hl; cases hl) hl hS (hr _ _ (h (NoPanic Q) (fun _ _ h => NoPanic.normal h)))
  rw [hlen] at key
  simpa using key
end
end Go.Proofs.Ytifhnealecndnaa
