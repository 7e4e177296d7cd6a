/- A region that draws its order: first what only reads, beside a forced row of operations whose last one writes (after it the fact that the readers lean on is shown anew); then a plan of stages. No program in sight. -/
import Derived.Test.YtifhnealecndnaaSoft
import Derived.Test.YtifhnealecndnaaLex2
namespace Go.Proofs.Ytifhnealecndnaa
section
variable {P : Program} {md : Region.Mode} {ops : Array Oper} {Q : Exit → Act → World → Prop} {S : World → Prop}

theorem wpAnyT_of_any {B : Nat → Bool} (hSx : ∀ w w', Ext w w' → S w → S w') : ∀ (fuel : Nat) (listed : Array Bool) (a : Act) (w : World), (∀ j, j < ops.size → listed.getD j false = false → B j = true → madeB ops j = true) →
    wpAny P md ops Q fuel listed a w → wpAnyT P md ops Q S B fuel listed a w
  | 0, _, _, _, _, h => h
  | fuel + 1, listed, a, w, hB, h => ⟨h.1, fun i hi => by
    have hB' : ∀ j, j < ops.size → (listed.setIfInBounds i true).getD j false = false → B j = true → madeB ops j = true := fun j hj hl => hB j hj (by
      cases hx : listed.getD j false with
      | false => rfl
      | true => rw [getD_set_true hx] at hl; cases hl)
    have h1 := h.2 i hi
    by_cases hb : B i = true
    · have hm := hB i (ready_lt hi) (getD_both (mem_ready.1 hi).1) hb
      obtain ⟨o, ho, hmo⟩ := madeB_some hm
      exact wpOp_mono (fun a' w' h' => ⟨fun _ hS => hSx _ _ h'.1 hS, wpAnyT_of_any hSx fuel _ a' w' hB' h'.2⟩) (wpOp_makes ho hmo h1)
    · exact wpOp_mono (fun a' w' h' => ⟨fun hbb => absurd hbb hb, wpAnyT_of_any hSx fuel _ a' w' hB' h'⟩) h1⟩

/-- the forced ones, one behind the other; behind those in M the fact S stands; then K -/
def wpSeqK (P : Program) (ops : Array Oper) (Q : Exit → Act → World → Prop) (S : World → Prop) (M : List Nat) (K : Act → World → Prop) : List Nat → Act → World → Prop
  | [], a, w => K a w
  | k :: r, a, w => wpOp P ops Q k (fun a' w' => (M.contains k = true → S w') ∧ wpSeqK P ops Q S M K r a' w') a w

def restOK (ops : Array Oper) (reads M : List Nat) (l : Array Bool) : Bool := (List.range ops.size).all fun j => l.getD j false || !(reads.contains j || M.contains j)

theorem wpAnyT_of_seqK {reads M : List Nat} {p : List (List Nat × List Nat)} (hsel : Region.noSelect ops = true) (hSx : ∀ w w', Ext w w' → S w → S w') : ∀ (ks : List Nat) (listed : Array Bool) (a : Act) (w : World), closedL md ops listed →
    (∀ k ∈ ks, (madeB ops k || reads.contains k || M.contains k) = true → madeB ops k = true ∨ M.contains k = true) → stageTail md ops (fun l => restOK ops reads M l && planOK md ops p l) ks listed = true → wpSeqK P ops Q S M (wpPlan P ops Q p) ks a w →
    wpAnyT P md ops Q S (fun j => madeB ops j || reads.contains j || M.contains j) (ks.length + planLen p) listed a w
  | [], listed, a, w, hcl, _, hB, h => by
    simp only [stageTail, restOK, Bool.and_eq_true, List.all_eq_true, List.mem_range, Bool.or_eq_true, Bool.not_eq_true'] at hB
    rw [show ([] : List Nat).length + planLen p = planLen p by simp]
    refine wpAnyT_of_any hSx _ _ _ _ (fun j hj hl hb => ?_) (wpAny_plan hsel p listed a w hcl hB.2 h)
    rcases hB.1 j hj with h1 | h1
    · rw [hl] at h1; cases h1
    · rw [Bool.or_eq_false_iff] at h1
      rw [h1.1, h1.2] at hb
      simpa using hb
  | k :: ks, listed, a, w, hcl, hmk, hB, h => by
    simp only [stageTail, Bool.and_eq_true, decide_eq_true_eq] at hB
    have hrdy : k ∈ Region.ready md ops listed := by rw [hB.1]; simp
    rw [show (k :: ks).length + planLen p = (ks.length + planLen p) + 1 by simp; omega]
    refine ⟨fun h1 => (by rw [hB.1] at h1; cases h1), fun i hi => ?_⟩
    rw [hB.1] at hi
    have hik : i = k := by simpa using hi
    subst hik
    have hw : wpOp P ops Q i (fun a' w' => (M.contains i = true → S w') ∧ wpSeqK P ops Q S M (wpPlan P ops Q p) ks a' w') a w := h
    have step := fun a' w' h' => wpAnyT_of_seqK (reads := reads) (p := p) hsel hSx ks (listed.setIfInBounds i true) a' w' (closedL_set hcl hrdy) (fun k hk => hmk k (by simp [hk])) hB.2 h'
    by_cases hb : (madeB ops i || reads.contains i || M.contains i) = true
    · rcases hmk i (by simp) hb with hm | hm
      · obtain ⟨o, ho, hmo⟩ := madeB_some hm
        exact wpOp_mono (fun a' w' h' => ⟨fun _ hS => hSx _ _ h'.1 hS, step a' w' h'.2.2⟩) (wpOp_makes ho hmo hw)
      · exact wpOp_mono (fun a' w' h' => ⟨fun _ _ => h'.1 hm, step a' w' h'.2⟩) hw
    · exact wpOp_mono (fun a' w' h' => ⟨fun hbb => absurd hbb hb, step a' w' h'.2⟩) hw

def mixOK (md : Region.Mode) (ops : Array Oper) (reads ks M : List Nat) (p : List (List Nat × List Nat)) : Bool :=
  Region.noSelect ops && (reads.all fun i => anyAt ops i || (List.range ops.size).all fun j => madeB ops j || reads.contains j || M.contains j || behindB md ops ops.size j i) &&
  (ks.all fun k => !reads.contains k) && stageHead md ops (stageTail md ops (fun l => restOK ops reads M l && planOK md ops p l) ks) reads (Array.replicate ops.size false)

theorem wpAnyT_mix {reads ks M : List Nat} {p : List (List Nat × List Nat)} (hsel : Region.noSelect ops = true) (hQ : ∀ c a a' w, Q (.panic c) a w → Q (.panic c) a' w)
    (hbe : ∀ i ∈ reads, anyAt ops i = false → ∀ j, j < ops.size → madeB ops j = true ∨ reads.contains j = true ∨ M.contains j = true ∨ behindB md ops ops.size j i = true) (hd : ∀ k ∈ ks, reads.contains k = false) (hSx : ∀ w w', Ext w w' → S w → S w') :
    ∀ (r : List Nat) (listed : Array Bool) (a : Act) (w : World), (∀ i ∈ r, i ∈ reads) → closedL md ops listed → stageHead md ops (stageTail md ops (fun l => restOK ops reads M l && planOK md ops p l) ks) r listed = true → S w →
      wpReads P ops S (fun a' => wpSeqK P ops Q S M (wpPlan P ops Q p) ks a' w) (pickOps ops r) a →
      wpAnyT P md ops Q S (fun j => madeB ops j || reads.contains j || M.contains j) (r.length + (ks.length + planLen p)) listed a w
  | [], listed, a, w, _, hcl, hB, _, h => by
    rw [show ([] : List Nat).length + (ks.length + planLen p) = ks.length + planLen p by simp]
    refine wpAnyT_of_seqK hsel hSx ks listed a w hcl (fun k hk hb => ?_) hB h
    rw [hd k hk, Bool.or_false, Bool.or_eq_true] at hb
    exact hb
  | i :: r, listed, a, w, hr, hcl, hB, hS, h => by
    simp only [stageHead, Bool.and_eq_true] at hB
    obtain ⟨⟨hrdy, hfree⟩, hB'⟩ := hB
    have hrdy' : i ∈ Region.ready md ops listed := by simpa using hrdy
    have hlt := ready_lt hrdy'
    have hi : ops[i]? = some ops[i] := Array.getElem?_eq_getElem hlt
    have hp : pickOps ops (i :: r) = ops[i] :: pickOps ops r := pick_one hi r
    rw [hp] at h
    obtain ⟨v, hy, hK⟩ := h
    rw [show (i :: r).length + (ks.length + planLen p) = (r.length + (ks.length + planLen p)) + 1 by simp; omega]
    refine wpAnyT_first (S' := fun w => anyB ops[i] = true ∨ S w) hi (Region.noSelect_spec hsel) (fun c a w h => hQ c _ _ w h) (fun j listed w w' hc hj hiun hb hS => ?_) (fun w _ _ h => h) _ listed a w hcl (Region.free_spec hi hfree) hrdy' hy (.inr hS) ?_
    · rcases hS with hS | hS
      · exact .inl hS
      · cases hany : anyB ops[i] with
        | true => exact .inl rfl
        | false =>
          right
          rcases hbe i (hr i (by simp)) (by unfold anyAt; rw [hi]; exact hany) j (ready_lt hj) with h1 | h1 | h1 | h1
          · exact hb (by simp [h1]) hS
          · exact hb (by rw [h1]; simp) hS
          · exact hb (by rw [h1]; simp) hS
          · have := behind_ready hc h1 hj
            rw [hiun] at this
            cases this
    · exact wpAnyT_mix hsel hQ hbe hd hSx r _ _ w (fun x hx => hr x (by simp [hx])) (closedL_set hcl hrdy') hB' hS hK

theorem wpSeqK_split {k : Nat} {K : Act → World → Prop} : ∀ (ks1 : List Nat), (∀ x ∈ ks1 ++ [k], x < ops.size) → ks1.contains k = false → ∀ (a : Act) (w : World),
    wpList P ops (EndK Q fun a w => S w ∧ K a w) (pickOps ops (ks1 ++ [k])) a w → wpSeqK P ops Q S [k] K (ks1 ++ [k]) a w
  | [], hl, _, a, w, h => by
    have hk : k < ops.size := hl k (by simp)
    have hi : ops[k]? = some ops[k] := Array.getElem?_eq_getElem hk
    simp only [List.nil_append] at h ⊢
    rw [pick_one hi []] at h
    have hw : wpOp P ops (EndK Q fun a w => S w ∧ K a w) k (wpList P ops (EndK Q fun a w => S w ∧ K a w) (pickOps ops [])) a w := by unfold wpOp; simp only [hi]; exact h
    exact wpOp_endK (fun a' w' h' => ⟨fun _ => h'.1, h'.2⟩) hw
  | x :: r, hl, hc, a, w, h => by
    have hx : x < ops.size := hl x (by simp)
    have hi : ops[x]? = some ops[x] := Array.getElem?_eq_getElem hx
    simp only [List.cons_append] at h ⊢
    rw [pick_one hi (r ++ [k])] at h
    have hw : wpOp P ops (EndK Q fun a w => S w ∧ K a w) x (wpList P ops (EndK Q fun a w => S w ∧ K a w) (pickOps ops (r ++ [k]))) a w := by unfold wpOp; simp only [hi]; exact h
    have hne : x ≠ k := fun e => by subst e; simp at hc
    exact wpOp_endK (fun a' w' h' => ⟨fun hm => (by simp at hm; exact absurd hm hne), wpSeqK_split r (fun y hy => hl y (by simp at hy ⊢; exact .inr hy)) (by simp at hc ⊢; exact hc.2) a' w' h'⟩) hw

/-- the law: reads, beside ks1 and k (which writes), then a plan -/
theorem wp_region_mix {id : Nat} {l : List Oper} {a : Act} {w : World} (S : World → Prop) (reads ks1 : List Nat) (k : Nat) (p : List (List Nat × List Nat)) (hm : P.follows .mixedOrders = true)
    (hB : mixOK .any l.toArray reads (ks1 ++ [k]) [k] p = true) (hlt : (ltAll l.toArray (ks1 ++ [k]) && !ks1.contains k) = true) (hlen : reads.length + ((ks1 ++ [k]).length + planLen p) = l.length) (hSx : ∀ w w', Ext w w' → S w → S w') (hS : S w.drew)
    (h : ∀ Q' : Exit → Act → World → Prop, (∀ a w, Q .normal a w → Q' .normal a w) → wpReads P l.toArray S (fun a' => wpList P l.toArray (EndK Q' fun a w => S w ∧ wpPlan P l.toArray Q' p a w) (pickOps l.toArray (ks1 ++ [k])) a' w.drew) (pickOps l.toArray reads) a) : (Code.region id l.toArray true).wp P Q a w := by
  refine wp_region_noPanic ?_
  refine wp_region_any hm ?_
  simp only [mixOK, Bool.and_eq_true, List.all_eq_true, List.mem_range, Bool.or_eq_true, Bool.not_eq_true'] at hB
  obtain ⟨⟨⟨hsel, hbe⟩, hd⟩, hl⟩ := hB
  simp only [Bool.and_eq_true, Bool.not_eq_true'] at hlt
  refine wpAny_of_T (S := S) (B := fun j => madeB l.toArray j || reads.contains j || [k].contains j) _ _ _ _ ?_
  have hr : ∀ (rs : List Oper) (a : Act), wpReads P l.toArray S (fun a' => wpList P l.toArray (EndK (NoPanic Q) fun a w => S w ∧ wpPlan P l.toArray (NoPanic Q) p a w) (pickOps l.toArray (ks1 ++ [k])) a' w.drew) rs a →
      wpReads P l.toArray S (fun a' => wpSeqK P l.toArray (NoPanic Q) S [k] (wpPlan P l.toArray (NoPanic Q) p) (ks1 ++ [k]) a' w.drew) rs a := by
    intro rs
    induction rs with
    | nil => exact fun a h => wpSeqK_split ks1 (ltAll_spec hlt.1) hlt.2 a _ h
    | cons o r ih => exact fun a ⟨v, hy, h⟩ => ⟨v, hy, ih _ h⟩
  have key := wpAnyT_mix (P := P) (md := .any) (Q := NoPanic Q) (S := S) (reads := reads) (ks := ks1 ++ [k]) (M := [k]) (p := p) hsel (fun c a a' w h => h) (fun i hi hany j hj => by
    rcases hbe i hi with h0 | h0
    · rw [hany] at h0; cases h0
    rcases h0 j hj with ((h1 | h1) | h1) | h1
    · exact .inl h1
    · exact .inr (.inl h1)
    · exact .inr (.inr (.inl h1))
    · exact .inr (.inr (.inr h1))) hd hSx reads (Array.replicate l.toArray.size false) a { w with drawn := w.drawn + 1 } (fun _ h => h)
    (fun j oj _ hl => by rw [getD_replicate_false] at hl; cases hl) hl hS (hr _ _ (h (NoPanic Q) (fun _ _ h => NoPanic.normal h)))
  rw [hlen] at key
  simpa using key
end
end Go.Proofs.Ytifhnealecndnaa
