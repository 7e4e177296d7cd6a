/- A region that draws its order: first what only reads; the rest in whatever order, step by step. No program in sight. -/
import Derived.Test.YtbmbfifempkhgaaReg
namespace Go.Proofs.Ytbmbfifempkhgaa
section
variable {P : Program} {md : Region.Mode} {ops : Array Oper} {Q : Exit → Act → World → Prop} {S : World → Prop}

def setAll (l : Array Bool) (r : List Nat) : Array Bool := r.foldl (fun l i => l.setIfInBounds i true) l
def bsOf (ops : Array Oper) (reads M : List Nat) (j : Nat) : Bool := madeB ops j || reads.contains j || M.contains j
def restsOK (md : Region.Mode) (ops : Array Oper) (reads M : List Nat) : Bool :=
  Region.noSelect ops && (reads.all fun i => anyAt ops i || (List.range ops.size).all fun j => madeB ops j || reads.contains j || M.contains j || behindB md ops ops.size j i) &&
  stageHead md ops (fun _ => true) reads (Array.replicate ops.size false)

theorem wpAnyT_reads {reads M : List Nat} {n : Nat} (hsel : Region.noSelect ops = true) (hQ : ∀ c a a' w, Q (.panic c) a w → Q (.panic c) a' w)
    (hbe : ∀ i ∈ reads, anyAt ops i = false → ∀ j, j < ops.size → madeB ops j = true ∨ reads.contains j = true ∨ M.contains j = true ∨ behindB md ops ops.size j i = true) :
    ∀ (r : List Nat) (listed : Array Bool) (a : Act) (w : World), (∀ i ∈ r, i ∈ reads) → closedL md ops listed → stageHead md ops (fun _ => true) r listed = true → S w →
      wpReads P ops S (fun a' => wpAnyT P md ops Q S (bsOf ops reads M) n (setAll listed r) a' w) (pickOps ops r) a →
      wpAnyT P md ops Q S (bsOf ops reads M) (r.length + n) listed a w
  | [], listed, a, w, _, _, _, _, h => by
    rw [show ([] : List Nat).length + n = n by simp]
    exact h
  | i :: r, listed, a, w, hr, hcl, hB, hS, h => by
    simp only [stageHead, Bool.and_eq_true] at hB
    obtain ⟨⟨hrdy, hfree⟩, hB'⟩ := hB
    have hrdy' : i ∈ Region.ready md ops listed := by simpa using hrdy
    have hlt := ready_lt hrdy'
    have hi : ops[i]? = some ops[i] := Array.getElem?_eq_getElem hlt
    have hp : pickOps ops (i :: r) = ops[i] :: pickOps ops r := pick_one hi r
    rw [hp] at h
    obtain ⟨v, hy, hK⟩ := h
    rw [show (i :: r).length + n = (r.length + n) + 1 by simp; omega]
    refine wpAnyT_first (S' := fun w => anyB ops[i] = true ∨ S w) hi (Region.noSelect_spec hsel) (fun c a w h => hQ c _ _ w h) (fun j listed w w' hc hj hiun hb hS => ?_) (fun w _ _ h => h) _ listed a w hcl (Region.free_spec hi hfree) hrdy' hy (.inr hS) ?_
    · rcases hS with hS | hS
      · exact .inl hS
      · cases hany : anyB ops[i] with
        | true => exact .inl rfl
        | false =>
          right
          rcases hbe i (hr i (by simp)) (by unfold anyAt; rw [hi]; exact hany) j (ready_lt hj) with h1 | h1 | h1 | h1
          · exact hb (by simp [bsOf, h1]) hS
          · exact hb (by unfold bsOf; rw [h1]; simp) hS
          · exact hb (by unfold bsOf; rw [h1]; simp) hS
          · have := behind_ready hc h1 hj
            rw [hiun] at this
            cases this
    · exact wpAnyT_reads hsel hQ hbe r _ _ w (fun x hx => hr x (by simp [hx])) (closedL_set hcl hrdy') hB' hS hK

/-- the law: reads first, then the rest in whatever order (M: those of the rest after which S is shown) -/
theorem wp_region_rest {id : Nat} {l : List Oper} {a : Act} {w : World} (S : World → Prop) (reads M : List Nat) (n : Nat) (hm : P.follows .mixedOrders = true)
    (hB : restsOK .any l.toArray reads M = true) (hlen : reads.length + n = l.length) (hS : S w.drew)
    (h : ∀ Q' : Exit → Act → World → Prop, (∀ a w, Q .normal a w → Q' .normal a w) → wpReads P l.toArray S (fun a' => wpAnyT P .any l.toArray Q' S (bsOf l.toArray reads M) n (setAll (Array.replicate l.length false) reads) a' w.drew) (pickOps l.toArray reads) a) : (Code.region id l.toArray true).wp P Q a w := by
  refine wp_region_noPanic ?_
  refine wp_region_any hm ?_
  simp only [restsOK, Bool.and_eq_true, List.all_eq_true, List.mem_range, Bool.or_eq_true] at hB
  obtain ⟨⟨hsel, hbe⟩, hl⟩ := hB
  refine wpAny_of_T (S := S) (B := bsOf l.toArray reads M) _ _ _ _ ?_
  have key := wpAnyT_reads (P := P) (md := .any) (Q := NoPanic Q) (S := S) (reads := reads) (M := M) (n := n) hsel (fun c a a' w h => h) (fun i hi hany j hj => by
    rcases hbe i hi with h0 | h0
    · rw [hany] at h0; cases h0
    rcases h0 j hj with ((h1 | h1) | h1) | h1
    · exact .inl h1
    · exact .inr (.inl h1)
    · exact .inr (.inr (.inl h1))
    · exact .inr (.inr (.inr h1))) reads (Array.replicate l.toArray.size false) a { w with drawn := w.drawn + 1 } (fun _ h => h)
    (fun j oj _ hl => by rw [getD_replicate_false] at hl; cases hl) hl hS (by simpa using h (NoPanic Q) (fun _ _ h => NoPanic.normal h))
  rw [hlen] at key
  simpa using key

theorem wpOp_of_list {i : Nat} {K : Act → World → Prop} {a : Act} {w : World} (hi : i < ops.size) (h : wpList P ops (EndK Q K) (pickOps ops [i]) a w) : wpOp P ops Q i K a w := by
  have ho : ops[i]? = some ops[i] := Array.getElem?_eq_getElem hi
  rw [pick_one ho []] at h
  have hw : wpOp P ops (EndK Q K) i (wpList P ops (EndK Q K) (pickOps ops [])) a w := by unfold wpOp; simp only [ho]; exact h
  exact wpOp_endK (fun a' w' h' => h') hw

/-- one is ready -/
theorem wpAnyT_one {B : Nat → Bool} {n i : Nat} {listed : Array Bool} {a : Act} {w : World} (hr : Region.ready md ops listed = [i]) (h : wpList P ops (EndK Q fun a' w' => (B i = true → S w → S w') ∧ wpAnyT P md ops Q S B n (listed.setIfInBounds i true) a' w') (pickOps ops [i]) a w) : wpAnyT P md ops Q S B (n + 1) listed a w := by
  have hi : i ∈ Region.ready md ops listed := by rw [hr]; simp
  refine ⟨fun h0 => (by rw [h0] at hr; cases hr), fun j hj => ?_⟩
  rw [hr] at hj
  obtain rfl : j = i := by simpa using hj
  exact wpOp_of_list (ready_lt hi) h
/-- two are ready -/
theorem wpAnyT_two {B : Nat → Bool} {n i k : Nat} {listed : Array Bool} {a : Act} {w : World} (hr : Region.ready md ops listed = [i, k]) (h : wpList P ops (EndK Q fun a' w' => (B i = true → S w → S w') ∧ wpAnyT P md ops Q S B n (listed.setIfInBounds i true) a' w') (pickOps ops [i]) a w)
    (h' : wpList P ops (EndK Q fun a' w' => (B k = true → S w → S w') ∧ wpAnyT P md ops Q S B n (listed.setIfInBounds k true) a' w') (pickOps ops [k]) a w) : wpAnyT P md ops Q S B (n + 1) listed a w := by
  have hi : i ∈ Region.ready md ops listed := by rw [hr]; simp
  have hk : k ∈ Region.ready md ops listed := by rw [hr]; simp
  refine ⟨fun h0 => (by rw [h0] at hr; cases hr), fun j hj => ?_⟩
  rw [hr] at hj
  rcases List.mem_cons.1 hj with rfl | hj
  · exact wpOp_of_list (ready_lt hi) h
  · obtain rfl : j = k := by simpa using hj
    exact wpOp_of_list (ready_lt hk) h'
/-- from here on all is in a forced order, and S is wanted no more -/
theorem wpAnyT_list {reads M : List Nat} {ks : List Nat} {listed : Array Bool} {a : Act} {w : World} (hSx : ∀ w w', Ext w w' → S w → S w') (hB : (stageTail md ops (fun l => (Region.ready md ops l).isEmpty) ks listed && ks.all fun k => !(reads.contains k || M.contains k)) = true) (h : wpList P ops Q (pickOps ops ks) a w) : wpAnyT P md ops Q S (bsOf ops reads M) ks.length listed a w := by
  simp only [Bool.and_eq_true, List.all_eq_true, Bool.not_eq_true'] at hB
  have go : ∀ (ks : List Nat) (listed : Array Bool) (a : Act) (w : World), stageTail md ops (fun l => (Region.ready md ops l).isEmpty) ks listed = true → (∀ k ∈ ks, (reads.contains k || M.contains k) = false) → wpList P ops Q (pickOps ops ks) a w → wpAnyT P md ops Q S (bsOf ops reads M) ks.length listed a w := by
    intro ks
    induction ks with
    | nil => exact fun listed a w h1 _ h => ⟨by simpa [stageTail] using h1, h⟩
    | cons k r ih =>
      intro listed a w h1 h2 h
      simp only [stageTail, Bool.and_eq_true, decide_eq_true_eq] at h1
      have hrdy : k ∈ Region.ready md ops listed := by rw [h1.1]; simp
      have hlt := ready_lt hrdy
      have ho : ops[k]? = some ops[k] := Array.getElem?_eq_getElem hlt
      rw [pick_one ho r] at h
      refine ⟨fun h0 => (by rw [h0] at h1; cases h1.1), fun j hj => ?_⟩
      rw [h1.1] at hj
      obtain rfl : j = k := by simpa using hj
      have hw : wpOp P ops Q j (wpList P ops Q (pickOps ops r)) a w := by unfold wpOp; simp only [ho]; exact h
      by_cases hm : madeB ops j = true
      · obtain ⟨o, ho', hmo⟩ := madeB_some hm
        exact wpOp_mono (fun a' w' h' => ⟨fun _ hS => hSx _ _ h'.1 hS, ih _ a' w' h1.2 (fun x hx => h2 x (by simp [hx])) h'.2⟩) (wpOp_makes ho' hmo hw)
      · have hf : bsOf ops reads M j = false := by
          have h3 := h2 j (by simp)
          rw [Bool.or_eq_false_iff] at h3
          unfold bsOf
          rw [h3.1, h3.2]
          simpa using hm
        exact wpOp_mono (fun a' w' h' => ⟨fun hb => (by rw [hf] at hb; cases hb), ih _ a' w' h1.2 (fun x hx => h2 x (by simp [hx])) h'⟩) hw
  exact go ks listed a w hB.1 (fun k hk => hB.2 k hk) h
end
end Go.Proofs.Ytbmbfifempkhgaa
