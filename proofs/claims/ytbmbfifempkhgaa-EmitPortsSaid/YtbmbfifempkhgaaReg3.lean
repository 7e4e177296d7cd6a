/- A region that draws its order: what only reads, one call, what only looks at its answer, the rest in whatever order. No program in sight. -/
import Derived.Test.YtbmbfifempkhgaaReg2
namespace Go.Proofs.Ytbmbfifempkhgaa
section
variable {P : Program} {md : Region.Mode} {ops : Array Oper} {Q : Exit → Act → World → Prop} {S : World → Prop}

theorem closedL_setAll : ∀ (r : List Nat) (listed : Array Bool), closedL md ops listed → stageHead md ops (fun _ => true) r listed = true → closedL md ops (setAll listed r)
  | [], _, h, _ => h
  | i :: r, listed, h, hB => by
    simp only [stageHead, Bool.and_eq_true] at hB
    obtain ⟨⟨hrdy, _⟩, hB'⟩ := hB
    have hrdy' : i ∈ Region.ready md ops listed := by simpa using hrdy
    exact closedL_setAll r _ (closedL_set h hrdy') hB'

theorem wpReads_mono {Q' : Act → Prop} {Q : Act → Prop} (hq : ∀ a, Q a → Q' a) : ∀ (l : List Oper) (a : Act), wpReads P ops S Q l a → wpReads P ops S Q' l a
  | [], a, h => hq a h
  | o :: r, a, ⟨v, hy, hk⟩ => ⟨v, hy, wpReads_mono hq r _ hk⟩

theorem wpOp_of_listK {i : Nat} {K K0 : Act → World → Prop} {a : Act} {w : World} (hi : i < ops.size) (hK : ∀ a w, K0 a w → K a w) (h : wpList P ops (EndK Q K0) (pickOps ops [i]) a w) : wpOp P ops Q i K a w := by
  have ho : ops[i]? = some ops[i] := Array.getElem?_eq_getElem hi
  rw [pick_one ho []] at h
  have hw : wpOp P ops (EndK Q K0) i (wpList P ops (EndK Q K0) (pickOps ops [])) a w := by unfold wpOp; simp only [ho]; exact h
  exact wpOp_endK (fun a' w' h' => hK a' w' h') hw

def midOK (md : Region.Mode) (ops : Array Oper) (r1 : List Nat) (k : Nat) (r2 M : List Nat) : Bool :=
  Region.noSelect ops && ((r1 ++ r2).all fun i => anyAt ops i || (List.range ops.size).all fun j => madeB ops j || (r1 ++ r2).contains j || M.contains j || behindB md ops ops.size j i) &&
  stageHead md ops (fun _ => true) r1 (Array.replicate ops.size false) && decide (Region.ready md ops (setAll (Array.replicate ops.size false) r1) = [k]) &&
  stageHead md ops (fun _ => true) r2 ((setAll (Array.replicate ops.size false) r1).setIfInBounds k true)

theorem wp_region_mid {id : Nat} {l : List Oper} {a : Act} {w : World} (S : World → Prop) (r1 : List Nat) (k : Nat) (r2 M : List Nat) (n : Nat) (hm : P.follows .mixedOrders = true)
    (hB : midOK .any l.toArray r1 k r2 M = true) (hlen : r1.length + ((r2.length + n) + 1) = l.length) (hS : S w.drew)
    (h : ∀ Q' : Exit → Act → World → Prop, (∀ a w, Q .normal a w → Q' .normal a w) → wpReads P l.toArray S (fun a' => wpList P l.toArray (EndK Q' fun a1 w1 => S w1 ∧ wpReads P l.toArray S (fun a2 => wpAnyT P .any l.toArray Q' S (bsOf l.toArray (r1 ++ r2) M) n (setAll ((setAll (Array.replicate l.length false) r1).setIfInBounds k true) r2) a2 w1) (pickOps l.toArray r2) a1) (pickOps l.toArray [k]) a' w.drew) (pickOps l.toArray r1) a) :
    (Code.region id l.toArray true).wp P Q a w := by
  refine wp_region_noPanic ?_
  refine wp_region_any hm ?_
  simp only [midOK, Bool.and_eq_true, List.all_eq_true, List.mem_range, Bool.or_eq_true, decide_eq_true_eq] at hB
  obtain ⟨⟨⟨⟨hsel, hbe⟩, h1⟩, hk⟩, h2⟩ := hB
  refine wpAny_of_T (S := S) (B := bsOf l.toArray (r1 ++ r2) M) _ _ _ _ ?_
  have hbe' : ∀ i ∈ (r1 ++ r2), anyAt l.toArray i = false → ∀ j, j < l.toArray.size → madeB l.toArray j = true ∨ (r1 ++ r2).contains j = true ∨ M.contains j = true ∨ behindB .any l.toArray l.toArray.size j i = true := fun i hi hany j hj => by
    rcases hbe i hi with h0 | h0
    · rw [hany] at h0; cases h0
    rcases h0 j hj with ((h1 | h1) | h1) | h1
    · exact .inl h1
    · exact .inr (.inl h1)
    · exact .inr (.inr (.inl h1))
    · exact .inr (.inr (.inr h1))
  have hcl0 : closedL .any l.toArray (Array.replicate l.toArray.size false) := fun j oj _ hl => by rw [getD_replicate_false] at hl; cases hl
  have hcl1 := closedL_setAll r1 _ hcl0 h1
  have hkr : k ∈ Region.ready .any l.toArray (setAll (Array.replicate l.toArray.size false) r1) := by rw [hk]; simp
  have hcl2 := closedL_set hcl1 hkr
  have hh := h (NoPanic Q) (fun _ _ h => NoPanic.normal h)
  have key := wpAnyT_reads (P := P) (md := .any) (Q := NoPanic Q) (S := S) (reads := r1 ++ r2) (M := M) (n := (r2.length + n) + 1) hsel (fun c a a' w h => h) hbe' r1 (Array.replicate l.toArray.size false) a { w with drawn := w.drawn + 1 } (fun i hi => by simp [hi]) hcl0 h1 hS
  rw [hlen] at key
  have hk' : Region.ready .any l.toArray (setAll (Array.replicate l.toArray.size false) r1) = [k] := hk
  have go : wpReads P l.toArray S (fun a' => wpAnyT P .any l.toArray (NoPanic Q) S (bsOf l.toArray (r1 ++ r2) M) (r2.length + n + 1) (setAll (Array.replicate l.toArray.size false) r1) a' { w with drawn := w.drawn + 1 }) (pickOps l.toArray r1) a := by
    refine wpReads_mono (fun a' ha' => ?_) _ _ hh
    refine ⟨fun h0 => (by rw [h0] at hk'; cases hk'), fun j hj => ?_⟩
    rw [hk'] at hj
    obtain rfl : j = k := by simpa using hj
    refine wpOp_of_listK (ready_lt hkr) (fun a1 w1 h1' => ?_) ha'
    obtain ⟨hS1, hr2⟩ := h1'
    refine ⟨fun _ _ => hS1, ?_⟩
    exact wpAnyT_reads (P := P) (md := .any) (Q := NoPanic Q) (S := S) (reads := r1 ++ r2) (M := M) (n := n) hsel (fun c a a' w h => h) hbe' r2 _ a1 w1 (fun i hi => by simp [hi]) hcl2 h2 hS1 (by simpa using hr2)
  have := key go
  simpa using this
end
end Go.Proofs.Ytbmbfifempkhgaa
