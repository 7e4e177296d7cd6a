/- A region that draws its order: reads, then whatever is ready; what only looks at answers, later. No program in sight. -/
import Derived.Test.YtbmbfifempkhgaaReg3
namespace Go.Proofs.Ytbmbfifempkhgaa
section
variable {P : Program} {md : Region.Mode} {ops : Array Oper} {Q : Exit → Act → World → Prop} {S : World → Prop}

def closedB (md : Region.Mode) (ops : Array Oper) (listed : Array Bool) : Bool :=
  (List.range ops.size).all fun j => !(listed.getD j false) || (match ops[j]? with | none => true | some o => o.after.all fun e => !(Region.binds md e) || listed.getD e.on false)
theorem closedL_of_B {listed : Array Bool} (h : closedB md ops listed = true) : closedL md ops listed := by
  intro j oj hj hl e he hb
  have hlt := (Array.getElem?_eq_some_iff.1 hj).1
  have h1 := List.all_eq_true.1 h j (List.mem_range.2 hlt)
  rw [hl, hj] at h1
  simp only [Bool.not_true, Bool.false_or] at h1
  have h2 := Array.all_eq_true'.1 h1 e he
  rw [hb] at h2
  simpa using h2
def hbeB (md : Region.Mode) (ops : Array Oper) (reads M : List Nat) : Bool :=
  Region.noSelect ops && (reads.all fun i => anyAt ops i || (List.range ops.size).all fun j => madeB ops j || reads.contains j || M.contains j || behindB md ops ops.size j i)
theorem hbe_of {reads M : List Nat} (h : hbeB md ops reads M = true) : Region.noSelect ops = true ∧ ∀ i ∈ reads, anyAt ops i = false → ∀ j, j < ops.size → madeB ops j = true ∨ reads.contains j = true ∨ M.contains j = true ∨ behindB md ops ops.size j i = true := by
  simp only [hbeB, Bool.and_eq_true, List.all_eq_true, List.mem_range, Bool.or_eq_true] at h
  refine ⟨h.1, fun i hi hany j hj => ?_⟩
  rcases h.2 i hi with h0 | h0
  · rw [hany] at h0; cases h0
  rcases h0 j hj with ((h1 | h1) | h1) | h1
  · exact .inl h1
  · exact .inr (.inl h1)
  · exact .inr (.inr (.inl h1))
  · exact .inr (.inr (.inr h1))

theorem wp_region_drift {id : Nat} {l : List Oper} {a : Act} {w : World} (S : World → Prop) (reads M r : List Nat) (n : Nat) (hm : P.follows .mixedOrders = true)
    (hB : (hbeB .any l.toArray reads M && stageHead .any l.toArray (fun _ => true) r (Array.replicate l.toArray.size false) && r.all fun i => reads.contains i) = true) (hlen : r.length + n = l.length) (hS : S w.drew)
    (h : ∀ Q' : Exit → Act → World → Prop, (∀ a w, Q .normal a w → Q' .normal a w) → (∀ c a a' w, Q' (.panic c) a w → Q' (.panic c) a' w) → wpReads P l.toArray S (fun a' => wpAnyT P .any l.toArray Q' S (bsOf l.toArray reads M) n (setAll (Array.replicate l.length false) r) a' w.drew) (pickOps l.toArray r) a) : (Code.region id l.toArray true).wp P Q a w := by
  refine wp_region_noPanic ?_
  refine wp_region_any hm ?_
  simp only [Bool.and_eq_true] at hB
  obtain ⟨⟨hb, hl⟩, hr⟩ := hB
  obtain ⟨hsel, hbe⟩ := hbe_of hb
  refine wpAny_of_T (S := S) (B := bsOf l.toArray reads M) _ _ _ _ ?_
  have key := wpAnyT_reads (P := P) (md := .any) (Q := NoPanic Q) (S := S) (reads := reads) (M := M) (n := n) hsel (fun c a a' w h => h) hbe r (Array.replicate l.toArray.size false) a { w with drawn := w.drawn + 1 } (fun i hi => by simpa using List.all_eq_true.1 hr i hi)
    (fun j oj _ hl => by rw [getD_replicate_false] at hl; cases hl) hl hS (by simpa using h (NoPanic Q) (fun _ _ h => NoPanic.normal h) (fun c a a' w h => h))
  rw [hlen] at key
  simpa using key
/-- what looks at answers alone, in whatever order -/
theorem wpAnyT_later {reads M : List Nat} {r : List Nat} {n : Nat} {listed : Array Bool} {a : Act} {w : World} (hQ : ∀ c a a' w, Q (.panic c) a w → Q (.panic c) a' w)
    (hB : (hbeB md ops reads M && closedB md ops listed && stageHead md ops (fun _ => true) r listed && r.all fun i => reads.contains i) = true) (hS : S w) (h : wpReads P ops S (fun a' => wpAnyT P md ops Q S (bsOf ops reads M) n (setAll listed r) a' w) (pickOps ops r) a) : wpAnyT P md ops Q S (bsOf ops reads M) (r.length + n) listed a w := by
  simp only [Bool.and_eq_true] at hB
  obtain ⟨⟨⟨hb, hc⟩, hl⟩, hr⟩ := hB
  obtain ⟨hsel, hbe⟩ := hbe_of hb
  exact wpAnyT_reads hsel hQ hbe r listed a w (fun i hi => by simpa using List.all_eq_true.1 hr i hi) (closedL_of_B hc) hl hS h
/-- three are ready -/
theorem wpAnyT_three {B : Nat → Bool} {n i k m : Nat} {listed : Array Bool} {a : Act} {w : World} (hr : Region.ready md ops listed = [i, k, m]) (h : wpList P ops (EndK Q fun a' w' => (B i = true → S w → S w') ∧ wpAnyT P md ops Q S B n (listed.setIfInBounds i true) a' w') (pickOps ops [i]) a w)
    (h' : wpList P ops (EndK Q fun a' w' => (B k = true → S w → S w') ∧ wpAnyT P md ops Q S B n (listed.setIfInBounds k true) a' w') (pickOps ops [k]) a w)
    (h'' : wpList P ops (EndK Q fun a' w' => (B m = true → S w → S w') ∧ wpAnyT P md ops Q S B n (listed.setIfInBounds m true) a' w') (pickOps ops [m]) a w) : wpAnyT P md ops Q S B (n + 1) listed a w := by
  have hi : i ∈ Region.ready md ops listed := by rw [hr]; simp
  have hk : k ∈ Region.ready md ops listed := by rw [hr]; simp
  have hm : m ∈ Region.ready md ops listed := by rw [hr]; simp
  refine ⟨fun h0 => (by rw [h0] at hr; cases hr), fun j hj => ?_⟩
  rw [hr] at hj
  rcases List.mem_cons.1 hj with rfl | hj
  · exact wpOp_of_list (ready_lt hi) h
  rcases List.mem_cons.1 hj with rfl | hj
  · exact wpOp_of_list (ready_lt hk) h'
  · obtain rfl : j = m := by simpa using hj
    exact wpOp_of_list (ready_lt hm) h''
end
end Go.Proofs.Ytbmbfifempkhgaa
