/- A region that draws its order, walked by a plan of stages: in each first what only reads, and calls whose answer is fixed (they may make memory; a fact S stands in every world between), in any order; then what has a forced order, behind all of these. No program in sight. -/
import Derived.Test.YtifhnealecndnaaLex
namespace Go.Proofs.Ytifhnealecndnaa
section
variable {P : Program} {md : Region.Mode} {ops : Array Oper} {S : World → Prop}

/-- in every world of S it yields v, and S stands behind it -/
def YieldsC (P : Program) (ops : Array Oper) (S : World → Prop) (o : Oper) (v : Value) (a : Act) : Prop :=
  (Region.wanted o (yielded ops a.tmps) = true ∧ ∀ w, S w → (execOp a.eval o).run P w = .ok (.value v) w ∨
    ∃ f args, (execOp a.eval o).run P w = .ok (.enter f args) w ∧ Calls P f args w (fun e w'' => e = .returned v ∧ S w'')) ∨
  (Region.wanted o (yielded ops a.tmps) = false ∧ v = undef)

def softOp (P : Program) (ops : Array Oper) (S : World → Prop) (i : Nat) (K : Act → Prop) (a : Act) : Prop :=
  match ops[i]? with
  | none => K a
  | some o => ∃ v, YieldsC P ops S o v a ∧ K (a.put o.dst v)

theorem softOp_mono {i : Nat} {a : Act} {K K' : Act → Prop} (h : ∀ a, K a → K' a) (hh : softOp P ops S i K a) : softOp P ops S i K' a := by
  unfold softOp at *
  split
  · rename_i ho; simp only [ho] at hh; exact h _ hh
  · rename_i o ho
    simp only [ho] at hh
    obtain ⟨v, hy, hk⟩ := hh
    exact ⟨v, hy, h _ hk⟩

theorem wpOp_of_softOp {i : Nat} {a : Act} {w : World} {K : Act → Prop} {K' : Act → World → Prop} {Q' : Exit → Act → World → Prop} (h : ∀ a w', S w' → K a → K' a w') (hS : S w) (hh : softOp P ops S i K a) : wpOp P ops Q' i K' a w := by
  unfold softOp at hh
  unfold wpOp
  split
  · rename_i ho; simp only [ho] at hh; exact h _ _ hS hh
  · rename_i o ho
    simp only [ho] at hh
    obtain ⟨v, hy, hk⟩ := hh
    rcases hy with ⟨hw, hv⟩ | ⟨hw, rfl⟩
    · simp only [hw, if_true]
      left
      unfold Oper.wp
      rcases hv w hS with hr | ⟨f, args, hr, hc⟩
      · rw [hr]; exact h _ _ hS hk
      · rw [hr]
        exact hc.mono fun e w'' ⟨he, hs⟩ => by subst he; exact h _ _ hs hk
    · simp only [hw, Bool.false_eq_true, if_false]
      exact h _ _ hS hk

theorem YieldsC.of_same {o : Oper} {v : Value} {a a' : Act} (hy : YieldsC P ops S o v a) (he : execOp a'.eval o = execOp a.eval o)
    (hw : Region.wanted o (yielded ops a'.tmps) = Region.wanted o (yielded ops a.tmps)) : YieldsC P ops S o v a' := by
  unfold YieldsC at *
  rw [he, hw]
  exact hy

theorem softOp_put {j : Nat} {oi oj : Oper} {v : Value} (hj : ops[j]? = some oj) (hap : oi.apart ops oj = true)
    (hsi : ∀ cs b, oi.op ≠ .select cs b) (hsj : ∀ cs b, oj.op ≠ .select cs b) {K : Act → Prop} {a : Act}
    (hy : YieldsC P ops S oi v a) (h : softOp P ops S j K (a.put oi.dst v)) :
    softOp P ops S j (fun a' => YieldsC P ops S oi v a' ∧ K (a'.put oi.dst v)) a := by
  obtain ⟨h1, h2, h3⟩ := Oper.apart_spec hap
  unfold softOp at *
  simp only [hj] at *
  obtain ⟨u, hyj, hk⟩ := h
  refine ⟨u, hyj.of_same (execOp_put oj hsj a oi.dst v h1).symm (wanted_put oj a oi.dst v h1).symm, hy.of_same (execOp_put oi hsi a oj.dst u h3) (wanted_put oi a oj.dst u h3), ?_⟩
  rw [← Act.put_comm a v u h2]
  exact hk

/-- whatever order, until L -/
def wpAnyC (P : Program) (md : Region.Mode) (ops : Array Oper) (S : World → Prop) (L : Array Bool → Act → Prop) : Nat → Array Bool → Act → Prop
  | 0, listed, a => L listed a
  | f + 1, listed, a => Region.ready md ops listed ≠ [] ∧ ∀ i ∈ Region.ready md ops listed, softOp P ops S i (wpAnyC P md ops S L f (listed.setIfInBounds i true)) a

theorem wpAny_of_C {g : Nat} {L : Array Bool → Act → Prop} {Q' : Exit → Act → World → Prop} (hL : ∀ listed a w, S w → L listed a → wpAny P md ops Q' g listed a w) :
    ∀ (f : Nat) (listed : Array Bool) (a : Act) (w : World), S w → wpAnyC P md ops S L f listed a → wpAny P md ops Q' (f + g) listed a w
  | 0, listed, a, w, hS, h => by rw [Nat.zero_add]; exact hL _ _ _ hS h
  | f + 1, listed, a, w, hS, h => by
    rw [show f + 1 + g = (f + g) + 1 by omega]
    exact ⟨fun h0 => absurd h0 h.1, fun i hi => wpOp_of_softOp (fun a' w' hs h' => wpAny_of_C hL f _ a' w' hs h') hS (h.2 i hi)⟩

theorem YieldsC.soft {i : Nat} {o : Oper} {v : Value} {a : Act} (hi : ops[i]? = some o) (hy : YieldsC P ops S o v a) {K : Act → Prop} (h : K (a.put o.dst v)) : softOp P ops S i K a := by
  unfold softOp
  simp only [hi]
  exact ⟨v, hy, h⟩

theorem wpAnyC_first {i : Nat} {oi : Oper} {v : Value} {L : Array Bool → Act → Prop} {head : List Nat} {base : Array Bool} (hi : ops[i]? = some oi) (hsel : ∀ (j : Nat) (o : Oper) cs b, ops[j]? = some o → o.op ≠ .select cs b)
    (hbe : ∀ j, j < ops.size → base.getD j false = true ∨ head.contains j = true ∨ behindB md ops ops.size j i = true)
    (hdone : ∀ listed a, L listed a → ∀ j ∈ Region.ready md ops listed, head.contains j = false) :
    ∀ (f : Nat) (listed : Array Bool) (a : Act), closedL md ops listed → (∀ j, base.getD j false = true → listed.getD j false = true) →
      (∀ j oj, ops[j]? = some oj → j ≠ i → listed.getD j true = false → (∀ e ∈ oj.after, Region.binds md e = true → e.on ≠ i) → oi.apart ops oj = true) →
      i ∈ Region.ready md ops listed → YieldsC P ops S oi v a →
      wpAnyC P md ops S L f (listed.setIfInBounds i true) (a.put oi.dst v) → wpAnyC P md ops S L (f + 1) listed a := by
  intro f
  induction f with
  | zero =>
    intro listed a hcl hmo _ hr hy H
    have hiun := getD_both (mem_ready.1 hr).1
    refine ⟨fun h => (by rw [h] at hr; cases hr), fun j hj => ?_⟩
    by_cases hji : j = i
    · subst hji; exact hy.soft hi H
    · have h1 := hdone _ _ H j (ready_mono hj hji)
      rcases hbe j (ready_lt hj) with h2 | h2 | h2
      · have := getD_both (mem_ready.1 hj).1
        rw [hmo j h2] at this
        cases this
      · rw [h1] at h2; cases h2
      · have := behind_ready hcl h2 hj
        rw [hiun] at this
        cases this
  | succ f ih =>
    intro listed a hcl hmo hfree hr hy H
    have hiun := getD_both (mem_ready.1 hr).1
    refine ⟨fun h => (by rw [h] at hr; cases hr), fun j hj => ?_⟩
    by_cases hji : j = i
    · subst hji; exact hy.soft hi H
    · have h1 := H.2 j (ready_mono hj hji)
      obtain ⟨hjun, oj, hoj, hall⟩ := mem_ready.1 hj
      have hnot : ∀ e ∈ oj.after, Region.binds md e = true → e.on ≠ i := fun e he hb heq => by
        have h1 := hall e he hb
        rw [heq, hiun] at h1
        cases h1
      have h2 := softOp_put hoj (hfree j oj hoj hji hjun hnot) (fun cs b => hsel i oi cs b hi) (fun cs b => hsel j oj cs b hoj) hy h1
      have hfree' : ∀ k ok, ops[k]? = some ok → k ≠ i → (listed.setIfInBounds j true).getD k true = false →
          (∀ e ∈ ok.after, Region.binds md e = true → e.on ≠ i) → oi.apart ops ok = true := fun k ok hk hki hun hno => by
        refine hfree k ok hk hki ?_ hno
        by_cases hjk : j = k
        · subst hjk; exact hjun
        · rw [getD_set_ne true hjk] at hun; exact hun
      refine softOp_mono (fun a' h3 => ih (listed.setIfInBounds j true) a' (closedL_set hcl hj) (fun k hk => getD_set_true (hmo k hk)) hfree' (ready_mono hr (Ne.symm hji)) h3.1 ?_) h2
      rw [Array.setIfInBounds_comm _ _ hji]
      exact h3.2

/-- the head, in the order given: each in every world of S -/
def wpHead (P : Program) (ops : Array Oper) (S : World → Prop) (Q : Act → Prop) : List Oper → Act → Prop
  | [], a => Q a
  | o :: rest, a => ∃ v, YieldsC P ops S o v a ∧ wpHead P ops S Q rest (a.put o.dst v)

theorem wpHead_nil {Q : Act → Prop} {a : Act} (h : Q a) : wpHead P ops S Q [] a := h
theorem wpHead_val {Q : Act → Prop} {a : Act} {o : Oper} {rest : List Oper} (v : Value) (h : Region.wanted o (yielded ops a.tmps) = true) (hv : ∀ w, S w → (execOp a.eval o).run P w = .ok (.value v) w)
    (hk : wpHead P ops S Q rest (a.put o.dst v)) : wpHead P ops S Q (o :: rest) a := ⟨v, .inl ⟨h, fun w hw => .inl (hv w hw)⟩, hk⟩
theorem wpHead_call {Q : Act → Prop} {a : Act} {o : Oper} {rest : List Oper} (v : Value) (f : FuncId) (args : Array Value) (h : Region.wanted o (yielded ops a.tmps) = true) (hv : ∀ w, (execOp a.eval o).run P w = .ok (.enter f args) w)
    (hc : ∀ w, S w → Calls P f args w (fun e w'' => e = .returned v ∧ S w''))
    (hk : wpHead P ops S Q rest (a.put o.dst v)) : wpHead P ops S Q (o :: rest) a := ⟨v, .inl ⟨h, fun w hw => .inr ⟨f, args, hv w, hc w hw⟩⟩, hk⟩
theorem wpHead_skip {Q : Act → Prop} {a : Act} {o : Oper} {rest : List Oper} (h : Region.wanted o (yielded ops a.tmps) = false)
    (hk : wpHead P ops S Q rest (a.put o.dst undef)) : wpHead P ops S Q (o :: rest) a := ⟨undef, .inr ⟨h, rfl⟩, hk⟩

def allBehind (md : Region.Mode) (ops : Array Oper) (listed : Array Bool) (h : List Nat) : Bool :=
  h.all fun i => (List.range ops.size).all fun j => listed.getD j false || h.contains j || behindB md ops ops.size j i
def stageHead (md : Region.Mode) (ops : Array Oper) (k : Array Bool → Bool) : List Nat → Array Bool → Bool
  | [], listed => k listed
  | i :: r, listed => (Region.ready md ops listed).contains i && Region.free md ops listed i && stageHead md ops k r (listed.setIfInBounds i true)
def stageTail (md : Region.Mode) (ops : Array Oper) (k : Array Bool → Bool) : List Nat → Array Bool → Bool
  | [], listed => k listed
  | t :: r, listed => decide (Region.ready md ops listed = [t]) && stageTail md ops k r (listed.setIfInBounds t true)
/-- all is well with the plan -/
def planOK (md : Region.Mode) (ops : Array Oper) : List (List Nat × List Nat) → Array Bool → Bool
  | [], listed => (Region.ready md ops listed).isEmpty
  | (h, t) :: r, listed => allBehind md ops listed h && stageHead md ops (fun l' => ((Region.ready md ops l').all fun j => !h.contains j) && stageTail md ops (planOK md ops r) t l') h listed
def planLen : List (List Nat × List Nat) → Nat
  | [] => 0
  | (h, t) :: r => h.length + (t.length + planLen r)

/-- at the end K; elsewhere Q -/
def EndK (Q : Exit → Act → World → Prop) (K : Act → World → Prop) : Exit → Act → World → Prop
  | .normal, a, w => K a w
  | e, a, w => Q e a w

/-- what the plan asks -/
def wpPlan (P : Program) (ops : Array Oper) (Q : Exit → Act → World → Prop) : List (List Nat × List Nat) → Act → World → Prop
  | [], a, w => Q .normal a w
  | (h, t) :: r, a, w => ∃ S : World → Prop, S w ∧ wpHead P ops S (fun a' => ∀ w', S w' → wpList P ops (EndK Q (wpPlan P ops Q r)) (pickOps ops t) a' w') (pickOps ops h) a

theorem wpOp_endK {Q : Exit → Act → World → Prop} {K0 K K' : Act → World → Prop} (hK : ∀ a w, K a w → K' a w) {i : Nat} {a : Act} {w : World} (h : wpOp P ops (EndK Q K0) i K a w) : wpOp P ops Q i K' a w := by
  have hL : LetsOut (EndK Q K0) → LetsOut Q := fun ⟨a, w, h⟩ => ⟨a, w, h⟩
  unfold wpOp at *
  cases ho : ops[i]? with
  | none => simp only [ho] at h ⊢; exact hK _ _ h
  | some o =>
    simp only [ho] at h ⊢
    split
    · rename_i hw
      simp only [hw, if_true] at h
      refine h.imp (fun h1 => ?_) (fun h1 => ⟨h1.1, hL h1.2⟩)
      unfold Oper.wp at *
      generalize (execOp a.eval o).run P w = r at h1
      cases r with
      | ok x w' =>
        cases x <;> simp only [Oper.upon] at h1 ⊢
        case value => exact hK _ _ h1
        case skip => exact hK _ _ h1
        case defer => exact hK _ _ h1
        case enter f args =>
          refine h1.mono fun e w'' he => ?_
          cases e with
          | returned v => exact hK _ _ he
          | panicked c => exact he
          | outgrown => exact hL he
        case row => exact h1.mono fun v w'' he => hK _ _ he
      | halt x w' => cases x <;> simp only [Oper.upon] at h1 ⊢ <;> exact h1
    · rename_i hw
      simp only [hw] at h
      exact hK _ _ h

theorem wpAny_stageTail {Q : Exit → Act → World → Prop} {K : Act → World → Prop} {k : Array Bool → Bool} {n : Nat} (hk : ∀ listed a w, closedL md ops listed → k listed = true → K a w → wpAny P md ops Q n listed a w) : ∀ (t : List Nat) (listed : Array Bool) (a : Act) (w : World), closedL md ops listed →
    stageTail md ops k t listed = true → wpList P ops (EndK Q K) (pickOps ops t) a w → wpAny P md ops Q (t.length + n) listed a w
  | [], listed, a, w, hcl, hB, h => by rw [show ([] : List Nat).length + n = n by simp]; exact hk listed a w hcl hB h
  | i :: r, listed, a, w, hcl, hB, h => by
    simp only [stageTail, Bool.and_eq_true, decide_eq_true_eq] at hB
    have hrdy : i ∈ Region.ready md ops listed := by rw [hB.1]; simp
    have hlt := ready_lt hrdy
    have hi : ops[i]? = some ops[i] := Array.getElem?_eq_getElem hlt
    rw [pick_one hi r] at h
    rw [show (i :: r).length + n = (r.length + n) + 1 by simp; omega]
    refine ⟨fun h1 => (by rw [hB.1] at h1; cases h1), fun j hj => ?_⟩
    rw [hB.1] at hj
    have hij : j = i := by simpa using hj
    subst hij
    have hw : wpOp P ops (EndK Q K) j (wpList P ops (EndK Q K) (pickOps ops r)) a w := by unfold wpOp; simp only [hi]; exact h
    exact wpOp_endK (fun a' w' h' => wpAny_stageTail hk r _ a' w' (closedL_set hcl hrdy) hB.2 h') hw

theorem wpAnyC_stage {head : List Nat} {base : Array Bool} {G : Act → Prop} {k : Array Bool → Bool} (hsel : Region.noSelect ops = true) (hk : ∀ l', k l' = true → ∀ j ∈ Region.ready md ops l', head.contains j = false)
    (hbe : ∀ i ∈ head, ∀ j, j < ops.size → base.getD j false = true ∨ head.contains j = true ∨ behindB md ops ops.size j i = true) :
    ∀ (r : List Nat) (listed : Array Bool) (a : Act), (∀ i ∈ r, i ∈ head) → closedL md ops listed → (∀ j, base.getD j false = true → listed.getD j false = true) → stageHead md ops k r listed = true →
      wpHead P ops S G (pickOps ops r) a → wpAnyC P md ops S (fun l' a' => closedL md ops l' ∧ k l' = true ∧ G a') r.length listed a
  | [], listed, a, _, hcl, _, hB, h => ⟨hcl, hB, h⟩
  | i :: r, listed, a, hr, hcl, hmo, hB, h => by
    simp only [stageHead, Bool.and_eq_true] at hB
    obtain ⟨⟨hrdy, hfree⟩, hB'⟩ := hB
    have hrdy' : i ∈ Region.ready md ops listed := by simpa using hrdy
    have hlt := ready_lt hrdy'
    have hi : ops[i]? = some ops[i] := Array.getElem?_eq_getElem hlt
    rw [pick_one hi r] at h
    obtain ⟨v, hy, hK⟩ := h
    refine wpAnyC_first (head := head) (base := base) hi (Region.noSelect_spec hsel) (hbe i (hr i (by simp))) (fun l' a' hL j hj => hk l' hL.2.1 j hj) _ listed a hcl hmo (Region.free_spec hi hfree) hrdy' hy ?_
    exact wpAnyC_stage hsel hk hbe r _ _ (fun x hx => hr x (by simp [hx])) (closedL_set hcl hrdy') (fun j hj => getD_set_true (hmo j hj)) hB' hK

theorem wpAny_plan {Q : Exit → Act → World → Prop} (hsel : Region.noSelect ops = true) : ∀ (p : List (List Nat × List Nat)) (listed : Array Bool) (a : Act) (w : World), closedL md ops listed → planOK md ops p listed = true → wpPlan P ops Q p a w → wpAny P md ops Q (planLen p) listed a w
  | [], listed, a, w, _, hB, h => ⟨by simpa [planOK] using hB, h⟩
  | (hd, t) :: r, listed, a, w, hcl, hB, h => by
    simp only [planOK, allBehind, Bool.and_eq_true, List.all_eq_true, List.mem_range, Bool.or_eq_true] at hB
    obtain ⟨hbe, hst⟩ := hB
    obtain ⟨S, hS, hh⟩ := h
    have key := wpAnyC_stage (P := P) (S := S) (base := listed) hsel (fun l' hl j hj => by
      simp only [Bool.and_eq_true, List.all_eq_true, Bool.not_eq_true'] at hl
      exact hl.1 j hj) (fun i hi j hj => by
        rcases hbe i hi j hj with (h1 | h1) | h1
        · exact .inl h1
        · exact .inr (.inl h1)
        · exact .inr (.inr h1)) hd listed a (fun _ h => h) hcl (fun _ h => h) hst hh
    refine wpAny_of_C (fun l' a' w' hS' hL => ?_) _ _ _ _ hS key
    obtain ⟨hcl', hk', hG⟩ := hL
    simp only [Bool.and_eq_true] at hk'
    exact wpAny_stageTail (fun l2 a2 w2 hcl2 hk2 hK2 => wpAny_plan hsel r l2 a2 w2 hcl2 hk2 hK2) t l' a' w' hcl' hk'.2 (hG w' hS')

/-- the law: a plan of stages -/
theorem wp_region_plan {id : Nat} {l : List Oper} {Q : Exit → Act → World → Prop} {a : Act} {w : World} (p : List (List Nat × List Nat)) (hm : P.follows .mixedOrders = true)
    (hB : (Region.noSelect l.toArray && planOK .any l.toArray p (Array.replicate l.toArray.size false)) = true) (hlen : planLen p = l.length)
    (h : wpPlan P l.toArray Q p a w.drew) : (Code.region id l.toArray true).wp P Q a w := by
  refine wp_region_any hm ?_
  simp only [Bool.and_eq_true] at hB
  have key := wpAny_plan (P := P) (md := .any) (ops := l.toArray) (Q := Q) hB.1 p _ a { w with drawn := w.drawn + 1 } (fun j oj _ hl => by rw [getD_replicate_false] at hl; cases hl) hB.2 h
  rw [hlen] at key
  simpa using key

theorem EndK_self (Q : Exit → Act → World → Prop) : EndK Q (fun a w => Q .normal a w) = Q := by
  funext e a w
  cases e <;> rfl

/-- one stage -/
theorem wp_region_soft {id : Nat} {l : List Oper} {Q : Exit → Act → World → Prop} {a : Act} {w : World} (S : World → Prop) (head tail : List Nat) (hm : P.follows .mixedOrders = true)
    (hB : (Region.noSelect l.toArray && planOK .any l.toArray [(head, tail)] (Array.replicate l.toArray.size false)) = true) (hlen : planLen [(head, tail)] = l.length) (hS : S w.drew)
    (h : wpHead P l.toArray S (fun a' => ∀ w', S w' → wpList P l.toArray Q (pickOps l.toArray tail) a' w') (pickOps l.toArray head) a) : (Code.region id l.toArray true).wp P Q a w := by
  refine wp_region_plan [(head, tail)] hm hB hlen ⟨S, hS, ?_⟩
  have e : EndK Q (wpPlan P l.toArray Q []) = Q := EndK_self Q
  rw [e]
  exact h
end
end Go.Proofs.Ytifhnealecndnaa
