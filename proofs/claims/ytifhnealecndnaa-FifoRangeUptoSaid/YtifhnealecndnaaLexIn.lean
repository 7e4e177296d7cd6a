/- A region that draws its order, within a round of a range over a func, walked in ONE order: the law of the plain walk carried over. No program in sight. -/
import Derived.Test.YtifhnealecndnaaLex
import Derived.OrdersIn
import Derived.TacticsIn
import Derived.RangeFuncCalls
namespace Go.Proofs.Ytifhnealecndnaa

/-- it ends, and nothing else -/
def EndsOnly (Q : Exit → Act → World → Prop) : Exit → Act → World → Prop
  | .normal, a, w => Q .normal a w
  | _, _, _ => False

def noDefer (o : Oper) : Bool := match o.op with | .defer _ => false | _ => true

theorem noDefer_spec {o : Oper} (h : noDefer o = true) : ∀ c, o.op ≠ .defer c := fun c hc => by simp [noDefer, hc] at h

theorem wpOpIn_of_wpOp {l n : Nat} {P : Program} {ops : Array Oper} {Q : Exit → Act → World → Prop} (hL : ¬ LetsOut Q) (hd : ∀ (i : Nat) (o : Oper), ops[i]? = some o → noDefer o = true) {i : Nat} {K K' : Act → World → Prop} (hK : ∀ a w, K a w → K' a w) {a : Act} {w : World}
    (h : wpOp P ops Q i K a w) : wpOpIn (Fence.wide.inRound l) n P ops Q i K' a w := by
  unfold wpOp at h
  unfold wpOpIn
  cases ho : ops[i]? with
  | none => simp only [ho] at h ⊢; exact hK _ _ h
  | some o =>
    simp only [ho] at h ⊢
    split
    · rename_i hw
      simp only [hw, if_true] at h
      have h1 := h.resolve_right (fun h => hL h.2)
      refine ⟨fun _ _ => trivial, ?_⟩
      rw [Oper.semAt_eq _ _ _ (noDefer_spec (hd i o ho))]
      unfold Oper.wp at h1
      generalize (execOp a.eval o).run P w = r at h1
      cases r with
      | ok x w' =>
        cases x <;> simp only [Oper.upon, Oper.uponIn] at h1 ⊢
        case value => exact hK _ _ h1
        case skip => exact hK _ _ h1
        case defer => exact hK _ _ h1
        case enter f args =>
          refine ⟨fun h => (by simp [Fence.wide] at h), CallsIn.inRound l ((callsIn_wide.2 h1).mono fun e w'' he => ?_)⟩
          cases e with
          | returned v => exact hK _ _ he
          | panicked c => exact he
          | outgrown => exact he
        case row =>
          refine ⟨fun h => (by simp [Fence.wide] at h), fun c cs _ => ?_⟩
          obtain ⟨v, w'', hv, hs⟩ := h1 c cs
          exact ⟨v, w'', hK _ _ hv, stepsIn_wide.2 hs⟩
      | halt x w' => cases x <;> simp only [Oper.upon, Oper.uponIn] at h1 ⊢ <;> exact h1
    · rename_i hw
      simp only [hw] at h
      exact ⟨fun _ _ => trivial, hK _ _ h⟩

theorem wpAnyIn_of_wpAny {l n : Nat} {P : Program} {md : Region.Mode} {ops : Array Oper} {Q : Exit → Act → World → Prop} (hL : ¬ LetsOut Q) (hd : ∀ (i : Nat) (o : Oper), ops[i]? = some o → noDefer o = true) : ∀ (fuel : Nat) (listed : Array Bool) (a : Act) (w : World),
    wpAny P md ops Q fuel listed a w → wpAnyIn (Fence.wide.inRound l) n P md ops Q fuel listed a w
  | 0, _, _, _, h => h
  | fuel + 1, listed, _, _, h => ⟨h.1, fun i hi => wpOpIn_of_wpOp hL hd (fun a w => wpAnyIn_of_wpAny hL hd fuel _ a w) (h.2 i hi)⟩

/-- 'wp_region_lex', within a round -/
theorem wpIn_region_lex {r n : Nat} {P : Program} {a : Act} {w : World} {id : Nat} {l : List Oper} {Q : Exit → Act → World → Prop} (S : World → Prop) (reads tail : List Nat) (hm : P.follows .mixedOrders = true)
    (hB : lexOK .any l.toArray reads tail = true) (hdf : l.all noDefer = true) (hlen : reads.length + tail.length = l.length) (hSx : ∀ w w', Ext w w' → S w → S w') (hS : S w.drew)
    (h : ∀ Q' : Exit → Act → World → Prop, (∀ a w, Q .normal a w → Q' .normal a w) → wpReads P l.toArray S (fun a' => wpList P l.toArray Q' (pickOps l.toArray tail) a' w.drew) (pickOps l.toArray reads) a) : (Code.region id l.toArray true).wpIn (Fence.wide.inRound r) n P Q a w := by
  refine Go.wpIn_mono (Q := EndsOnly Q) ?_ (fun e a w h => by cases e <;> first | exact h | exact h.elim)
  refine wpIn_region_any hm ?_
  refine wpAnyIn_of_wpAny (fun ⟨_, _, h⟩ => h) (fun i o ho => ?_) _ _ _ _ ?_
  · have := List.all_eq_true.1 hdf o (by have := Array.mem_of_getElem? ho; simpa using this)
    exact this
  simp only [lexOK, Bool.and_eq_true, List.all_eq_true, List.mem_range, Bool.or_eq_true, Bool.not_eq_true'] at hB
  obtain ⟨⟨⟨hsel, hbe⟩, hd⟩, hl⟩ := hB
  refine wpAny_of_T (S := S) (B := fun j => madeB l.toArray j || reads.contains j) _ _ _ _ ?_
  have key := wpAnyT_lex (P := P) (md := .any) (Q := EndsOnly Q) (S := S) (reads := reads) (tail := tail) hsel (fun c a a' w h => h) (fun i hi hany j hj => by
    rcases hbe i hi with h0 | h0
    · rw [hany] at h0; cases h0
    rcases h0 j hj with (h1 | h1) | h1
    · exact .inl h1
    · exact .inr (.inl h1)
    · exact .inr (.inr h1)) hd hSx reads (Array.replicate l.toArray.size false) a { w with drawn := w.drawn + 1 } (fun _ h => h)
    (fun j oj _ hl => by rw [getD_replicate_false] at hl; cases hl) hl hS (h (EndsOnly Q) (fun _ _ h => h))
  rw [hlen] at key
  simpa using key
end Go.Proofs.Ytifhnealecndnaa
