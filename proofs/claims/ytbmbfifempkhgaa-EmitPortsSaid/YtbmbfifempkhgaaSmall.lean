/- Small lemmas of this seat. No function in sight. -/
import Derived.Test.YtbmbfifempkhgaaOuts
namespace Go.Proofs.Ytbmbfifempkhgaa
open Go.RowKit

theorem step_i {k : Nat} (h : k < 4611686018427387904) : Value.int .i64 (wrap64 ((k : Int) + 1)) = .int .i64 ((k + 1 : Nat) : Int) := by
  rw [IntWalk.wrap64_in _ (by omega)]; rfl
theorem below_alloc (w : World) (x : Obj) : Below w.heap.size w (w.alloc x) := (Below.refl _ _).alloc (Nat.le_refl _) _
theorem Kept.of_below {B : Nat} {o : Col} {w0 w w' : World} (h : Kept B o w0 w) (c : Nat) (hb : Below w.heap.size w w') : Kept B (ext o w.heap.size c) w0 w' := h.turn (Turn.of_below o c hb) (fun h => h)
theorem Kept.drewN {B : Nat} {o : Col} {w0 w : World} (h : Kept B o w0 w) (m : Nat) : Kept B o w0 (w.drewN m) := h.turn (Turn.of_quiet o ⟨m, rfl⟩) (fun h => h)
theorem below_app {w w2 : World} {N e sz : Nat} {tmp : Obj} {v : Value} {n : Nat} {xs : List Value} (hi : w.ownsRow N e sz v n xs) (hg : (w.alloc tmp).grownBy w2 v.ownBlock) (hb : N ≤ w.heap.size) : Below N w w2 :=
  (((Mods.refl (fun k => v.ownBlock = some k) w).alloc tmp).grown hg (fun k hk _ => hk)).below hb fun k hk e => by have := (hi.lt k e).1; omega
theorem Has.drewN {w : World} {v : Value} {vs : List Value} (h : Has w v vs) (m : Nat) : Has (w.drewN m) v vs := Vals.drewN h m
/-- a call that tells v, and turns nothing that was there -/
def Tells (v : Value) (w : World) (e : Ending) (w' : World) : Prop := e = .returned v ∧ Below w.heap.size w w'
def SameW (v : Value) (w : World) (e : Ending) (w' : World) : Prop := e = .returned v ∧ w = w'
def Hush (v : Value) (w : World) (e : Ending) (w' : World) : Prop := e = .returned v ∧ ∃ m, w' = w.drewN m
theorem Hush.tells {v : Value} {w : World} {e : Ending} {w' : World} (h : Hush v w e w') : Tells v w e w' := by
  obtain ⟨rfl, m, rfl⟩ := h
  exact ⟨rfl, below_dr (Below.refl _ _)⟩
theorem SameW.tells {v : Value} {w : World} {e : Ending} {w' : World} (h : SameW v w e w') : Tells v w e w' := by
  obtain ⟨rfl, rfl⟩ := h
  exact ⟨rfl, Below.refl _ _⟩
end Go.Proofs.Ytbmbfifempkhgaa
