/- The rows of a checker's sides: how many, how long. No function in sight. -/
import Derived.Test.YtbmbfifempkhgaaGLaw
import Derived.Test.YtbmbfifempkhgaaGActors
namespace Go.Proofs.Ytbmbfifempkhgaa

def RowsLe (side : List (List Bool)) (m : Nat) : Prop := ∀ r : Nat, (side[r]?.getD []).length ≤ m

theorem takeS_len (side : List (List Bool)) (a p : Int) : (takeS side a p).length = side.length := by simp [takeS]
theorem takeS_rows {side : List (List Bool)} {m : Nat} (h : RowsLe side m) (a p : Int) : RowsLe (takeS side a p) m := fun r => by
  unfold takeS
  by_cases e : a.toNat = r
  · by_cases hr : r < side.length
    · rw [e, List.getElem?_set_self hr, Option.getD_some, List.length_set]
      unfold side1
      exact h _
    · rw [List.getElem?_eq_none (by simpa using Nat.le_of_not_lt hr)]
      simp
  · rw [List.getElem?_set_ne e]; exact h r
theorem edgesC_len (l : List GEdge) : ∀ c : Chk, (edgesC c l).ins.length = c.ins.length ∧ (edgesC c l).outs.length = c.outs.length ∧ (edgesC c l).seen = c.seen := by
  induction l with
  | nil => intro c; exact ⟨rfl, rfl, rfl⟩
  | cons e r ih => intro c; rw [show edgesC c (e :: r) = edgesC (edgeC c e) r from rfl, (ih _).1, (ih _).2.1, (ih _).2.2]; simp [edgeC, takeS_len]
theorem edgesC_rows (l : List GEdge) {m : Nat} : ∀ c : Chk, RowsLe c.ins m → RowsLe c.outs m → RowsLe (edgesC c l).ins m ∧ RowsLe (edgesC c l).outs m := by
  induction l with
  | nil => intro c h1 h2; exact ⟨h1, h2⟩
  | cons e r ih => intro c h1 h2; exact ih _ (takeS_rows h1 _ _) (takeS_rows h2 _ _)
theorem portsS_len (l : List GPort) : ∀ side : List (List Bool), (portsS side l).length = side.length := by
  induction l with
  | nil => intro s; rfl
  | cons p r ih => intro s; rw [show portsS s (p :: r) = portsS (takeS s p.actor p.port) r from rfl, ih, takeS_len]
theorem portsS_rows (l : List GPort) {m : Nat} : ∀ side : List (List Bool), RowsLe side m → RowsLe (portsS side l) m := by
  induction l with
  | nil => intro s h; exact h
  | cons p r ih => intro s h; exact ih _ (takeS_rows h _ _)
theorem rowsLe_snoc {side : List (List Bool)} {m n : Nat} (h : RowsLe side m) (hn : n ≤ m) : RowsLe (side ++ [List.replicate n false]) m := fun r => by
  by_cases hr : r < side.length
  · rw [List.getElem?_append_left hr]; exact h r
  · by_cases e : r = side.length
    · subst e; simp; exact hn
    · rw [List.getElem?_eq_none (by simp; omega)]; simp
theorem actorsE_rows (l : List GActor) : ∀ c : Chk, actorsE c l = 0 → RowsLe c.ins 16 → RowsLe c.outs 16 → RowsLe (actorsC c l).ins 16 ∧ RowsLe (actorsC c l).outs 16 := by
  induction l with
  | nil => intro c _ h1 h2; exact ⟨h1, h2⟩
  | cons a r ih =>
    intro c h h1 h2
    unfold actorsE at h
    by_cases h0 : actorE c.seen a = 0
    · rw [if_neg (by simpa using h0)] at h
      have hg : goodP a.tag a.params := by
        refine Decidable.byContradiction fun hn => ?_
        unfold actorE at h0
        split at h0
        · rename_i hx; exact hx h0
        · have h0 : errP a.tag = 0 := by first | exact h0 | (rw [if_neg hn] at h0; exact h0)
          unfold errP at h0
          split at h0 <;> cases h0
      have hl := shape_len hg
      exact ih _ h (rowsLe_snoc h1 hl.1) (rowsLe_snoc h2 hl.2)
    · rw [if_pos h0] at h
      exact absurd h h0
theorem rowsLe_nil (m : Nat) : RowsLe [] m := fun r => by simp
end Go.Proofs.Ytbmbfifempkhgaa
