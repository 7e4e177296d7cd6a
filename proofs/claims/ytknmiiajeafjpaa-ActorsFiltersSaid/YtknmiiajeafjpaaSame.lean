/- Two lists compared. -/
import Derived.Test.YtknmiiajeafjpaaNew
namespace Go.Proofs.Ytknmiiajeafjpaa
open Go.RowKit

def Quiet (v : Value) (w : World) (e : Ending) (w' : World) : Prop := e = .returned v ∧ ∃ m, w' = w.drewN m

theorem ints_no {l l2 : List Int} {k : Nat} (hk : k < l.length) (hk2 : k < l2.length) (h : ¬ l[k]?.getD 0 = l2[k]?.getD 0) : decide (l = l2) = false := decide_eq_false fun e => h (by rw [e])
theorem ints_yes {l l2 : List Int} (hl : l.length = l2.length) (h : ∀ k, k < l.length → l[k]?.getD 0 = l2[k]?.getD 0) : decide (l = l2) = true := by
  refine decide_eq_true (List.ext_getElem hl fun k h1 h2 => ?_)
  have := h k h1
  simpa [h1, h2] using this

set_option maxHeartbeats 1000000 in
theorem sameints_some (w : World) (b off c b' off' c' : Nat) (l l2 : List Int) (hl2 : l2.length = l.length) (hl : l.length ≤ 4611686018427387904) (h1 : ∀ k, k < l.length → w.cell? ⟨b, off + k, none⟩ = some (iv (l[k]?.getD 0))) (h2 : ∀ k, k < l.length → w.cell? ⟨b', off' + k, none⟩ = some (iv (l2[k]?.getD 0))) :
    Calls Try.prog 16 #[.slice (some ⟨b, off, none⟩) l.length c, .slice (some ⟨b', off', none⟩) l.length c'] w (Quiet (.bool (decide (l = l2))) w) := by
  have H1 := Lib.hid h1
  have H2 := Lib.hid h2
  have HL := Lib.hid hl2
  clear h1 h2 hl2
  go_enter Try.func16, Try.ntmps16
  go_wp2
  go_loopw [5] (fun i wr => ∃ k : Nat, k ≤ l.length ∧ i = .int .i64 k ∧ (∀ j, j < k → l[j]?.getD 0 = l2[j]?.getD 0) ∧ ∃ m, wr = w.drewN m) (fun i _ => l.length - (intOf i).toNat)
  case atStart => exact ⟨0, Nat.zero_le _, rfl, fun j hj => by omega, 0, rfl⟩
  case round =>
    obtain ⟨k, hk, rfl, hall, m, rfl⟩ := hrel
    have HA := Lib.hid hall
    clear hall
    by_cases hlt : k < l.length
    · have c1 := H1.out k hlt
      have c2 := H2.out k hlt
      have hlti : (k : Int) < l.length := by omega
      have HNO := Lib.hid (fun h => ints_no (l2 := l2) hlt (by have := HL.out; omega) h)
      have HST := Lib.hid (fun (h : l[k]?.getD 0 = l2[k]?.getD 0) j (hj : j < k + 1) => (by
        by_cases hkj : j = k
        · rw [hkj]; exact h
        · exact HA.out j (by omega) : l[j]?.getD 0 = l2[j]?.getD 0))
      generalize l[k]?.getD 0 = x at *
      generalize l2[k]?.getD 0 = y at *
      by_cases hq : x = y
      · have HQ := Lib.hid (HST.out hq)
        clear HST
        subst hq
        go_wp2
        go_quiet (fail)
        go_wp2
        go_roundw
        case rel => exact ⟨k + 1, by omega, by go_num, HQ.out, _, rfl⟩
        case measure => simp [intOf]; omega
      · go_wp2
        go_quiet (fail)
        go_wp2
        go_ret
        rw [HNO.out hq]
        exact ⟨rfl, m + _, (World.drewN_drewN _ _ _)⟩
    · obtain rfl : k = l.length := by omega
      have HX := Lib.hid (ints_yes HL.out.symm HA.out)
      go_wp2
      go_ret
      rw [HX.out]
      exact ⟨rfl, _, rfl⟩

set_option maxHeartbeats 400000 in
theorem sameints_empty (w : World) (a a' : Option Addr) (c c' : Nat) :
    Calls Try.prog 16 #[.slice a 0 c, .slice a' 0 c'] w (Quiet (.bool true) w) := by
  go_enter Try.func16, Try.ntmps16
  go_wp2
  go_loopw [5] (fun i wr => i = .int .i64 0 ∧ wr = w) (fun _ _ => 0)
  case atStart => exact ⟨rfl, rfl⟩
  case round =>
    obtain ⟨rfl, rfl⟩ := hrel
    go_wp2
    go_ret
    exact ⟨rfl, 0, rfl⟩

theorem sameints_len (w : World) (a a' : Option Addr) (n n' c c' : Nat) (h : ¬ n = n') :
    Calls Try.prog 16 #[.slice a n c, .slice a' n' c'] w (Quiet (.bool false) w) := by
  have hi : ¬ (n : Int) = n' := by omega
  go_enter Try.func16, Try.ntmps16
  go_wp2
  go_ret
  exact ⟨rfl, 0, rfl⟩

theorem sameints_any {o o2 : Col} {c c2 : Nat} {w : World} {v v' : Value} {l l2 : List Int} (h : Ints w o c v l) (h' : Ints w o2 c2 v' l2) (hl : l.length ≤ 4611686018427387904) :
    Calls Try.prog 16 #[v, v'] w (Quiet (.bool (decide (l = l2))) w) := by
  obtain ⟨a, cp, rfl⟩ := h.slice
  obtain ⟨a', cp', rfl⟩ := h'.slice
  by_cases hq : l.length = l2.length
  · by_cases hp : 0 < l.length
    · obtain ⟨b, off, rfl, -, -, -, -, h1⟩ := h.at hp
      obtain ⟨b', off', rfl, -, -, -, -, h2⟩ := h'.at (by omega)
      rw [← hq]
      exact sameints_some w b off _ b' off' _ l l2 hq.symm hl h1 (fun k hk => h2 k (by omega))
    · obtain rfl : l = [] := List.eq_nil_of_length_eq_zero (by omega)
      obtain rfl : l2 = [] := List.eq_nil_of_length_eq_zero (by simpa using hq.symm)
      exact sameints_empty w _ _ _ _
  · rw [show decide (l = l2) = false from decide_eq_false fun e => hq (by rw [e])]
    exact sameints_len w _ _ _ _ _ _ hq

theorem sameints_yes {o o2 : Col} {c c2 : Nat} {w : World} {v v' : Value} {l : List Int} (h : Ints w o c v l) (h' : Ints w o2 c2 v' l) (hl : l.length ≤ 4611686018427387904) :
    Calls Try.prog 16 #[v, v'] w (Quiet (.bool true) w) := by
  have := sameints_any h h' hl
  rwa [decide_eq_true rfl] at this
end Go.Proofs.Ytknmiiajeafjpaa
