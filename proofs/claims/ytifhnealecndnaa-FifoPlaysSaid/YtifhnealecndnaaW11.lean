/- Two lists compared; a queue told in full; what a script of calls is in memory. -/
import Derived.Test.YtifhnealecndnaaW10
import Derived.Test.YtifhnealecndnaaIn
namespace Go.Proofs.Ytifhnealecndnaa
open Go.RowKit

theorem told_any {w : World} {base b : Nat} {C : Int} {l : List Int} {r : Option Nat} {N : Nat} (h : IQ w base b C l r N) (hN : N ≤ 27000000000000) :
    Calls Try.prog 28 #[.pointer (some ⟨b, 0, none⟩)] w fun e W' => ∃ v, e = .returned v ∧ W'.ownsRow w.heap.size 3 1 v l.length (l.map (Value.int .i64)) ∧ Below w.heap.size w W' :=
  callsIn_wide.1 (told_in h hN)

/-- a row of the call's own is a slice of ints -/
theorem ints_of_owns {w : World} {base : Nat} {v : Value} {l : List Int} (h : w.ownsRow base 3 1 v l.length (l.map (Value.int .i64))) : ∃ ao cap, v = .slice ao l.length cap ∧ (ao = none → l.length = 0) ∧
    ∀ ad, ao = some ad → ∀ j u, (l.map (Value.int .i64))[j]? = some u → w.cell? (ad.add j) = some u := by
  rcases h.2 with ⟨rfl, h0⟩ | ⟨g, cap, cur, rfl, hb, hg, hnc, hm, hcs, ht⟩
  · exact ⟨none, 0, by rw [h0], fun _ => h0, fun _ h => by cases h⟩
  · exact ⟨some ⟨g, 0, none⟩, cap, rfl, (fun h => by cases h), fun ad had j u hu => by obtain rfl := Option.some.inj had; exact h.cells (g := g) rfl j u hu⟩

/-- v is a slice that holds the ints l (wherever it lies) -/
def HasInts (w : World) (v : Value) (l : List Int) : Prop :=
  (l = [] ∧ ∃ ao cap, v = .slice ao 0 cap) ∨ (0 < l.length ∧ ∃ b off cap, v = .slice (some ⟨b, off, none⟩) l.length cap ∧ b < w.heap.size ∧ ∀ k, k < l.length → w.cell? ⟨b, off + k, none⟩ = some (.int .i64 (l[k]?.getD 0)))

theorem has_of_cells {w : World} {ao : Option Addr} {l : List Int} {cap : Nat} (hn : ao = none → l.length = 0) (h : ∀ ad, ao = some ad → ∀ j u, (l.map (Value.int .i64))[j]? = some u → w.cell? (ad.add j) = some u) : HasInts w (.slice ao l.length cap) l := by
  by_cases hp : 0 < l.length
  · cases ao with
    | none => have := hn rfl; omega
    | some a =>
      have hc : ∀ i, i < l.length → w.cell? (a.add i) = some (.int .i64 (l.getD i 0)) := fun i hi => h a rfl i _ (by simp [hi])
      obtain ⟨b, off, rfl, hcell⟩ := ints_at hc hp
      exact .inr ⟨hp, b, off, cap, rfl, World.block_lt_of_cell? _ _ (hcell 0 hp), fun k hk => by have := hcell k hk; simpa using this⟩
  · obtain rfl : l = [] := List.eq_nil_of_length_eq_zero (by omega)
    exact .inl ⟨rfl, ao, cap, rfl⟩

theorem has_of_owns {w : World} {base : Nat} {v : Value} {l : List Int} (h : w.ownsRow base 3 1 v l.length (l.map (Value.int .i64))) : HasInts w v l := by
  obtain ⟨ao, cap, rfl, h1, h2⟩ := ints_of_owns h
  exact has_of_cells h1 h2

theorem has_of_in {w : World} {v : Value} {l : List Int} (h : InInts w v l) : HasInts w v l := by
  obtain ⟨ao, cap, rfl, _, _, h3, _, h5⟩ := h
  exact has_of_cells h3 h5

theorem HasInts.below {w w' : World} {v : Value} {l : List Int} (h : HasInts w v l) (hb : Below w.heap.size w w') : HasInts w' v l := by
  rcases h with h | ⟨hp, b, off, cap, rfl, hlt, hc⟩
  · exact .inl h
  · exact .inr ⟨hp, b, off, cap, rfl, Nat.lt_of_lt_of_le hlt hb.size, fun k hk => cell_later hb (hc k hk)⟩

theorem HasInts.slice {w : World} {v : Value} {l : List Int} (h : HasInts w v l) : ∃ ao cap, v = .slice ao l.length cap := by
  rcases h with ⟨rfl, ao, cap, rfl⟩ | ⟨_, b, off, cap, rfl, _⟩
  · exact ⟨_, _, rfl⟩
  · exact ⟨_, _, rfl⟩

set_option maxHeartbeats 1000000 in
theorem same_some (w : World) (b off c b' off' c' : Nat) (l : List Int) (hl : l.length ≤ 4611686018427387904) (h1 : ∀ k, k < l.length → w.cell? ⟨b, off + k, none⟩ = some (.int .i64 (l[k]?.getD 0))) (h2 : ∀ k, k < l.length → w.cell? ⟨b', off' + k, none⟩ = some (.int .i64 (l[k]?.getD 0))) :
    Calls Try.prog 27 #[.slice (some ⟨b, off, none⟩) l.length c, .slice (some ⟨b', off', none⟩) l.length c'] w fun e w' => e = .returned (.bool true) ∧ ∃ m, w' = w.drewN m := by
  have H1 := Lib.hid h1
  have H2 := Lib.hid h2
  clear h1 h2
  go_enter Try.func27, Try.ntmps27
  go_wp2
  go_loopw [5] (fun i wr => ∃ k : Nat, k ≤ l.length ∧ i = .int .i64 k ∧ ∃ m, wr = w.drewN m) (fun i _ => l.length - (intOf i).toNat)
  case atStart => exact ⟨0, Nat.zero_le _, rfl, 0, rfl⟩
  case round =>
    obtain ⟨k, hk, rfl, m, rfl⟩ := hrel
    by_cases hlt : k < l.length
    · have c1 := H1.out k hlt
      have c2 := H2.out k hlt
      have hlti : (k : Int) < l.length := by omega
      go_wp2
      go_quiet (fail)
      go_wp2
      go_roundw
      case rel => exact ⟨k + 1, by omega, by go_num, _, rfl⟩
      case measure => simp [intOf]; omega
    · obtain rfl : k = l.length := by omega
      go_wp2
      go_ret
      exact ⟨rfl, _, rfl⟩

set_option maxHeartbeats 400000 in
theorem same_empty (w : World) (a a' : Option Addr) (c c' : Nat) :
    Calls Try.prog 27 #[.slice a 0 c, .slice a' 0 c'] w fun e w' => e = .returned (.bool true) ∧ ∃ m, w' = w.drewN m := by
  go_enter Try.func27, Try.ntmps27
  go_wp2
  go_loopw [5] (fun i wr => i = .int .i64 0 ∧ wr = w) (fun _ _ => 0)
  case atStart => exact ⟨rfl, rfl⟩
  case round =>
    obtain ⟨rfl, rfl⟩ := hrel
    go_wp2
    go_ret
    exact ⟨rfl, 0, rfl⟩

theorem same_yes {w : World} {v v' : Value} {l : List Int} (h : HasInts w v l) (h' : HasInts w v' l) (hl : l.length ≤ 4611686018427387904) :
    Calls Try.prog 27 #[v, v'] w fun e w' => e = .returned (.bool true) ∧ ∃ m, w' = w.drewN m := by
  rcases h with ⟨rfl, a, c, rfl⟩ | ⟨hp, b, off, c, rfl, _, h1⟩
  · rcases h' with ⟨_, a', c', rfl⟩ | ⟨hp, _⟩
    · exact same_empty w a a' c c'
    · simp at hp
  · rcases h' with ⟨rfl, _⟩ | ⟨_, b', off', c', rfl, _, h2⟩
    · simp at hp
    · exact same_some w b off c b' off' c' l hl h1 h2

/-- a script of calls, each its kind and its number -/
def HasOps (w : World) (v : Value) (l : List (Int × Int)) : Prop :=
  (l = [] ∧ ∃ ao cap, v = .slice ao 0 cap) ∨ (0 < l.length ∧ ∃ b off cap, v = .slice (some ⟨b, off, none⟩) l.length cap ∧ b < w.heap.size ∧ ∀ k, k < l.length → w.cell? ⟨b, off + k * 2, none⟩ = some (.int .i64 (l[k]?.getD (0, 0)).1) ∧ w.cell? ⟨b, off + k * 2 + 1, none⟩ = some (.int .i64 (l[k]?.getD (0, 0)).2))

end Go.Proofs.Ytifhnealecndnaa
