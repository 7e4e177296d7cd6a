/- Small makers of lists: clone, ports, same, within. -/
import Derived.Test.YtbmbfifempkhgaaProg
import Derived.Test.YtbmbfifempkhgaaCol
import Derived.Test.YtbmbfifempkhgaaReg
import Derived.Deep.QuietTactic
import Derived.BigQuiet
import Derived.Deep.DeepMust
import Derived.Laws.OwnMore
namespace Go.Proofs.Ytbmbfifempkhgaa
open Go.RowKit

theorem info_int : (Try.prog.info? 3).map (fun i => (i.zero, i.size, i.bytes)) = some (some (.int .i64 0), 1, 8) := by kernel_rfl
theorem info_ints : (Try.prog.info? 52).map (fun i => (i.zero, i.size, i.bytes)) = some (some (.slice none 0 0), 1, 24) := by kernel_rfl
theorem ret_int {k : IntKind} {a b : Int} (h : a = b) : Ending.returned (.int k a) = .returned (.int k b) := by rw [h]
theorem ivs_one (zs : List Int) : ∀ u ∈ zs.map (Value.int .i64), u.oneCell' = true := ints_oneCell .i64 zs
theorem below_mods {w w' : World} (h : Mods (fun _ => False) w w') : Below w.heap.size w w' := h.below (Nat.le_refl _) (fun _ _ h => h)
/-- a fresh copy -/
def FreshCopy (w : World) (l : List Int) (e : Ending) (w' : World) : Prop :=
  ∃ g cap, e = .returned (.slice (some ⟨g, 0, none⟩) l.length cap) ∧ w'.ownsRow w.heap.size 3 1 (.slice (some ⟨g, 0, none⟩) l.length cap) l.length (ivs l) ∧ Below w.heap.size w w'


set_option maxHeartbeats 400000 in
theorem ports_any {o : Col} {c : Nat} (w : World) (ao : Option Addr) (n cap : Nat) (l : List Int) (h : Ints w o c (.slice ao n cap) l) (hn : l.length ≤ 17600000000000) : Calls Try.prog 64 #[.slice ao n cap] w (FreshCopy w l) := by
  obtain ⟨i0, hi, hz0, hz1, hz2⟩ := info_parts info_int
  obtain ⟨hnone, hnews⟩ := h.news
  obtain rfl := h.len
  have HN := Lib.hid hn
  have Hnone := Lib.hid hnone
  have Hnews := Lib.hid hnews
  clear hn hnone hnews h
  go_enter Try.func64, Try.ntmps64
  go_wp2_with (at_builtin; refine stop_here ?_)
  refine go_on ?_
  have hown0 := World.ownsRow_made (e := 3) (size := 1) (base := w.heap.size) w #[] 0 (Nat.le_refl _) (Nat.zero_le _) rfl
  refine wpList_app rfl _ _ 52 rfl w.heap.size 3 i0 _ 1 8 Try.underlying52 hi hz0 hz1 hz2 rfl (.slice (some ⟨w.heap.size, 0, none⟩) 0 0) 0 [] rfl hown0 ao l.length cap (ivs l) rfl (by simp) Hnone.out (fun ad had j u hu => ca (Hnews.out ad had j u hu)) (ivs_one l) (by have := HN.out; unfold maxLen; omega) (grow_ok (by have := HN.out; omega)) (by simp) ?_
  intro v' w2 g1 g20 g3 g4
  have g2 : (w.alloc (.cells #[] 3)).grownBy w2 (Value.slice (some ⟨w.heap.size, 0, none⟩) 0 0).ownBlock := g20
  have hb : Below w.heap.size w w2 := (((Mods.refl (fun _ => False) w).alloc (.cells #[] 3)).grown g2 (fun k hk hlt => by have := Option.some.inj hk; simp at this; omega)).below (Nat.le_refl _) (fun _ _ h => h)
  simp only [Nat.zero_add, List.nil_append] at g1
  have hne : v' ≠ .slice none 0 0 := fun e => by have := (g3.1 e).1; cases this
  obtain ⟨g, cp, rfl⟩ : ∃ g cp, v' = .slice (some ⟨g, 0, none⟩) l.length cp := by
    rcases g1.2 with ⟨e, _⟩ | ⟨g, cp, cur, e, _⟩
    · exact absurd e hne
    · exact ⟨g, cp, e⟩
  clear g20 g2 g3 g4 hown0 hne
  go_wp2
  go_ret
  exact ⟨g, cp, rfl, g1, hb⟩


theorem within_any (w : World) (n m : Int) : Calls Try.prog 63 #[.int .i64 n, .int .i64 m] w fun e w' => e = .returned (.bool (decide (1 ≤ n ∧ n ≤ m))) ∧ w = w' := by
  by_cases h1 : 1 ≤ n
  · by_cases h2 : n ≤ m
    · have hd : decide (1 ≤ n ∧ n ≤ m) = true := by simp [h1, h2]
      rw [hd]
      clear hd
      go_enter Try.func63, Try.ntmps63
      go_wp2
      go_ret
      exact ⟨rfl, rfl⟩
    · have hd : decide (1 ≤ n ∧ n ≤ m) = false := by simp [h2]
      rw [hd]
      clear hd
      go_enter Try.func63, Try.ntmps63
      go_wp2
      go_ret
      exact ⟨rfl, rfl⟩
  · have hd : decide (1 ≤ n ∧ n ≤ m) = false := by simp [h1]
    rw [hd]
    clear hd
    go_enter Try.func63, Try.ntmps63
    go_wp2
    go_ret
    exact ⟨rfl, rfl⟩

theorem ivs_set_rep (n k : Nat) (r : Int) (h : k < n) : (ivs (List.replicate k r ++ List.replicate (n - k) 0)).set k (iv r) = ivs (List.replicate (k + 1) r ++ List.replicate (n - (k + 1)) 0) := by
  rw [← List.map_set, List.set_append_right _ _ (by simp), List.replicate_succ', List.append_assoc]
  congr 1
  simp only [List.length_replicate, Nat.sub_self]
  obtain ⟨m, hm⟩ : ∃ m, n - k = m + 1 := ⟨n - k - 1, by omega⟩
  rw [hm, List.replicate_succ, show n - (k + 1) = m by omega]
  rfl

theorem made_ints (n : Nat) : (madeCells (Value.cells (.int .i64 0)) (n * 1)).toList = ivs (List.replicate n 0) := by
  rw [Nat.mul_one]
  simp [madeCells, Value.cells, ivs, Nat.mod_one, List.map_const']

set_option maxHeartbeats 800000 in
theorem same_any (w : World) (n : Nat) (r : Int) (hn : n ≤ 1000000) : Calls Try.prog 65 #[.int .i64 n, .int .i64 r] w (FreshCopy w (List.replicate n r)) := by
  obtain ⟨i0, hi, hz0, hz1, hz2⟩ := info_parts info_int
  obtain ⟨w1, hr, hown, hg⟩ := run_make_full (P := Try.prog) w w.heap.size 52 3 i0 _ 1 Try.underlying52 hi hz0 hz1 .i64 .i64 n (by rw [hz2]; omega) (by unfold maxLen; omega) (Nat.le_refl _)
  have hb1 : Below w.heap.size w w1 := ((Mods.refl (fun _ => False) w).grown hg (fun k hk _ => by cases hk)).below (Nat.le_refl _) (fun _ _ h => h)
  rw [made_ints] at hown
  have hnn : (n : Int) ≤ 1000000 := by omega
  go_enter Try.func65, Try.ntmps65
  go_wp2_with fail
  clear hr hg
  go_loopw [11] (fun i wr => ∃ k : Nat, k ≤ n ∧ i = .int .i64 k ∧ wr.ownsRow w.heap.size 3 1 (.slice (some ⟨w.heap.size, 0, none⟩) n n) n (ivs (List.replicate k r ++ List.replicate (n - k) 0)) ∧ Below w.heap.size w wr) (fun i _ => n - (intOf i).toNat)
  case atStart => exact ⟨0, Nat.zero_le _, rfl, by simpa using hown, hb1⟩
  case round =>
    clear hown hb1
    obtain ⟨k, hk, rfl, ho, hb⟩ := hrel
    by_cases hlt : k < n
    · obtain ⟨_, _, g', _, e, hc, hf, _⟩ := owns_cell ho (by simp; omega)
      cases e
      have hc' := hc k _ (by rw [List.getElem?_eq_getElem (by simp; omega)])
      have hf' := hf k
      have hlti : (k : Int) < n := by omega
      obtain ⟨ho2, hg2⟩ := ho.stored k (iv r)
      rw [ivs_set_rep n k r hlt] at ho2
      have hb2 := hb.trans (((Mods.refl (fun j => j = w.heap.size) wr).grown hg2 (fun j hj _ => (Option.some.inj hj).symm)).below (B := w.heap.size) (by have := hb.size; omega) (fun j hj e => by omega))
      clear ho hb hg2 hc hf
      go_wp2
      go_roundw
      case rel => exact ⟨k + 1, by omega, by go_num, ho2, hb2⟩
      case measure => simp [intOf]; omega
    · obtain rfl : k = n := by omega
      go_wp2
      go_ret
      refine ⟨w.heap.size, k, ?_, ?_, hb⟩
      · rw [List.length_replicate]; rfl
      · rw [List.length_replicate]; simpa using ho
end Go.Proofs.Ytbmbfifempkhgaa
