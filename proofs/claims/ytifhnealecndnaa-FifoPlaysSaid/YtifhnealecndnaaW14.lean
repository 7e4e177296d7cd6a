/- Two queues beside one another, of two capacities: whatever the capacities and whatever the calls. -/
import Derived.Test.YtifhnealecndnaaW13
namespace Go.Proofs.Ytifhnealecndnaa
open Go.RowKit

set_option maxRecDepth 100000 in
set_option maxHeartbeats 1000000 in
theorem two_empty (w : World) (one two : Int) (ao : Option Addr) (cap : Nat) (h1 : 0 ≤ one) (h1' : one ≤ 9223372036854775807) (h2 : 0 ≤ two) (h2' : two ≤ 9223372036854775807) :
    Calls Try.prog 7 #[.int .i64 one, .int .i64 two, .slice ao 0 cap] w fun e w' => e = .returned (.bool true) ∧ Below w.heap.size w w' := by
  go_enter Try.func7, Try.ntmps7
  go_wp2_with fail
  refine (iq_new_yes _ one none 0 [] h1 h1' (fun _ => rfl) (fun _ h => by cases h) (by simp)).mono ?_
  rintro e w1 ⟨b1, r1, rfl, hb1, q1⟩
  have hs1 := hb1.size
  go_wp2_with fail
  refine (iq_new_yes _ two none 0 [] h2 h2' (fun _ => rfl) (fun _ h => by cases h) (by simp)).mono ?_
  rintro e w2 ⟨b2, r2, rfl, hb2, q2⟩
  have hs2 := hb2.size
  have q1 := q1.frame (Mods.of_below hb2 (fun _ => False)) (fun h => h) (fun _ _ h => h)
  have hbw := hb1.trans (hb2.mono hs1)
  clear hb1 hb2
  go_wp2_with fail
  go_loopw [11] (fun i wr => i = .int .i64 0 ∧ wr = w2) (fun i _ => 0)
  case atStart => exact ⟨rfl, rfl⟩
  case round =>
    obtain ⟨rfl, rfl⟩ := hrel
    have hsz : w.heap.size ≤ wr.heap.size := by omega
    go_wp2_with fail
    refine (told_any q1 (by simp)).mono ?_
    rintro e w3 ⟨v3, rfl, o3, hb3⟩
    have hsz3 := hb3.size
    have q2' := q2.frame (Mods.of_below hb3 (fun _ => False)) (fun h => h) (fun _ _ h => h)
    go_wp2_with fail
    refine (told_any q2' (by simp)).mono ?_
    rintro e w4 ⟨v4, rfl, o4, hb4⟩
    have hsz4 := hb4.size
    go_wp2_with fail
    refine (same_yes ((has_of_owns o3).below hb4) (has_of_owns o4) (by simp)).mono ?_
    rintro e w5 ⟨rfl, m5, rfl⟩
    go_wp2_with fail
    refine (awake_yes _).mono ?_
    rintro e w9 ⟨rfl, hb9⟩
    go_wp2
    go_ret
    exact ⟨rfl, hbw.trans ((hb3.mono hsz).trans ((hb4.mono (by omega)).trans (below_ld (hb9.mono (by show _ ≤ w4.heap.size; omega)))))⟩

theorem two_all (w : World) (one two : Int) (v : Value) (os : List (Int × Int)) (h1 : one ≤ 9223372036854775807) (h2 : two ≤ 9223372036854775807) (hn : os.length ≤ 26000000000000) (hv : HasOps w v os) :
    Calls Try.prog 7 #[.int .i64 one, .int .i64 two, v] w fun e w' => e = .returned (.bool true) ∧ Below w.heap.size w w' := by
  by_cases g1 : one < 0
  · exact two_neg1 w one two v g1 h2
  by_cases g2 : two < 0
  · exact two_neg2 w one two v (by omega) h1 g2
  rcases hv with ⟨rfl, ao, cap, rfl⟩ | ⟨hp, b, off, cap, rfl, _, hc⟩
  · exact two_empty w one two ao cap (by omega) h1 (by omega) h2
  · exact two_any w one two os b off cap (by omega) h1 (by omega) h2 hn hc
end Go.Proofs.Ytifhnealecndnaa
