/- The waker answers true, and touches nothing that stood before. -/
import Derived.Test.YtifhnealecndnaaW5
namespace Go.Proofs.Ytifhnealecndnaa
open Go.RowKit

set_option maxHeartbeats 400000 in
theorem awake_yes (w : World) : Calls Try.prog 10 #[] w fun e w' => e = .returned (.bool true) ∧ Below w.heap.size w w' := by
  go_enter Try.func10, Try.ntmps10
  go_wp2_with fail
  refine (iq_new_yes _ 2 (some ⟨w.heap.size, 0, none⟩) 1 [7] (by omega) (by omega) (fun h => by cases h) (news_alloc w [.int .i64 7] 3) (by simp)).mono ?_
  rintro e w1 ⟨b, r, rfl, hb1, q1⟩
  have hs1 := hb1.size
  simp at hs1
  go_wp2_with fail
  refine (iq_put_yes q1 (by simp) (by simp; omega) (by simp)).mono ?_
  rintro e w2 ⟨rfl, r2, q2, hm2, -⟩
  have hs2 := hm2.size
  go_wp2_with fail
  refine (iq_put_no q2 (by simp) (by simp)).mono ?_
  rintro e w3 ⟨rfl, m3, rfl⟩
  go_wp2_with fail
  refine (iq_take_cons (q2.drewN m3) (by simp) (by simp; omega)).mono ?_
  rintro e w4 ⟨rfl, r4, q4, hm4, -⟩
  have hs4 := hm4.size
  go_wp2_with fail
  refine (iq_len q4 (by simp)).mono ?_
  rintro e w5 ⟨rfl, m5, rfl⟩
  go_wp2_with fail
  refine (iq_room (q4.drewN m5) (by simp)).mono ?_
  rintro e w6 ⟨rfl, m6, rfl⟩
  go_wp2
  go_ret
  obtain ⟨_, k1, k2, _⟩ := q1.lt
  simp at k1
  refine ⟨rfl, ?_⟩
  have e1 : Below w.heap.size w w1 := ((Below.refl _ _).alloc (Nat.le_refl _) _).trans (hb1.mono (by simp))
  have e2 : Below w.heap.size w1 w2 := hm2.below (by omega) (fun k hk hf => by
    rcases hf with rfl | hf
    · omega
    · have := (k2 k hf).1; simp at this; omega)
  have e4 : Below w.heap.size w2 w4 := (mods_ld hm4).below (by omega) (fun k hk hf => by omega)
  exact below_dr ((e1.trans e2).trans e4)
end Go.Proofs.Ytifhnealecndnaa
