/- nest.Check. -/
import Derived.Test.YtbmbfifempkhgaaNTotal
namespace Go.Proofs.Ytbmbfifempkhgaa
open Go.RowKit

set_option maxRecDepth 100000 in
theorem ncheck_any (D : Nat) (w : World) (v : Value) (l : Nest) (hv : HasNestD D w v l) (hs : NSized l) : Calls Try.prog 40 #[v] w (Tells (.int .i64 (nestCheckE l)) w) := by
  obtain ⟨ao, cap, rfl⟩ := nestD_slice D hv
  have hbK := below_alloc w (.cells #[.int .i64 0] 145)
  have hK : Blk (w.alloc (.cells #[.int .i64 0] 145)) (ext (fun _ => 0) w.heap.size 1) 1 w.heap.size 145 #[.int .i64 ((0 : Nat) : Int)] := ⟨heap_alloc_new w _, ext_new (Nat.le_refl _)⟩
  have HK := Lib.hid hK
  have HKe := Lib.hid ((Kept.start w).of_below 1 hbK)
  have HV := Lib.hid hv
  have HS := Lib.hid hs
  obtain ⟨E, hE⟩ : ∃ E, nestCheckE l = E := ⟨_, rfl⟩
  rw [hE]
  have HE := Lib.hid hE
  have hrow := Lib.hid (nrow_any D w _ (ext (fun _ => 0) w.heap.size 1) w.heap.size _ l 0 0 hv hs HKe.out hK (by omega) (by omega))
  clear hbK hK hv hs hE HK
  go_enter Try.func40, Try.ntmps40
  go_wp2_with fail
  refine (hrow.out).mono ?_
  rintro e w2 ⟨rfl, o2, T, hK2⟩
  have HK2 := Lib.hid (HKe.out.turn T (by decide))
  clear T hK2 hrow HKe
  obtain ⟨r, hr⟩ : ∃ r, nestE l 0 0 = r := ⟨_, rfl⟩
  obtain ⟨r1, r2⟩ := r
  rw [hr]
  have HR := Lib.hid hr
  clear hr
  by_cases h0 : r1 = 0
  · subst h0
    have HTM := Lib.hid (times_of l 0 0 (by rw [HR.out]))
    go_wp2_with fail
    refine (ntotal_any D _ _ l (nestD_below D HV.out HK2.out.below) HS.out HTM.out).mono ?_
    rintro e w3 ⟨rfl, hb3⟩
    have HB3 := Lib.hid (HK2.out.below.trans (hb3.mono HK2.out.size))
    clear hb3
    obtain ⟨tt, ht⟩ : ∃ x, totalP l 0 = x := ⟨_, rfl⟩
    rw [ht]
    have HT := Lib.hid ht
    clear ht
    by_cases h1 : 2048 < tt
    · have e : E = 5 := by rw [← HE.out, nestCheckE, HR.out, if_neg (by simp), HT.out, if_pos h1]
      subst e
      go_wp2
      go_ret
      exact ⟨rfl, HB3.out⟩
    · have e : E = 0 := by rw [← HE.out, nestCheckE, HR.out, if_neg (by simp), HT.out, if_neg h1]
      subst e
      go_wp2
      go_ret
      exact ⟨rfl, HB3.out⟩
  · have e : E = r1 := by rw [← HE.out, nestCheckE, HR.out, if_pos (by simpa using h0)]
    subst e
    go_wp2
    go_ret
    exact ⟨rfl, HK2.out.below⟩
end Go.Proofs.Ytbmbfifempkhgaa
