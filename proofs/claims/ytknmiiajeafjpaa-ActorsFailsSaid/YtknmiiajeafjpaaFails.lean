/- ActorsFails, walked. -/
import Derived.Test.YtknmiiajeafjpaaRefNew1
import Derived.Test.YtknmiiajeafjpaaInActs
import Derived.Test.YtknmiiajeafjpaaLens
namespace Go.Proofs.Ytknmiiajeafjpaa
open Go.RowKit

theorem errP_cases (t : Int) : errP t = 60 ∨ errP t = 61 := by unfold errP; split <;> simp

theorem Act.keep_len {w : World} {o : Col} {c d b : Nat} {t : Int} {ps keep : List Int} {n : Int} (h : Act w o c d b t ps keep n) : keep.length ≤ 16 := by
  obtain ⟨K, vi, vo, vt, vs, h⟩ := h
  by_cases h1 : t = 1
  · have h2 := (h.taps h1).2.2
    have h3 : 1 ≤ ps.length ∧ ps.length ≤ 16 := by have := h.good; subst h1; simpa [goodP] using this
    omega
  by_cases h8 : t = 8 ∨ t = 10
  · rw [h.keep1 h8]; omega
  · rw [h.keep2 h1 (fun e => h8 (.inl e)) (fun e => h8 (.inr e))]; simp



set_option maxRecDepth 100000 in
set_option maxHeartbeats 2000000 in
theorem fails_no {o : Col} {c : Nat} (w : World) (t : Int) (ao : Option Addr) (n cap : Nat) (ps : List Int) (v : Value) (hg : ¬ goodP t ps) (hl : ps.length ≤ 17600000000000) (h : Ints w o c (.slice ao n cap) ps) : Calls Try.prog 8 #[.int .u8 t, .slice ao n cap, v] w fun e w' => e = .returned (.bool true) ∧ Below w.heap.size w w' := by
  have hx := errP_cases t
  have HG := Lib.hid hg
  have HL := Lib.hid hl
  have HH := Lib.hid h.has
  clear hg hl h
  go_enter Try.func8, Try.ntmps8
  go_wp2_with fail
  refine (New_no HG.out HL.out HH.out).mono ?_
  rintro e w1 ⟨rfl, hb1⟩
  have HH1 := Lib.hid (HH.out.below hb1)
  go_wp2_with fail
  refine (New_no HG.out HL.out HH1.out).mono ?_
  rintro e w2 ⟨rfl, hb2⟩
  have HH2 := Lib.hid (HH1.out.below hb2)
  go_wp2_with fail
  refine (rnew_no w2 t ao n cap ps HG.out HH2.out).mono ?_
  rintro e w3 ⟨rfl, hb3⟩
  have hb20 : Below w.heap.size w w2 := hb1.trans (hb2.mono hb1.size)
  have hb30 : Below w.heap.size w w3 := hb20.trans (hb3.mono hb20.size)
  unfold refZero
  rcases hx with hx | hx
  · rw [hx]
    go_wp2_with fail
    have hbA : Below w.heap.size w (w3.alloc (.cells #[.int .u8 0, .slice none 0 0, .slice none 0 0, .slice none 0 0, .slice none 0 0, .int .i64 0] 48)) := hb30.alloc hb30.size _
    refine (awake_yes _).mono ?_
    rintro e w4 ⟨rfl, hb4⟩
    have hb5 := hbA.trans (hb4.mono hbA.size)
    clear hb4 hbA
    go_wp2
    go_ret
    exact ⟨rfl, hb5⟩
  · rw [hx]
    go_wp2_with fail
    have hbA : Below w.heap.size w (w3.alloc (.cells #[.int .u8 0, .slice none 0 0, .slice none 0 0, .slice none 0 0, .slice none 0 0, .int .i64 0] 48)) := hb30.alloc hb30.size _
    refine (awake_yes _).mono ?_
    rintro e w4 ⟨rfl, hb4⟩
    have hb5 := hbA.trans (hb4.mono hbA.size)
    clear hb4 hbA
    go_wp2
    go_ret
    exact ⟨rfl, hb5⟩

set_option maxRecDepth 100000 in
set_option maxHeartbeats 4000000 in
theorem fails_yes {o : Col} {c : Nat} (w : World) (t : Int) (ao : Option Addr) (n cap : Nat) (ps : List Int) (v : Value) (os : List (Int × List (List Int))) (hg : goodP t ps) (hf : ∀ x ∈ ps, Fits x) (h : Ints w o c (.slice ao n cap) ps) (hos : HasActs w v os) (hn : os.length ≤ 17600000000000) : Calls Try.prog 8 #[.int .u8 t, .slice ao n cap, v] w fun e w' => e = .returned (.bool true) ∧ Below w.heap.size w w' := by
  have HG := Lib.hid hg
  have HF := Lib.hid hf
  have HH := Lib.hid h.has
  have HOS := Lib.hid hos
  have HN := Lib.hid hn
  obtain ⟨oao, ocp, rfl⟩ : ∃ ao cap, v = .slice ao os.length cap := by
    rcases hos with ⟨rfl, ao, cap, rfl⟩ | ⟨_, b, off, cap, rfl, _⟩
    · exact ⟨_, _, rfl⟩
    · exact ⟨_, _, rfl⟩
  clear hg hf h hos hn
  go_enter Try.func8, Try.ntmps8
  go_wp2_with fail
  refine (New_act (fun _ => 0) 1 2 (by decide) HG.out HF.out HH.out).mono ?_
  rintro e w1 ⟨bb, o1, rfl, T1, A1⟩
  have K1 := (Kept.start w).turn T1 (fun h => h)
  have HH1 := Lib.hid (HH.out.below K1.below)
  go_wp2_with fail
  refine (New_act o1 3 4 (by decide) HG.out HF.out HH1.out).mono ?_
  rintro e w2 ⟨bc, o2, rfl, T2, A2⟩
  have HK2 := Lib.hid (K1.turn T2 (fun h => h))
  have HB2 := Lib.hid (A1.turn T2 (fun h => h) (fun h => h))
  have HC2 := Lib.hid A2
  have HH2 := Lib.hid (HH.out.below HK2.out.below)
  clear T1 T2 K1 A1 A2 HH1
  go_wp2_with fail
  refine (rnew_ok w2 t ao n cap ps HG.out HH2.out).mono ?_
  rintro e w3 ⟨vp, vi, vo, vk, rfl, p1, p2, p3, p4, hb3⟩
  obtain ⟨a1, c1, rfl⟩ := owns_slice p1
  obtain ⟨a2, c2, rfl⟩ := owns_slice p2
  obtain ⟨a3, c3, rfl⟩ := owns_slice p3
  obtain ⟨a4, c4, rfl⟩ := owns_slice p4
  clear p1 p2 p3 p4
  have hbA : Below w2.heap.size w2 (w3.alloc (.cells #[.int .u8 t, .slice a1 ps.length c1, .slice a2 (insP t ps).length c2, .slice a3 (outsP t ps).length c3, .slice a4 (keep0 t ps).length c4, .int .i64 0] 48)) := hb3.alloc hb3.size _
  have HK3 := Lib.hid (HK2.out.of_below 0 hbA)
  have HB3 := Lib.hid (HB2.out.below 0 hbA)
  have HC3 := Lib.hid (HC2.out.below 0 hbA)
  clear hb3 hbA HK2 HB2 HC2
  go_wp2_with fail
  generalize ext o2 w2.heap.size 0 = o3 at *
  go_loopw [13] (fun i wr => ∃ (k : Nat) (keep : List Int) (m : Nat) (q : Col), k ≤ os.length ∧ i = .int .i64 k ∧ m ≤ k ∧ Kept w.heap.size q w wr ∧ Act wr q 1 2 bb t ps keep m ∧ Act wr q 3 4 bc t ps keep m) (fun i _ => os.length - (intOf i).toNat)
  case atStart => exact ⟨0, keep0 t ps, 0, o3, Nat.zero_le _, rfl, Nat.le_refl _, HK3.out, HB3.out, HC3.out⟩
  case round =>
    clear HK3 HB3 HC3
    obtain ⟨k, keep, m, q, hk, rfl, hm, K, B, C⟩ := hrel
    have HK := Lib.hid K
    have HB := Lib.hid B
    have HC := Lib.hid C
    clear K B C
    by_cases hlt : k < os.length
    · have hlti : (k : Int) < os.length := by omega
      have hll := HN.out
      have fm : Fits ((m : Int) + 1) := by unfold Fits; omega
      rcases HOS.out with ⟨rfl, _⟩ | ⟨_, b0, off, cp0, e0, _, hops⟩
      · simp at hlt
      obtain ⟨hask, xv, hxv, hll0, hfx⟩ := hops k hlt
      cases e0
      generalize (os[k]?.getD (0, [])).2 = xss at *
      have hxr := cell_later HK.out.below hxv
      have HXV := Lib.hid hxv
      have HLL := Lib.hid hll0
      have HFX := Lib.hid hfx
      clear hask hxv hll0 hfx hops
      go_wp2_with fail
      refine (State_act HB.out).mono ?_
      rintro e w4 ⟨sv, rfl, so, hb4⟩
      have HK4 := Lib.hid (HK.out.of_below 5 hb4)
      have HB4 := Lib.hid (HB.out.below 5 hb4)
      have HC4 := Lib.hid (HC.out.below 5 hb4)
      have HS4 := Lib.hid (Own.made q 5 so).vals
      obtain ⟨sa, sc, rfl⟩ := owns_slice so
      clear so hb4 HK HB HC hxr
      generalize ext q wr.heap.size 5 = q4 at *
      go_wp2_with fail
      refine (Fired_act HB4.out).mono ?_
      rintro e _ ⟨rfl, rfl⟩
      have hxr4 := cell_later HK4.out.below HXV.out
      go_wp2_with fail
      have HL4 := Lib.hid (HLL.out.below HK4.out.below)
      by_cases hfit : xss.map (fun l => (l.length : Int)) = insP t ps
      · rcases hr : reckP t ps keep xss with _ | ⟨outs, keep'⟩
        · refine (Fire_fault HB4.out HL4.out HFX.out fm hfit hr).mono ?_
          clear hr
          rintro e w5 ⟨rfl, hb5⟩
          have HK5 := Lib.hid (HK4.out.of_below 7 hb5)
          have HB5 := Lib.hid (HB4.out.below 7 hb5)
          have HC5 := Lib.hid (HC4.out.below 7 hb5)
          have HS5 := Lib.hid (HS4.out.has.below hb5)
          clear hb5 HK4 HC4 HS4 hxr4
          generalize ext q4 w4.heap.size 7 = q5 at *
          have HKL := Lib.hid HB5.out.keep_len
          go_wp2_with fail
          refine (State_act HB5.out).mono ?_
          rintro e w6 ⟨sv2, rfl, so2, hb6⟩
          have HK6 := Lib.hid (HK5.out.of_below 7 hb6)
          have HB6 := Lib.hid (HB5.out.below 7 hb6)
          have HC6 := Lib.hid (HC5.out.below 7 hb6)
          have HS6 := Lib.hid (HS5.out.below hb6)
          have HT6 := Lib.hid (Own.made q5 5 so2).vals.has
          obtain ⟨sa2, sc2, rfl⟩ := owns_slice so2
          clear so2 hb6 HK5 HC5 HS5
          generalize ext q5 w5.heap.size 7 = q6 at *
          go_wp2_with fail
          refine (sameints_yes HT6.out HS6.out (by have := HKL.out; omega)).mono ?_
          rintro e w7 ⟨rfl, m7, rfl⟩
          have HK7 := Lib.hid (HK6.out.drewN m7)
          have HB7 := Lib.hid (HB6.out.drewN m7)
          have HC7 := Lib.hid (HC6.out.drewN m7)
          clear HK6 HC6
          generalize w6.drewN m7 = w7 at *
          go_wp2_with fail
          refine (Fired_act HB7.out).mono ?_
          rintro e _ ⟨rfl, rfl⟩
          go_wp2
          go_roundw
          case rel => exact ⟨k + 1, keep, m, q6, by omega, by go_num, by omega, HK7.out, HB7.out, HC7.out⟩
          case measure => simp [intOf]; omega
        · refine (Fire_act 6 (by decide) HB4.out HL4.out HFX.out fm hfit hr).mono ?_
          rintro e w5 ⟨ov, o5, rfl, T5, B5, O5⟩
          have HRL := Lib.hid (reck_row HG.out hfit hr)
          have HFT := Lib.hid hfit
          have hoc : (outs.length : Int) ≤ 64 := by have := reck_count HG.out hfit hr; omega
          have HR := Lib.hid hr
          have HK5 := Lib.hid (HK4.out.turn T5 (by decide))
          have HC5 := Lib.hid (HC4.out.turn T5 (by decide) (by decide))
          have HB5 := Lib.hid B5
          obtain ⟨oa, oc, rfl⟩ := outs_ends O5
          have HO5 := Lib.hid O5
          clear hfit hr T5 B5 O5 HK4 HB4 HC4 HS4 HL4 hxr4
          have hxr5 := cell_later HK5.out.below HXV.out
          have HL5 := Lib.hid (HLL.out.below HK5.out.below)
          go_wp2_with fail
          refine (Fire_act 7 (by decide) HC5.out HL5.out HFX.out fm HFT.out HR.out).mono ?_
          rintro e w6 ⟨ov2, o6, rfl, T6, C6, O6⟩
          have HK6 := Lib.hid (HK5.out.turn T6 (by decide))
          have HB6 := Lib.hid (HB5.out.turn T6 (by decide) (by decide))
          have HO6 := Lib.hid (HO5.out.turn T6 (by decide)).ll
          have HC6 := Lib.hid C6
          obtain ⟨oa2, oc2, rfl⟩ := outs_ends O6
          have HP6 := Lib.hid O6.ll
          clear T6 C6 O6 HK5 HB5 HC5 HO5 HL5 hxr5 HR HFT
          go_wp2_with fail
          refine (Fired_act HB6.out).mono ?_
          rintro e _ ⟨rfl, rfl⟩
          have hmi : wrap64 ((m : Int) + 1) = (m : Int) + 1 := IntWalk.wrap64_in _ (by omega)
          go_wp2_with fail
          clear hmi
          go_loopw [20] (fun jj wq => ∃ j : Nat, j ≤ outs.length ∧ jj = .int .i64 j ∧ ∃ q, wq = w6.drewN q) (fun jj _ => outs.length - (intOf jj).toNat)
          case atStart => exact ⟨0, Nat.zero_le _, rfl, 0, rfl⟩
          case round =>
            rename_i wr0 _ wr
            obtain ⟨j, hj, rfl, q7, hq7⟩ := hrel
            have HW := Lib.hid hq7
            have HA := Lib.hid (HO6.out.below (below_n (Below.refl _ _) q7))
            have HP := Lib.hid (HP6.out.below (below_n (Below.refl _ _) q7))
            have HKq := Lib.hid (HK6.out.drewN q7)
            have HBq := Lib.hid (HB6.out.drewN q7)
            have HCq := Lib.hid (HC6.out.drewN q7)
            rw [← hq7] at HA HP HKq HBq HCq
            clear hq7
            by_cases hlo : j < outs.length
            · obtain ⟨ba, ofa, rfl, hca, hrowa⟩ := HA.out.at (by omega)
              obtain ⟨bb2, ofb, rfl, hcb, hrowb⟩ := HP.out.at (by omega)
              obtain ⟨aa, ca, hra, hha⟩ := hrowa j hlo
              obtain ⟨ab, cb, hrb, hhb⟩ := hrowb j hlo
              have hloi : (j : Int) < outs.length := by omega
              have hcai : (outs.length : Int) ≤ oc := by omega
              have hcbi : (outs.length : Int) ≤ oc2 := by omega
              have HHA := Lib.hid hha
              have HHB := Lib.hid hhb
              have HLM := Lib.hid (HRL.out j)
              clear hrowa hrowb hha hhb
              generalize outs[j]?.getD [] = row at *
              go_wp2
              go_quiet ((go_at_call 16; go_must (exact Calls.quiet_of (sameints_yes (HHA.out.drewN _) (HHB.out.drewN _) (by have := HLM.out; omega)))))
              go_wp2
              go_roundw
              case rel => exact ⟨j + 1, by omega, by go_num, q7 + _, by rw [HW.out]; exact World.drewN_drewN _ _ _⟩
              case measure => simp [intOf]; omega
            · obtain rfl : j = outs.length := by omega
              go_wp2
              go_roundw
              case rel => exact ⟨k + 1, keep', m + 1, o6, by omega, by go_num, by omega, HKq.out, HBq.out, HCq.out⟩
              case measure => simp [intOf]; omega
      · refine (Fire_arg HB4.out HL4.out HFX.out fm hfit).mono ?_
        clear hfit
        rintro e w5 ⟨rfl, hb5⟩
        have HK5 := Lib.hid (HK4.out.of_below 7 hb5)
        have HB5 := Lib.hid (HB4.out.below 7 hb5)
        have HC5 := Lib.hid (HC4.out.below 7 hb5)
        have HS5 := Lib.hid (HS4.out.has.below hb5)
        clear hb5 HK4 HC4 HS4 hxr4
        generalize ext q4 w4.heap.size 7 = q5 at *
        have HKL := Lib.hid HB5.out.keep_len
        go_wp2_with fail
        refine (State_act HB5.out).mono ?_
        rintro e w6 ⟨sv2, rfl, so2, hb6⟩
        have HK6 := Lib.hid (HK5.out.of_below 7 hb6)
        have HB6 := Lib.hid (HB5.out.below 7 hb6)
        have HC6 := Lib.hid (HC5.out.below 7 hb6)
        have HS6 := Lib.hid (HS5.out.below hb6)
        have HT6 := Lib.hid (Own.made q5 5 so2).vals.has
        obtain ⟨sa2, sc2, rfl⟩ := owns_slice so2
        clear so2 hb6 HK5 HC5 HS5
        generalize ext q5 w5.heap.size 7 = q6 at *
        go_wp2_with fail
        refine (sameints_yes HT6.out HS6.out (by have := HKL.out; omega)).mono ?_
        rintro e w7 ⟨rfl, m7, rfl⟩
        have HK7 := Lib.hid (HK6.out.drewN m7)
        have HB7 := Lib.hid (HB6.out.drewN m7)
        have HC7 := Lib.hid (HC6.out.drewN m7)
        clear HK6 HC6
        generalize w6.drewN m7 = w7 at *
        go_wp2_with fail
        refine (Fired_act HB7.out).mono ?_
        rintro e _ ⟨rfl, rfl⟩
        go_wp2
        go_roundw
        case rel => exact ⟨k + 1, keep, m, q6, by omega, by go_num, by omega, HK7.out, HB7.out, HC7.out⟩
        case measure => simp [intOf]; omega
    · obtain rfl : k = os.length := by omega
      have HKL := Lib.hid HB.out.keep_len
      go_wp2_with fail
      refine (Fired_act HC.out).mono ?_
      rintro e _ ⟨rfl, rfl⟩
      go_wp2_with fail
      refine (Fired_act HB.out).mono ?_
      rintro e _ ⟨rfl, rfl⟩
      go_wp2_with fail
      refine (State_act HB.out).mono ?_
      rintro e w4 ⟨sv, rfl, so, hb4⟩
      have HK4 := Lib.hid (HK.out.of_below 5 hb4)
      have HC4 := Lib.hid (HC.out.below 5 hb4)
      have HS4 := Lib.hid (Own.made q 5 so).vals.has
      obtain ⟨sa, sc, rfl⟩ := owns_slice so
      clear so hb4 HK HB HC
      generalize ext q wr.heap.size 5 = q4 at *
      go_wp2_with fail
      refine (State_act HC4.out).mono ?_
      rintro e w5 ⟨sv2, rfl, so2, hb5⟩
      have HK5 := Lib.hid (HK4.out.of_below 5 hb5)
      have HS5 := Lib.hid (HS4.out.below hb5)
      have HT5 := Lib.hid (Own.made q4 5 so2).vals.has
      obtain ⟨sa2, sc2, rfl⟩ := owns_slice so2
      clear so2 hb5 HK4 HC4 HS4
      go_wp2_with fail
      refine (sameints_yes HS5.out HT5.out (by have := HKL.out; omega)).mono ?_
      rintro e w6 ⟨rfl, m6, rfl⟩
      go_wp2_with fail
      refine (awake_yes _).mono ?_
      rintro e w7 ⟨rfl, hb7⟩
      have hbz := (HK5.out.drewN m6).below.trans (hb7.mono (HK5.out.drewN m6).size)
      clear hb7
      go_wp2
      go_ret
      exact ⟨rfl, hbz⟩

theorem fails_all {o : Col} {c : Nat} (w : World) (t : Int) (v : Value) (ps : List Int) (v2 : Value) (os : List (Int × List (List Int))) (h : Ints w o c v ps) (hf : ∀ x ∈ ps, Fits x) (hos : HasActs w v2 os) (hl : ps.length ≤ 17600000000000) (hn : os.length ≤ 17600000000000) : Calls Try.prog 8 #[.int .u8 t, v, v2] w fun e w' => e = .returned (.bool true) ∧ Below w.heap.size w w' := by
  obtain ⟨ao, cap, rfl⟩ := h.slice
  by_cases hg : goodP t ps
  · exact fails_yes w t ao _ cap ps v2 os hg hf h hos hn
  · exact fails_no w t ao _ cap ps v2 hg hl h
end Go.Proofs.Ytknmiiajeafjpaa
