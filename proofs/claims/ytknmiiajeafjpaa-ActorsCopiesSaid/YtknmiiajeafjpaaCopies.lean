/- ActorsCopies, walked. -/
import Derived.Test.YtknmiiajeafjpaaTimes
namespace Go.Proofs.Ytknmiiajeafjpaa
open Go.RowKit

set_option maxRecDepth 100000 in
theorem copies_no (w : World) (n x : Int) (_hf : Fits n) (hn : n < 1 ∨ 16 < n) : Calls Try.prog 5 #[.int .i64 n, .int .i64 x] w fun e w' => e = .returned (.bool true) ∧ Below w.heap.size w w' := by
  have hg2 : ¬ goodP 9 [n] := by simp [goodP, oneP, hd]; omega
  have hg3 : ¬ goodP 6 [n] := by simp [goodP, oneP, hd]; omega
  go_enter Try.func5, Try.ntmps5
  go_wp2_with fail
  refine (New_one_no w 9 n hg2 _ rfl).mono ?_
  rintro e w1 ⟨rfl, hb1⟩
  have e2 : errP 9 = 61 := by decide
  have e3 : errP 6 = 61 := by decide
  have hb1 : Below w.heap.size w w1 := (below_alloc w _).trans (hb1.mono (by simp))
  go_wp2_with fail
  refine (New_one_no w1 6 n hg3 _ rfl).mono ?_
  rintro e w2 ⟨rfl, hb2⟩
  have hb2 : Below w.heap.size w w2 := hb1.trans (((below_alloc w1 _).trans (hb2.mono (by simp))).mono hb1.size)
  by_cases h1 : n < 1
  · go_wp2_with fail
    refine (awake_yes w2).mono ?_
    rintro e w3 ⟨rfl, hb3⟩
    go_wp2
    go_ret
    exact ⟨rfl, hb2.trans (hb3.mono hb2.size)⟩
  · have h2 : 16 < n := by omega
    go_wp2_with fail
    refine (awake_yes w2).mono ?_
    rintro e w3 ⟨rfl, hb3⟩
    go_wp2
    go_ret
    exact ⟨rfl, hb2.trans (hb3.mono hb2.size)⟩

theorem copies_reckP (u : Nat) (x : Int) : reckP 9 [(u : Int)] [] [[x]] = some (List.replicate u [x], []) := by
  have e : reckP 9 [(u : Int)] [] [[x]] = some (List.replicate (hd [(u : Int)]).toNat [x], []) := rfl
  rw [e]
  simp [hd]
theorem add_reckP (u : Nat) (x : Int) : reckP 6 [(u : Int)] [] (List.replicate u [x]) = (mulP u x).map fun y => ([[y]], []) := by
  have e : reckP 6 [(u : Int)] [] (List.replicate u [x]) = (sumP 0 (firsts (List.replicate u [x]))).map fun y => ([[y]], []) := rfl
  rw [e, firsts_rep, sumP_times]

set_option maxRecDepth 100000 in
set_option maxHeartbeats 4000000 in
theorem copies_yes (w : World) (u : Nat) (x : Int) (h1 : 1 ≤ u) (h2 : u ≤ 16) (hx : Fits x) : Calls Try.prog 5 #[.int .i64 u, .int .i64 x] w fun e w' => e = .returned (.bool true) ∧ Below w.heap.size w w' := by
  have hg2 : goodP 9 [(u : Int)] := by simp [goodP, oneP, hd]; omega
  have hg3 : goodP 6 [(u : Int)] := by simp [goodP, oneP, hd]; omega
  have fu : Fits (u : Int) := by unfold Fits; omega
  have k2 : keep0 9 [(u : Int)] = [] := rfl
  have k3 : keep0 6 [(u : Int)] = [] := rfl
  have h1i : (1 : Int) ≤ u := by omega
  have h2i : (u : Int) ≤ 16 := by omega
  have HX := Lib.hid hx
  clear hx
  go_enter Try.func5, Try.ntmps5
  go_wp2_with fail
  have K0 := (Kept.start w).of_below 0 (below_alloc w (.cells #[.int .i64 u] 3))
  refine (New_one w (ext (fun _ => 0) w.heap.size 0) 1 2 9 u (by decide) hg2 fu _ rfl).mono ?_
  rintro e w1 ⟨bu, o1, rfl, T1, A1⟩
  have K1 := K0.turn T1 (fun h => h)
  rw [k2] at A1
  clear K0 T1
  have HA1 := Lib.hid (A1.below 0 (below_alloc w1 (.cells #[.int .i64 u] 3)))
  have HK1 := Lib.hid (K1.of_below 0 (below_alloc w1 (.cells #[.int .i64 u] 3)))
  clear A1 K1
  go_wp2_with fail
  refine (New_one w1 (ext o1 w1.heap.size 0) 3 4 6 u (by decide) hg3 fu _ rfl).mono ?_
  rintro e w2 ⟨bd, o2, rfl, T2, A2⟩
  rw [k3] at A2
  have HK2 := Lib.hid (HK1.out.turn T2 (fun h => h))
  have HU := Lib.hid (HA1.out.turn T2 (fun h => h) (fun h => h))
  have HD := Lib.hid A2
  clear A2 T2 HA1 HK1
  go_wp2_with fail
  have hbA : Below w2.heap.size w2 ((w2.alloc (.cells #[.int .i64 x] 3)).alloc (.cells #[.slice (some ⟨w2.heap.size, 0, none⟩) 1 1] 22)) := (below_alloc w2 _).alloc (by simp) _
  refine (Fire_act 5 (by decide) (HU.out.below 0 hbA) (ll_lit w2 [x] 3 22 _ _ rfl rfl (by simp)) (fun l hl z hz => by
    rw [List.mem_singleton.1 hl] at hz; rw [List.mem_singleton.1 hz]; exact HX.out) (by unfold Fits; omega) rfl (copies_reckP u x)).mono ?_
  rintro e w3 ⟨ov, o3, rfl, T3, -, O3⟩
  have T3' := ((Turn.of_below o2 0 hbA).mono (D := fun x => x = 1) (fun _ h => h.elim)).trans T3 (fun _ h => h)
  have HK3 := Lib.hid (HK2.out.turn T3' (by decide))
  have HD3 := Lib.hid (HD.out.turn T3' (by decide) (by decide))
  obtain ⟨oa, oc, rfl⟩ := outs_ends O3
  rw [List.length_replicate] at O3 ⊢
  have HO := Lib.hid O3.ll
  clear O3 T3 T3' hbA HK2 HU HD
  have hfit : (List.replicate u [x]).map (fun l => (l.length : Int)) = insP 6 [(u : Int)] := by simp [insP, hd]
  have hff : ∀ l ∈ List.replicate u [x], ∀ z ∈ l, Fits z := fun l hl z hz => by
    rw [(List.mem_replicate.1 hl).2] at hz; rw [List.mem_singleton.1 hz]; exact HX.out
  have HFIT := Lib.hid hfit
  have HFF := Lib.hid hff
  clear hfit hff
  by_cases hm : Fits (u * x)
  · have em : mulP u x = some (u * x) := by simp [mulP, hm]
    have er := add_reckP u x
    rw [em] at er
    have HE := Lib.hid em
    have HR := Lib.hid er
    have HM := Lib.hid hm
    clear em er hm
    go_wp2_with fail
    refine (Fire_act 5 (by decide) HD3.out HO.out HFF.out (by unfold Fits; omega) HFIT.out HR.out).mono ?_
    rintro e w4 ⟨ov, o4, rfl, T4, -, O4⟩
    have HK4 := Lib.hid (HK3.out.turn T4 (by decide))
    obtain ⟨bv, ofv, cv, a0, c0, rfl, hcv, hr0, hh0⟩ := outs_one O4
    have HH := Lib.hid hh0
    clear O4 T4 hh0
    go_wp2_with fail
    refine (times_any _ u x fu HX.out).mono ?_
    rintro e _ ⟨rfl, rfl⟩
    rw [HE.out]
    unfold optB
    go_wp2_with fail
    have hbB := below_alloc w4 (.cells #[.int .i64 (u * x)] 3)
    refine (sameints_yes (l := [(u : Int) * x]) (HH.out.below hbB) (has_lit w4 [(u : Int) * x] 3 _ rfl (by simp)) (by simp)).mono ?_
    rintro e w5 ⟨rfl, m, rfl⟩
    have hb5 : Below w.heap.size w ((w4.alloc (.cells #[.int .i64 (u * x)] 3)).drewN m) := HK4.out.below.trans ((below_n hbB m).mono HK4.out.size)
    go_wp2_with fail
    refine (awake_yes _).mono ?_
    rintro e w6 ⟨rfl, hb6⟩
    go_wp2
    go_ret
    exact ⟨rfl, hb5.trans (hb6.mono hb5.size)⟩
  · have em : mulP u x = none := by simp [mulP, hm]
    have er := add_reckP u x
    rw [em] at er
    have HE := Lib.hid em
    have HR := Lib.hid er
    clear em er hm
    go_wp2_with fail
    refine (Fire_fault HD3.out HO.out HFF.out (by unfold Fits; omega) HFIT.out HR.out).mono ?_
    rintro e w4 ⟨rfl, hb4⟩
    have HD4 := Lib.hid (HD3.out.below 0 hb4)
    have hb4' := HK3.out.below.trans (hb4.mono HK3.out.size)
    clear hb4
    go_wp2_with fail
    refine (times_any _ u x fu HX.out).mono ?_
    rintro e _ ⟨rfl, rfl⟩
    rw [HE.out]
    unfold optB
    go_wp2_with fail
    refine (Fired_act HD4.out).mono ?_
    rintro e _ ⟨rfl, rfl⟩
    go_wp2_with fail
    refine (awake_yes _).mono ?_
    rintro e w6 ⟨rfl, hb6⟩
    go_wp2
    go_ret
    exact ⟨rfl, hb4'.trans (hb6.mono hb4'.size)⟩

theorem copies_all (w : World) (n x : Int) (hn : Fits n) (hx : Fits x) : Calls Try.prog 5 #[.int .i64 n, .int .i64 x] w fun e w' => e = .returned (.bool true) ∧ Below w.heap.size w w' := by
  by_cases h : 1 ≤ n ∧ n ≤ 16
  · obtain ⟨u, rfl⟩ : ∃ u : Nat, n = u := ⟨n.toNat, by omega⟩
    exact copies_yes w u x (by omega) (by omega) hx
  · exact copies_no w n x hn (by omega)
end Go.Proofs.Ytknmiiajeafjpaa
