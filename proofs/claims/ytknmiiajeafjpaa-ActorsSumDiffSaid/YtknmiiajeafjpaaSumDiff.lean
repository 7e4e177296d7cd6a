/- ActorsSumDiff, walked. -/
import Derived.Test.YtknmiiajeafjpaaUpDown
namespace Go.Proofs.Ytknmiiajeafjpaa
open Go.RowKit

/-- one token in, one out -/
def OneAct (w : World) (o : Col) (c d b : Nat) (t : Int) (ps : List Int) (n y : Int) (keep' : List Int) (e : Ending) (w' : World) : Prop :=
  e = .returned (.tuple #[.int .i64 y, .bool true]) ∧ ∃ o', Turn o o' (fun x => x = c) w w' ∧ Act w' o' c d b t ps keep' (n + 1)

set_option maxRecDepth 100000 in
theorem one_yes {w : World} {o : Col} {c d b : Nat} {t : Int} {ps keep keep' : List Int} {n x y : Int} (h : Act w o c d b t ps keep n) (hit : insP t ps = [1]) (hr : reckP t ps keep [[x]] = some ([[y]], keep')) (hx : Fits x) (hn1 : Fits (n + 1)) : Calls Try.prog 22 #[.pointer (some ⟨b, 0, none⟩), .int .i64 x] w (OneAct w o c d b t ps n y keep') := by
  have H := Lib.hid h
  have HI := Lib.hid hit
  have HR := Lib.hid hr
  have HX := Lib.hid hx
  have HN := Lib.hid hn1
  clear h hit hr hx hn1
  go_enter Try.func22, Try.ntmps22
  go_wp2_with fail
  have hbA : Below w.heap.size w ((w.alloc (.cells #[.int .i64 x] 3)).alloc (.cells #[.slice (some ⟨w.heap.size, 0, none⟩) 1 1] 22)) := ((Below.refl _ _).alloc (Nat.le_refl _) _).alloc (by simp) _
  refine (Fire_act (c + 1) (by omega) (H.out.below (c + 1) hbA) (ll_lit w [x] 3 22 _ _ rfl rfl (by simp)) (fun l hl z hz => by
    rw [List.mem_singleton.1 hl] at hz; rw [List.mem_singleton.1 hz]; exact HX.out) HN.out (by rw [HI.out]; rfl) HR.out).mono ?_
  rintro e w2 ⟨ov, o2, rfl, T2, A2, O2⟩
  obtain ⟨bv, ofv, cv, a0, c0, rfl, hcv, hr0, hh0⟩ := outs_one O2
  obtain ⟨b1, of1, rfl, -, hc1, -, -, hcell⟩ := Vals.at hh0 (by simp)
  have hx0 := hcell 0 (by simp)
  simp only [List.length_singleton] at hr0 hc1
  simp at hx0
  have HA := Lib.hid A2
  have HT := Lib.hid (((Turn.of_below o (c + 1) hbA).mono (D := fun x => x = c) (fun _ h => h.elim)).trans T2 (fun _ h => h))
  clear A2 T2 O2 hh0 hcell hbA
  go_wp2
  go_ret2
  exact ⟨rfl, o2, HT.out, HA.out⟩

set_option maxRecDepth 100000 in
theorem one_no {w : World} {o : Col} {c d b : Nat} {t : Int} {ps keep : List Int} {n x : Int} (h : Act w o c d b t ps keep n) (hit : insP t ps = [1]) (hr : reckP t ps keep [[x]] = none) (hx : Fits x) (hn1 : Fits (n + 1)) : Calls Try.prog 22 #[.pointer (some ⟨b, 0, none⟩), .int .i64 x] w fun e w' => e = .returned (.tuple #[.int .i64 0, .bool false]) ∧ Below w.heap.size w w' := by
  have H := Lib.hid h
  have HI := Lib.hid hit
  have HR := Lib.hid hr
  have HX := Lib.hid hx
  have HN := Lib.hid hn1
  clear h hit hr hx hn1
  go_enter Try.func22, Try.ntmps22
  go_wp2_with fail
  have hbA : Below w.heap.size w ((w.alloc (.cells #[.int .i64 x] 3)).alloc (.cells #[.slice (some ⟨w.heap.size, 0, none⟩) 1 1] 22)) := ((Below.refl _ _).alloc (Nat.le_refl _) _).alloc (by simp) _
  refine (Fire_fault (H.out.below (c + 1) hbA) (ll_lit w [x] 3 22 _ _ rfl rfl (by simp)) (fun l hl z hz => by
    rw [List.mem_singleton.1 hl] at hz; rw [List.mem_singleton.1 hz]; exact HX.out) HN.out (by rw [HI.out]; rfl) HR.out).mono ?_
  rintro e w2 ⟨rfl, hb2⟩
  have hb : Below w.heap.size w w2 := hbA.trans (hb2.mono (by simp; omega))
  clear hb2
  go_wp2
  go_ret2
  exact ⟨rfl, hb⟩

theorem sum_reckP (acc x : Int) : reckP 8 [] [acc] [[x]] = if Fits (acc + x) then some ([[acc + x]], [acc + x]) else none := rfl
theorem diff_reckP (acc y : Int) (hy : Fits y) : reckP 1 [1, -1] [acc] [[y]] = if Fits (-acc) ∧ Fits (y - acc) then some ([[y - acc]], [y]) else none := by
  have e : reckP 1 [1, -1] [acc] [[y]] = (dotP 0 [1, -1] [y, acc]).map fun z => ([[z]], [y]) := rfl
  rw [e]
  have e2 : dotP 0 [1, -1] [y, acc] = if Fits (-acc) ∧ Fits (y - acc) then some (y - acc) else none := by
    have a1 : (1 : Int) * y = y := by omega
    have a2 : (-1 : Int) * acc = -acc := by omega
    have a3 : (0 : Int) + y = y := by omega
    have a4 : y + -acc = y - acc := by omega
    simp only [dotP, a1, a2, a3, a4, hy, and_self, if_true]
  rw [e2]
  split <;> rfl

set_option maxRecDepth 100000 in
set_option maxHeartbeats 4000000 in
theorem sumdiff_all (w : World) (v : Value) (xs : List Int) (hx : Has w v (ivs xs)) (hf : ∀ x ∈ xs, Fits x) (hl : xs.length ≤ 17600000000000) : Calls Try.prog 7 #[v] w fun e w' => e = .returned (.bool true) ∧ Below w.heap.size w w' := by
  obtain ⟨xao, xcp, rfl⟩ := hx.slice
  simp only [ivs_len] at hx ⊢
  have HX := Lib.hid hx
  have HF := Lib.hid hf
  have HL := Lib.hid hl
  clear hx hf hl
  go_enter Try.func7, Try.ntmps7
  go_wp2_with fail
  refine (New_act (t := 8) (ps := []) (fun _ => 0) 1 2 (by decide) (by simp [goodP]) (fun x hx => by cases hx) (Vals.nil w (fun _ => 0) 0 none 0)).mono ?_
  rintro e w1 ⟨bu, o1, rfl, T1, A1⟩
  have K1 := (Kept.start w).turn T1 (fun h => h)
  have e8 : keep0 8 [] = [0] := rfl
  rw [e8] at A1
  clear T1
  have HA1 := Lib.hid (A1.below 0 (below_alloc w1 (.cells #[.int .i64 1, .int .i64 (-1)] 3)))
  have HK1 := Lib.hid (K1.of_below 0 (below_alloc w1 (.cells #[.int .i64 1, .int .i64 (-1)] 3)))
  clear A1 K1
  go_wp2_with fail
  refine (New_act (t := 1) (ps := [1, -1]) (ext o1 w1.heap.size 0) 3 4 (by decide) (by simp [goodP]) (fun x hx => by unfold Fits; simp at hx; omega) (has_lit w1 [1, -1] 3 _ rfl (by simp))).mono ?_
  rintro e w2 ⟨bd, o2, rfl, T2, A2⟩
  have e1 : keep0 1 [1, -1] = [0] := rfl
  rw [e1] at A2
  have HK2 := Lib.hid (HK1.out.turn T2 (fun h => h))
  have HU := Lib.hid (HA1.out.turn T2 (fun h => h) (fun h => h))
  have HD := Lib.hid A2
  clear A2 T2 HA1 HK1
  go_wp2_with fail
  have f0 : Fits 0 := by unfold Fits; omega
  go_loopw [7] (fun i wr => ∃ (k : Nat) (acc : Int) (o : Col), k ≤ xs.length ∧ i = .int .i64 k ∧ Kept w.heap.size o w wr ∧ Fits acc ∧ Act wr o 1 2 bu 8 [] [acc] k ∧ Act wr o 3 4 bd 1 [1, -1] [acc] k) (fun i _ => xs.length - (intOf i).toNat)
  case atStart => exact ⟨0, 0, o2, Nat.zero_le _, rfl, HK2.out, f0, HU.out, HD.out⟩
  case round =>
    clear HK2 HU HD
    obtain ⟨k, acc, o, hk, rfl, K, fa, U, D⟩ := hrel
    have HK := Lib.hid K
    have HU := Lib.hid U
    have HD := Lib.hid D
    clear K U D
    by_cases hlt : k < xs.length
    · have hlti : (k : Int) < xs.length := by omega
      obtain ⟨b0, off, rfl, -, hcx, -, -, hcell⟩ := Vals.at HX.out (by rw [ivs_len]; omega)
      have hx0 := hcell k (by rw [ivs_len]; omega)
      rw [ivs_get (by omega)] at hx0
      have hxr := cell_later HK.out.below hx0
      have hfx : Fits (xs[k]?.getD 0) := HF.out _ (by rw [List.getElem?_eq_getElem hlt, Option.getD_some]; exact List.getElem_mem _)
      generalize hxk : xs[k]?.getD 0 = x at *
      have hcxi : (xs.length : Int) ≤ xcp := by omega
      have fk : Fits ((k : Int) + 1) := by unfold Fits; have := HL.out; omega
      clear hxk hcell
      by_cases hs : Fits (acc + x)
      · have HR1 := Lib.hid (show reckP 8 [] [acc] [[x]] = some ([[acc + x]], [acc + x]) by rw [sum_reckP, if_pos hs])
        have HS := Lib.hid hs
        clear hs
        go_wp2_with fail
        refine (one_yes HU.out rfl HR1.out hfx fk).mono ?_
        rintro e w3 ⟨rfl, o3, T3, U3⟩
        have HK3 := Lib.hid (HK.out.turn T3 (by decide))
        have HD3 := Lib.hid (HD.out.turn T3 (by decide) (by decide))
        have HU3 := Lib.hid U3
        clear T3 U3 HU HD HK
        by_cases hd : Fits (-acc) ∧ Fits (acc + x - acc)
        · have HR2 := Lib.hid (show reckP 1 [1, -1] [acc] [[acc + x]] = some ([[acc + x - acc]], [acc + x]) by rw [diff_reckP _ _ HS.out, if_pos hd])
          clear hd
          go_wp2_with fail
          refine (one_yes HD3.out rfl HR2.out HS.out fk).mono ?_
          rintro e w4 ⟨rfl, o4, T4, D4⟩
          have HK4 := Lib.hid (HK3.out.turn T4 (by decide))
          have HU4 := Lib.hid (HU3.out.turn T4 (by decide) (by decide))
          have HD4 := Lib.hid D4
          have hxr4 := cell_later HK4.out.below hx0
          have e1 : (((k + 1 : Nat)) : Int) = (k : Int) + 1 := by omega
          have e2 : acc + x - acc = x := by omega
          rw [e2]
          clear T4 D4 HU3 HD3 HK3 e2
          go_wp2
          have hll := HL.out
          go_roundw
          case rel => exact ⟨k + 1, acc + x, o4, by omega, step_i (by omega), HK4.out, HS.out, by rw [e1]; exact HU4.out, by rw [e1]; exact HD4.out⟩
          case measure => rw [IntWalk.wrap64_in _ (by omega)]; simp [intOf]; omega
        · have HR2 := Lib.hid (show reckP 1 [1, -1] [acc] [[acc + x]] = none by rw [diff_reckP _ _ HS.out, if_neg hd])
          clear hd
          go_wp2_with fail
          refine (one_no HD3.out rfl HR2.out HS.out fk).mono ?_
          rintro e w4 ⟨rfl, hb4⟩
          have hb4' := HK3.out.below.trans (hb4.mono HK3.out.size)
          clear hb4
          go_wp2_with fail
          refine (awake_yes _).mono ?_
          rintro e w5 ⟨rfl, hb5⟩
          go_wp2
          go_ret
          exact ⟨rfl, hb4'.trans (hb5.mono hb4'.size)⟩
      · have HR1 := Lib.hid (show reckP 8 [] [acc] [[x]] = none by rw [sum_reckP, if_neg hs])
        clear hs
        go_wp2_with fail
        refine (one_no HU.out rfl HR1.out hfx fk).mono ?_
        rintro e w4 ⟨rfl, hb4⟩
        have hb4' := HK.out.below.trans (hb4.mono HK.out.size)
        clear hb4
        go_wp2_with fail
        refine (awake_yes _).mono ?_
        rintro e w5 ⟨rfl, hb5⟩
        go_wp2
        go_ret
        exact ⟨rfl, hb4'.trans (hb5.mono hb4'.size)⟩
    · obtain rfl : k = xs.length := by omega
      go_wp2_with fail
      refine (Fired_act HU.out).mono ?_
      rintro e _ ⟨rfl, rfl⟩
      go_wp2_with fail
      refine (awake_yes _).mono ?_
      rintro e w3 ⟨rfl, hb3⟩
      go_wp2
      go_ret
      exact ⟨rfl, HK.out.below.trans (hb3.mono HK.out.size)⟩
end Go.Proofs.Ytknmiiajeafjpaa
