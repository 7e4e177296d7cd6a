/- ActorsUpDown, walked. -/
import Derived.Test.YtknmiiajeafjpaaAct
namespace Go.Proofs.Ytknmiiajeafjpaa
open Go.RowKit

/-- New, handed one number -/
theorem New_one (w : World) (o : Col) (c d : Nat) (t n : Int) (hcd : c ≠ d) (hg : goodP t [n]) (hf : Fits n) (m : Nat) (hm : m = w.heap.size) : Calls Try.prog 12 #[.int .u8 t, .slice (some ⟨m, 0, none⟩) 1 1] (w.alloc (.cells #[.int .i64 n] 3)) (NewAct (w.alloc (.cells #[.int .i64 n] 3)) o c d t [n]) :=
  New_act o c d hcd hg (fun x hx => by rw [List.mem_singleton.1 hx]; exact hf) (has_lit w [n] 3 m hm (by simp))
theorem New_one_no (w : World) (t n : Int) (hg : ¬ goodP t [n]) (m : Nat) (hm : m = w.heap.size) : Calls Try.prog 12 #[.int .u8 t, .slice (some ⟨m, 0, none⟩) 1 1] (w.alloc (.cells #[.int .i64 n] 3)) (NewNo (w.alloc (.cells #[.int .i64 n] 3)) (errP t)) :=
  New_no hg (by simp) (has_lit w [n] 3 m hm (by simp))
theorem step_i {k : Nat} (h : k < 4611686018427387904) : Value.int .i64 (wrap64 ((k : Int) + 1)) = .int .i64 ((k + 1 : Nat) : Int) := by
  rw [IntWalk.wrap64_in _ (by omega)]; rfl
theorem below_alloc (w : World) (x : Obj) : Below w.heap.size w (w.alloc x) := (Below.refl _ _).alloc (Nat.le_refl _) _
theorem Kept.of_below {B : Nat} {o : Col} {w0 w w' : World} (h : Kept B o w0 w) (c : Nat) (hb : Below w.heap.size w w') : Kept B (ext o w.heap.size c) w0 w' := h.turn (Turn.of_below o c hb) (fun h => h)
theorem Kept.drewN {B : Nat} {o : Col} {w0 w : World} (h : Kept B o w0 w) (m : Nat) : Kept B o w0 (w.drewN m) := h.turn (Turn.of_quiet o ⟨m, rfl⟩) (fun h => h)

set_option maxRecDepth 100000 in
theorem updown_no (w : World) (n : Int) (v : Value) (_hf : Fits n) (hn : n < 1 ∨ 64 < n) : Calls Try.prog 3 #[.int .i64 n, v] w fun e w' => e = .returned (.bool true) ∧ Below w.heap.size w w' := by
  have hg2 : ¬ goodP 2 [n] := by simp [goodP, oneP, hd]; omega
  have hg3 : ¬ goodP 3 [n] := by simp [goodP, oneP, hd]; omega
  go_enter Try.func3, Try.ntmps3
  go_wp2_with fail
  refine (New_one_no w 2 n hg2 _ rfl).mono ?_
  rintro e w1 ⟨rfl, hb1⟩
  have e2 : errP 2 = 61 := by decide
  have e3 : errP 3 = 61 := by decide
  have hb1 : Below w.heap.size w w1 := (below_alloc w _).trans (hb1.mono (by simp))
  go_wp2_with fail
  refine (New_one_no w1 3 n hg3 _ rfl).mono ?_
  rintro e w2 ⟨rfl, hb2⟩
  have hb2 : Below w.heap.size w w2 := hb1.trans (((below_alloc w1 _).trans (hb2.mono (by simp))).mono hb1.size)
  by_cases h1 : n < 1
  · go_wp2_with fail
    refine (awake_yes w2).mono ?_
    rintro e w3 ⟨rfl, hb3⟩
    go_wp2
    go_ret
    exact ⟨rfl, hb2.trans (hb3.mono hb2.size)⟩
  · have h2 : 64 < n := by omega
    go_wp2_with fail
    refine (awake_yes w2).mono ?_
    rintro e w3 ⟨rfl, hb3⟩
    go_wp2
    go_ret
    exact ⟨rfl, hb2.trans (hb3.mono hb2.size)⟩

theorem up_reckP (u : Nat) (x : Int) : reckP 2 [(u : Int)] [] [[x]] = some ([x :: List.replicate (u - 1) 0], []) := by
  have e : reckP 2 [(u : Int)] [] [[x]] = some ([x :: List.replicate ((hd [(u : Int)]).toNat - 1) 0], []) := rfl
  rw [e]
  simp [hd]

set_option maxRecDepth 100000 in
set_option maxHeartbeats 4000000 in
theorem updown_yes (w : World) (u : Nat) (v : Value) (xs : List Int) (h1 : 1 ≤ u) (h2 : u ≤ 64) (hx : Has w v (ivs xs)) (hf : ∀ x ∈ xs, Fits x) (hl : xs.length ≤ 17600000000000) : Calls Try.prog 3 #[.int .i64 u, v] w fun e w' => e = .returned (.bool true) ∧ Below w.heap.size w w' := by
  have hg2 : goodP 2 [(u : Int)] := by simp [goodP, oneP, hd]; omega
  have hg3 : goodP 3 [(u : Int)] := by simp [goodP, oneP, hd]; omega
  have fu : Fits (u : Int) := by unfold Fits; omega
  have k2 : keep0 2 [(u : Int)] = [] := rfl
  have k3 : keep0 3 [(u : Int)] = [] := rfl
  have h1i : (1 : Int) ≤ u := by omega
  have h2i : (u : Int) ≤ 64 := by omega
  obtain ⟨xao, xcp, rfl⟩ := hx.slice
  simp only [ivs_len] at hx ⊢
  have HX := Lib.hid hx
  have HF := Lib.hid hf
  have HL := Lib.hid hl
  clear hx hf hl
  go_enter Try.func3, Try.ntmps3
  go_wp2_with fail
  have K0 := (Kept.start w).of_below 0 (below_alloc w (.cells #[.int .i64 u] 3))
  refine (New_one w (ext (fun _ => 0) w.heap.size 0) 1 2 2 u (by decide) hg2 fu _ rfl).mono ?_
  rintro e w1 ⟨bu, o1, rfl, T1, A1⟩
  have K1 := K0.turn T1 (fun h => h)
  rw [k2] at A1
  clear K0 T1
  have HA1 := Lib.hid (A1.below 0 (below_alloc w1 (.cells #[.int .i64 u] 3)))
  have HK1 := Lib.hid (K1.of_below 0 (below_alloc w1 (.cells #[.int .i64 u] 3)))
  clear A1 K1
  go_wp2_with fail
  refine (New_one w1 (ext o1 w1.heap.size 0) 3 4 3 u (by decide) hg3 fu _ rfl).mono ?_
  rintro e w2 ⟨bd, o2, rfl, T2, A2⟩
  rw [k3] at A2
  have HK2 := Lib.hid (HK1.out.turn T2 (fun h => h))
  have HU := Lib.hid (HA1.out.turn T2 (fun h => h) (fun h => h))
  have HD := Lib.hid A2
  clear A2 T2 HA1 HK1
  go_wp2_with fail
  go_loopw [9] (fun i wr => ∃ k : Nat, k ≤ xs.length ∧ i = .int .i64 k ∧ ∃ o, Kept w.heap.size o w wr ∧ Act wr o 1 2 bu 2 [(u : Int)] [] k ∧ Act wr o 3 4 bd 3 [(u : Int)] [] k) (fun i _ => xs.length - (intOf i).toNat)
  case atStart => exact ⟨0, Nat.zero_le _, rfl, o2, HK2.out, HU.out, HD.out⟩
  case round =>
    clear HK2 HU HD
    obtain ⟨k, hk, rfl, o, K, U, D⟩ := hrel
    have HK := Lib.hid K
    have HU := Lib.hid U
    have HD := Lib.hid D
    clear K U D
    by_cases hlt : k < xs.length
    · have hlti : (k : Int) < xs.length := by omega
      obtain ⟨b0, off, rfl, -, hcx, -, -, hcell⟩ := Vals.at HX.out (by rw [ivs_len]; omega)
      have hx0 := hcell k (by rw [ivs_len]; omega)
      rw [ivs_get (by omega)] at hx0
      have hxr := cell_later HK.out.below hx0
      have hfx : Fits (xs[k]?.getD 0) := HF.out _ (by rw [List.getElem?_eq_getElem hlt, Option.getD_some]; exact List.getElem_mem _)
      generalize hxk : xs[k]?.getD 0 = x at *
      have hxr0 := hx0
      clear hxk hcell hx0
      go_wp2_with fail
      have hbA : Below wr.heap.size wr ((wr.alloc (.cells #[iv x] 3)).alloc (.cells #[.slice (some ⟨wr.heap.size, 0, none⟩) 1 1] 22)) := (below_alloc wr _).alloc (by simp) _
      have fk : Fits ((k : Int) + 1) := by unfold Fits; have := HL.out; omega
      refine (Fire_act 5 (by decide) (HU.out.below 0 hbA) (ll_lit wr [x] 3 22 _ _ rfl rfl (by simp)) (fun l hl z hz => by
        rw [List.mem_singleton.1 hl] at hz; rw [List.mem_singleton.1 hz]; exact hfx) fk rfl (up_reckP u x)).mono ?_
      rintro e w3 ⟨ov, o3, rfl, T3, U3, O3⟩
      have T3' := ((Turn.of_below o 0 hbA).mono (D := fun x => x = 1) (fun _ h => h.elim)).trans T3 (fun _ h => h)
      have HK3 := Lib.hid (HK.out.turn T3' (by decide))
      have HD3 := Lib.hid (HD.out.turn T3' (by decide) (by decide))
      have HU3 := Lib.hid U3
      obtain ⟨bv, ofv, cv, a0, c0, rfl, hcv, hr0, hh0⟩ := outs_one O3
      obtain ⟨row, hrow⟩ : ∃ row, x :: List.replicate (u - 1) 0 = row := ⟨_, rfl⟩
      have hrl : row.length = u := by rw [← hrow]; simp; omega
      rw [hrow] at hr0 hh0
      rw [hrl] at hr0 hh0
      have hr00 : row[0]?.getD 0 = x := by rw [← hrow]; rfl
      have hr0j : ∀ j, 1 ≤ j → row[j]?.getD 0 = 0 := fun j hj => by
        rw [← hrow]
        obtain ⟨j', rfl⟩ : ∃ j', j = j' + 1 := ⟨j - 1, by omega⟩
        rw [List.getElem?_cons_succ, List.getElem?_replicate]
        split <;> rfl
      have hrf : ∀ z ∈ row, Fits z := fun z hz => by
        rw [← hrow] at hz
        rcases List.mem_cons.1 hz with rfl | hz
        · exact hfx
        · rw [(List.mem_replicate.1 hz).2]; unfold Fits; omega
      obtain ⟨b1, of1, rfl, -, hc1, -, -, hcell⟩ := Vals.at hh0 (by rw [ivs_len]; omega)
      rw [ivs_len, hrl] at hcell
      have HC := Lib.hid hcell
      have HH := Lib.hid hh0
      have HRL := Lib.hid hrl
      have HR0 := Lib.hid hr00
      have HRJ := Lib.hid hr0j
      have HRF := Lib.hid hrf
      have hc1i : (u : Int) ≤ c0 := by omega
      have hxr3 := cell_later HK3.out.below hxr0
      clear hcell hh0 hrl hr00 hr0j hrf hrow O3 T3 T3' U3 HU HD HK hbA hxr
      go_wp2_with fail
      go_loopw [12] (fun i wq => ∃ j : Nat, 1 ≤ j ∧ j ≤ u ∧ i = .int .i64 j ∧ wq = w3) (fun i _ => u - (intOf i).toNat)
      case atStart => exact ⟨1, Nat.le_refl _, h1, rfl, rfl⟩
      case round =>
        obtain ⟨j, hj1, hj, rfl, hw⟩ := hrel
        subst hw
        by_cases hju : j < u
        · have hjui : (j : Int) < u := by omega
          have hcj := HC.out j hju
          rw [ivs_get (by have := HRL.out; omega), HRJ.out j hj1] at hcj
          go_wp2
          go_roundw
          case rel => exact ⟨j + 1, by omega, by omega, by go_num, by first | rfl | trivial⟩
          case measure => simp [intOf]; omega
        · obtain rfl : j = u := by omega
          go_wp2_with fail
          have hbB := below_alloc wr (.cells #[.slice (some ⟨b1, of1, none⟩) j c0] 22)
          refine (Fire_act (keep := []) (keep' := []) (outs := [[x]]) 5 (by decide) (HD3.out.below 0 hbB) (ll_row 22 rfl HH.out) (fun l hl z hz => by
            rw [List.mem_singleton.1 hl] at hz; exact HRF.out z hz) fk (by simp [insP, hd, HRL.out]) (by rw [← HR0.out]; rfl)).mono ?_
          rintro e w4 ⟨ov, o4, rfl, T4, D4, O4⟩
          have T4' := ((Turn.of_below o3 0 hbB).mono (D := fun x => x = 3) (fun _ h => h.elim)).trans T4 (fun _ h => h)
          have HK4 := Lib.hid (HK3.out.turn T4' (by decide))
          have HU4 := Lib.hid (HU3.out.turn T4' (by decide) (by decide))
          have HD4 := Lib.hid D4
          obtain ⟨bv2, ofv2, cv2, a2, c2, rfl, hcv2, hr2, hh2⟩ := outs_one O4
          obtain ⟨b3, of3, rfl, -, hc3, -, -, hcell2⟩ := Vals.at hh2 (by simp)
          have hx2 := hcell2 0 (by simp)
          simp only [List.length_singleton] at hr2 hc3
          simp at hx2
          have hc3i : (1 : Int) ≤ c2 := by omega
          have hxr4 := cell_later HK4.out.below hxr0
          have hcxi : (xs.length : Int) ≤ xcp := by omega
          clear hcell2 hh2 O4 T4 T4' D4 hbB HU3 HD3 HK3
          go_wp2
          go_quiet (fail)
          go_wp2
          have hll := HL.out
          rename_i nq
          have e1 : (((k + 1 : Nat)) : Int) = (k : Int) + 1 := by omega
          go_roundw
          case rel => exact ⟨k + 1, by omega, step_i (by omega), o4, HK4.out.drewN _, by rw [e1]; exact HU4.out.drewN _, by rw [e1]; exact HD4.out.drewN _⟩
          case measure => rw [IntWalk.wrap64_in _ (by omega)]; simp [intOf]; omega
    · obtain rfl : k = xs.length := by omega
      go_wp2_with fail
      refine (Fired_act HU.out).mono ?_
      rintro e _ ⟨rfl, rfl⟩
      go_wp2_with fail
      refine (Fired_act HD.out).mono ?_
      rintro e _ ⟨rfl, rfl⟩
      go_wp2_with fail
      refine (awake_yes _).mono ?_
      rintro e w3 ⟨rfl, hb3⟩
      go_wp2
      go_ret
      exact ⟨rfl, HK.out.below.trans (hb3.mono HK.out.size)⟩

theorem updown_all (w : World) (n : Int) (v : Value) (xs : List Int) (hn : Fits n) (hx : Has w v (ivs xs)) (hf : ∀ x ∈ xs, Fits x) (hl : xs.length ≤ 17600000000000) : Calls Try.prog 3 #[.int .i64 n, v] w fun e w' => e = .returned (.bool true) ∧ Below w.heap.size w w' := by
  by_cases h : 1 ≤ n ∧ n ≤ 64
  · obtain ⟨u, rfl⟩ : ∃ u : Nat, n = u := ⟨n.toNat, by omega⟩
    exact updown_yes w u v xs (by omega) (by omega) hx hf hl
  · exact updown_no w n v hn (by omega)
end Go.Proofs.Ytknmiiajeafjpaa
