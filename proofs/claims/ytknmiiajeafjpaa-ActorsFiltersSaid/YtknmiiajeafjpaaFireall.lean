/- An actor fires. -/
import Derived.Test.YtknmiiajeafjpaaReckany
namespace Go.Proofs.Ytknmiiajeafjpaa
open Go.RowKit

/-- what 'Fire' answers -/
def Fired (w : World) (o : Col) (c d E b : Nat) (t : Int) (ps : List Int) (n : Int) (K : Nat) (vi vo vt : Value) (fit : Bool) (r : Option (List (List Int) × List Int)) (e : Ending) (w' : World) : Prop :=
  match fit, r with
  | false, _ => e = .returned (.tuple #[.slice none 0 0, .int .i64 1]) ∧ Below w.heap.size w w'
  | true, none => e = .returned (.tuple #[.slice none 0 0, .int .i64 70]) ∧ Below w.heap.size w w'
  | true, some (outs, keep') => ∃ ov vs' o', e = .returned (.tuple #[ov, .int .i64 0]) ∧ Turn o o' (fun x => x = c) w w' ∧ BodyAt w' o' c d b t ps keep' (n + 1) K vi vo vt vs' ∧ Outs w' o' E ov outs

theorem fired_fin {w w1 w2 : World} {o o1 o' : Col} {c d E b : Nat} {t : Int} {ps keep' : List Int} {n : Int} {K : Nat} {vi vo vt vs' ov : Value} {outs : List (List Int)} {e : Ending} (hE : E ≠ c) (T1 : Turn o o1 (fun x => x = c) w w1) (T2 : Turn o1 o' (fun x => x = c) w1 w2)
    (hb : BodyAt w2 o' c d b t ps keep' n K vi vo vt vs') (hO : Outs w2 o' E ov outs) (hn : Fits (n + 1)) (he : e = .returned (.tuple #[ov, .int .i64 0])) : Fired w o c d E b t ps n K vi vo vt true (some (outs, keep')) e (w2.setCell ⟨K, 2, none⟩ (.int .i64 (n + 1))) := by
  obtain ⟨hk, T3⟩ := hb.kind.set 2 (.int .i64 (n + 1))
  rw [kcells_next _ _ _ _ _ _ _ _ _ hb.tag] at hk
  have hd : ¬ d = c := fun e => hb.ne e.symm
  exact ⟨ov, vs', o', he, (T1.trans T2 (fun _ h => h)).trans T3 (fun _ h => h), ⟨hb.body.turn T3 hd, hk, hb.ins.turn T3 hd, hb.outs.turn T3 hd, fun e => ⟨(hb.taps e).1.turn T3 hd, (hb.taps e).2.1.turn T3 hd, (hb.taps e).2.2⟩, hb.good, hb.fitp, hb.fitk, hb.keep1, hb.keep2, hn, hb.ne⟩, hO.turn T3 hE⟩

theorem fit_no {xss : List (List Int)} {R : List Int} {j : Nat} (hj : j < xss.length) (h : ¬ ((xss[j]?.getD []).length : Int) = R[j]?.getD 0) : decide (xss.map (fun l => (l.length : Int)) = R) = false := by
  refine decide_eq_false fun e => h ?_
  subst e
  simp [hj]
theorem fit_yes {xss : List (List Int)} {R : List Int} (hl : xss.length = R.length) (h : ∀ j, j < xss.length → ((xss[j]?.getD []).length : Int) = R[j]?.getD 0) : xss.map (fun l => (l.length : Int)) = R := by
  refine List.ext_getElem (by simpa using hl) fun j h1 h2 => ?_
  have := h j (by simpa using h1)
  simp only [List.length_map] at h1
  simpa [h1, h2] using this

set_option maxRecDepth 100000 in
set_option maxHeartbeats 2000000 in
theorem Fire_any {w : World} {o : Col} {c d b : Nat} {t : Int} {ps keep : List Int} {n : Int} {K : Nat} {vi vo vt vs insv : Value} {xss : List (List Int)} (E : Nat) (hE : E ≠ c) (h : BodyAt w o c d b t ps keep n K vi vo vt vs) (hins : LL w insv xss) (hf : ∀ l ∈ xss, ∀ x ∈ l, Fits x) (hn1 : Fits (n + 1)) :
    Calls Try.prog 14 #[.pointer (some ⟨b, 0, none⟩), insv] w (Fired w o c d E b t ps n K vi vo vt (decide (xss.map (fun l => (l.length : Int)) = insP t ps)) (reckP t ps keep xss)) := by
  obtain ⟨iao, icp, rfl⟩ := hins.slice
  have ht := h.tag
  have hb : w.cell? ⟨b, 0, none⟩ = some (.iface (kP t) (.pointer (some ⟨K, 0, none⟩))) := h.body.cell 0 _ rfl
  have h0 := h.kind.cell 0 _ (kcells_get t vi vo n _ _ vt vs ht).1
  have h1 := h.kind.cell 1 _ (kcells_get t vi vo n _ _ vt vs ht).2.1
  have hl := rates_len h.good
  have hm1 := disp_rates ht K
  have hm2 := disp_reckon ht K
  have hm3 := disp_fired ht K
  have hcf : ∀ (args : Array Value) (w : World), (callFunc (kF t) args).run Try.prog w = .ok (.enter (kF t) args) w := fun args w => by
    rcases ht with rfl | rfl | rfl | rfl | rfl | rfl | rfl | rfl | rfl | rfl | rfl <;> first | exact Try.call77 _ _ | exact Try.call84 _ _ | exact Try.call85 _ _ | exact Try.call86 _ _ | exact Try.call87 _ _ | exact Try.call88 _ _ | exact Try.call90 _ _ | exact Try.call93 _ _ | exact Try.call94 _ _ | exact Try.call95 _ _ | exact Try.call96 _ _
  have HH := Lib.hid h
  have HI := Lib.hid hins
  have HF := Lib.hid hf
  have HN := Lib.hid hn1
  have HT := Lib.hid ht
  clear h hins hf hn1 ht
  go_enter Try.func14, Try.ntmps14
  go_wp2_with fail
  refine (rates_any _ K _ _ _ _ h0 h1 HH.out.ins.has HH.out.outs.has (by omega) (by omega)).mono ?_
  rintro e w1 ⟨g1, c1, g2, c2, rfl, r1, -, -, hb1⟩
  have R1 := Lib.hid (Own.made (fun _ => 0) 0 r1).vals.has
  have hb1c := cell_later hb1 hb
  clear r1 h0 h1 hm1
  obtain ⟨R, hR⟩ : ∃ R, insP t ps = R := ⟨_, rfl⟩
  have hl1 : R.length ≤ 64 := by rw [← hR]; exact hl.1
  rw [hR] at R1
  have HR := Lib.hid hR
  clear hR hl
  by_cases hlen : xss.length = R.length
  · have hleni : (xss.length : Int) = (insP t ps).length := by rw [HR.out]; omega
    have hx64 : (xss.length : Int) ≤ 64 := by omega
    have HL := Lib.hid hlen
    clear hlen
    go_wp2_with fail
    clear hleni
    go_loopw [29] (fun i wr => ∃ j : Nat, j ≤ xss.length ∧ i = .int .i64 j ∧ wr = w1 ∧ ∀ k, k < j → ((xss[k]?.getD []).length : Int) = R[k]?.getD 0) (fun i _ => xss.length - (intOf i).toNat)
    case atStart => exact ⟨0, Nat.zero_le _, rfl, rfl, fun k hk => by omega⟩
    case round =>
      obtain ⟨j, hj, rfl, hw, hall⟩ := hrel
      subst hw
      have Hall := Lib.hid hall
      clear hall
      by_cases hjn : j < xss.length
      · have hjni : (j : Int) < xss.length := by omega
        obtain ⟨bi, oi, ie, hci, hrow⟩ := HI.out.at (by omega)
        subst ie
        obtain ⟨a0, c0, hr0, -⟩ := hrow j hjn
        have hr1 := cell_later hb1 hr0
        obtain ⟨gb, go, eg, -, hcR, -, -, hcell⟩ := Vals.at R1.out (by rw [ivs_len]; have := HL.out; omega)
        cases eg
        have hx := hcell j (by rw [ivs_len]; have := HL.out; omega)
        rw [ivs_get (by have := HL.out; omega)] at hx
        rw [Nat.zero_add] at hx
        have hciI : ((insP t ps).length : Int) ≤ c1 := by rw [HR.out]; omega
        have hciI2 : (xss.length : Int) ≤ icp := by omega
        have hjR : (j : Int) < (insP t ps).length := by rw [HR.out]; have := HL.out; omega
        have HNO := Lib.hid (fun h => fit_no (R := R) hjn h)
        have HST := Lib.hid (fun (h : ((xss[j]?.getD []).length : Int) = R[j]?.getD 0) k (hk : k < j + 1) => (by
          by_cases hkj : k = j
          · rw [hkj]; exact h
          · exact Hall.out k (by omega) : ((xss[k]?.getD []).length : Int) = R[k]?.getD 0))
        clear hrow hcell hr0
        generalize (xss[j]?.getD []).length = lm at *
        generalize R[j]?.getD 0 = rm at *
        by_cases hq : (lm : Int) = rm
        · have HQ := Lib.hid (HST.out hq)
          clear HST
          subst hq
          go_wp2
          go_roundw
          case rel => exact ⟨j + 1, by omega, by go_num, by first | rfl | trivial, HQ.out⟩
          case measure => simp [intOf]; omega
        · go_wp2
          go_ret2
          rw [HR.out, HNO.out hq]
          exact ⟨rfl, hb1⟩
      · obtain rfl : j = xss.length := by omega
        have HX := Lib.hid (fit_yes HL.out Hall.out)
        have HB := Lib.hid (HH.out.turn (Turn.of_below o d hb1) (fun h => h) (fun h => h))
        have HI1 := Lib.hid (HI.out.below hb1)
        clear Hall
        have hNN : ¬ (xss.length : Int) < (insP t ps).length := by rw [HR.out]; have := HL.out; omega
        go_wp2_with fail
        refine (reck_any E HB.out HI1.out (by rw [HX.out, HR.out]) HF.out).mono ?_
        intro e w2 hr
        rcases hp : reckP t ps keep xss with _ | ⟨outs, keep'⟩
        · rw [hp] at hr
          have HP := Lib.hid hp
          obtain ⟨⟨ov, rfl⟩, hb2⟩ := hr
          clear hp
          go_wp2
          go_ret2
          rw [HR.out, HX.out, decide_eq_true rfl, HP.out]
          exact ⟨rfl, hb1.trans (hb2.mono hb1.size)⟩
        · rw [hp] at hr
          have HP := Lib.hid hp
          obtain ⟨ov, vs', o', rfl, T2, B2, O2⟩ := hr
          have hb2 : w2.cell? ⟨b, 0, none⟩ = some (.iface (kP t) (.pointer (some ⟨K, 0, none⟩))) := B2.body.cell 0 _ rfl
          have HB2 := Lib.hid B2
          have HO2 := Lib.hid O2
          have HT2 := Lib.hid T2
          clear hp B2 O2 T2
          go_wp2_with fail
          refine (cfired_any _ K n (HB2.out.kind.cell 2 _ (kcells_get t vi vo n _ _ vt vs' HT.out).2.2) (HB2.out.kind.frozen 2) HN.out).mono ?_
          rintro e w3 ⟨rfl, rfl⟩
          go_wp2
          go_ret2
          rw [HR.out, HX.out, decide_eq_true rfl, HP.out]
          exact fired_fin hE ((Turn.of_below o d hb1).mono (fun _ h => h.elim)) HT2.out HB2.out HO2.out HN.out rfl
  · have hleni : ¬ (xss.length : Int) = (insP t ps).length := by rw [HR.out]; omega
    go_wp2
    go_ret2
    rw [HR.out, show decide (xss.map (fun l => (l.length : Int)) = R) = false from decide_eq_false fun e => hlen (by rw [← e]; simp)]
    exact ⟨rfl, hb1⟩
end Go.Proofs.Ytknmiiajeafjpaa
