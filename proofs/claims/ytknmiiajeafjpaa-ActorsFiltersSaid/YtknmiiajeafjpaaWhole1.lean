/- Whole numbers: the walks of trim and size. -/
import Derived.Test.YtknmiiajeafjpaaReck2
import Derived.Test.YtknmiiajeafjpaaWholeLaw
namespace Go.Proofs.Ytknmiiajeafjpaa
open Go.RowKit

/-- a quiet call's answer -/
def Hush (v : Value) (w : World) (e : Ending) (w' : World) : Prop := e = .returned v ∧ ∃ m, w' = w.drewN m

/-- what 'trim' answers: the same cells, fewer of them -/
def Trimmed (w : World) (ds : List Int) (e : Ending) (w' : World) : Prop :=
  ∃ ao q cap, q ≤ ds.length ∧ e = .returned (.slice ao q cap) ∧ w = w' ∧ Has w (.slice ao q cap) (ivs (ds.take q)) ∧ Trim (ds.take q) ∧ valD (ds.take q) = valD ds

theorem trim_fin {ds : List Int} {q : Nat} (hq : q ≤ ds.length) (hd : Digs ds) (hz : ∀ k, q ≤ k → k < ds.length → ds[k]?.getD 0 = 0) (hl : 0 < q → ds[q - 1]?.getD 0 ≠ 0) : Trim (ds.take q) ∧ valD (ds.take q) = valD ds := by
  refine ⟨⟨digs_take hd q, fun hne => ?_⟩, valD_trim ds q hq hz⟩
  have hp : 0 < q := by
    refine Nat.pos_of_ne_zero fun e => hne ?_
    rw [e]; rfl
  have := hl hp
  rw [List.getLast_eq_getElem]
  simp only [List.length_take, Nat.min_eq_left hq, List.getElem_take]
  rw [List.getElem?_eq_getElem (by omega)] at this
  exact this
theorem ivs_take (l : List Int) (q : Nat) : ivs (l.take q) = (ivs l).take q := by simp [ivs, List.map_take]
theorem has_take {w : World} {b off cap cap' : Nat} {l : List Int} {q : Nat} (hq : q ≤ l.length) (hcap : q ≤ cap') (h : Has w (.slice (some ⟨b, off, none⟩) l.length cap) (ivs l)) : Has w (.slice (some ⟨b, off, none⟩) q cap') (ivs (l.take q)) := by
  by_cases hp : 0 < q
  · obtain ⟨b', off', e, -, hc, hb, -, hcl⟩ := Vals.at h (by rw [ivs_len]; omega)
    cases e
    have hlen : (ivs (l.take q)).length = q := by simp [hq]
    refine .inr ⟨by omega, b, off, cap', by rw [hlen], by omega, hb, rfl, fun k hk => ?_⟩
    rw [hlen] at hk
    rw [hcl k (by rw [ivs_len]; omega), ivs_get (by omega), ivs_get (by simp; omega), List.getElem?_take_of_lt hk]
  · obtain rfl : q = 0 := by omega
    exact .inl ⟨rfl, _, _, rfl⟩

set_option maxRecDepth 100000 in
set_option maxHeartbeats 1000000 in
theorem wtrim_any (w : World) (ao : Option Addr) (n cap : Nat) (ds : List Int) (h : Has w (.slice ao n cap) (ivs ds)) (hd : Digs ds) (hn : ds.length ≤ 1000) : Calls Try.prog 36 #[.slice ao n cap] w (Trimmed w ds) := by
  obtain rfl := Ints.len h
  have HH := Lib.hid h
  have HD := Lib.hid hd
  have hni : (ds.length : Int) ≤ 1000 := by omega
  clear h hd
  go_enter Try.func36, Try.ntmps36
  go_wp2_with fail
  go_loopw [3] (fun i wr => ∃ q : Nat, q ≤ ds.length ∧ i = .int .i64 q ∧ (∀ k, q ≤ k → k < ds.length → ds[k]?.getD 0 = 0) ∧ wr = w) (fun i _ => (intOf i).toNat)
  case atStart => exact ⟨ds.length, Nat.le_refl _, rfl, fun k h1 h2 => by omega, rfl⟩
  case round =>
    obtain ⟨q, hq, rfl, hz, rfl⟩ := hrel
    have HZ := Lib.hid hz
    clear hz
    by_cases hp : 0 < q
    · obtain ⟨b, off, rfl, -, hc, -, -, hcl⟩ := Ints.at HH.out (by omega)
      have hx := hcl (q - 1) (by omega)
      have hpi : (0 : Int) < q := by omega
      have hci : (ds.length : Int) ≤ cap := by omega
      have hqi : (q : Int) ≤ ds.length := by omega
      have HST := Lib.hid (fun (h : ds[q - 1]?.getD 0 = 0) k (h1 : q - 1 ≤ k) (h2 : k < ds.length) => (by
        by_cases e : k = q - 1
        · rw [e]; exact h
        · exact HZ.out k (by omega) h2 : ds[k]?.getD 0 = 0))
      have HF := Lib.hid (fun (h : ds[q - 1]?.getD 0 ≠ 0) => trim_fin hq HD.out HZ.out (fun _ => h))
      have hq1 : ((q - 1 : Nat) : Int) = (q : Int) - 1 := by omega
      clear hcl
      generalize ds[q - 1]?.getD 0 = x at *
      by_cases hx0 : x = 0
      · have HQ := Lib.hid (HST.out hx0)
        clear HST HF
        subst hx0
        go_wp2
        go_roundw
        case rel => exact ⟨q - 1, by omega, by rw [hq1], HQ.out, by first | rfl | trivial⟩
        case measure => simp [intOf]; omega
      · have HQ := Lib.hid (HF.out hx0)
        have HT := Lib.hid (has_take (cap' := cap) hq (by omega) HH.out)
        clear HST HF
        go_wp2
        go_ret
        exact ⟨_, q, _, hq, rfl, rfl, HT.out, HQ.out.1, HQ.out.2⟩
    · obtain rfl : q = 0 := by omega
      have HQ := Lib.hid (trim_fin hq HD.out HZ.out (fun h => by omega))
      go_wp2
      go_ret
      exact ⟨_, 0, _, hq, rfl, rfl, .inl ⟨rfl, _, _, rfl⟩, HQ.out.1, HQ.out.2⟩

theorem neg_one_wrap (q : Nat) (h : q ≤ 1000) : wrap64 ((q : Int) - 1) = (q : Int) - 1 := IntWalk.wrap64_in _ (by omega)

set_option maxRecDepth 100000 in
set_option maxHeartbeats 2000000 in
theorem wsize_any (w : World) (ao bo : Option Addr) (n m cap cap' : Nat) (xs ys : List Int) (ha : Has w (.slice ao n cap) (ivs xs)) (hb : Has w (.slice bo m cap') (ivs ys)) (ta : Trim xs) (tb : Trim ys) (hn : xs.length ≤ 1000) (hm : ys.length ≤ 1000) :
    Calls Try.prog 34 #[.slice ao n cap, .slice bo m cap'] w (Hush (.int .i64 (sgnP (valD xs) (valD ys))) w) := by
  obtain rfl := Ints.len ha
  obtain rfl := Ints.len hb
  by_cases hl : xs.length < ys.length
  · rw [sgnP_lt (valD_short ta tb hl)]
    have hli : (xs.length : Int) < ys.length := by omega
    clear ha hb ta tb
    go_enter Try.func34, Try.ntmps34
    go_wp2
    go_ret
    exact ⟨rfl, 0, rfl⟩
  by_cases hl2 : ys.length < xs.length
  · rw [sgnP_gt (valD_short tb ta hl2)]
    have hli : (ys.length : Int) < xs.length := by omega
    clear ha hb ta tb
    go_enter Try.func34, Try.ntmps34
    go_wp2
    go_ret
    exact ⟨rfl, 0, rfl⟩
  have hll : ys.length = xs.length := by omega
  rw [hll] at hb ⊢
  have HA := Lib.hid ha
  have HB := Lib.hid hb
  have TA := Lib.hid ta
  have TB := Lib.hid tb
  have HL := Lib.hid hll
  have hni : (xs.length : Int) ≤ 1000 := by omega
  obtain ⟨S, hS⟩ : ∃ S, sgnP (valD xs) (valD ys) = S := ⟨_, rfl⟩
  rw [hS]
  have HS := Lib.hid hS
  clear ha hb ta tb hl hl2 hll hS hm
  go_enter Try.func34, Try.ntmps34
  go_wp2_with fail
  go_loopw [5] (fun i wr => ∃ q : Nat, q ≤ xs.length ∧ i = .int .i64 ((q : Int) - 1) ∧ valD (xs.drop q) = valD (ys.drop q) ∧ ∃ m, wr = w.drewN m) (fun i _ => (intOf i + 1).toNat)
  case atStart => exact ⟨xs.length, Nat.le_refl _, by first | rfl | go_num, by rw [List.drop_length, ← HL.out, List.drop_length], 0, rfl⟩
  case round =>
    obtain ⟨q, hq, rfl, hz, m, rfl⟩ := hrel
    by_cases hp : 0 < q
    · obtain ⟨b1, f1, rfl, -, hc1, -, -, hcl1⟩ := Ints.at HA.out (by omega)
      obtain ⟨b2, f2, rfl, -, hc2, -, -, hcl2⟩ := Ints.at HB.out (by have := HL.out; omega)
      obtain ⟨q, rfl⟩ : ∃ q', q = q' + 1 := ⟨q - 1, by omega⟩
      have hx := hcl1 q (by omega)
      have hy := hcl2 q (by have := HL.out; omega)
      have hci1 : (xs.length : Int) ≤ cap := by omega
      have hci2 : (xs.length : Int) ≤ cap' := by omega
      have hqi : (q : Int) < xs.length := by omega
      have hqe : ((q + 1 : Nat) : Int) - 1 = (q : Int) := by omega
      rw [hqe]
      have HLT := Lib.hid (fun (h : xs[q]?.getD 0 < ys[q]?.getD 0) => HS.out.symm.trans (sgnP_lt (valD_at_lt TA.out.1 TB.out.1 (by omega) (by have := HL.out; omega) hz h)))
      have HGT := Lib.hid (fun (h : ys[q]?.getD 0 < xs[q]?.getD 0) => HS.out.symm.trans (sgnP_gt (valD_at_lt TB.out.1 TA.out.1 (by have := HL.out; omega) (by omega) hz.symm h)))
      have HEQ := Lib.hid (fun (h : xs[q]?.getD 0 = ys[q]?.getD 0) => (by rw [valD_drop xs q, valD_drop ys q, hz, h] : valD (xs.drop q) = valD (ys.drop q)))
      clear hcl1 hcl2 hz hqe
      generalize xs[q]?.getD 0 = x at *
      generalize ys[q]?.getD 0 = y at *
      rcases Int.lt_trichotomy x y with hxy | hxy | hxy
      · rw [HLT.out hxy]
        clear HLT HGT HEQ
        go_wp2
        go_quiet (fail)
        go_wp2
        go_ret
        exact ⟨rfl, m + _, (World.drewN_drewN _ _ _)⟩
      · have HQ := Lib.hid (HEQ.out hxy)
        clear HLT HGT HEQ
        subst hxy
        go_wp2
        go_quiet (fail)
        go_wp2
        go_quiet (fail)
        go_wp2
        go_roundw
        case rel => exact ⟨q, by omega, rfl, HQ.out, m + _ + _, rfl⟩
        case measure => simp [intOf]
      · rw [HGT.out hxy]
        clear HLT HGT HEQ
        go_wp2
        go_quiet (fail)
        go_wp2
        go_quiet (fail)
        go_wp2
        go_ret
        exact ⟨rfl, m + (_ + _), by rw [World.drewN_drewN, World.drewN_drewN]⟩
    · obtain rfl : q = 0 := by omega
      have hS0 : S = 0 := by rw [← HS.out]; exact sgnP_eq hz
      subst hS0
      have h0 : ((0 : Nat) : Int) - 1 = -1 := rfl
      rw [h0]
      clear hz h0
      go_wp2
      go_ret
      exact ⟨rfl, _, rfl⟩
end Go.Proofs.Ytknmiiajeafjpaa
