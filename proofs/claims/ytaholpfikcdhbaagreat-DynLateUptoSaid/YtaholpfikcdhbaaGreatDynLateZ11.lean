/- The law 'pianola DynLate' (upto): for every input it returns true, and what it was handed reads as before. The frame: arguments opened, the walk called, arguments shut. -/
import Derived.Test.YtaholpfikcdhbaaGreatDynWidensZ5
import Derived.Test.YtaholpfikcdhbaaGreatDynWidensZ8
import Derived.Test.YtaholpfikcdhbaaGreatDynWidensZ3
import Derived.Test.YtaholpfikcdhbaaGreatDynWidensZ9
import Derived.Test.YtaholpfikcdhbaaGreatDynWidensZ10
import Derived.Test.YtaholpfikcdhbaaGreatDynWidensZ1
import Derived.Deep.Slices
import Derived.SizedLaws
import Derived.WalkKit
import Derived.ProofKit
import Derived.OpenShut
import Derived.ChangeOld
import Derived.Below
import Derived.Test.YtaholpfikcdhbaaGreatRows
import Derived.ShutString
import Derived.JoinedCond
/- Rig.Play. -/
namespace Go.Proofs.YtaholpfikcdhbaaGreat
open Go.RowKit
theorem play_drop {g : GGraph} {caps : List Int} {l : List Int} {r : RunP} {j : Nat} (h : j < l.length) (he : ¬ readyL g caps r = []) : playP g caps (l.drop j) r = ((playP g caps (l.drop (j + 1)) (stepR g caps r ((readyL g caps r)[pickP l[j] (readyL g caps r).length]?.getD 0)).1).1, (playP g caps (l.drop (j + 1)) (stepR g caps r ((readyL g caps r)[pickP l[j] (readyL g caps r).length]?.getD 0)).1).2 + 1) := by
 rw [List.drop_eq_getElem_cons h, playP, if_neg he]
theorem play_none {g : GGraph} {caps : List Int} {l : List Int} {r : RunP} (he : readyL g caps r = []) : playP g caps l r = (r, 0) := by
 cases l with
 | nil => rfl
 | cons p l => rw [playP, if_pos he]
theorem ready_few (g : GGraph) (caps : List Int) (r : RunP) : (readyL g caps r).length ≤ g.actors.length := by
 unfold readyL
 cases r.failed with
 | some t => simp
 | none => exact Nat.le_trans (List.length_filter_le _ _) (by simp)
theorem pick_eq (p : Int) {L : Nat} (hL : 0 < L) : Int.tmod (Int.tmod p L + L) L = ((pickP p L : Nat) : Int) ∧ pickP p L < L ∧ -(L : Int) < Int.tmod p L ∧ Int.tmod p L < L := by
 have h0 : (0 : Int) < L := by omega
 have e1 : 0 ≤ p % (L : Int) := Int.emod_nonneg p (by omega)
 have e2 : p % (L : Int) < L := Int.emod_lt_of_pos p h0
 have hz : (pickP p L : Int) = p % (L : Int) := Int.toNat_of_nonneg e1
 have h1 : -(L : Int) < Int.tmod p L ∧ Int.tmod p L < L := by
  refine ⟨?_, Int.tmod_lt_of_pos p h0⟩
  have := Int.lt_tmod_of_pos p h0
  exact this
 refine ⟨?_, by omega, h1⟩
 rw [hz]
 have h2 : 0 ≤ Int.tmod p L + L := by omega
 rw [Int.tmod_eq_emod_of_nonneg h2, Int.add_emod_right]
 have h3 : Int.tmod p L = p - L * Int.tdiv p L := by have := Int.mul_tdiv_add_tmod p L; omega
 rw [h3, Int.sub_mul_emod_self_left]
set_option maxRecDepth 100000 in
set_option maxHeartbeats 4000000 in
theorem dPlay_ok {w : World} {o : Col} {R b c : Nat} {g : GGraph} {caps : List Int} {M : Nat} {J : Nat → Nat} {qs : Ptrs} {tb : Nat → Nat} {r : RunP} {v : RVals} {ao : Option Addr} {n cap : Nat} {l : List Int} (h : RigOk w o R b g caps M J qs tb r v) (hG : GOk g caps) (hl : Ints w o c (.slice ao n cap) l) (hc : ¬ MineR R c) (hf : ∀ x ∈ l, Fits x) (hM : M + l.length < 27000000000000) :
  Calls Tryz.prog 15 #[.pointer (some ⟨b, 0, none⟩), .slice ao n cap] w (OkRet w o R b g caps (M + l.length) J qs tb (playP g caps l r).1 (.int .i64 (playP g caps l r).2)) := by
 obtain rfl : n = l.length := Ints.len hl
 obtain ⟨F, hF⟩ : ∃ F, playP g caps l r = F := ⟨_, rfl⟩
 rw [hF]
 have HF := Lib.hid (show playP g caps (l.drop 0) r = F from hF)
 have H := Lib.hid h
 have HG := Lib.hid hG
 have HL := Lib.hid hl
 have HC := Lib.hid hc
 have HFI := Lib.hid hf
 have HM := Lib.hid hM
 clear h hG hl hc hF hf hM
 go_enter Tryz.func15, Tryz.ntmps15
 go_wp2_with fail
 go_loopw [10] (fun i wl => ∃ (j : Nat) (r' : RunP) (o' : Col) (v' : RVals), j ≤ l.length ∧ i = .int .i64 j ∧ Turn o o' (MineR R) w wl ∧ RigOk wl o' R b g caps (M + j) J qs tb r' v' ∧ (playP g caps (l.drop j) r').1 = F.1 ∧ (playP g caps (l.drop j) r').2 + j = F.2) (fun i _ => l.length - (intOf i).toNat)
 case atStart => exact ⟨0, r, o, v, Nat.zero_le _, rfl, Turn.refl _ _ _, H.out, by rw [HF.out], by rw [HF.out]; rfl⟩
 case round =>
  obtain ⟨j, r', o', v', hj, rfl, T, hR, e1, e2⟩ := hrel
  have HT := Lib.hid T
  have HR := Lib.hid hR
  have HE := Lib.hid (And.intro e1 e2)
  clear T hR e1 e2
  have hlm : l.length ≤ 27000000000000 := by have := HM.out; omega
  by_cases hlt : j < l.length
  ·
   have hlti : (j : Int) < l.length := by omega
   obtain ⟨lb, lo, rfl, -, hcp, -, -, hcl⟩ := Ints.at (HL.out.turn HT.out HC.out) (by omega)
   have hcpi : (l.length : Int) ≤ cap := by omega
   have cj := hcl j hlt
   rw [List.getElem?_eq_getElem hlt] at cj
   change wr.cell? _ = some (iv l[j]) at cj
   obtain ⟨p, hp⟩ : ∃ p, l[j] = p := ⟨_, rfl⟩
   rw [hp] at cj
   have HP := Lib.hid hp
   have hpf := HFI.out l[j] (List.getElem_mem hlt)
   rw [hp] at hpf
   have HPF := Lib.hid hpf
   have hRd := dReady_any HR.out.mem HG.out.linked HG.out.caps HR.out.ok (fun d => Nat.le_of_lt (HR.out.lt (by have := HM.out; omega) d))
   have hfew := ready_few g caps r'
   have h32 := HR.out.mem.few.1
   obtain ⟨L, hL⟩ : ∃ L, (readyL g caps r').length = L := ⟨_, rfl⟩
   have hLI : (rdyI g caps r').length = L := by unfold rdyI; rw [List.length_map, hL]
   unfold DInts at hRd
   rw [hLI] at hRd
   rw [hL] at hfew
   have hL32 : L ≤ 32 := by omega
   have HRD := Lib.hid hRd
   have HLL := Lib.hid hL
   clear hcl hp hpf hRd hfew h32 hL hLI hcp
   go_wp2_with fail
   refine HRD.out.mono ?_
   rintro e w1 ⟨x, rfl, hO, hB⟩
   obtain ⟨sa, sc, rfl⟩ := owns_slice hO
   have HB := Lib.hid hB
   have HO := Lib.hid hO
   clear hO hB cj
   by_cases hL0 : L = 0
   ·
    subst hL0
    go_wp2_with fail
    go_ret
    have hnil : readyL g caps r' = [] := List.eq_nil_of_length_eq_zero HLL.out
    obtain ⟨e1, e2⟩ := HE.out
    rw [play_none hnil] at e1 e2
    have hb := HR.out.turn (Turn.of_below o' 0 HB.out) (fun _ h => h.elim)
    refine ⟨ext o' wr.heap.size 0, v', ?_, HT.out.trans ((Turn.of_below o' 0 HB.out).mono (fun _ h => h.elim)) (fun _ h => h), ?_⟩
    ·
     rw [← e2]; simp
    ·
     rw [← e1]; exact hb.mono (by omega)
   ·
    have hLz : ((L : Int) == 0) = false := by rw [beq_eq_false_iff_ne]; omega
    obtain ⟨k1, k2, k3, k4⟩ := pick_eq p (L := L) (by omega)
    have hwr : wrap64 (p.tmod L + L) = p.tmod L + L := IntWalk.wrap64_in _ (by omega)
    rw [← hwr] at k1
    obtain ⟨z, hz⟩ : ∃ z, pickP p L = z := ⟨_, rfl⟩
    rw [hz] at k1 k2
    have HZ := Lib.hid hz
    have hzi : (z : Int) < L := by omega
    have hO := (Own.made o' 0 HO.out).vals
    have hI : Ints w1 (ext o' wr.heap.size 0) 0 (.slice sa L sc) (rdyI g caps r') := hO
    have hlr : (rdyI g caps r').length = L := by unfold rdyI; rw [List.length_map, HLL.out]
    obtain ⟨gr, ro, rfl, -, hcp, -, -, hcl⟩ := hI.at (by omega)
    have hcpi2 : (L : Int) ≤ sc := by omega
    have cz := hcl z (by omega)
    obtain ⟨t, ht⟩ : ∃ t, (readyL g caps r')[z]?.getD 0 = t := ⟨_, rfl⟩
    have hzt : (rdyI g caps r')[z]?.getD 0 = (t : Int) := by
     have hzl : z < (readyL g caps r').length := by rw [HLL.out]; exact k2
     rw [← ht]
     unfold rdyI
     rw [List.getElem?_map, List.getElem?_eq_getElem hzl]
     rfl
    rw [hzt] at cz
    change w1.cell? _ = some (.int .i64 (t : Int)) at cz
    have HT9 := Lib.hid ht
    have hR1 := Lib.hid (HR.out.turn (Turn.of_below o' 0 HB.out) (fun _ h => h.elim))
    have hT1 := Lib.hid (HT.out.trans ((Turn.of_below o' 0 HB.out).mono (fun _ h => h.elim)) (fun _ h => h))
    generalize ext o' wr.heap.size 0 = o1 at *
    clear k2 k3 k4 hwr hz hO hI hlr hcp hcl hzt ht
    go_wp2_with fail
    refine (dStep_ok (t : Int) hR1.out HG.out (by have := HM.out; omega)).mono ?_
    rw [stepI_nat]
    rintro e w2 ⟨o2, v2, rfl, T2, hR2⟩
    have HR2 := Lib.hid hR2
    have HT2 := Lib.hid (hT1.out.trans T2 (fun _ h => h))
    have hne : ¬ readyL g caps r' = [] := fun h => hL0 (by have := HLL.out; rw [h] at this; exact this.symm)
    obtain ⟨e1, e2⟩ := HE.out
    rw [play_drop hlt hne, HLL.out, HP.out, HZ.out, HT9.out] at e1 e2
    have HE2 := Lib.hid (And.intro e1 e2)
    clear T2 hR2 e1 e2 hne
    go_wp2
    go_roundw
    case rel => exact ⟨j + 1, _, _, _, hlt, by go_num, HT2.out, HR2.out, HE2.out.1, by have := HE2.out.2; omega⟩
    case measure => simp [intOf]; omega
  ·
   obtain rfl : j = l.length := by omega
   have hlti : ¬ ((l.length : Int) < l.length) := by omega
   go_wp2_with fail
   go_ret
   obtain ⟨e1, e2⟩ := HE.out
   rw [List.drop_length] at e1 e2
   refine ⟨o', v', ?_, HT.out, ?_⟩
   ·
    have : l.length = F.2 := by rw [← e2]; show l.length = 0 + l.length; omega
    rw [← this]
    rfl
   ·
    rw [← e1]; exact HR.out
end Go.Proofs.YtaholpfikcdhbaaGreat

/- Two rigs that are the same: same says yes. -/
namespace Go.Proofs.YtaholpfikcdhbaaGreat
open Go.RowKit
theorem outI_len {w : World} {o : Col} {R b : Nat} {g : GGraph} {caps : List Int} {M : Nat} {J : Nat → Nat} {qs : Ptrs} {tb : Nat → Nat} {r : RunP} {v : RVals} (h : RigOk w o R b g caps M J qs tb r v) (hM : M < 27000000000000) (k : Int) : (outI g r k).length ≤ 27000000000000 := by
 unfold outI
 split
 ·
  unfold outS
  exact Nat.le_of_lt (h.tape hM _ (by omega))
 ·
  simp
theorem belowN {B : Nat} {w w' : World} (h : Below B w w') (n : Nat) : Below B w (w'.drewN n) := ⟨h.os, h.tape, h.output, h.size, h.block⟩
/- a question that answers a new list: $1 the contract, $2 the new world, $3 the list's fact, $4 $5 the colours, $6 what else turns -/
/- two lists are compared: $1 $2 their facts, $3 their length's bound, $4 the colour -/
set_option maxRecDepth 100000 in
set_option maxHeartbeats 2000000 in
theorem same_yes {w : World} {o : Col} {R1 R2 b1 b2 : Nat} {g : GGraph} {caps : List Int} {M1 M2 : Nat} {J1 J2 : Nat → Nat} {q1 q2 : Ptrs} {t1 t2 : Nat → Nat} {r : RunP} {v1 v2 : RVals} (h1 : RigOk w o R1 b1 g caps M1 J1 q1 t1 r v1) (h2 : RigOk w o R2 b2 g caps M2 J2 q2 t2 r v2) (hG : GOk g caps) (hM1 : M1 < 27000000000000) (hM2 : M2 < 27000000000000) (n : Nat) (hn : n ≤ 16) :
  Calls Tryz.prog 22 #[.pointer (some ⟨b1, 0, none⟩), .pointer (some ⟨b2, 0, none⟩), .int .i64 (n : Int)] w (Tells (.bool true) w) := by
 have H1 := Lib.hid h1
 have H2 := Lib.hid h2
 have HG := Lib.hid hG
 have HM1 := Lib.hid hM1
 have HM2 := Lib.hid hM2
 clear h1 h2 hG hM1 hM2
 go_enter Tryz.func22, Tryz.ntmps22
 go_wp2_with fail
 go_loopw [7] (fun i wz => ∃ (k : Nat) (q : Col), k ≤ n ∧ i = .int .i64 k ∧ Below w.heap.size w wz ∧ RigOk wz q R1 b1 g caps M1 J1 q1 t1 r v1 ∧ RigOk wz q R2 b2 g caps M2 J2 q2 t2 r v2) (fun i _ => n - (intOf i).toNat)
 case atStart => exact ⟨0, o, Nat.zero_le _, rfl, Below.refl _ _, H1.out, H2.out⟩
 case round =>
  clear H1 H2
  obtain ⟨k, q, hk, rfl, hb, h1, h2⟩ := hrel
  have HB := Lib.hid hb
  have H1 := Lib.hid h1
  have H2 := Lib.hid h2
  clear hb h1 h2
  by_cases hlt : k < n
  ·
   have hlti : (k : Int) < n := by omega
   go_wp2_with fail
   refine (dOut_any (k : Int) H1.out.mem (fun d hd => Nat.le_of_lt (H1.out.tape HM1.out d hd))).mono ?_
   rintro e wa ⟨lv, rfl, ow, hb⟩
   obtain ⟨sa, sc, rfl⟩ := owns_slice ow
   have TN := Turn.of_below q 0 hb
   have HL1 := Lib.hid (Own.made q 0 ow).vals
   replace HB := Lib.hid (HB.out.trans (hb.mono HB.out.size))
   replace H1 := Lib.hid (H1.out.turn TN (fun _ h => h.elim))
   replace H2 := Lib.hid (H2.out.turn TN (fun _ h => h.elim))
   skip
   generalize ext q _ 0 = qa at *
   clear TN hb ow
   go_wp2_with fail
   refine (dOut_any (k : Int) H2.out.mem (fun d hd => Nat.le_of_lt (H2.out.tape HM2.out d hd))).mono ?_
   rintro e wb ⟨lv, rfl, ow, hb⟩
   obtain ⟨sa, sc, rfl⟩ := owns_slice ow
   have TN := Turn.of_below qa 0 hb
   have HL2 := Lib.hid (Own.made qa 0 ow).vals
   replace HB := Lib.hid (HB.out.trans (hb.mono HB.out.size))
   replace H1 := Lib.hid (H1.out.turn TN (fun _ h => h.elim))
   replace H2 := Lib.hid (H2.out.turn TN (fun _ h => h.elim))
   replace HL1 := Lib.hid (HL1.out.turn TN (fun h => h))
   generalize ext qa _ 0 = qb at *
   clear TN hb ow
   go_wp2_with fail
   refine (sameints_any HL1.out HL2.out (Nat.le_trans (outI_len H1.out HM1.out (k : Int)) (by decide))).mono ?_
   rintro e _ ⟨rfl, m, rfl⟩
   rw [decide_eq_true rfl]
   replace HB := Lib.hid (belowN HB.out m)
   replace H1 := Lib.hid (H1.out.turn (Turn.of_quiet qb ⟨m, rfl⟩) (fun _ h => h.elim))
   replace H2 := Lib.hid (H2.out.turn (Turn.of_quiet qb ⟨m, rfl⟩) (fun _ h => h.elim))
   clear HL1 HL2
   go_wp2
   go_roundw
   case rel => exact ⟨k + 1, qb, hlt, by go_num, HB.out, H1.out, H2.out⟩
   case measure => simp [intOf]; omega
  ·
   obtain rfl : k = n := by omega
   have hlti : ¬ (k : Int) < k := by omega
   obtain ⟨f1, f2, f3, f4⟩ := H1.out.mem.few
   have HFW := Lib.hid (And.intro f1 f2)
   clear hlt hk f1 f2 f3 f4
   go_wp2_with fail
   refine (dCount_any H1.out.mem (fun d => Nat.le_of_lt (H1.out.lt HM1.out d))).mono ?_
   rintro e wa ⟨lv, rfl, ow, hb⟩
   obtain ⟨sa, sc, rfl⟩ := owns_slice ow
   have TN := Turn.of_below q 0 hb
   have HL1 := Lib.hid (Own.made q 0 ow).vals
   replace HB := Lib.hid (HB.out.trans (hb.mono HB.out.size))
   replace H1 := Lib.hid (H1.out.turn TN (fun _ h => h.elim))
   replace H2 := Lib.hid (H2.out.turn TN (fun _ h => h.elim))
   skip
   generalize ext q _ 0 = qa at *
   clear TN hb ow
   go_wp2_with fail
   refine (dCount_any H2.out.mem (fun d => Nat.le_of_lt (H2.out.lt HM2.out d))).mono ?_
   rintro e wb ⟨lv, rfl, ow, hb⟩
   obtain ⟨sa, sc, rfl⟩ := owns_slice ow
   have TN := Turn.of_below qa 0 hb
   have HL2 := Lib.hid (Own.made qa 0 ow).vals
   replace HB := Lib.hid (HB.out.trans (hb.mono HB.out.size))
   replace H1 := Lib.hid (H1.out.turn TN (fun _ h => h.elim))
   replace H2 := Lib.hid (H2.out.turn TN (fun _ h => h.elim))
   replace HL1 := Lib.hid (HL1.out.turn TN (fun h => h))
   generalize ext qa _ 0 = qb at *
   clear TN hb ow
   go_wp2_with fail
   refine (sameints_any HL1.out HL2.out (by unfold countI; simp; have := HFW.out.2; omega)).mono ?_
   rintro e _ ⟨rfl, m, rfl⟩
   rw [decide_eq_true rfl]
   replace HB := Lib.hid (belowN HB.out m)
   replace H1 := Lib.hid (H1.out.turn (Turn.of_quiet qb ⟨m, rfl⟩) (fun _ h => h.elim))
   replace H2 := Lib.hid (H2.out.turn (Turn.of_quiet qb ⟨m, rfl⟩) (fun _ h => h.elim))
   clear HL1 HL2
   go_wp2_with fail
   refine (dFired_any H1.out.mem).mono ?_
   rintro e wc ⟨lv, rfl, ow, hb⟩
   obtain ⟨sa, sc, rfl⟩ := owns_slice ow
   have TN := Turn.of_below qb 0 hb
   have HL1 := Lib.hid (Own.made qb 0 ow).vals
   replace HB := Lib.hid (HB.out.trans (hb.mono HB.out.size))
   replace H1 := Lib.hid (H1.out.turn TN (fun _ h => h.elim))
   replace H2 := Lib.hid (H2.out.turn TN (fun _ h => h.elim))
   skip
   generalize ext qb _ 0 = qc at *
   clear TN hb ow
   go_wp2_with fail
   refine (dFired_any H2.out.mem).mono ?_
   rintro e wd ⟨lv, rfl, ow, hb⟩
   obtain ⟨sa, sc, rfl⟩ := owns_slice ow
   have TN := Turn.of_below qc 0 hb
   have HL2 := Lib.hid (Own.made qc 0 ow).vals
   replace HB := Lib.hid (HB.out.trans (hb.mono HB.out.size))
   replace H1 := Lib.hid (H1.out.turn TN (fun _ h => h.elim))
   replace H2 := Lib.hid (H2.out.turn TN (fun _ h => h.elim))
   replace HL1 := Lib.hid (HL1.out.turn TN (fun h => h))
   generalize ext qc _ 0 = qd at *
   clear TN hb ow
   go_wp2_with fail
   refine (sameints_any HL1.out HL2.out (by unfold firedI; simp; have := HFW.out.1; omega)).mono ?_
   rintro e _ ⟨rfl, m, rfl⟩
   rw [decide_eq_true rfl]
   replace HB := Lib.hid (belowN HB.out m)
   replace H1 := Lib.hid (H1.out.turn (Turn.of_quiet qd ⟨m, rfl⟩) (fun _ h => h.elim))
   replace H2 := Lib.hid (H2.out.turn (Turn.of_quiet qd ⟨m, rfl⟩) (fun _ h => h.elim))
   clear HL1 HL2
   go_wp2_with fail
   refine (dReady_any H1.out.mem HG.out.linked HG.out.caps H1.out.ok (fun d => Nat.le_of_lt (H1.out.lt HM1.out d))).mono ?_
   rintro e we ⟨lv, rfl, ow, hb⟩
   obtain ⟨sa, sc, rfl⟩ := owns_slice ow
   have TN := Turn.of_below qd 0 hb
   have HL1 := Lib.hid (Own.made qd 0 ow).vals
   replace HB := Lib.hid (HB.out.trans (hb.mono HB.out.size))
   replace H1 := Lib.hid (H1.out.turn TN (fun _ h => h.elim))
   replace H2 := Lib.hid (H2.out.turn TN (fun _ h => h.elim))
   skip
   generalize ext qd _ 0 = qe at *
   clear TN hb ow
   go_wp2_with fail
   refine (dReady_any H2.out.mem HG.out.linked HG.out.caps H2.out.ok (fun d => Nat.le_of_lt (H2.out.lt HM2.out d))).mono ?_
   rintro e wf ⟨lv, rfl, ow, hb⟩
   obtain ⟨sa, sc, rfl⟩ := owns_slice ow
   have TN := Turn.of_below qe 0 hb
   have HL2 := Lib.hid (Own.made qe 0 ow).vals
   replace HB := Lib.hid (HB.out.trans (hb.mono HB.out.size))
   replace H1 := Lib.hid (H1.out.turn TN (fun _ h => h.elim))
   replace H2 := Lib.hid (H2.out.turn TN (fun _ h => h.elim))
   replace HL1 := Lib.hid (HL1.out.turn TN (fun h => h))
   generalize ext qe _ 0 = qf at *
   clear TN hb ow
   go_wp2_with fail
   refine (sameints_any HL1.out HL2.out (by unfold rdyI; simp; have := ready_few g caps r; have := HFW.out.1; omega)).mono ?_
   rintro e _ ⟨rfl, m, rfl⟩
   rw [decide_eq_true rfl]
   replace HB := Lib.hid (belowN HB.out m)
   replace H1 := Lib.hid (H1.out.turn (Turn.of_quiet qf ⟨m, rfl⟩) (fun _ h => h.elim))
   replace H2 := Lib.hid (H2.out.turn (Turn.of_quiet qf ⟨m, rfl⟩) (fun _ h => h.elim))
   clear HL1 HL2
   go_wp2
   go_ret
   exact ⟨rfl, HB.out⟩
end Go.Proofs.YtaholpfikcdhbaaGreat

/- The reference's Agree: of two lists the one begins the other. -/
namespace Go.Proofs.YtaholpfikcdhbaaGreat
open Go.RowKit
theorem begin_eq {l l2 : List Int} (hp : l <+: l2 ∨ l2 <+: l) : ∀ k, k < l.length → k < l2.length → l[k]?.getD 0 = l2[k]?.getD 0 := by
 intro k h1 h2
 rcases hp with ⟨r, rfl⟩ | ⟨r, rfl⟩
 ·
  rw [List.getElem?_append_left h1]
 ·
  rw [List.getElem?_append_left h2]
set_option maxHeartbeats 1000000 in
theorem xagree_yes {o o2 : Col} {c c2 : Nat} {w : World} {v v' : Value} {l l2 : List Int} (h : Ints w o c v l) (h' : Ints w o2 c2 v' l2) (hp : l <+: l2 ∨ l2 <+: l) (hl : l.length ≤ 4611686018427387904) : Calls Tryz.prog 41 #[v, v'] w (Quiet (.bool true) w) := by
 obtain ⟨a, cp, rfl⟩ := h.slice
 obtain ⟨a', cp', rfl⟩ := h'.slice
 have H1 := Lib.hid h
 have H2 := Lib.hid h'
 have HE := Lib.hid (begin_eq hp)
 clear h h' hp
 go_enter Tryz.func41, Tryz.ntmps41
 go_wp2_with fail
 go_loopw [5] (fun i wr => ∃ k m : Nat, k ≤ l.length ∧ i = .int .i64 k ∧ wr = w.drewN m) (fun i _ => l.length - (intOf i).toNat)
 case atStart => exact ⟨0, 0, Nat.zero_le _, rfl, rfl⟩
 case round =>
  obtain ⟨k, m, hk, rfl, rfl⟩ := hrel
  by_cases hlt : k < l.length
  ·
   have hlti : (k : Int) < l.length := by omega
   by_cases hlt2 : k < l2.length
   ·
    have hlti2 : (k : Int) < l2.length := by omega
    obtain ⟨b, off, ha, -, hc1, -, -, h1⟩ := H1.out.at (by omega)
    obtain ⟨b', off', ha', -, hc2, -, -, h2⟩ := H2.out.at (by omega)
    have c1 := h1 k hlt
    have c2 := h2 k hlt2
    rw [← HE.out k hlt hlt2] at c2
    generalize l[k]?.getD 0 = x at *
    subst ha
    subst ha'
    clear h1 h2
    go_wp2
    go_quiet (fail)
    go_wp2
    go_roundw
    case rel => exact ⟨k + 1, _, by omega, by go_num, rfl⟩
    case measure => simp [intOf]; omega
   ·
    have hlti2 : ¬ (k : Int) < l2.length := by omega
    go_wp2
    go_ret
    exact ⟨rfl, _, rfl⟩
  ·
   have hlti : ¬ (k : Int) < l.length := by omega
   go_wp2
   go_ret
   exact ⟨rfl, _, rfl⟩
end Go.Proofs.YtaholpfikcdhbaaGreat

/- agree: the outputs of two rigs begin one another. -/
namespace Go.Proofs.YtaholpfikcdhbaaGreat
open Go.RowKit
def AgreeRet (w : World) (g : GGraph) (r1 r2 : RunP) (n : Nat) (e : Ending) (w' : World) : Prop := ∃ less, e = .returned (.tuple #[.bool true, .bool less]) ∧ Below w.heap.size w w' ∧ ((∀ k : Nat, k < n → (outI g r1 k).length ≤ (outI g r2 k).length) → less = true)
set_option maxRecDepth 100000 in
set_option maxHeartbeats 2000000 in
theorem agree_yes {w : World} {o : Col} {R1 R2 b1 b2 : Nat} {g : GGraph} {caps1 caps2 : List Int} {M1 M2 : Nat} {J1 J2 : Nat → Nat} {q1 q2 : Ptrs} {t1 t2 : Nat → Nat} {r1 r2 : RunP} {v1 v2 : RVals} (h1 : RigOk w o R1 b1 g caps1 M1 J1 q1 t1 r1 v1) (h2 : RigOk w o R2 b2 g caps2 M2 J2 q2 t2 r2 v2) (hM1 : M1 < 27000000000000) (hM2 : M2 < 27000000000000) (n : Nat) (hn : n ≤ 16) (hp : ∀ k : Nat, k < n → outI g r1 k <+: outI g r2 k ∨ outI g r2 k <+: outI g r1 k) :
  Calls Tryz.prog 21 #[.pointer (some ⟨b1, 0, none⟩), .pointer (some ⟨b2, 0, none⟩), .int .i64 (n : Int)] w (AgreeRet w g r1 r2 n) := by
 have H1 := Lib.hid h1
 have H2 := Lib.hid h2
 have HM1 := Lib.hid hM1
 have HM2 := Lib.hid hM2
 have HP := Lib.hid hp
 clear h1 h2 hM1 hM2 hp
 go_enter Tryz.func21, Tryz.ntmps21
 go_wp2_with fail
 go_loopw [8, 9, 10] (fun gd ls i wz => ∃ (k : Nat) (q : Col) (lb : Bool), k ≤ n ∧ i = .int .i64 k ∧ gd = .bool true ∧ ls = .bool lb ∧ Below w.heap.size w wz ∧ RigOk wz q R1 b1 g caps1 M1 J1 q1 t1 r1 v1 ∧ RigOk wz q R2 b2 g caps2 M2 J2 q2 t2 r2 v2 ∧ ((∀ j : Nat, j < k → (outI g r1 j).length ≤ (outI g r2 j).length) → lb = true)) (fun _ _ i _ => n - (intOf i).toNat)
 case atStart => exact ⟨0, o, true, Nat.zero_le _, rfl, rfl, rfl, Below.refl _ _, H1.out, H2.out, fun _ => rfl⟩
 case round =>
  clear H1 H2
  obtain ⟨k, q, lb, hk, rfl, rfl, rfl, hb, h1, h2, hlb⟩ := hrel
  have HB := Lib.hid hb
  have H1 := Lib.hid h1
  have H2 := Lib.hid h2
  have HLB := Lib.hid hlb
  clear hb h1 h2 hlb
  by_cases hlt : k < n
  ·
   have hlti : (k : Int) < n := by omega
   have HPK := Lib.hid (HP.out k hlt)
   have HL1B := Lib.hid (outI_len H1.out HM1.out (k : Int))
   have HL2B := Lib.hid (outI_len H2.out HM2.out (k : Int))
   go_wp2_with fail
   refine (dOut_any (k : Int) H1.out.mem (fun d hd => Nat.le_of_lt (H1.out.tape HM1.out d hd))).mono ?_
   rintro e wa ⟨lv, rfl, ow, hb⟩
   obtain ⟨sa1, sc1, rfl⟩ := owns_slice ow
   have TN := Turn.of_below q 0 hb
   have HL1 := Lib.hid (Own.made q 0 ow).vals
   replace HB := Lib.hid (HB.out.trans (hb.mono HB.out.size))
   replace H1 := Lib.hid (H1.out.turn TN (fun _ h => h.elim))
   replace H2 := Lib.hid (H2.out.turn TN (fun _ h => h.elim))
   generalize ext q _ 0 = qa at *
   clear TN hb ow
   go_wp2_with fail
   refine (dOut_any (k : Int) H2.out.mem (fun d hd => Nat.le_of_lt (H2.out.tape HM2.out d hd))).mono ?_
   rintro e wb ⟨lv, rfl, ow, hb⟩
   obtain ⟨sa2, sc2, rfl⟩ := owns_slice ow
   have TN := Turn.of_below qa 0 hb
   have HL2 := Lib.hid (Own.made qa 0 ow).vals
   replace HB := Lib.hid (HB.out.trans (hb.mono HB.out.size))
   replace H1 := Lib.hid (H1.out.turn TN (fun _ h => h.elim))
   replace H2 := Lib.hid (H2.out.turn TN (fun _ h => h.elim))
   replace HL1 := Lib.hid (HL1.out.turn TN (fun h => h))
   generalize ext qa _ 0 = qb at *
   clear TN hb ow
   go_wp2_with fail
   refine (xagree_yes HL1.out HL2.out HPK.out (Nat.le_trans HL1B.out (by decide))).mono ?_
   rintro e _ ⟨rfl, m, rfl⟩
   replace HB := Lib.hid (belowN HB.out m)
   replace H1 := Lib.hid (H1.out.turn (Turn.of_quiet qb ⟨m, rfl⟩) (fun _ h => h.elim))
   replace H2 := Lib.hid (H2.out.turn (Turn.of_quiet qb ⟨m, rfl⟩) (fun _ h => h.elim))
   obtain ⟨n1, hn1⟩ : ∃ x, (outI g r1 (k : Int)).length = x := ⟨_, rfl⟩
   obtain ⟨n2, hn2⟩ : ∃ x, (outI g r2 (k : Int)).length = x := ⟨_, rfl⟩
   have HN1 := Lib.hid hn1
   have HN2 := Lib.hid hn2
   rw [hn1, hn2]
   clear HL1 HL2 hn1 hn2
   cases lb with
   | false =>
    have HNO : Hid (¬ ∀ j : Nat, j < k + 1 → (outI g r1 j).length ≤ (outI g r2 j).length) := Lib.hid (fun h => by have := HLB.out (fun j hj => h j (by omega)); cases this)
    go_wp2
    go_roundw
    case rel => exact ⟨k + 1, qb, false, hlt, by go_num, rfl, rfl, HB.out, H1.out, H2.out, fun h => absurd h HNO.out⟩
    case measure => simp [intOf]; omega
   | true =>
    by_cases hle : n1 ≤ n2
    ·
     have hlei : (n1 : Int) ≤ n2 := by omega
     go_wp2
     go_roundw
     case rel => exact ⟨k + 1, qb, true, hlt, by go_num, rfl, rfl, HB.out, H1.out, H2.out, fun _ => rfl⟩
     case measure => simp [intOf]; omega
    ·
     have hlei : ¬ (n1 : Int) ≤ n2 := by omega
     have HNO : Hid (¬ ∀ j : Nat, j < k + 1 → (outI g r1 j).length ≤ (outI g r2 j).length) := Lib.hid (fun h => by have := h k (by omega); rw [HN1.out, HN2.out] at this; omega)
     go_wp2
     go_roundw
     case rel => exact ⟨k + 1, qb, false, hlt, by go_num, rfl, rfl, HB.out, H1.out, H2.out, fun h => absurd h HNO.out⟩
     case measure => simp [intOf]; omega
  ·
   obtain rfl : k = n := by omega
   have hlti : ¬ (k : Int) < k := by omega
   go_wp2
   go_ret2
   exact ⟨lb, rfl, HB.out, HLB.out⟩
end Go.Proofs.YtaholpfikcdhbaaGreat

/- A rig that is not there. -/
namespace Go.Proofs.YtaholpfikcdhbaaGreat
open Go.RowKit
end Go.Proofs.YtaholpfikcdhbaaGreat

/- The chapter's small graph is run: awake answers true. -/
namespace Go.Proofs.YtaholpfikcdhbaaGreat
open Go.RowKit
def LineRet (w : World) (e : Ending) (w' : World) : Prop := ∃ v, e = .returned v ∧ HasGraph w' v lineG ∧ Below w.heap.size w w'
def lineO (w : World) : List Obj :=
 [.cells #[.string { data := #[103] }, .slice (some ⟨w.heap.size + 3, 0, none⟩) 3 3, .slice (some ⟨w.heap.size + 4, 0, none⟩) 2 2, .slice none 0 0, .slice (some ⟨w.heap.size + 5, 0, none⟩) 1 1] 26, .cells #[.int .i64 1, .int .i64 1] 3, .cells #[.int .i64 1] 3, .cells #[.string { data := #[97] }, .int .u8 10, .slice (some ⟨w.heap.size + 1, 0, none⟩) 2 2, .string { data := #[98] }, .int .u8 6, .slice (some ⟨w.heap.size + 2, 0, none⟩) 1 1, .string { data := #[99] }, .int .u8 8, .slice none 0 0] 96, .cells #[.int .i64 0, .int .i64 0, .int .i64 1, .int .i64 0, .slice none 0 0, .int .i64 1, .int .i64 0, .int .i64 2, .int .i64 0, .slice none 0 0] 107, .cells #[.string { data := #[121] }, .int .i64 2, .int .i64 0] 118]
set_option maxRecDepth 100000 in
theorem line_has (w : World) : HasGraph (allocs w (lineO w)) (.agg #[.string { data := #[103] }, .slice (some ⟨w.heap.size + 3, 0, none⟩) 3 3, .slice (some ⟨w.heap.size + 4, 0, none⟩) 2 2, .slice none 0 0, .slice (some ⟨w.heap.size + 5, 0, none⟩) 1 1]) lineG := by
 refine ⟨_, _, _, _, rfl, ?_, ?_, .inl ⟨rfl, _, _, rfl⟩, ?_⟩
 ·
  refine .inr ⟨by decide, w.heap.size + 3, 0, 3, rfl, Nat.le_refl _, block_lt (allocs_get (lineO w) w 3 _ rfl), fun k hk => ?_⟩
  match k, (show k < 3 from hk) with
  | 0, _ => exact ⟨[.string { data := #[97] }, .int .u8 10, .slice (some ⟨w.heap.size + 1, 0, none⟩) 2 2], rfl, ⟨_, rfl, .inr ⟨Nat.succ_pos 1, _, 0, 2, rfl, Nat.le_refl _, block_lt (allocs_get (lineO w) w 1 _ rfl), rfl, fun j hj => by
    match j, hj with
    | 0, _ => exact allocs_cell w (lineO w) 1 0 rfl rfl
    | 1, _ => exact allocs_cell w (lineO w) 1 1 rfl rfl⟩⟩, fun i hi => by
   match i, hi with
   | 0, _ => exact allocs_cell w (lineO w) 3 0 rfl rfl
   | 1, _ => exact allocs_cell w (lineO w) 3 1 rfl rfl
   | 2, _ => exact allocs_cell w (lineO w) 3 2 rfl rfl⟩
  | 1, _ => exact ⟨[.string { data := #[98] }, .int .u8 6, .slice (some ⟨w.heap.size + 2, 0, none⟩) 1 1], rfl, ⟨_, rfl, allocs_one w (lineO w) 2 rfl⟩, fun i hi => by
   match i, hi with
   | 0, _ => exact allocs_cell w (lineO w) 3 3 rfl rfl
   | 1, _ => exact allocs_cell w (lineO w) 3 4 rfl rfl
   | 2, _ => exact allocs_cell w (lineO w) 3 5 rfl rfl⟩
  | 2, _ => exact ⟨[.string { data := #[99] }, .int .u8 8, .slice none 0 0], rfl, ⟨_, rfl, .inl ⟨rfl, _, _, rfl⟩⟩, fun i hi => by
   match i, hi with
   | 0, _ => exact allocs_cell w (lineO w) 3 6 rfl rfl
   | 1, _ => exact allocs_cell w (lineO w) 3 7 rfl rfl
   | 2, _ => exact allocs_cell w (lineO w) 3 8 rfl rfl⟩
 ·
  refine .inr ⟨by decide, w.heap.size + 4, 0, 2, rfl, Nat.le_refl _, block_lt (allocs_get (lineO w) w 4 _ rfl), fun k hk => ?_⟩
  match k, (show k < 2 from hk) with
  | 0, _ => exact ⟨[.int .i64 0, .int .i64 0, .int .i64 1, .int .i64 0, .slice none 0 0], rfl, ⟨_, rfl, .inl ⟨rfl, _, _, rfl⟩⟩, fun i hi => by
   match i, hi with
   | 0, _ => exact allocs_cell w (lineO w) 4 0 rfl rfl
   | 1, _ => exact allocs_cell w (lineO w) 4 1 rfl rfl
   | 2, _ => exact allocs_cell w (lineO w) 4 2 rfl rfl
   | 3, _ => exact allocs_cell w (lineO w) 4 3 rfl rfl
   | 4, _ => exact allocs_cell w (lineO w) 4 4 rfl rfl⟩
  | 1, _ => exact ⟨[.int .i64 1, .int .i64 0, .int .i64 2, .int .i64 0, .slice none 0 0], rfl, ⟨_, rfl, .inl ⟨rfl, _, _, rfl⟩⟩, fun i hi => by
   match i, hi with
   | 0, _ => exact allocs_cell w (lineO w) 4 5 rfl rfl
   | 1, _ => exact allocs_cell w (lineO w) 4 6 rfl rfl
   | 2, _ => exact allocs_cell w (lineO w) 4 7 rfl rfl
   | 3, _ => exact allocs_cell w (lineO w) 4 8 rfl rfl
   | 4, _ => exact allocs_cell w (lineO w) 4 9 rfl rfl⟩
 ·
  refine .inr ⟨by decide, w.heap.size + 5, 0, 1, rfl, Nat.le_refl _, block_lt (allocs_get (lineO w) w 5 _ rfl), fun k hk => ?_⟩
  match k, (show k < 1 from hk) with
  | 0, _ => exact ⟨_, rfl, rfl, fun i hi => by
   match i, hi with
   | 0, _ => exact allocs_cell w (lineO w) 5 0 rfl rfl
   | 1, _ => exact allocs_cell w (lineO w) 5 1 rfl rfl
   | 2, _ => exact allocs_cell w (lineO w) 5 2 rfl rfl⟩
set_option maxRecDepth 100000 in
theorem line_ret (w : World) : Calls Tryz.prog 36 #[] w (LineRet w) := by
 go_enter Tryz.func36, Tryz.ntmps36
 go_wp2
 refine bodyPost_ret_by (results_cell_row rfl _ _ _ _ _ _ _ rfl (allocs_get (lineO w) w 0 _ rfl) Tryz.underlying26 rfl (by kernel_rfl)) rfl ?_
 exact ⟨_, rfl, line_has w, (allocs_below (lineO w) w).1⟩
theorem line_sized : GSized lineG := ⟨by decide, by decide, by decide, by decide⟩
theorem line_fitp : ∀ a ∈ lineG.actors, ∀ x ∈ a.params, Fits x := by
 intro a ha x hx
 unfold lineG at ha
 simp only [List.mem_cons, List.not_mem_nil, or_false] at ha
 rcases ha with rfl | rfl | rfl <;> simp at hx <;> subst hx <;> unfold Fits <;> omega
theorem line_fits : ∀ e ∈ lineG.edges, ∀ x ∈ e.start, Fits x := by
 intro e he x hx
 unfold lineG at he
 simp only [List.mem_cons, List.not_mem_nil, or_false] at he
 rcases he with rfl | rfl <;> simp at hx
def lineEnd : RunP × Nat := roundsP lineG [1, 1] 10 ⟨newRig lineG, none⟩
theorem line_halt : haltI lineG [1, 1] lineEnd.1 = 0 := by
 have h1 : lineEnd.1.failed = none := line_fail
 have h2 : (readyL lineG [1, 1] lineEnd.1).length = 2 := line_ready
 unfold haltI
 rw [if_neg (by rw [h1]; simp), if_neg (fun h => by rw [h] at h2; cases h2)]
theorem line_out : outI lineG lineEnd.1 0 = [1, 3] := by
 unfold outI
 rw [if_pos (by decide)]
 exact line_run.2
theorem ints_two {w : World} (a b : Int) : Has (w.alloc (.cells #[.int .i64 a, .int .i64 b] 3)) (.slice (some ⟨w.heap.size, 0, none⟩) 2 2) (ivs [a, b]) := by
 have h := heap_alloc_new w (.cells #[.int .i64 a, .int .i64 b] 3)
 exact .inr ⟨by simp, _, 0, 2, rfl, Nat.le_refl _, block_lt h, rfl, fun k hk => by
  match k, hk with
  | 0, _ => exact cells_row _ _ h 0 _ rfl
  | 1, _ => exact cells_row _ _ h 1 _ rfl⟩
set_option maxRecDepth 100000 in
set_option maxHeartbeats 2000000 in
theorem dawake_yes (w : World) : Calls Tryz.prog 14 #[] w (Tells (.bool true) w) := by
 go_enter Tryz.func14, Tryz.ntmps14
 go_wp2_with fail
 refine (line_ret w).mono ?_
 rintro e w1 ⟨v, rfl, hG, hb1⟩
 have hb2 := below_alloc w1 (.cells #[.int .i64 1, .int .i64 1] 3)
 have HC := Lib.hid (ints_two (w := w1) 1 1)
 have HG := Lib.hid (hG.below hb2)
 have HB := Lib.hid (hb1.trans (hb2.mono hb1.size))
 clear hG hb1 hb2
 go_wp2_with fail
 obtain ⟨w2, hw2⟩ : ∃ x, w1.alloc (.cells #[.int .i64 1, .int .i64 1] 3) = x := ⟨_, rfl⟩
 rw [hw2] at HC HG HB ⊢
 clear hw2
 refine (dnew_any w2 (fun _ => 0) 1 (Nat.le_refl _) v lineG [1, 1] HG.out line_sized HC.out (by decide) line_fitp line_fits (by intro c hc; simp at hc; subst hc; unfold Fits; omega)).mono ?_
 rintro e w3 hret
 obtain ⟨b, q, qs, rv, rfl, T, hR, hGO, -⟩ := hret.2 line_check
 have K3 := (Kept.start w2).turn T (fun h => h)
 have HR := Lib.hid hR
 have HGO := Lib.hid hGO
 clear hret T hR hGO HC HG
 go_wp2_with fail
 refine (dRounds_ok 10 HR.out HGO.out (by decide)).mono ?_
 rintro e w4 ⟨q4, v4, rfl, T4, hR4⟩
 have e10 : (min (10 : Int) 4096).toNat = 10 := by decide
 rw [e10] at hR4 ⊢
 have K4 := K3.turn T4 (by unfold MineR; omega)
 have hR5 : RigOk w4 q4 1 b lineG [1, 1] (256 + 4096 * 32) (fun _ => 256) qs rv.tb lineEnd.1 v4 := hR4
 have h10 : 10 < lineEnd.2 := of_decide_eq_true line_run.1
 change _ at hR4
 obtain ⟨n, hn⟩ : ∃ n, (roundsP lineG [1, 1] 10 ⟨newRig lineG, none⟩).2 = n := ⟨_, rfl⟩
 have hn2 : lineEnd.2 = n := hn
 rw [hn]
 rw [hn2] at h10
 have h10i : (10 : Int) < n := by omega
 have HR5 := Lib.hid hR5
 have HB4 := Lib.hid (HB.out.trans (K4.below.mono HB.out.size))
 clear hR4 hR5 hn hn2 h10 T4 K3 K4 HR HB
 go_wp2_with fail
 refine (dHalt_any HR5.out.mem HGO.out.linked rfl HR5.out.ok (fun d => Nat.le_of_lt (HR5.out.lt (by decide) d))).mono ?_
 rintro e w5 ⟨rfl, hb5⟩
 rw [line_halt]
 have HR6 := Lib.hid (HR5.out.turn (Turn.of_below q4 0 hb5) (fun _ h => h.elim))
 have HB5 := Lib.hid (HB4.out.trans (hb5.mono HB4.out.size))
 generalize ext q4 w4.heap.size 0 = q5 at *
 clear hb5 HB4 HR5
 go_wp2_with fail
 refine (dFailed_any HR6.out.mem).mono ?_
 rintro e w6 ⟨rfl, rfl⟩
 have hfl : failI lineEnd.1 = -1 := by
  unfold failI
  rw [show lineEnd.1.failed = none from line_fail]
 rw [hfl]
 clear hfl
 go_wp2_with fail
 refine (dOut_any 0 HR6.out.mem (fun d hd => Nat.le_of_lt (HR6.out.tape (by decide) d hd))).mono ?_
 rw [line_out]
 rintro e w7 ⟨ov, rfl, ho, hb7⟩
 obtain ⟨oa, oc, rfl⟩ := owns_slice ho
 have hO := (Own.made q5 7 ho).vals
 have hb8 := below_alloc w7 (.cells #[.int .i64 1, .int .i64 3] 3)
 have HO := Lib.hid (hO.turn (Turn.of_below _ 0 hb8) (fun h => h))
 have HI := Lib.hid (ints_two (w := w7) 1 3)
 have HB7 := Lib.hid (HB5.out.trans ((hb7.trans (hb8.mono hb7.size)).mono HB5.out.size))
 clear ho hO hb7 hb8 HB5
 go_wp2_with fail
 refine (sameints_yes HO.out HI.out (by decide)).mono ?_
 rintro e w8 ⟨rfl, m, rfl⟩
 go_wp2
 go_ret
 exact ⟨rfl, below_dr HB7.out⟩
end Go.Proofs.YtaholpfikcdhbaaGreat

/- A run with more, plainly. No function in sight. -/
namespace Go.Proofs.YtaholpfikcdhbaaGreat
open Go.RowKit
def HasMore (w : World) (v : Value) (mc : List Int) (mf : List (List Int)) : Prop := ∃ vc vf, v = .agg #[vc, vf] ∧ Has w vc (ivs mc) ∧ LL w vf mf
theorem HasMore.below {w w' : World} {v : Value} {mc : List Int} {mf : List (List Int)} (h : HasMore w v mc mf) (hb : Below w.heap.size w w') : HasMore w' v mc mf := by
 obtain ⟨vc, vf, rfl, h1, h2⟩ := h
 exact ⟨vc, vf, rfl, h1.below hb, h2.below hb⟩
def goodM (caps mc : List Int) (k : Nat) : Prop := ∀ i, i < k → i < mc.length → 0 ≤ mc[i]?.getD 0 ∧ mc[i]?.getD 0 ≤ 1024 ∧ caps[i]?.getD 0 ≤ 1024
def capsM (caps mc : List Int) (k : Nat) : List Int := (List.range k).map fun i => caps[i]?.getD 0 + mc[i]?.getD 0
def fedM (fed mf : List (List Int)) (k : Nat) : List (List Int) := (List.range k).map fun i => fed[i]?.getD [] ++ mf[i]?.getD []
theorem capsM_len (caps mc : List Int) (k : Nat) : (capsM caps mc k).length = k := by simp [capsM]
theorem fedM_len (fed mf : List (List Int)) (k : Nat) : (fedM fed mf k).length = k := by simp [fedM]
theorem capsM_snoc (caps mc : List Int) (k : Nat) : capsM caps mc (k + 1) = capsM caps mc k ++ [caps[k]?.getD 0 + mc[k]?.getD 0] := by simp [capsM, List.range_succ]
theorem newE_lens {g : GGraph} {caps : List Int} (h : newE g caps = 0) : checkE g = 0 ∧ caps.length = g.edges.length ∧ ∀ c ∈ caps, 0 ≤ c := by
 unfold newE at h
 split at h
 ·
  rename_i h1; exact absurd h h1
 ·
  rename_i h1
  split at h
  ·
   cases h
  ·
   rename_i h2
   split at h
   ·
    cases h
   ·
    rename_i h3
    refine ⟨Decidable.not_not.1 h1, Decidable.not_not.1 h2, fun c hc => ?_⟩
    have := fun hh => h3 (List.any_eq_true.2 ⟨c, hc, hh⟩)
    simp at this
    omega
end Go.Proofs.YtaholpfikcdhbaaGreat

/- Two ready tasks in either order, plainly. No function in sight. -/
namespace Go.Proofs.YtaholpfikcdhbaaGreat
open Go.RowKit
end Go.Proofs.YtaholpfikcdhbaaGreat

/- What two runs of one rig tell of one another, plainly. No function in sight. -/
namespace Go.Proofs.YtaholpfikcdhbaaGreat
open Go.RowKit
theorem halt_5 {g : GGraph} {caps : List Int} {r : RunP} : (haltI g caps r = 5) ↔ r.failed = none ∧ readyL g caps r = [] := by
 unfold haltI
 split
 ·
  rename_i h
  simp [h]
 ·
  rename_i h
  have hf : r.failed = none := Decidable.not_not.1 h
  split
  ·
   rename_i e; simp [hf, e]
  ·
   rename_i e; simp [e]
theorem meets_outI {g : GGraph} {caps : List Int} {s : RigP} {r q : RunP} (hr : Reach g caps s r) (hq : Reach g caps s q) : ∀ k : Nat, k < g.outs.length → outI g r k <+: outI g q k ∨ outI g q k <+: outI g r k := by
 intro k hk
 unfold outI
 rw [if_pos (by omega), if_pos (by omega)]
 exact meets_out hr hq hk
theorem meets_55 {g : GGraph} {caps : List Int} {s : RigP} {r q : RunP} (hr : Reach g caps s r) (hq : Reach g caps s q) (h1 : haltI g caps r = 5) (h2 : haltI g caps q = 5) : r = q :=
 meets_quiet hr hq (halt_5.1 h1).1 (halt_5.1 h2).1 (halt_5.1 h1).2 (halt_5.1 h2).2
end Go.Proofs.YtaholpfikcdhbaaGreat

/- Fed late, or with more: what two such runs have in common, plainly. No function in sight. -/
namespace Go.Proofs.YtaholpfikcdhbaaGreat
open Go.RowKit
theorem capsM_mem {caps mc : List Int} {c : Int} (h : c ∈ capsM caps mc caps.length) : ∃ i, i < caps.length ∧ c = caps[i]?.getD 0 + mc[i]?.getD 0 := by
 unfold capsM at h
 obtain ⟨i, hi, rfl⟩ := List.mem_map.1 h
 exact ⟨i, List.mem_range.1 hi, rfl⟩
theorem getD_mem {l : List Int} {i : Nat} (h : i < l.length) : l[i]?.getD 0 ∈ l := by rw [List.getElem?_eq_getElem h]; exact List.getElem_mem h
theorem feed_fedM {g : GGraph} {fed mf : List (List Int)} {s : RigP} : feedS g (fedM fed mf g.ins.length) s = feedS g mf (feedS g fed s) := by
 unfold feedS
 simp only [RigP.mk.injEq, true_and]
 funext d
 by_cases h : g.edges.length ≤ d ∧ d < g.edges.length + g.ins.length
 ·
  simp only [if_pos h]
  have e : (fedM fed mf g.ins.length)[d - g.edges.length]?.getD [] = fed[d - g.edges.length]?.getD [] ++ mf[d - g.edges.length]?.getD [] := by
   unfold fedM
   rw [List.getElem?_map, List.getElem?_range (by omega)]
   rfl
  rw [e, List.append_assoc]
 ·
  simp only [if_neg h]
theorem capsM_nil (caps : List Int) : capsM caps [] caps.length = caps := by
 apply List.ext_getElem
 ·
  rw [capsM_len]
 ·
  intro i h1 h2
  unfold capsM
  simp [List.getElem?_eq_getElem h2]
theorem goodM_nil (caps : List Int) (k : Nat) : goodM caps [] k := fun i _ h => by cases h
theorem fedM_mem {fed mf : List (List Int)} {n : Nat} {xs : List Int} (h : xs ∈ fedM fed mf n) : ∃ i, i < n ∧ xs = fed[i]?.getD [] ++ mf[i]?.getD [] := by
 unfold fedM at h
 obtain ⟨i, hi, rfl⟩ := List.mem_map.1 h
 exact ⟨i, List.mem_range.1 hi, rfl⟩
theorem rowD_mem {l : List (List Int)} {i : Nat} : l[i]?.getD [] = [] ∨ l[i]?.getD [] ∈ l := by
 by_cases h : i < l.length
 ·
  right; rw [List.getElem?_eq_getElem h]; exact List.getElem_mem h
 ·
  left; rw [List.getElem?_eq_none (by omega)]; rfl
theorem RunOk.wide {g : GGraph} {caps mc : List Int} {fed mf : List (List Int)} (ok : RunOk g caps fed) (h : goodM caps mc caps.length) (hm : ∀ xs ∈ mf, ∀ x ∈ xs, Fits x) (h1 : ∀ xs ∈ fed, xs.length ≤ 1000000000000) (h2 : ∀ xs ∈ mf, xs.length ≤ 1000000000000) : RunOk g (capsM caps mc caps.length) (fedM fed mf g.ins.length) := by
 refine ⟨ok.sized, by rw [capsM_len]; exact ok.capn, ok.fp, ok.fs, fun c hc => ?_, fun xs hxs x hx => ?_, fun xs hxs => ?_⟩
 ·
  obtain ⟨i, hi, rfl⟩ := capsM_mem hc
  have f := ok.fc _ (getD_mem hi)
  by_cases hh : i < mc.length
  ·
   have := h i hi hh
   unfold Fits at f ⊢
   omega
  ·
   rw [List.getElem?_eq_none (l := mc) (by omega), Option.getD_none, Int.add_zero]
   exact f
 ·
  obtain ⟨i, hi, rfl⟩ := fedM_mem hxs
  rcases List.mem_append.1 hx with hx | hx
  ·
   rcases rowD_mem (l := fed) (i := i) with e | e
   ·
    rw [e] at hx; cases hx
   ·
    exact ok.ff _ e _ hx
  ·
   rcases rowD_mem (l := mf) (i := i) with e | e
   ·
    rw [e] at hx; cases hx
   ·
    exact hm _ e _ hx
 ·
  obtain ⟨i, hi, rfl⟩ := fedM_mem hxs
  rw [List.length_append]
  have a1 : (fed[i]?.getD []).length ≤ 1000000000000 := by
   rcases rowD_mem (l := fed) (i := i) with e | e
   ·
    rw [e]; simp
   ·
    exact h1 _ e
  have a2 : (mf[i]?.getD []).length ≤ 1000000000000 := by
   rcases rowD_mem (l := mf) (i := i) with e | e
   ·
    rw [e]; simp
   ·
    exact h2 _ e
  omega
theorem feed_more {g : GGraph} {X : List (List Int)} {s : RigP} {f : Option Nat} {k : Nat} (hk : k < X.length) (hi : k < g.ins.length) : feedR g k (X[k]?.getD []) ⟨feedS g (X.take k) s, f⟩ = ⟨feedS g (X.take (k + 1)) s, f⟩ := by
 have h := congrArg RunP.rig (feed_one (s := s) hk hi)
 unfold feedR at h ⊢
 simp only at h ⊢
 rw [h]
end Go.Proofs.YtaholpfikcdhbaaGreat

/- wider: a run with more. -/
namespace Go.Proofs.YtaholpfikcdhbaaGreat
open Go.RowKit
/- it is over: $1 the answer's second part -/
/- a number is laid behind the others: $1 the number, $2 why it is that -/
/- the row of a run: at the place j -/
/- the first row is copied -/
/- the second row is copied behind it: $1 the world, $2 the colours, $3 what it is laid behind, $4 its list, $5 its fact -/
/- a row is laid behind the others: $1 the world, $2 the colours, $3 its value, $4 its fact -/
def RunV (x : Value) : Prop := ∃ s a1 n1 c1 a2 n2 c2 a3 n3 c3 a4 n4 c4 a5 n5 c5 a6 n6 c6, x = .agg #[.string s, .slice a1 n1 c1, .slice a2 n2 c2, .slice a3 n3 c3, .slice a4 n4 c4, .slice a5 n5 c5, .slice a6 n6 c6]
def WiderRet (w : World) (g : GGraph) (caps : List Int) (fed : List (List Int)) (mc : List Int) (mf : List (List Int)) (e : Ending) (w' : World) : Prop :=
 Below w.heap.size w w' ∧ ∃ out b, RunV out ∧ e = .returned (.tuple #[out, .bool b]) ∧ (b = false → ¬ goodM caps mc caps.length) ∧ (b = true → goodM caps mc caps.length ∧ HasRun w' out g (capsM caps mc caps.length) (fedM fed mf g.ins.length))
structure WiderAt (w0 wz : World) (q : Col) (rv mv gv : List Value) (caps mc : List Int) (fed mf : List (List Int)) (k j : Nat) (vc vf : Value) (vs : List Value) : Prop where
 kept : Kept w0.heap.size q w0 wz
 b1 : Blk wz q 20001 w0.heap.size 30 rv.toArray
 b2 : Blk wz q 20002 (w0.heap.size + 1) 42 mv.toArray
 b3 : Blk wz q 20003 (w0.heap.size + 2) 30 #[.string { data := #[] }, .slice none 0 0, .slice none 0 0, .slice none 0 0, .slice none 0 0, .slice none 0 0, .slice none 0 0]
 b4 : Blk wz q 20004 (w0.heap.size + 3) 30 (gv ++ [vc, vf]).toArray
 ownc : Own wz q 20005 3 1 vc k (ivs (capsM caps mc k))
 ownf : Own wz q 20006 27 1 vf j vs
 len : vs.length = j
 rows : ∀ i, i < j → Own wz q (20100 + i) 3 1 (vs[i]?.getD undef) (fed[i]?.getD [] ++ mf[i]?.getD []).length (ivs (fed[i]?.getD [] ++ mf[i]?.getD []))
theorem WiderAt.turn {w0 w w' : World} {q q' : Col} {C : Nat → Prop} {rv mv gv : List Value} {caps mc : List Int} {fed mf : List (List Int)} {k j : Nat} {vc vf : Value} {vs : List Value} (h : WiderAt w0 w q rv mv gv caps mc fed mf k j vc vf vs) (T : Turn q q' C w w') (hC : ∀ c, C c → c ≠ 0 ∧ (c < 20001 ∨ 20006 < c) ∧ (c < 20100 ∨ 20100 + j ≤ c)) : WiderAt w0 w' q' rv mv gv caps mc fed mf k j vc vf vs :=
 ⟨h.kept.turn T (fun h => (hC _ h).1 rfl), h.b1.turn T (fun h => by have := hC _ h; omega), h.b2.turn T (fun h => by have := hC _ h; omega), h.b3.turn T (fun h => by have := hC _ h; omega), h.b4.turn T (fun h => by have := hC _ h; omega), h.ownc.turn T (fun h => by have := hC _ h; omega), h.ownf.turn T (fun h => by have := hC _ h; omega), h.len, fun i hi => (h.rows i hi).turn T (fun h => by have := hC _ h; omega)⟩
theorem wider_start (w : World) (rv mv gv : List Value) (caps mc : List Int) (fed mf : List (List Int)) : ∃ q, WiderAt w ((((w.alloc (.cells rv.toArray 30)).alloc (.cells mv.toArray 42)).alloc (.cells #[.string { data := #[] }, .slice none 0 0, .slice none 0 0, .slice none 0 0, .slice none 0 0, .slice none 0 0, .slice none 0 0] 30)).alloc (.cells (gv ++ [Value.slice none 0 0, Value.slice none 0 0]).toArray 30)) q rv mv gv caps mc fed mf 0 0 (.slice none 0 0) (.slice none 0 0) [] := by
 have T1 := Turn.of_below (fun _ => 0) 20001 (below_alloc w (.cells rv.toArray 30))
 have B1 := blk_new (w := w) (fun _ => 0) 20001 rv.toArray 30
 have K1 := (Kept.start w).turn T1 (fun h => h)
 generalize ext (fun _ => 0) w.heap.size 20001 = p1 at *
 obtain ⟨w1, hw1⟩ : ∃ x, w.alloc (.cells rv.toArray 30) = x := ⟨_, rfl⟩
 have s1 : w1.heap.size = w.heap.size + 1 := by rw [← hw1]; simp
 rw [hw1] at B1 K1 ⊢
 have T2 := Turn.of_below p1 20002 (below_alloc w1 (.cells mv.toArray 42))
 have B2 := blk_new (w := w1) p1 20002 mv.toArray 42
 have K2 := K1.turn T2 (fun h => h)
 have B12 := B1.turn T2 (fun h => h)
 generalize ext p1 w1.heap.size 20002 = p2 at *
 rw [s1] at B2
 obtain ⟨w2, hw2⟩ : ∃ x, w1.alloc (.cells mv.toArray 42) = x := ⟨_, rfl⟩
 have s2 : w2.heap.size = w.heap.size + 2 := by rw [← hw2]; simp [s1]
 rw [hw2] at B2 K2 B12 ⊢
 have T3 := Turn.of_below p2 20003 (below_alloc w2 (.cells #[.string { data := #[] }, .slice none 0 0, .slice none 0 0, .slice none 0 0, .slice none 0 0, .slice none 0 0, .slice none 0 0] 30))
 have B3 := blk_new (w := w2) p2 20003 #[.string { data := #[] }, .slice none 0 0, .slice none 0 0, .slice none 0 0, .slice none 0 0, .slice none 0 0, .slice none 0 0] 30
 have K3 := K2.turn T3 (fun h => h)
 have B13 := B12.turn T3 (fun h => h)
 have B23 := B2.turn T3 (fun h => h)
 generalize ext p2 w2.heap.size 20003 = p3 at *
 rw [s2] at B3
 obtain ⟨w3, hw3⟩ : ∃ x, w2.alloc (.cells #[.string { data := #[] }, .slice none 0 0, .slice none 0 0, .slice none 0 0, .slice none 0 0, .slice none 0 0, .slice none 0 0] 30) = x := ⟨_, rfl⟩
 have s3 : w3.heap.size = w.heap.size + 3 := by rw [← hw3]; simp [s2]
 rw [hw3] at B3 K3 B13 B23 ⊢
 have T4 := Turn.of_below p3 20004 (below_alloc w3 (.cells (gv ++ [Value.slice none 0 0, Value.slice none 0 0]).toArray 30))
 have B4 := blk_new (w := w3) p3 20004 (gv ++ [Value.slice none 0 0, Value.slice none 0 0]).toArray 30
 generalize ext p3 w3.heap.size 20004 = p4 at *
 rw [s3] at B4
 exact ⟨_, K3.turn T4 (fun h => h), B13.turn T4 (fun h => h), B23.turn T4 (fun h => h), B3.turn T4 (fun h => h), B4, Own.nil _ _ _ _ _, Own.nil _ _ _ _ _, rfl, fun i hi => by omega⟩
set_option maxHeartbeats 2000000 in
theorem run_set {w : World} {Z : Nat} {a0 a1 a2 a3 a4 a5 a6 z0 z1 z2 z3 z4 z5 z6 : Value} (h : w.heap[Z]? = some (.cells #[z0, z1, z2, z3, z4, z5, z6] 30 (0, 0))) :
  (((((((w.setCell ⟨Z, 0, none⟩ a0).setCell ⟨Z, 1, none⟩ a1).setCell ⟨Z, 2, none⟩ a2).setCell ⟨Z, 3, none⟩ a3).setCell ⟨Z, 4, none⟩ a4).setCell ⟨Z, 5, none⟩ a5).setCell ⟨Z, 6, none⟩ a6).heap[Z]? = some (.cells #[a0, a1, a2, a3, a4, a5, a6] 30 (0, 0)) := by
 have h0 := block_setCell h 0 a0
 simp only [List.setIfInBounds_toArray, List.set_cons_zero] at h0
 have h1 := block_setCell h0 1 a1
 simp only [List.setIfInBounds_toArray, List.set_cons_zero, List.set_cons_succ] at h1
 have h2 := block_setCell h1 2 a2
 simp only [List.setIfInBounds_toArray, List.set_cons_zero, List.set_cons_succ] at h2
 have h3 := block_setCell h2 3 a3
 simp only [List.setIfInBounds_toArray, List.set_cons_zero, List.set_cons_succ] at h3
 have h4 := block_setCell h3 4 a4
 simp only [List.setIfInBounds_toArray, List.set_cons_zero, List.set_cons_succ] at h4
 have h5 := block_setCell h4 5 a5
 simp only [List.setIfInBounds_toArray, List.set_cons_zero, List.set_cons_succ] at h5
 have h6 := block_setCell h5 6 a6
 simp only [List.setIfInBounds_toArray, List.set_cons_zero, List.set_cons_succ] at h6
 exact h6
theorem run_only (w : World) (Z : Nat) (a0 a1 a2 a3 a4 a5 a6 : Value) : Mods (fun k => k = Z) w (((((((w.setCell ⟨Z, 0, none⟩ a0).setCell ⟨Z, 1, none⟩ a1).setCell ⟨Z, 2, none⟩ a2).setCell ⟨Z, 3, none⟩ a3).setCell ⟨Z, 4, none⟩ a4).setCell ⟨Z, 5, none⟩ a5).setCell ⟨Z, 6, none⟩ a6) :=
 (((((((Mods.refl (fun k => k = Z) w).setCell (p := ⟨Z, 0, none⟩) (fun _ => rfl) a0).setCell (p := ⟨Z, 1, none⟩) (fun _ => rfl) a1).setCell (p := ⟨Z, 2, none⟩) (fun _ => rfl) a2).setCell (p := ⟨Z, 3, none⟩) (fun _ => rfl) a3).setCell (p := ⟨Z, 4, none⟩) (fun _ => rfl) a4).setCell (p := ⟨Z, 5, none⟩) (fun _ => rfl) a5).setCell (p := ⟨Z, 6, none⟩) (fun _ => rfl) a6
theorem run_turn {w : World} {o : Col} {c Z : Nat} {cs : Array Value} (h : Blk w o c Z 30 cs) (a0 a1 a2 a3 a4 a5 a6 : Value) : Turn o o (fun x => x = c) w (((((((w.setCell ⟨Z, 0, none⟩ a0).setCell ⟨Z, 1, none⟩ a1).setCell ⟨Z, 2, none⟩ a2).setCell ⟨Z, 3, none⟩ a3).setCell ⟨Z, 4, none⟩ a4).setCell ⟨Z, 5, none⟩ a5).setCell ⟨Z, 6, none⟩ a6) :=
 ⟨(run_only w Z a0 a1 a2 a3 a4 a5 a6).mono (fun k _ e => by rw [e]; exact h.2), fun _ _ => rfl⟩
theorem WiderAt.capped {w0 w w7 : World} {q : Col} {rv : List Value} {mv : List Value} {g0 g1 g2 g3 g4 : Value} {caps mc : List Int} {fed mf : List (List Int)} {k : Nat} {vc v7 : Value} {X : Int} (h : WiderAt w0 w q rv mv [g0, g1, g2, g3, g4] caps mc fed mf k 0 vc (.slice none 0 0) []) (hX : X = caps[k]?.getD 0 + mc[k]?.getD 0)
  (k1 : w7.ownsRow 0 3 1 v7 (k + 1) (ivs (capsM caps mc k) ++ [.int .i64 X])) (k2 : w.grownBy w7 vc.ownBlock) (k4 : v7.ownBlock = vc.ownBlock ∨ v7.ownBlock = some w.heap.size) :
  w7.cell? ⟨w0.heap.size + 3, 5, none⟩ = some vc ∧ w7.frozen? ⟨w0.heap.size + 3, 5, none⟩ = false ∧ ∃ q', WiderAt w0 (w7.setCell ⟨w0.heap.size + 3, 5, none⟩ v7) q' rv mv [g0, g1, g2, g3, g4] caps mc fed mf (k + 1) 0 v7 (.slice none 0 0) [] := by
 obtain ⟨T7, O7⟩ := own_app h.ownc k1 k2 k4
 have B7 := h.b4.turn T7 (by omega)
 obtain ⟨B8, S8⟩ := B7.set 5 v7
 have TT := (T7.mono (D := fun c => c = 20004 ∨ c = 20005) (fun c h => .inr h)).trans (S8.mono (D := fun c => c = 20004 ∨ c = 20005) (fun c h => .inl h)) (fun _ h => h)
 refine ⟨B7.cell 5 _ rfl, B7.frozen 5, _, h.kept.turn TT (by omega), h.b1.turn TT (by omega), h.b2.turn TT (by omega), h.b3.turn TT (by omega), B8, ?_, h.ownf.turn TT (by omega), rfl, fun i hi => by omega⟩
 have e : ivs (capsM caps mc (k + 1)) = ivs (capsM caps mc k) ++ [.int .i64 X] := by rw [capsM_snoc, hX]; simp [ivs]
 rw [e]
 exact O7.turn S8 (by omega)
theorem WiderAt.fed1 {w0 w w7 : World} {q : Col} {rv : List Value} {mv : List Value} {g0 g1 g2 g3 g4 : Value} {caps mc : List Int} {fed mf : List (List Int)} {k j : Nat} {vc vf v7 u : Value} {vs : List Value} (h : WiderAt w0 w q rv mv [g0, g1, g2, g3, g4] caps mc fed mf k j vc vf vs) (hU : Own w q (20100 + j) 3 1 u (fed[j]?.getD [] ++ mf[j]?.getD []).length (ivs (fed[j]?.getD [] ++ mf[j]?.getD [])))
  (k1 : w7.ownsRow 0 27 1 v7 (j + 1) (vs ++ [u])) (k2 : w.grownBy w7 vf.ownBlock) (k4 : v7.ownBlock = vf.ownBlock ∨ v7.ownBlock = some w.heap.size) :
  w7.cell? ⟨w0.heap.size + 3, 6, none⟩ = some vf ∧ w7.frozen? ⟨w0.heap.size + 3, 6, none⟩ = false ∧ ∃ q', WiderAt w0 (w7.setCell ⟨w0.heap.size + 3, 6, none⟩ v7) q' rv mv [g0, g1, g2, g3, g4] caps mc fed mf k (j + 1) vc v7 (vs ++ [u]) := by
 obtain ⟨T7, O7⟩ := own_app h.ownf k1 k2 k4
 have B7 := h.b4.turn T7 (by omega)
 obtain ⟨B8, S8⟩ := B7.set 6 v7
 have TT := (T7.mono (D := fun c => c = 20004 ∨ c = 20006) (fun c h => .inr h)).trans (S8.mono (D := fun c => c = 20004 ∨ c = 20006) (fun c h => .inl h)) (fun _ h => h)
 refine ⟨B7.cell 6 _ rfl, B7.frozen 6, _, h.kept.turn TT (by omega), h.b1.turn TT (by omega), h.b2.turn TT (by omega), h.b3.turn TT (by omega), B8, h.ownc.turn TT (by omega), O7.turn S8 (by omega), by simp [h.len], fun i hi => ?_⟩
 have hl := h.len
 by_cases e : i < j
 ·
  rw [List.getElem?_append_left (by omega)]
  exact (h.rows i e).turn TT (by omega)
 ·
  obtain rfl : i = j := by omega
  rw [← hl, List.getElem?_concat_length, hl]
  exact hU.turn TT (by omega)
set_option maxRecDepth 100000 in
set_option maxHeartbeats 4000000 in
theorem wider_any (w : World) (v vm : Value) (g : GGraph) (caps : List Int) (fed : List (List Int)) (mc : List Int) (mf : List (List Int)) (hv : HasRun w v g caps fed) (ok : RunOk g caps fed) (hm : HasMore w vm mc mf) (hin : g.ins.length ≤ 5000000000000) (hfn : ∀ xs ∈ fed, xs.length ≤ 1000000000000) (hmn : ∀ xs ∈ mf, xs.length ≤ 1000000000000) : Calls Tryz.prog 19 #[v, vm] w (WiderRet w g caps fed mc mf) := by
 obtain ⟨nm, va, ve, vi, vo, vc, vf, rfl, hg, hc, hf⟩ := hv
 obtain ⟨_, _, _, _, e0, ra, re, ri, ro⟩ := hg.shape
 obtain ⟨aa, ac, rfl⟩ := ra.slice
 obtain ⟨ae, ec, rfl⟩ := re.slice
 obtain ⟨ai, ic, rfl⟩ := ri.slice
 obtain ⟨ao, oc, rfl⟩ := ro.slice
 simp only [Value.agg.injEq, Array.mk.injEq, List.cons.injEq, and_true] at e0
 obtain ⟨rfl, rfl, rfl, rfl, rfl⟩ := e0
 obtain ⟨ca, cc, rfl⟩ := Ints.slice hc
 obtain ⟨fa, fc, rfl⟩ := hf.slice
 obtain ⟨vmc, vmf, rfl, hmc, hmf⟩ := hm
 obtain ⟨ma, mcc, rfl⟩ := Ints.slice hmc
 obtain ⟨na, nc, rfl⟩ := hmf.slice
 have HC := Lib.hid hc
 have HF := Lib.hid hf
 have HMC := Lib.hid hmc
 have HMF := Lib.hid hmf
 have OK := Lib.hid ok
 have HG := Lib.hid hg
 clear hg hc hf hmc hmf ok ra re ri ro
 obtain ⟨q0, h0⟩ := wider_start w [.string g.name, .slice aa g.actors.length ac, .slice ae g.edges.length ec, .slice ai g.ins.length ic, .slice ao g.outs.length oc, .slice ca caps.length cc, .slice fa fed.length fc] [.slice ma mc.length mcc, .slice na mf.length nc] [.string g.name, .slice aa g.actors.length ac, .slice ae g.edges.length ec, .slice ai g.ins.length ic, .slice ao g.outs.length oc] caps mc fed mf
 have HW : Hid (WiderAt w ((((w.alloc (.cells #[.string g.name, .slice aa g.actors.length ac, .slice ae g.edges.length ec, .slice ai g.ins.length ic, .slice ao g.outs.length oc, .slice ca caps.length cc, .slice fa fed.length fc] 30)).alloc (.cells #[.slice ma mc.length mcc, .slice na mf.length nc] 42)).alloc (.cells #[.string { data := #[] }, .slice none 0 0, .slice none 0 0, .slice none 0 0, .slice none 0 0, .slice none 0 0, .slice none 0 0] 30)).alloc (.cells #[.string g.name, .slice aa g.actors.length ac, .slice ae g.edges.length ec, .slice ai g.ins.length ic, .slice ao g.outs.length oc, .slice none 0 0, .slice none 0 0] 30)) q0 [.string g.name, .slice aa g.actors.length ac, .slice ae g.edges.length ec, .slice ai g.ins.length ic, .slice ao g.outs.length oc, .slice ca caps.length cc, .slice fa fed.length fc] [.slice ma mc.length mcc, .slice na mf.length nc] [.string g.name, .slice aa g.actors.length ac, .slice ae g.edges.length ec, .slice ai g.ins.length ic, .slice ao g.outs.length oc] caps mc fed mf 0 0 (.slice none 0 0) (.slice none 0 0) []) := Lib.hid h0
 clear h0
 have hX := block_alloc (block_alloc (heap_alloc_new w (.cells #[.string g.name, .slice aa g.actors.length ac, .slice ae g.edges.length ec, .slice ai g.ins.length ic, .slice ao g.outs.length oc, .slice ca caps.length cc, .slice fa fed.length fc] 30)) (.cells #[.slice ma mc.length mcc, .slice na mf.length nc] 42)) (.cells #[.string { data := #[] }, .slice none 0 0, .slice none 0 0, .slice none 0 0, .slice none 0 0, .slice none 0 0, .slice none 0 0] 30)
 have x0 := cells_row _ _ hX 0 _ rfl
 have x1 := cells_row _ _ hX 1 _ rfl
 have x2 := cells_row _ _ hX 2 _ rfl
 have x3 := cells_row _ _ hX 3 _ rfl
 have x4 := cells_row _ _ hX 4 _ rfl
 clear hX
 go_enter Tryz.func19, Tryz.ntmps19
 go_wp2_with fail
 clear x0 x1 x2 x3 x4
 obtain ⟨w0, hw0⟩ : ∃ x, (((w.alloc (.cells #[.string g.name, .slice aa g.actors.length ac, .slice ae g.edges.length ec, .slice ai g.ins.length ic, .slice ao g.outs.length oc, .slice ca caps.length cc, .slice fa fed.length fc] 30)).alloc (.cells #[.slice ma mc.length mcc, .slice na mf.length nc] 42)).alloc (.cells #[.string { data := #[] }, .slice none 0 0, .slice none 0 0, .slice none 0 0, .slice none 0 0, .slice none 0 0, .slice none 0 0] 30)).alloc (.cells #[.string g.name, .slice aa g.actors.length ac, .slice ae g.edges.length ec, .slice ai g.ins.length ic, .slice ao g.outs.length oc, .slice none 0 0, .slice none 0 0] 30) = x := ⟨_, rfl⟩
 rw [hw0] at HW ⊢
 clear hw0
 go_loopw [7] (fun i wz => ∃ (k : Nat) (q : Col) (vc : Value), k ≤ caps.length ∧ i = .int .i64 k ∧ WiderAt w wz q [.string g.name, .slice aa g.actors.length ac, .slice ae g.edges.length ec, .slice ai g.ins.length ic, .slice ao g.outs.length oc, .slice ca caps.length cc, .slice fa fed.length fc] [.slice ma mc.length mcc, .slice na mf.length nc] [.string g.name, .slice aa g.actors.length ac, .slice ae g.edges.length ec, .slice ai g.ins.length ic, .slice ao g.outs.length oc] caps mc fed mf k 0 vc (.slice none 0 0) [] ∧ goodM caps mc k) (fun i _ => caps.length - (intOf i).toNat)
 case atStart => exact ⟨0, q0, _, Nat.zero_le _, rfl, HW.out, fun i hi => by omega⟩
 case round =>
  clear HW
  obtain ⟨k, q, vc, hk, rfl, hW, hgd⟩ := hrel
  have HW := Lib.hid hW
  have HGD := Lib.hid hgd
  have x5 : wr.cell? ⟨w.heap.size, 1 + 4, none⟩ = some (.slice ca caps.length cc) := hW.b1.cell 5 _ rfl
  have m0 : wr.cell? ⟨w.heap.size + 1, 0, none⟩ = some (.slice ma mc.length mcc) := hW.b2.cell 0 _ rfl
  simp only [Nat.reduceAdd] at x5
  clear hW hgd
  by_cases hlt : k < caps.length
  ·
   have hlti : (k : Int) < caps.length := by omega
   obtain ⟨cb, cof, hca, -, hcc, -, -, hcl⟩ := Ints.at HC.out (by omega)
   have c1 := cell_later HW.out.kept.below (hcl k hlt)
   have HFC := Lib.hid (OK.out.fc (caps[k]?.getD 0) (by rw [List.getElem?_eq_getElem hlt]; exact List.getElem_mem hlt))
   obtain ⟨C, hC⟩ : ∃ x, caps[k]?.getD 0 = x := ⟨_, rfl⟩
   rw [hC] at c1 HFC
   change wr.cell? _ = some (.int .i64 C) at c1
   have HCC := Lib.hid hC
   have hcci : (caps.length : Int) ≤ cc := by omega
   rw [hca] at x5
   clear hcl hC hcc hca
   by_cases hm2 : k < mc.length
   ·
    have hm2i : (k : Int) < mc.length := by omega
    obtain ⟨mb, mof, hma, -, hmcap, -, -, hml⟩ := Ints.at HMC.out (by omega)
    have c2 := cell_later HW.out.kept.below (hml k hm2)
    obtain ⟨M, hM⟩ : ∃ x, mc[k]?.getD 0 = x := ⟨_, rfl⟩
    rw [hM] at c2
    change wr.cell? _ = some (.int .i64 M) at c2
    have HMM := Lib.hid hM
    have hmci : (mc.length : Int) ≤ mcc := by omega
    rw [hma] at m0
    clear hml hM hmcap hma
    have HBAD : Hid ((M < 0 ∨ 1024 < M ∨ 1024 < C) → ¬ goodM caps mc caps.length) := Lib.hid (fun h hg => by
     have h1 := hg k hlt hm2
     rw [HMM.out, HCC.out] at h1
     omega)
    by_cases b1 : M < 0
    ·
     have BB := Lib.hid (HBAD.out (.inl b1))
     obtain ⟨spc, cpc, rfl⟩ := HW.out.ownc.slice
     have y0 := HW.out.b4.cell 0 _ rfl
     have y1 := HW.out.b4.cell 1 _ rfl
     have y2 := HW.out.b4.cell 2 _ rfl
     have y3 := HW.out.b4.cell 3 _ rfl
     have y4 := HW.out.b4.cell 4 _ rfl
     have y5 := HW.out.b4.cell 5 _ rfl
     have y6 := HW.out.b4.cell 6 _ rfl
     have z0 := HW.out.b3.cell 0 _ rfl
     have z1 := HW.out.b3.cell 1 _ rfl
     have z2 := HW.out.b3.cell 2 _ rfl
     have z3 := HW.out.b3.cell 3 _ rfl
     have z4 := HW.out.b3.cell 4 _ rfl
     have z5 := HW.out.b3.cell 5 _ rfl
     have z6 := HW.out.b3.cell 6 _ rfl
     have f0 := HW.out.b3.frozen 0
     have f1 := HW.out.b3.frozen 1
     have f2 := HW.out.b3.frozen 2
     have f3 := HW.out.b3.frozen 3
     have f4 := HW.out.b3.frozen 4
     have f5 := HW.out.b3.frozen 5
     have f6 := HW.out.b3.frozen 6
     go_wp2
     refine bodyPost_ret_by (results_row_tmp rfl _ _ _ _ _ _ _ rfl (run_set (HW.out.b3).1) Tryz.underlying30 rfl (by kernel_rfl)) rfl ?_
     exact ⟨(HW.out.kept.turn (run_turn HW.out.b3 _ _ _ _ _ _ _) (by omega)).below, _, _, ⟨_, _, _, _, _, _, _, _, _, _, _, _, _, _, _, _, _, _, _, rfl⟩, rfl, fun _ => BB.out, fun h => by cases h⟩
    ·
     by_cases b2 : 1024 < M
     ·
      have BB := Lib.hid (HBAD.out (.inr (.inl b2)))
      obtain ⟨spc, cpc, rfl⟩ := HW.out.ownc.slice
      have y0 := HW.out.b4.cell 0 _ rfl
      have y1 := HW.out.b4.cell 1 _ rfl
      have y2 := HW.out.b4.cell 2 _ rfl
      have y3 := HW.out.b4.cell 3 _ rfl
      have y4 := HW.out.b4.cell 4 _ rfl
      have y5 := HW.out.b4.cell 5 _ rfl
      have y6 := HW.out.b4.cell 6 _ rfl
      have z0 := HW.out.b3.cell 0 _ rfl
      have z1 := HW.out.b3.cell 1 _ rfl
      have z2 := HW.out.b3.cell 2 _ rfl
      have z3 := HW.out.b3.cell 3 _ rfl
      have z4 := HW.out.b3.cell 4 _ rfl
      have z5 := HW.out.b3.cell 5 _ rfl
      have z6 := HW.out.b3.cell 6 _ rfl
      have f0 := HW.out.b3.frozen 0
      have f1 := HW.out.b3.frozen 1
      have f2 := HW.out.b3.frozen 2
      have f3 := HW.out.b3.frozen 3
      have f4 := HW.out.b3.frozen 4
      have f5 := HW.out.b3.frozen 5
      have f6 := HW.out.b3.frozen 6
      go_wp2
      refine bodyPost_ret_by (results_row_tmp rfl _ _ _ _ _ _ _ rfl (run_set (HW.out.b3).1) Tryz.underlying30 rfl (by kernel_rfl)) rfl ?_
      exact ⟨(HW.out.kept.turn (run_turn HW.out.b3 _ _ _ _ _ _ _) (by omega)).below, _, _, ⟨_, _, _, _, _, _, _, _, _, _, _, _, _, _, _, _, _, _, _, rfl⟩, rfl, fun _ => BB.out, fun h => by cases h⟩
     ·
      by_cases b3 : 1024 < C
      ·
       have BB := Lib.hid (HBAD.out (.inr (.inr b3)))
       obtain ⟨spc, cpc, rfl⟩ := HW.out.ownc.slice
       have y0 := HW.out.b4.cell 0 _ rfl
       have y1 := HW.out.b4.cell 1 _ rfl
       have y2 := HW.out.b4.cell 2 _ rfl
       have y3 := HW.out.b4.cell 3 _ rfl
       have y4 := HW.out.b4.cell 4 _ rfl
       have y5 := HW.out.b4.cell 5 _ rfl
       have y6 := HW.out.b4.cell 6 _ rfl
       have z0 := HW.out.b3.cell 0 _ rfl
       have z1 := HW.out.b3.cell 1 _ rfl
       have z2 := HW.out.b3.cell 2 _ rfl
       have z3 := HW.out.b3.cell 3 _ rfl
       have z4 := HW.out.b3.cell 4 _ rfl
       have z5 := HW.out.b3.cell 5 _ rfl
       have z6 := HW.out.b3.cell 6 _ rfl
       have f0 := HW.out.b3.frozen 0
       have f1 := HW.out.b3.frozen 1
       have f2 := HW.out.b3.frozen 2
       have f3 := HW.out.b3.frozen 3
       have f4 := HW.out.b3.frozen 4
       have f5 := HW.out.b3.frozen 5
       have f6 := HW.out.b3.frozen 6
       go_wp2
       refine bodyPost_ret_by (results_row_tmp rfl _ _ _ _ _ _ _ rfl (run_set (HW.out.b3).1) Tryz.underlying30 rfl (by kernel_rfl)) rfl ?_
       exact ⟨(HW.out.kept.turn (run_turn HW.out.b3 _ _ _ _ _ _ _) (by omega)).below, _, _, ⟨_, _, _, _, _, _, _, _, _, _, _, _, _, _, _, _, _, _, _, rfl⟩, rfl, fun _ => BB.out, fun h => by cases h⟩
      ·
       have hwr : wrap64 (C + M) = C + M := IntWalk.wrap64_in _ (by have := HFC.out; unfold Fits at this; omega)
       obtain ⟨i0, hi, hz0, hz1, hz2⟩ := info_parts info_int
       obtain ⟨sp, cp, rfl⟩ := HW.out.ownc.slice
       have hcapn := OK.out.capn
       have y5 := HW.out.b4.cell 5 _ rfl
       have hbn := below_alloc wr (.cells #[.int .i64 (C + M)] 3)
       have TN := Turn.of_below q 20099 hbn
       have HWN := Lib.hid (HW.out.turn TN (fun _ h => h.elim))
       generalize ext q wr.heap.size 20099 = qn at *
       clear hbn TN
       go_wp2_with (at_builtin; refine stop_here ?_)
       refine go_on ?_
       refine wpList_app rfl _ _ 27 rfl 0 3 i0 _ 1 8 Tryz.underlying27 hi hz0 hz1 hz2 rfl (.slice sp k cp) k (ivs (capsM caps mc k)) rfl HWN.out.ownc.1 (some ⟨wr.heap.size, 0, none⟩) 1 1 [.int .i64 (C + M)] rfl rfl (fun h => by cases h) (news_alloc wr [.int .i64 (C + M)] 3) (by simp [Value.oneCell']) (by unfold maxLen; omega) (grow_ok (by omega)) (Nat.zero_le _) ?_
       intro v7 w7 k1 k20 _ k4
       obtain ⟨e5, e6, q7, hW7⟩ := HWN.out.capped (by rw [HCC.out, HMM.out]) k1 k20 k4
       obtain ⟨sp7, cp7, rfl⟩ := hW7.ownc.slice
       have HW7 := Lib.hid hW7
       clear k1 k20 k4 hW7 HWN HW hi hz0 hz1 hz2
       go_wp2
       go_roundw
       case rel => exact ⟨k + 1, q7, _, hlt, by go_num, HW7.out, fun i hi => by
        by_cases e : i < k
        ·
         exact HGD.out i e
        ·
         obtain rfl : i = k := by omega
         intro _
         rw [HMM.out, HCC.out]
         omega⟩
       case measure => simp [intOf]; omega
   ·
    have hm2i : ¬ (k : Int) < mc.length := by omega
    obtain ⟨i0, hi, hz0, hz1, hz2⟩ := info_parts info_int
    obtain ⟨sp, cp, rfl⟩ := HW.out.ownc.slice
    have hcapn := OK.out.capn
    have y5 := HW.out.b4.cell 5 _ rfl
    have hbn := below_alloc wr (.cells #[.int .i64 (C)] 3)
    have TN := Turn.of_below q 20099 hbn
    have HWN := Lib.hid (HW.out.turn TN (fun _ h => h.elim))
    generalize ext q wr.heap.size 20099 = qn at *
    clear hbn TN
    go_wp2_with (at_builtin; refine stop_here ?_)
    refine go_on ?_
    refine wpList_app rfl _ _ 27 rfl 0 3 i0 _ 1 8 Tryz.underlying27 hi hz0 hz1 hz2 rfl (.slice sp k cp) k (ivs (capsM caps mc k)) rfl HWN.out.ownc.1 (some ⟨wr.heap.size, 0, none⟩) 1 1 [.int .i64 (C)] rfl rfl (fun h => by cases h) (news_alloc wr [.int .i64 (C)] 3) (by simp [Value.oneCell']) (by unfold maxLen; omega) (grow_ok (by omega)) (Nat.zero_le _) ?_
    intro v7 w7 k1 k20 _ k4
    obtain ⟨e5, e6, q7, hW7⟩ := HWN.out.capped (by rw [HCC.out, List.getElem?_eq_none (l := mc) (by omega)]; simp) k1 k20 k4
    obtain ⟨sp7, cp7, rfl⟩ := hW7.ownc.slice
    have HW7 := Lib.hid hW7
    clear k1 k20 k4 hW7 HWN HW hi hz0 hz1 hz2
    go_wp2
    go_roundw
    case rel => exact ⟨k + 1, q7, _, hlt, by go_num, HW7.out, fun i hi => by
     by_cases e : i < k
     ·
      exact HGD.out i e
     ·
      obtain rfl : i = k := by omega
      intro h; exact absurd h hm2⟩
    case measure => simp [intOf]; omega
  ·
   obtain rfl : k = caps.length := by omega
   have hlti : ¬ (caps.length : Int) < caps.length := by omega
   go_wp2_with fail
   go_loopw [9] (fun i wz => ∃ (j : Nat) (q : Col) (vf : Value) (vs : List Value), j ≤ g.ins.length ∧ i = .int .i64 j ∧ WiderAt w wz q [.string g.name, .slice aa g.actors.length ac, .slice ae g.edges.length ec, .slice ai g.ins.length ic, .slice ao g.outs.length oc, .slice ca caps.length cc, .slice fa fed.length fc] [.slice ma mc.length mcc, .slice na mf.length nc] [.string g.name, .slice aa g.actors.length ac, .slice ae g.edges.length ec, .slice ai g.ins.length ic, .slice ao g.outs.length oc] caps mc fed mf caps.length j vc vf vs) (fun i _ => g.ins.length - (intOf i).toNat)
   case atStart => exact ⟨0, q, _, _, Nat.zero_le _, rfl, HW.out⟩
   case round =>
    clear HW x5 m0
    obtain ⟨j, q, vf, vs, hj, rfl, hW⟩ := hrel
    have HW := Lib.hid hW
    have x3 := hW.b1.cell 3 _ rfl
    have x6 := hW.b1.cell 6 _ rfl
    have m1 := hW.b2.cell 1 _ rfl
    clear hW
    by_cases hlt2 : j < g.ins.length
    ·
     have hlt2i : (j : Int) < g.ins.length := by omega
     obtain ⟨i0, hi, hz0, hz1, hz2⟩ := info_parts info_int
     obtain ⟨i1, ji, jz0, jz1, jz2⟩ := info_parts info_ints
     by_cases hf1 : j < fed.length
     ·
      have hf1i : (j : Int) < fed.length := by omega
      by_cases hm1 : j < mf.length
      ·
       have hm1i : (j : Int) < mf.length := by omega
       obtain ⟨gb, go, hfa, hcap, hrow⟩ := HF.out.at (by omega)
       obtain ⟨ra, rc, rcl, rh⟩ := hrow j hf1
       change wr.cell? _ = some (.slice fa fed.length fc) at x6
       rw [hfa] at x6
       have c1 := cell_later HW.out.kept.below rcl
       obtain ⟨hnone, hnews⟩ := (HW.out.kept.vals rh).news
       have hL1 : (fed[j]?.getD []).length ≤ 1000000000000 := by rw [List.getElem?_eq_getElem hf1]; exact hfn _ (List.getElem_mem hf1)
       have hcapi : (fed.length : Int) ≤ fc := by omega
       obtain ⟨L1, e1⟩ : ∃ x, fed[j]?.getD [] = x := ⟨_, rfl⟩
       rw [e1] at c1 hnews hL1 hnone
       have E1 := Lib.hid e1
       have HN1 := Lib.hid hnone
       have HS1 := Lib.hid hnews
       clear hrow rcl rh hfa hcap e1 hnone hnews
       go_wp2_with (at_builtin; refine stop_here ?_)
       refine go_on ?_
       refine wpList_app rfl _ _ 27 rfl 0 3 i0 _ 1 8 Tryz.underlying27 hi hz0 hz1 hz2 rfl (.slice none 0 0) 0 [] rfl (World.ownsRow_nil _ 0 3 1) ra L1.length rc (ivs L1) rfl (by simp) HN1.out (fun ad had j u hu => HS1.out ad had j u hu) (ivs_one L1) (by unfold maxLen; omega) (grow_ok (by omega)) (Nat.zero_le _) ?_
       intro v5 w5 k1 k20 _ k4
       obtain ⟨T5, O5⟩ := own_app (Own.nil wr q (20100 + j) 3 1) k1 k20 k4
       replace HW := Lib.hid (HW.out.turn T5 (fun c h => by omega))
       generalize ext q wr.heap.size (20100 + j) = q5 at *
       have HO5 : Hid (Own w5 q5 (20100 + j) 3 1 v5 L1.length (ivs L1)) := Lib.hid (by simpa using O5)
       obtain ⟨sv, cv, rfl⟩ := HO5.out.slice
       clear k1 k20 k4 T5 O5 HN1 HS1 x6 x3 m1 c1
       have m1 := HW.out.b2.cell 1 _ rfl
       obtain ⟨gb2, go2, hma2, hcap2, hrow2⟩ := HMF.out.at (by omega)
       obtain ⟨rb, rd, rcl2, rh2⟩ := hrow2 j hm1
       change (w5).cell? _ = some (.slice na mf.length nc) at m1
       rw [hma2] at m1
       have c2 := cell_later HW.out.kept.below rcl2
       obtain ⟨hnone, hnews⟩ := (HW.out.kept.vals rh2).news
       have hcap2i : (mf.length : Int) ≤ nc := by omega
       obtain ⟨L2, e2⟩ : ∃ x, mf[j]?.getD [] = x := ⟨_, rfl⟩
       have hL2 : L2.length ≤ 1000000000000 := by
        rw [← e2, List.getElem?_eq_getElem hm1]; exact hmn _ (List.getElem_mem hm1)
       rw [e2] at c2 hnews hnone
       have E2 := Lib.hid e2
       have HN1 := Lib.hid hnone
       have HS1 := Lib.hid hnews
       clear hrow2 rcl2 rh2 hma2 hcap2 e2 hnone hnews
       go_wp2_with (at_builtin; refine stop_here ?_)
       refine go_on ?_
       refine wpList_app rfl _ _ 27 rfl 0 3 i0 _ 1 8 Tryz.underlying27 hi hz0 hz1 hz2 rfl (.slice sv L1.length cv) (L1).length (ivs (L1)) rfl (HO5.out).1 rb L2.length rd (ivs L2) rfl (by simp) HN1.out (fun ad had j u hu => HS1.out ad had j u hu) (ivs_one L2) (by (try simp only [List.length_nil]); unfold maxLen; omega) (grow_ok (by (try simp only [List.length_nil]); omega)) (Nat.zero_le _) ?_
       intro v6 w6 k1 k20 _ k4
       obtain ⟨T6, O6⟩ := own_app (HO5.out) k1 k20 k4
       replace HW := Lib.hid (HW.out.turn T6 (fun c h => by omega))
       generalize ext q5 (w5).heap.size (20100 + j) = q6 at *
       obtain ⟨su, cu, rfl⟩ := O6.slice
       have HO6 := Lib.hid O6
       clear k1 k20 k4 T6 O6 HN1 HS1 m1 c2
       have HU : Hid (Own w6 q6 (20100 + j) 3 1 (.slice su (L1.length + L2.length) cu) (fed[j]?.getD [] ++ mf[j]?.getD []).length (ivs (fed[j]?.getD [] ++ mf[j]?.getD []))) := Lib.hid (by rw [E1.out, E2.out, List.length_append]; simpa [ivs] using HO6.out)
       clear HO5 HO6
       obtain ⟨sf, cf, rfl⟩ := HW.out.ownf.slice
       have y6 := HW.out.b4.cell 6 _ rfl
       have hbn := below_alloc w6 (.cells #[.slice su (L1.length + L2.length) cu] 27)
       have TN := Turn.of_below q6 20099 hbn
       have HWN := Lib.hid (HW.out.turn TN (fun _ h => h.elim))
       have HUN := Lib.hid ((HU.out).turn TN (fun h => h))
       generalize ext q6 _ 20099 = qn at *
       clear hbn TN
       go_wp2_with (at_builtin; refine stop_here ?_)
       refine go_on ?_
       refine wpList_app rfl _ _ 28 rfl 0 27 i1 _ 1 24 Tryz.underlying28 ji jz0 jz1 jz2 rfl (.slice sf j cf) j vs rfl HWN.out.ownf.1 (some ⟨(w6).heap.size, 0, none⟩) 1 1 [.slice su (L1.length + L2.length) cu] rfl rfl (fun h => by cases h) (news_alloc w6 [.slice su (L1.length + L2.length) cu] 27) (by simp [Value.oneCell']) (by unfold maxLen; omega) (grow_ok (by omega)) (Nat.zero_le _) ?_
       intro v7 w7 k1 k20 _ k4
       obtain ⟨e5, e6, q7, hW7⟩ := HWN.out.fed1 HUN.out k1 k20 k4
       obtain ⟨sp7, cp7, rfl⟩ := hW7.ownf.slice
       have HW7 := Lib.hid hW7
       clear k1 k20 k4 hW7 HWN HUN HW
       go_wp2
       go_roundw
       case rel => exact ⟨j + 1, q7, _, _, hlt2, by go_num, HW7.out⟩
       case measure => simp [intOf]; omega
      ·
       have hm1i : ¬ (j : Int) < mf.length := by omega
       obtain ⟨gb, go, hfa, hcap, hrow⟩ := HF.out.at (by omega)
       obtain ⟨ra, rc, rcl, rh⟩ := hrow j hf1
       change wr.cell? _ = some (.slice fa fed.length fc) at x6
       rw [hfa] at x6
       have c1 := cell_later HW.out.kept.below rcl
       obtain ⟨hnone, hnews⟩ := (HW.out.kept.vals rh).news
       have hL1 : (fed[j]?.getD []).length ≤ 1000000000000 := by rw [List.getElem?_eq_getElem hf1]; exact hfn _ (List.getElem_mem hf1)
       have hcapi : (fed.length : Int) ≤ fc := by omega
       obtain ⟨L1, e1⟩ : ∃ x, fed[j]?.getD [] = x := ⟨_, rfl⟩
       rw [e1] at c1 hnews hL1 hnone
       have E1 := Lib.hid e1
       have HN1 := Lib.hid hnone
       have HS1 := Lib.hid hnews
       clear hrow rcl rh hfa hcap e1 hnone hnews
       go_wp2_with (at_builtin; refine stop_here ?_)
       refine go_on ?_
       refine wpList_app rfl _ _ 27 rfl 0 3 i0 _ 1 8 Tryz.underlying27 hi hz0 hz1 hz2 rfl (.slice none 0 0) 0 [] rfl (World.ownsRow_nil _ 0 3 1) ra L1.length rc (ivs L1) rfl (by simp) HN1.out (fun ad had j u hu => HS1.out ad had j u hu) (ivs_one L1) (by unfold maxLen; omega) (grow_ok (by omega)) (Nat.zero_le _) ?_
       intro v5 w5 k1 k20 _ k4
       obtain ⟨T5, O5⟩ := own_app (Own.nil wr q (20100 + j) 3 1) k1 k20 k4
       replace HW := Lib.hid (HW.out.turn T5 (fun c h => by omega))
       generalize ext q wr.heap.size (20100 + j) = q5 at *
       have HO5 : Hid (Own w5 q5 (20100 + j) 3 1 v5 L1.length (ivs L1)) := Lib.hid (by simpa using O5)
       obtain ⟨sv, cv, rfl⟩ := HO5.out.slice
       clear k1 k20 k4 T5 O5 HN1 HS1 x6 x3 m1 c1
       have m1 := HW.out.b2.cell 1 _ rfl
       have HU : Hid (Own w5 q5 (20100 + j) 3 1 (.slice sv L1.length cv) (fed[j]?.getD [] ++ mf[j]?.getD []).length (ivs (fed[j]?.getD [] ++ mf[j]?.getD []))) := Lib.hid (by rw [E1.out, List.getElem?_eq_none (l := mf) (by omega)]; simpa using HO5.out)
       clear HO5
       obtain ⟨sf, cf, rfl⟩ := HW.out.ownf.slice
       have y6 := HW.out.b4.cell 6 _ rfl
       have hbn := below_alloc w5 (.cells #[.slice sv L1.length cv] 27)
       have TN := Turn.of_below q5 20099 hbn
       have HWN := Lib.hid (HW.out.turn TN (fun _ h => h.elim))
       have HUN := Lib.hid ((HU.out).turn TN (fun h => h))
       generalize ext q5 _ 20099 = qn at *
       clear hbn TN
       go_wp2_with (at_builtin; refine stop_here ?_)
       refine go_on ?_
       refine wpList_app rfl _ _ 28 rfl 0 27 i1 _ 1 24 Tryz.underlying28 ji jz0 jz1 jz2 rfl (.slice sf j cf) j vs rfl HWN.out.ownf.1 (some ⟨(w5).heap.size, 0, none⟩) 1 1 [.slice sv L1.length cv] rfl rfl (fun h => by cases h) (news_alloc w5 [.slice sv L1.length cv] 27) (by simp [Value.oneCell']) (by unfold maxLen; omega) (grow_ok (by omega)) (Nat.zero_le _) ?_
       intro v7 w7 k1 k20 _ k4
       obtain ⟨e5, e6, q7, hW7⟩ := HWN.out.fed1 HUN.out k1 k20 k4
       obtain ⟨sp7, cp7, rfl⟩ := hW7.ownf.slice
       have HW7 := Lib.hid hW7
       clear k1 k20 k4 hW7 HWN HUN HW
       go_wp2
       go_roundw
       case rel => exact ⟨j + 1, q7, _, _, hlt2, by go_num, HW7.out⟩
       case measure => simp [intOf]; omega
     ·
      have hf1i : ¬ (j : Int) < fed.length := by omega
      by_cases hm1 : j < mf.length
      ·
       have hm1i : (j : Int) < mf.length := by omega
       have HO0 := Lib.hid (Own.nil wr q (20100 + j) 3 1)
       obtain ⟨gb2, go2, hma2, hcap2, hrow2⟩ := HMF.out.at (by omega)
       obtain ⟨rb, rd, rcl2, rh2⟩ := hrow2 j hm1
       change (wr).cell? _ = some (.slice na mf.length nc) at m1
       rw [hma2] at m1
       have c2 := cell_later HW.out.kept.below rcl2
       obtain ⟨hnone, hnews⟩ := (HW.out.kept.vals rh2).news
       have hcap2i : (mf.length : Int) ≤ nc := by omega
       obtain ⟨L2, e2⟩ : ∃ x, mf[j]?.getD [] = x := ⟨_, rfl⟩
       have hL2 : L2.length ≤ 1000000000000 := by
        rw [← e2, List.getElem?_eq_getElem hm1]; exact hmn _ (List.getElem_mem hm1)
       rw [e2] at c2 hnews hnone
       have E2 := Lib.hid e2
       have HN1 := Lib.hid hnone
       have HS1 := Lib.hid hnews
       clear hrow2 rcl2 rh2 hma2 hcap2 e2 hnone hnews
       go_wp2_with (at_builtin; refine stop_here ?_)
       refine go_on ?_
       refine wpList_app rfl _ _ 27 rfl 0 3 i0 _ 1 8 Tryz.underlying27 hi hz0 hz1 hz2 rfl (.slice none 0 0) (([] : List Int)).length (ivs (([] : List Int))) rfl (HO0.out).1 rb L2.length rd (ivs L2) rfl (by simp) HN1.out (fun ad had j u hu => HS1.out ad had j u hu) (ivs_one L2) (by (try simp only [List.length_nil]); unfold maxLen; omega) (grow_ok (by (try simp only [List.length_nil]); omega)) (Nat.zero_le _) ?_
       intro v6 w6 k1 k20 _ k4
       obtain ⟨T6, O6⟩ := own_app (HO0.out) k1 k20 k4
       replace HW := Lib.hid (HW.out.turn T6 (fun c h => by omega))
       generalize ext q (wr).heap.size (20100 + j) = q6 at *
       obtain ⟨su, cu, rfl⟩ := O6.slice
       have HO6 := Lib.hid O6
       clear k1 k20 k4 T6 O6 HN1 HS1 m1 c2
       have HU : Hid (Own w6 q6 (20100 + j) 3 1 (.slice su L2.length cu) (fed[j]?.getD [] ++ mf[j]?.getD []).length (ivs (fed[j]?.getD [] ++ mf[j]?.getD []))) := Lib.hid (by rw [E2.out, List.getElem?_eq_none (l := fed) (by omega)]; simpa [ivs] using HO6.out)
       clear HO0 HO6
       obtain ⟨sf, cf, rfl⟩ := HW.out.ownf.slice
       have y6 := HW.out.b4.cell 6 _ rfl
       have hbn := below_alloc w6 (.cells #[.slice su L2.length cu] 27)
       have TN := Turn.of_below q6 20099 hbn
       have HWN := Lib.hid (HW.out.turn TN (fun _ h => h.elim))
       have HUN := Lib.hid ((HU.out).turn TN (fun h => h))
       generalize ext q6 _ 20099 = qn at *
       clear hbn TN
       go_wp2_with (at_builtin; refine stop_here ?_)
       refine go_on ?_
       refine wpList_app rfl _ _ 28 rfl 0 27 i1 _ 1 24 Tryz.underlying28 ji jz0 jz1 jz2 rfl (.slice sf j cf) j vs rfl HWN.out.ownf.1 (some ⟨(w6).heap.size, 0, none⟩) 1 1 [.slice su L2.length cu] rfl rfl (fun h => by cases h) (news_alloc w6 [.slice su L2.length cu] 27) (by simp [Value.oneCell']) (by unfold maxLen; omega) (grow_ok (by omega)) (Nat.zero_le _) ?_
       intro v7 w7 k1 k20 _ k4
       obtain ⟨e5, e6, q7, hW7⟩ := HWN.out.fed1 HUN.out k1 k20 k4
       obtain ⟨sp7, cp7, rfl⟩ := hW7.ownf.slice
       have HW7 := Lib.hid hW7
       clear k1 k20 k4 hW7 HWN HUN HW
       go_wp2
       go_roundw
       case rel => exact ⟨j + 1, q7, _, _, hlt2, by go_num, HW7.out⟩
       case measure => simp [intOf]; omega
      ·
       have hm1i : ¬ (j : Int) < mf.length := by omega
       have hL : fed[j]?.getD [] ++ mf[j]?.getD [] = [] := by rw [List.getElem?_eq_none (l := fed) (by omega), List.getElem?_eq_none (l := mf) (by omega)]; rfl
       have HU : Hid (Own wr q (20100 + j) 3 1 (.slice none 0 0) (fed[j]?.getD [] ++ mf[j]?.getD []).length (ivs (fed[j]?.getD [] ++ mf[j]?.getD []))) := Lib.hid (by rw [hL]; exact Own.nil _ _ _ _ _)
       obtain ⟨sf, cf, rfl⟩ := HW.out.ownf.slice
       have y6 := HW.out.b4.cell 6 _ rfl
       have hbn := below_alloc wr (.cells #[.slice none 0 0] 27)
       have TN := Turn.of_below q 20099 hbn
       have HWN := Lib.hid (HW.out.turn TN (fun _ h => h.elim))
       have HUN := Lib.hid ((HU.out).turn TN (fun h => h))
       generalize ext q _ 20099 = qn at *
       clear hbn TN
       go_wp2_with (at_builtin; refine stop_here ?_)
       refine go_on ?_
       refine wpList_app rfl _ _ 28 rfl 0 27 i1 _ 1 24 Tryz.underlying28 ji jz0 jz1 jz2 rfl (.slice sf j cf) j vs rfl HWN.out.ownf.1 (some ⟨(wr).heap.size, 0, none⟩) 1 1 [.slice none 0 0] rfl rfl (fun h => by cases h) (news_alloc wr [.slice none 0 0] 27) (by simp [Value.oneCell']) (by unfold maxLen; omega) (grow_ok (by omega)) (Nat.zero_le _) ?_
       intro v7 w7 k1 k20 _ k4
       obtain ⟨e5, e6, q7, hW7⟩ := HWN.out.fed1 HUN.out k1 k20 k4
       obtain ⟨sp7, cp7, rfl⟩ := hW7.ownf.slice
       have HW7 := Lib.hid hW7
       clear k1 k20 k4 hW7 HWN HUN HW
       go_wp2
       go_roundw
       case rel => exact ⟨j + 1, q7, _, _, hlt2, by go_num, HW7.out⟩
       case measure => simp [intOf]; omega
    ·
     obtain rfl : j = g.ins.length := by omega
     have hlt2i : ¬ (g.ins.length : Int) < g.ins.length := by omega
     obtain ⟨spf, cpf, rfl⟩ := HW.out.ownf.slice
     obtain ⟨spc, cpc, rfl⟩ := HW.out.ownc.slice
     have y0 := HW.out.b4.cell 0 _ rfl
     have y1 := HW.out.b4.cell 1 _ rfl
     have y2 := HW.out.b4.cell 2 _ rfl
     have y3 := HW.out.b4.cell 3 _ rfl
     have y4 := HW.out.b4.cell 4 _ rfl
     have y5 := HW.out.b4.cell 5 _ rfl
     have y6 := HW.out.b4.cell 6 _ rfl
     have z0 := HW.out.b3.cell 0 _ rfl
     have z1 := HW.out.b3.cell 1 _ rfl
     have z2 := HW.out.b3.cell 2 _ rfl
     have z3 := HW.out.b3.cell 3 _ rfl
     have z4 := HW.out.b3.cell 4 _ rfl
     have z5 := HW.out.b3.cell 5 _ rfl
     have z6 := HW.out.b3.cell 6 _ rfl
     have f0 := HW.out.b3.frozen 0
     have f1 := HW.out.b3.frozen 1
     have f2 := HW.out.b3.frozen 2
     have f3 := HW.out.b3.frozen 3
     have f4 := HW.out.b3.frozen 4
     have f5 := HW.out.b3.frozen 5
     have f6 := HW.out.b3.frozen 6
     go_wp2
     refine bodyPost_ret_by (results_row_tmp rfl _ _ _ _ _ _ _ rfl (run_set (HW.out.b3).1) Tryz.underlying30 rfl (by kernel_rfl)) rfl ?_
     have TZ := run_turn HW.out.b3 (.string g.name) (.slice aa g.actors.length ac) (.slice ae g.edges.length ec) (.slice ai g.ins.length ic) (.slice ao g.outs.length oc) (.slice spc caps.length cpc) (.slice spf g.ins.length cpf)
     have hb := (HW.out.kept.turn TZ (by omega)).below
     refine ⟨hb, _, _, ⟨_, _, _, _, _, _, _, _, _, _, _, _, _, _, _, _, _, _, _, rfl⟩, rfl, (fun h => by cases h), fun _ => ⟨HGD.out, _, _, _, _, _, _, _, rfl, HG.out.below hb, (HW.out.ownc.turn TZ (by omega)).vals.has, vs, ?_, (HW.out.ownf.turn TZ (by omega)).vals.has, fun i hi => ?_⟩⟩
     ·
      rw [fedM_len, HW.out.len]
     ·
      rw [fedM_len] at hi
      have e : (fedM fed mf g.ins.length)[i]?.getD [] = fed[i]?.getD [] ++ mf[i]?.getD [] := by
       unfold fedM
       rw [List.getElem?_map, List.getElem?_range hi]
       rfl
      rw [e]
      exact ((HW.out.rows i hi).turn TZ (by omega)).vals.has
end Go.Proofs.YtaholpfikcdhbaaGreat

/- DynLate, walked: fed later, or at once. -/
namespace Go.Proofs.YtaholpfikcdhbaaGreat
open Go.RowKit
/- the wide run's cells -/
/- all is fed: the rounds, what they tell -/
set_option maxRecDepth 100000 in
set_option maxHeartbeats 4000000 in
theorem dynlate_all (w : World) (v vt vl : Value) (g : GGraph) (caps : List Int) (fed mf : List (List Int)) (script : List Int) (hv : HasRun w v g caps fed) (ok : RunOk g caps fed) (hin : g.ins.length ≤ 5000000000000) (hfn : ∀ xs ∈ fed, xs.length ≤ 1000000000000) (hm : LL w vt mf) (hmf : ∀ xs ∈ mf, ∀ x ∈ xs, Fits x) (hmn : ∀ xs ∈ mf, xs.length ≤ 1000000000000) (hl : Has w vl (ivs script)) (hlf : ∀ x ∈ script, Fits x) (hln : script.length ≤ 1000000000000) : Calls Tryz.prog 9 #[v, vt, vl] w (Tells (.bool true) w) := by
 obtain ⟨la, lc, rfl⟩ := Ints.slice hl
 obtain ⟨na, nc, rfl⟩ := hm.slice
 have HLE := Lib.hid hl
 have HLF := Lib.hid hlf
 have HFN := Lib.hid hfn
 have HMN := Lib.hid hmn
 have HMFI := Lib.hid hmf
 have HIN := Lib.hid hin
 have HLT := Lib.hid hm
 have HMO : Hid (HasMore w (.agg #[.slice none 0 0, .slice na mf.length nc]) [] mf) := Lib.hid ⟨_, _, rfl, Or.inl ⟨rfl, none, 0, rfl⟩, hm⟩
 clear hl hlf hfn hmn hmf hin hm
 obtain ⟨mc, hmc⟩ : ∃ x : List Int, [] = x := ⟨_, rfl⟩
 rw [hmc] at HMO
 obtain ⟨nm, va, ve, vi, vo, vc, vf, rfl, hg, hc, hf⟩ := hv
 obtain ⟨_, _, _, _, e0, ra, re, ri, ro⟩ := hg.shape
 obtain ⟨aa, ac, rfl⟩ := ra.slice
 obtain ⟨ae, ec, rfl⟩ := re.slice
 obtain ⟨ai, ic, rfl⟩ := ri.slice
 obtain ⟨ao, oc, rfl⟩ := ro.slice
 simp only [Value.agg.injEq, Array.mk.injEq, List.cons.injEq, and_true] at e0
 obtain ⟨rfl, rfl, rfl, rfl, rfl⟩ := e0
 obtain ⟨ca, cc, rfl⟩ := Ints.slice hc
 obtain ⟨fa, fc, rfl⟩ := hf.slice
 have hrun : HasRun w (.agg #[.string g.name, .slice aa g.actors.length ac, .slice ae g.edges.length ec, .slice ai g.ins.length ic, .slice ao g.outs.length oc, .slice ca caps.length cc, .slice fa fed.length fc]) g caps fed := ⟨_, _, _, _, _, _, _, rfl, hg, hc, hf⟩
 have HRUN := Lib.hid hrun
 have OK := Lib.hid ok
 clear hg hc hf ok ra re ri ro hrun
 have hX2 := heap_alloc_new w (.cells #[.string g.name, .slice aa g.actors.length ac, .slice ae g.edges.length ec, .slice ai g.ins.length ic, .slice ao g.outs.length oc, .slice ca caps.length cc, .slice fa fed.length fc] 30)
 have x0 := cells_row _ _ hX2 0 (.string g.name) rfl
 have x1 := cells_row _ _ hX2 1 (.slice aa g.actors.length ac) rfl
 have x2 := cells_row _ _ hX2 2 (.slice ae g.edges.length ec) rfl
 have x3 := cells_row _ _ hX2 3 (.slice ai g.ins.length ic) rfl
 have x4 := cells_row _ _ hX2 4 (.slice ao g.outs.length oc) rfl
 have x5 := cells_row _ _ hX2 5 (.slice ca caps.length cc) rfl
 have x6 := cells_row _ _ hX2 6 (.slice fa fed.length fc) rfl
 have HB1 := Lib.hid (below_alloc w (.cells #[.string g.name, .slice aa g.actors.length ac, .slice ae g.edges.length ec, .slice ai g.ins.length ic, .slice ao g.outs.length oc, .slice ca caps.length cc, .slice fa fed.length fc] 30))
 obtain ⟨w1, hw1⟩ : ∃ x, w.alloc (.cells #[.string g.name, .slice aa g.actors.length ac, .slice ae g.edges.length ec, .slice ai g.ins.length ic, .slice ao g.outs.length oc, .slice ca caps.length cc, .slice fa fed.length fc] 30) = x := ⟨_, rfl⟩
 rw [hw1] at x0 x1 x2 x3 x4 x5 x6 HB1
 clear hX2
 go_enter Tryz.func9, Tryz.ntmps9
 go_wp2_with fail
 clear hw1
 refine (wider_any _ _ _ g caps fed mc mf (HRUN.out.below HB1.out) OK.out (HMO.out.below HB1.out) HIN.out HFN.out HMN.out).mono ?_
 rintro e w2 ⟨hb2, _, bb, ⟨s0, a1, n1, c1, a2, n2, c2, a3, n3, c3, a4, n4, c4, a5, n5, c5, a6, n6, c6, rfl⟩, rfl, hno, hyes⟩
 have hbb : bb = true := by
  cases bb with
  | true => rfl
  | false => exact absurd (goodM_nil caps _) (by rw [hmc]; exact hno rfl)
 clear hno
 have HB0 := Lib.hid (HB1.out.trans (hb2.mono HB1.out.size))
 replace HRUN := Lib.hid (HRUN.out.below HB0.out)
 have BX := Lib.hid (And.intro (cell_later hb2 x0) (And.intro (cell_later hb2 x1) (And.intro (cell_later hb2 x2) (And.intro (cell_later hb2 x3) (And.intro (cell_later hb2 x4) (And.intro (cell_later hb2 x5) (cell_later hb2 x6)))))))
 have HWR : Hid (bb = true → goodM caps mc caps.length ∧ HasRun w2 (.agg #[.string s0, .slice a1 n1 c1, .slice a2 n2 c2, .slice a3 n3 c3, .slice a4 n4 c4, .slice a5 n5 c5, .slice a6 n6 c6]) g (capsM caps mc caps.length) (fedM fed mf g.ins.length)) := Lib.hid hyes
 have hb3 := below_alloc w2 (.cells #[.string s0, .slice a1 n1 c1, .slice a2 n2 c2, .slice a3 n3 c3, .slice a4 n4 c4, .slice a5 n5 c5, .slice a6 n6 c6] 30)
 have T3 := Turn.of_below (fun _ => 0) 20001 hb3
 have HY := Lib.hid (blk_new (w := w2) (fun _ => 0) 20001 #[.string s0, .slice a1 n1 c1, .slice a2 n2 c2, .slice a3 n3 c3, .slice a4 n4 c4, .slice a5 n5 c5, .slice a6 n6 c6] 30)
 have HK := Lib.hid ((Kept.start w2).turn T3 (fun h => h))
 generalize ext (fun _ => 0) w2.heap.size 20001 = o3 at *
 clear hb2 hyes hb3 T3 HB1
 clear x0 x1 x2 x3 x4 x5 x6
 obtain ⟨-, hrun2⟩ := HWR.out hbb
 rw [show capsM caps mc caps.length = caps by rw [← hmc]; exact capsM_nil caps] at hrun2
 subst hbb
 have HRUN2 := Lib.hid hrun2
 have hok2 := OK.out.wide (goodM_nil caps _) HMFI.out HFN.out HMN.out
 rw [capsM_nil] at hok2
 have OK2 := Lib.hid hok2
 clear hrun2 HWR hok2
 have x0 := cell_later HK.out.below BX.out.1
 have x1 := cell_later HK.out.below BX.out.2.1
 have x2 := cell_later HK.out.below BX.out.2.2.1
 have x3 := cell_later HK.out.below BX.out.2.2.2.1
 have x4 := cell_later HK.out.below BX.out.2.2.2.2.1
 have x5 := cell_later HK.out.below BX.out.2.2.2.2.2.1
 have x6 := cell_later HK.out.below BX.out.2.2.2.2.2.2
 go_wp2_with fail
 obtain ⟨w3, hw3⟩ : ∃ x, w2.alloc (.cells #[.string s0, .slice a1 n1 c1, .slice a2 n2 c2, .slice a3 n3 c3, .slice a4 n4 c4, .slice a5 n5 c5, .slice a6 n6 c6] 30) = x := ⟨_, rfl⟩
 obtain ⟨b7, hb7⟩ : ∃ x, w2.heap.size = x := ⟨_, rfl⟩
 rw [hw3] at HK HY ⊢
 rw [hb7] at HY ⊢
 clear hw3 hb7
 clear x0 x1 x2 x3 x4 x5 x6
 refine (start_any (R := 1) (Nat.le_refl _) HK.out HRUN.out OK.out).mono ?_
 intro e w4 hret
 by_cases h0 : newE g caps = 0
 case neg =>
  obtain ⟨rfl, o4, T4⟩ := hret.1 h0
  replace HK := Lib.hid (HK.out.turn T4 (fun h => h))
  replace HY := Lib.hid (HY.out.turn T4 (fun h => h))
  have H0 := Lib.hid h0
  clear T4 hret h0
  have y0 := HY.out.cell 0 _ rfl
  have y1 := HY.out.cell 1 _ rfl
  have y2 := HY.out.cell 2 _ rfl
  have y3 := HY.out.cell 3 _ rfl
  have y4 := HY.out.cell 4 _ rfl
  have y5 := HY.out.cell 5 _ rfl
  have y6 := HY.out.cell 6 _ rfl
  go_wp2_with fail
  refine (start_any (R := 7001) (by decide) HK.out HRUN2.out OK2.out).mono ?_
  intro e w5 hret
  obtain ⟨rfl, o5, T5⟩ := hret.1 H0.out
  replace HK := Lib.hid (HK.out.turn T5 (fun h => h))
  clear T5 hret y0 y1 y2 y3 y4 y5 y6 HY
  have x0 := cell_later HK.out.below BX.out.1
  have x1 := cell_later HK.out.below BX.out.2.1
  have x2 := cell_later HK.out.below BX.out.2.2.1
  have x3 := cell_later HK.out.below BX.out.2.2.2.1
  have x4 := cell_later HK.out.below BX.out.2.2.2.2.1
  have x5 := cell_later HK.out.below BX.out.2.2.2.2.2.1
  have x6 := cell_later HK.out.below BX.out.2.2.2.2.2.2
  go_wp2_with fail
  refine (refused_yes (HRUN.out.below HK.out.below) OK.out H0.out).mono ?_
  rintro e w4 ⟨rfl, hb4⟩
  clear x0 x1 x2 x3 x4 x5 x6
  have T4 := Turn.of_below o5 0 hb4
  replace HK := Lib.hid (HK.out.turn T4 (fun h => h))
  clear hb4 T4
  go_wp2_with fail
  refine (dawake_yes _).mono ?_
  rintro e wz ⟨rfl, hbz⟩
  have HBZ := Lib.hid (HB0.out.trans ((HK.out.below.trans (hbz.mono HK.out.size)).mono HB0.out.size))
  clear hbz
  go_wp2
  go_ret
  exact ⟨rfl, HBZ.out⟩
 case pos =>
  obtain ⟨b1, o4, q1, v1, J1, rfl, T4, hM1, hG, hJ1⟩ := hret.2 h0
  replace HK := Lib.hid (HK.out.turn T4 (by unfold MineR; omega))
  replace HY := Lib.hid (HY.out.turn T4 (by unfold MineR; omega))
  have H0 := Lib.hid h0
  have HM1 := Lib.hid hM1
  have HG := Lib.hid hG
  have HJ1 := Lib.hid hJ1
  clear T4 hret h0 hM1 hG hJ1
  have y0 := HY.out.cell 0 _ rfl
  have y1 := HY.out.cell 1 _ rfl
  have y2 := HY.out.cell 2 _ rfl
  have y3 := HY.out.cell 3 _ rfl
  have y4 := HY.out.cell 4 _ rfl
  have y5 := HY.out.cell 5 _ rfl
  have y6 := HY.out.cell 6 _ rfl
  go_wp2_with fail
  refine (start_any (R := 7001) (by decide) HK.out HRUN2.out OK2.out).mono ?_
  intro e w5 hret
  obtain ⟨b2, o5, q2, v2, J2, rfl, T5, hM2, -, -⟩ := hret.2 H0.out
  replace HK := Lib.hid (HK.out.turn T5 (by unfold MineR; omega))
  replace HM1 := Lib.hid (HM1.out.turn T5 (fun k h => by unfold MineR at h ⊢; omega))
  rw [feed_fedM] at hM2
  have HM2 := Lib.hid hM2
  have HWD := Lib.hid (Wider.refl (newE_lens H0.out).2.1)
  obtain ⟨hf1, hf2, hf3, hf4⟩ := HM1.out.mem.few
  clear T5 hret hM2 y0 y1 y2 y3 y4 y5 y6 HY HRUN2
  obtain ⟨s, hs⟩ : ∃ x, feedS g fed (newRig g) = x := ⟨_, rfl⟩
  rw [hs] at HM1 HM2
  have HR1 := Lib.hid (Reach.start g caps s)
  clear hs
  go_wp2_with fail
  refine (dPlay_ok HM1.out HG.out (HK.out.vals (HLE.out.below HB0.out)) (by unfold MineR; omega) HLF.out (by omega)).mono ?_
  rintro e w6 ⟨o6, u1, rfl, T, hM⟩
  replace HK := Lib.hid (HK.out.turn T (by unfold MineR; omega))
  replace HM2 := Lib.hid (HM2.out.turn T (fun k h => by unfold MineR at h ⊢; omega))
  replace HM1 := Lib.hid hM
  clear T hM
  replace HR1 := Lib.hid (HR1.out.play script)
  obtain ⟨p1, hp1⟩ : ∃ x, (playP g caps script ⟨s, none⟩).1 = x := ⟨_, rfl⟩
  rw [hp1] at HM1 HR1
  clear hp1
  go_wp2_with fail
  have HJ0 : Hid (∀ j, J1 j ≤ 1000000000256) := Lib.hid (fun j => by
   have h := HJ1.out j
   have : (fed[j]?.getD []).length ≤ 1000000000000 := by
    rcases rowD_mem (l := fed) (i := j) with e | e
    ·
     rw [e]; simp
    ·
     exact HFN.out _ e
   omega)
  clear HJ1
  go_loopw [11] (fun i wz => ∃ (k : Nat) (q : Col) (J : Nat → Nat) (u : RVals), k ≤ mf.length ∧ k ≤ g.ins.length ∧ i = .int .i64 k ∧ Kept w2.heap.size q w2 wz ∧ RigOk wz q 1 b1 g caps (256 + script.length) J q1 v1.tb ⟨feedS g (mf.take k) p1.rig, p1.failed⟩ u ∧ RigOk wz q 7001 b2 g caps 256 J2 q2 v2.tb ⟨feedS g mf s, none⟩ v2 ∧ ∀ j, k ≤ j → J j ≤ 1000000000256) (fun i _ => mf.length - (intOf i).toNat)
  case atStart => exact ⟨0, o6, J1, u1, Nat.zero_le _, Nat.zero_le _, rfl, HK.out, by rw [List.take_zero, feedS_nil]; exact HM1.out, HM2.out, fun j _ => HJ0.out j⟩
  case round =>
   clear HK HM1 HM2 HJ0
   obtain ⟨k, q, J, u, hk1, hk2, rfl, hK, hM1, hM2, hJ⟩ := hrel
   have HK := Lib.hid hK
   have HM1 := Lib.hid hM1
   have HM2 := Lib.hid hM2
   have HJ := Lib.hid hJ
   clear hK hM1 hM2 hJ
   have x3 := cell_later HK.out.below BX.out.2.2.2.1
   by_cases h1 : k < mf.length
   ·
    have h1i : (k : Int) < mf.length := by omega
    by_cases h2 : k < g.ins.length
    ·
     have h2i : (k : Int) < g.ins.length := by omega
     obtain ⟨gb, go, rfl, hcap, hrow⟩ := HLT.out.at (by omega)
     obtain ⟨ra, rc, rcl, rh⟩ := hrow k h1
     have c1 := cell_later HK.out.below (cell_later HB0.out rcl)
     have RH := Lib.hid (HK.out.vals (rh.below HB0.out))
     have hmem : mf[k]?.getD [] ∈ mf := by rw [List.getElem?_eq_getElem h1]; exact List.getElem_mem h1
     have HFF := Lib.hid (HMFI.out _ hmem)
     have hfl := HMN.out _ hmem
     have hcapi : (mf.length : Int) ≤ nc := by omega
     have hj := HJ.out k (Nat.le_refl _)
     have HJK := Lib.hid hj
     have HFL := Lib.hid hfl
     have HONE := Lib.hid (feed_more (s := p1.rig) (f := p1.failed) h1 h2)
     obtain ⟨l, hl⟩ : ∃ x, mf[k]?.getD [] = x := ⟨_, rfl⟩
     rw [hl] at c1 RH HFF HFL HONE
     clear hrow rcl rh hmem hfl hj hl hcap
     go_wp2_with fail
     refine (dFeed_ok HM1.out HG.out h2 RH.out (by unfold MineR; omega) HFF.out (by have := HJK.out; have := HFL.out; omega)).mono ?_
     rintro e w7 ⟨q3, rfl, T3, hM3⟩
     rw [HONE.out] at hM3
     have HK3 := Lib.hid (HK.out.turn T3 (by unfold MineR; omega))
     have HM23 := Lib.hid (HM2.out.turn T3 (fun k h => by unfold MineR at h ⊢; omega))
     have HM3 := Lib.hid hM3
     clear T3 hM3 HK HM1 HM2 x3 c1 RH
     go_wp2
     go_roundw
     case rel =>
      refine ⟨k + 1, q3, _, _, h1, h2, by go_num, HK3.out, HM3.out, HM23.out, fun j hj => ?_⟩
      rw [upd_other (by omega)]
      exact HJ.out j (by omega)
     case measure => simp [intOf]; omega
    ·
     have h2i : ¬ (k : Int) < g.ins.length := by omega
     have HALL := Lib.hid (feed_all (g := g) (X := mf) (s := p1.rig) (k := k) (.inr (by omega)))
     clear h2 hk2 HJ
     rw [HALL.out] at HM1
     replace HR1 := Lib.hid (HR1.out.wide HWD.out mf)
     have HR2 := Lib.hid (Reach.start g caps (feedS g mf s))
     obtain ⟨p2, hp2⟩ : ∃ x, (⟨feedS g mf p1.rig, p1.failed⟩ : RunP) = x := ⟨_, rfl⟩
     obtain ⟨p3, hp3⟩ : ∃ x, (⟨feedS g mf s, none⟩ : RunP) = x := ⟨_, rfl⟩
     rw [hp2] at HM1 HR1
     rw [hp3] at HM2 HR2
     clear hp2 hp3 HALL
     go_wp2_with fail
     clear x3
     refine (dRounds_ok 64 HM1.out HG.out (by omega)).mono ?_
     rintro e w7 ⟨o7, u2, rfl, T, hM⟩
     replace HK := Lib.hid (HK.out.turn T (by unfold MineR; omega))
     replace HM2 := Lib.hid (HM2.out.turn T (fun k h => by unfold MineR at h ⊢; omega))
     replace HM1 := Lib.hid hM
     clear T hM
     replace HR1 := Lib.hid (HR1.out.rounds (min (64 : Int) 4096).toNat)
     obtain ⟨p4, hp4⟩ : ∃ x, (roundsP g caps (min (64 : Int) 4096).toNat p2).1 = x := ⟨_, rfl⟩
     rw [hp4] at HM1 HR1
     clear hp4
     go_wp2_with fail
     refine (dRounds_ok 64 HM2.out HG.out (by omega)).mono ?_
     rintro e w8 ⟨o8, u3, rfl, T, hM⟩
     replace HK := Lib.hid (HK.out.turn T (by unfold MineR; omega))
     replace HM1 := Lib.hid (HM1.out.turn T (fun k h => by unfold MineR at h ⊢; omega))
     replace HM2 := Lib.hid hM
     clear T hM
     replace HR2 := Lib.hid (HR2.out.rounds (min (64 : Int) 4096).toNat)
     obtain ⟨p5, hp5⟩ : ∃ x, (roundsP g caps (min (64 : Int) 4096).toNat p3).1 = x := ⟨_, rfl⟩
     rw [hp5] at HM2 HR2
     clear hp5
     have x4 := cell_later HK.out.below BX.out.2.2.2.2.1
     go_wp2_with fail
     refine (agree_yes HM1.out HM2.out (by omega) (by omega) g.outs.length hf4 (meets_outI HR1.out HR2.out)).mono ?_
     rintro e w9 ⟨less, rfl, hb, hless⟩
     have HLS := Lib.hid hless
     have T := Turn.of_below o8 0 hb
     replace HK := Lib.hid (HK.out.turn T (fun h => h))
     replace HM1 := Lib.hid (HM1.out.turn T (fun _ h => h.elim))
     replace HM2 := Lib.hid (HM2.out.turn T (fun _ h => h.elim))
     generalize ext o8 _ 0 = o9 at *
     clear T hb x4 hless
     clear HLS
     go_wp2_with fail
     refine (dHalt_any HM1.out.mem HG.out.linked HG.out.caps HM1.out.ok (fun d => Nat.le_of_lt (HM1.out.lt (by omega) d))).mono ?_
     rintro e w10 ⟨rfl, hb⟩
     have T := Turn.of_below o9 0 hb
     replace HK := Lib.hid (HK.out.turn T (fun h => h))
     replace HM1 := Lib.hid (HM1.out.turn T (fun _ h => h.elim))
     replace HM2 := Lib.hid (HM2.out.turn T (fun _ h => h.elim))
     generalize ext o9 _ 0 = o10 at *
     clear T hb
     have H55 := Lib.hid (meets_55 HR1.out HR2.out)
     obtain ⟨ha, hha⟩ : ∃ x, haltI g caps p4 = x := ⟨_, rfl⟩
     rw [hha] at H55 ⊢
     clear hha
     by_cases a5 : ha = 5
     ·
      subst a5
      go_wp2_with fail
      refine (dHalt_any HM2.out.mem HG.out.linked HG.out.caps HM2.out.ok (fun d => Nat.le_of_lt (HM2.out.lt (by omega) d))).mono ?_
      rintro e w11 ⟨rfl, hb⟩
      have T := Turn.of_below o10 0 hb
      replace HK := Lib.hid (HK.out.turn T (fun h => h))
      replace HM1 := Lib.hid (HM1.out.turn T (fun _ h => h.elim))
      replace HM2 := Lib.hid (HM2.out.turn T (fun _ h => h.elim))
      generalize ext o10 _ 0 = o11 at *
      clear T hb
      obtain ⟨hb, hhb⟩ : ∃ x, haltI g caps p5 = x := ⟨_, rfl⟩
      rw [hhb] at H55 ⊢
      clear hhb
      by_cases b5 : hb = 5
      ·
       have hl := H55.out (by trivial) b5
       subst hl
       subst b5
       have x4 := cell_later HK.out.below BX.out.2.2.2.2.1
       go_wp2_with fail
       refine (same_yes HM1.out HM2.out HG.out (by omega) (by omega) g.outs.length hf4).mono ?_
       rintro e w12 ⟨rfl, hb⟩
       have T := Turn.of_below o11 0 hb
       replace HK := Lib.hid (HK.out.turn T (fun h => h))
       replace HM1 := Lib.hid (HM1.out.turn T (fun _ h => h.elim))
       replace HM2 := Lib.hid (HM2.out.turn T (fun _ h => h.elim))
       generalize ext o11 _ 0 = o12 at *
       clear T hb
       clear x4
       go_wp2_with fail
       refine (dawake_yes _).mono ?_
       rintro e wz ⟨rfl, hbz⟩
       have HBZ := Lib.hid (HB0.out.trans ((HK.out.below.trans (hbz.mono HK.out.size)).mono HB0.out.size))
       clear hbz
       go_wp2
       go_ret
       exact ⟨rfl, HBZ.out⟩
      ·
       have e2 : (hb == 5) = false := by rw [beq_eq_false_iff_ne]; exact b5
       go_wp2_with fail
       refine (dawake_yes _).mono ?_
       rintro e wz ⟨rfl, hbz⟩
       have HBZ := Lib.hid (HB0.out.trans ((HK.out.below.trans (hbz.mono HK.out.size)).mono HB0.out.size))
       clear hbz
       go_wp2
       go_ret
       exact ⟨rfl, HBZ.out⟩
     ·
      have e1 : (ha == 5) = false := by rw [beq_eq_false_iff_ne]; exact a5
      go_wp2_with fail
      refine (dawake_yes _).mono ?_
      rintro e wz ⟨rfl, hbz⟩
      have HBZ := Lib.hid (HB0.out.trans ((HK.out.below.trans (hbz.mono HK.out.size)).mono HB0.out.size))
      clear hbz
      go_wp2
      go_ret
      exact ⟨rfl, HBZ.out⟩
   ·
    have h1i : ¬ (k : Int) < mf.length := by omega
    have HALL := Lib.hid (feed_all (g := g) (X := mf) (s := p1.rig) (k := k) (.inl (by omega)))
    clear h1 hk1 HJ
    rw [HALL.out] at HM1
    replace HR1 := Lib.hid (HR1.out.wide HWD.out mf)
    have HR2 := Lib.hid (Reach.start g caps (feedS g mf s))
    obtain ⟨p2, hp2⟩ : ∃ x, (⟨feedS g mf p1.rig, p1.failed⟩ : RunP) = x := ⟨_, rfl⟩
    obtain ⟨p3, hp3⟩ : ∃ x, (⟨feedS g mf s, none⟩ : RunP) = x := ⟨_, rfl⟩
    rw [hp2] at HM1 HR1
    rw [hp3] at HM2 HR2
    clear hp2 hp3 HALL
    go_wp2_with fail
    clear x3
    refine (dRounds_ok 64 HM1.out HG.out (by omega)).mono ?_
    rintro e w7 ⟨o7, u2, rfl, T, hM⟩
    replace HK := Lib.hid (HK.out.turn T (by unfold MineR; omega))
    replace HM2 := Lib.hid (HM2.out.turn T (fun k h => by unfold MineR at h ⊢; omega))
    replace HM1 := Lib.hid hM
    clear T hM
    replace HR1 := Lib.hid (HR1.out.rounds (min (64 : Int) 4096).toNat)
    obtain ⟨p4, hp4⟩ : ∃ x, (roundsP g caps (min (64 : Int) 4096).toNat p2).1 = x := ⟨_, rfl⟩
    rw [hp4] at HM1 HR1
    clear hp4
    go_wp2_with fail
    refine (dRounds_ok 64 HM2.out HG.out (by omega)).mono ?_
    rintro e w8 ⟨o8, u3, rfl, T, hM⟩
    replace HK := Lib.hid (HK.out.turn T (by unfold MineR; omega))
    replace HM1 := Lib.hid (HM1.out.turn T (fun k h => by unfold MineR at h ⊢; omega))
    replace HM2 := Lib.hid hM
    clear T hM
    replace HR2 := Lib.hid (HR2.out.rounds (min (64 : Int) 4096).toNat)
    obtain ⟨p5, hp5⟩ : ∃ x, (roundsP g caps (min (64 : Int) 4096).toNat p3).1 = x := ⟨_, rfl⟩
    rw [hp5] at HM2 HR2
    clear hp5
    have x4 := cell_later HK.out.below BX.out.2.2.2.2.1
    go_wp2_with fail
    refine (agree_yes HM1.out HM2.out (by omega) (by omega) g.outs.length hf4 (meets_outI HR1.out HR2.out)).mono ?_
    rintro e w9 ⟨less, rfl, hb, hless⟩
    have HLS := Lib.hid hless
    have T := Turn.of_below o8 0 hb
    replace HK := Lib.hid (HK.out.turn T (fun h => h))
    replace HM1 := Lib.hid (HM1.out.turn T (fun _ h => h.elim))
    replace HM2 := Lib.hid (HM2.out.turn T (fun _ h => h.elim))
    generalize ext o8 _ 0 = o9 at *
    clear T hb x4 hless
    clear HLS
    go_wp2_with fail
    refine (dHalt_any HM1.out.mem HG.out.linked HG.out.caps HM1.out.ok (fun d => Nat.le_of_lt (HM1.out.lt (by omega) d))).mono ?_
    rintro e w10 ⟨rfl, hb⟩
    have T := Turn.of_below o9 0 hb
    replace HK := Lib.hid (HK.out.turn T (fun h => h))
    replace HM1 := Lib.hid (HM1.out.turn T (fun _ h => h.elim))
    replace HM2 := Lib.hid (HM2.out.turn T (fun _ h => h.elim))
    generalize ext o9 _ 0 = o10 at *
    clear T hb
    have H55 := Lib.hid (meets_55 HR1.out HR2.out)
    obtain ⟨ha, hha⟩ : ∃ x, haltI g caps p4 = x := ⟨_, rfl⟩
    rw [hha] at H55 ⊢
    clear hha
    by_cases a5 : ha = 5
    ·
     subst a5
     go_wp2_with fail
     refine (dHalt_any HM2.out.mem HG.out.linked HG.out.caps HM2.out.ok (fun d => Nat.le_of_lt (HM2.out.lt (by omega) d))).mono ?_
     rintro e w11 ⟨rfl, hb⟩
     have T := Turn.of_below o10 0 hb
     replace HK := Lib.hid (HK.out.turn T (fun h => h))
     replace HM1 := Lib.hid (HM1.out.turn T (fun _ h => h.elim))
     replace HM2 := Lib.hid (HM2.out.turn T (fun _ h => h.elim))
     generalize ext o10 _ 0 = o11 at *
     clear T hb
     obtain ⟨hb, hhb⟩ : ∃ x, haltI g caps p5 = x := ⟨_, rfl⟩
     rw [hhb] at H55 ⊢
     clear hhb
     by_cases b5 : hb = 5
     ·
      have hl := H55.out (by trivial) b5
      subst hl
      subst b5
      have x4 := cell_later HK.out.below BX.out.2.2.2.2.1
      go_wp2_with fail
      refine (same_yes HM1.out HM2.out HG.out (by omega) (by omega) g.outs.length hf4).mono ?_
      rintro e w12 ⟨rfl, hb⟩
      have T := Turn.of_below o11 0 hb
      replace HK := Lib.hid (HK.out.turn T (fun h => h))
      replace HM1 := Lib.hid (HM1.out.turn T (fun _ h => h.elim))
      replace HM2 := Lib.hid (HM2.out.turn T (fun _ h => h.elim))
      generalize ext o11 _ 0 = o12 at *
      clear T hb
      clear x4
      go_wp2_with fail
      refine (dawake_yes _).mono ?_
      rintro e wz ⟨rfl, hbz⟩
      have HBZ := Lib.hid (HB0.out.trans ((HK.out.below.trans (hbz.mono HK.out.size)).mono HB0.out.size))
      clear hbz
      go_wp2
      go_ret
      exact ⟨rfl, HBZ.out⟩
     ·
      have e2 : (hb == 5) = false := by rw [beq_eq_false_iff_ne]; exact b5
      go_wp2_with fail
      refine (dawake_yes _).mono ?_
      rintro e wz ⟨rfl, hbz⟩
      have HBZ := Lib.hid (HB0.out.trans ((HK.out.below.trans (hbz.mono HK.out.size)).mono HB0.out.size))
      clear hbz
      go_wp2
      go_ret
      exact ⟨rfl, HBZ.out⟩
    ·
     have e1 : (ha == 5) = false := by rw [beq_eq_false_iff_ne]; exact a5
     go_wp2_with fail
     refine (dawake_yes _).mono ?_
     rintro e wz ⟨rfl, hbz⟩
     have HBZ := Lib.hid (HB0.out.trans ((HK.out.below.trans (hbz.mono HK.out.size)).mono HB0.out.size))
     clear hbz
     go_wp2
     go_ret
     exact ⟨rfl, HBZ.out⟩
end Go.Proofs.YtaholpfikcdhbaaGreat

/- What came in, said plainly for a walk: a slice of ints. No program in sight. -/
namespace Go.Proofs.YtaholpfikcdhbaaGreat
open Go.ChangeShapes Go.WideShapes Go.ChangeAt Go.RowKit Go.Deep
def InInts (w : World) (v : Value) (zs : List Int) : Prop :=
 ∃ ao cap, v = .slice ao zs.length cap ∧ zs.length ≤ cap ∧ cap ≤ maxLen ∧ (ao = none → zs.length = 0) ∧ (∀ n ∈ zs, -9223372036854775808 ≤ n ∧ n ≤ 9223372036854775807) ∧
  ∀ ad, ao = some ad → ∀ j u, (zs.map (Value.int .i64))[j]? = some u → w.cell? (ad.add j) = some u
theorem wf_i64 {n : Int} (h : (Lit.int .i64 n).wf = true) : -9223372036854775808 ≤ n ∧ n ≤ 9223372036854775807 := by
 simp [Lit.wf] at h
 have h1 : IntKind.i64.min = -9223372036854775808 := rfl
 have h2 : IntKind.i64.max = 9223372036854775807 := rfl
 omega
def DLen {H : Type} (d : DataW H) (n : Nat) : Prop := (d = .nil ∧ n = 0) ∨ ∃ el sp, d = .slice el sp ∧ el.length = n
theorem DLen.reach {H : Type} {P : Program} {ts : List TypeId} {ds : List (DataW H)} {d : DataW H} {n j : Nat} {t e : TypeId} (h : DLen d n) (hs : (DataW.weightsEach P ts ds).all (· ≤ reachBytes) = true) (ht : ts[j]? = some t) (hd : ds[j]? = some d) (hu : P.underlying t = some (.slice e)) : n * P.bytesOf e ≤ 140737488351232 := by
 rcases h with ⟨rfl, rfl⟩ | ⟨el, sp, rfl, rfl⟩
 ·
  omega
 ·
  have := sized_slice hs ht hd hu
  have h1 : el.length * P.bytesOf e ≤ (el.length + sp.length) * P.bytesOf e := Nat.mul_le_mul_right _ (by omega)
  have h2 : reachBytes = 140737488351232 := rfl
  omega
theorem open_in_ints {P : Program} {H : Type} {enc : TypeId × Value → H} {W : World} {t e : TypeId} {v : Value} {d : DataW H} {p : List MemPlace} (ht : P.underlying t = some (.slice e)) (he : P.underlying e = some (.int .i64)) (hc : P.cellsOf e = 1)
  (hv : ∃ a len cap, v = .slice a len cap) (h : DataW.Trod enc P W 0 (fun _ => true) true t v d p) : ∃ zs, InInts W v zs ∧ DLen d zs.length := by
 obtain ⟨a1, len1, cap1, rfl⟩ := hv
 obtain ⟨fuel, hf⟩ := h
 rcases open_ints ht he hc hf with ⟨hcs, hx⟩ | ⟨x, l, c, zs, hcs, _, hl, hm, hz, hx, hcell, hwz⟩
 ·
  simp [Value.cells] at hcs
  obtain ⟨rfl, rfl, rfl⟩ := hcs
  obtain rfl : d = .nil := congrArg Prod.fst hx
  exact ⟨[], ⟨none, 0, rfl, Nat.le_refl _, Nat.zero_le _, fun _ => rfl, by simp, fun _ h => by cases h⟩, .inl ⟨rfl, rfl⟩⟩
 ·
  simp [Value.cells] at hcs
  obtain ⟨rfl, rfl, rfl⟩ := hcs
  simp at hz
  obtain rfl : d = _ := congrArg Prod.fst hx
  have hlen : (zs.take len1).length = len1 := by rw [List.length_take]; omega
  refine ⟨zs.take len1, ⟨some x, cap1, by rw [hlen], by omega, hm, (fun h => by cases h), fun n hn => ?_, ?_⟩, .inr ⟨_, _, rfl, by simp [lits]⟩⟩
  ·
   exact wf_i64 (hwz n (List.mem_of_mem_take hn))
  ·
   intro ad had j u hu
   obtain rfl := Option.some.inj had
   have hj : j < len1 := by have := (List.getElem?_eq_some_iff.1 hu).1; simp at this; omega
   have hcz := hcell j (by omega)
   rw [hcz]
   have : ((zs.take len1).map (Value.int .i64))[j]? = some (.int .i64 (zs.getD j 0)) := by
    simp [hj, show j < zs.length by omega]
   rw [this] at hu
   exact hu
theorem InInts.has {W : World} {v : Value} {zs : List Int} (h : InInts W v zs) : Has W v (ivs zs) := by
 obtain ⟨ao, cap, rfl, h1, h2, h3, h4, h5⟩ := h
 by_cases hp : 0 < zs.length
 ·
  cases ao with
  | none => have := h3 rfl; omega
  | some a =>
   have hc : ∀ i, i < zs.length → W.cell? (a.add i) = some (.int .i64 (zs.getD i 0)) := fun i hi => h5 a rfl i _ (by simp [hi])
   obtain ⟨b, off, rfl, hcell⟩ := ints_at hc hp
   refine .inr ⟨by simpa using hp, b, off, cap, by simp, by simpa using h1, World.block_lt_of_cell? _ _ (hcell 0 hp), rfl, fun k hk => ?_⟩
   have hk' : k < zs.length := by simpa using hk
   have := hcell k hk'
   simpa [hk'] using this
 ·
  obtain rfl : zs = [] := List.eq_nil_of_length_eq_zero (by omega)
  exact .inl ⟨rfl, ao, cap, rfl⟩
theorem InInts.fits {W : World} {v : Value} {zs : List Int} (h : InInts W v zs) : ∀ n ∈ zs, -9223372036854775808 ≤ n ∧ n ≤ 9223372036854775807 := h.choose_spec.choose_spec.2.2.2.2.1
end Go.Proofs.YtaholpfikcdhbaaGreat

/- What came in, said plainly for a walk: a slice of slices of ints. No program in sight. -/
namespace Go.Proofs.YtaholpfikcdhbaaGreat
open Go.ChangeShapes Go.WideShapes Go.ChangeAt Go.RowKit Go.Deep
theorem open_in_ints_cells {P : Program} {H : Type} {enc : TypeId × Value → H} {W : World} {t e : TypeId} {x : Value} {fuel : Nat} {y : DataW H × List MemPlace} (ht : P.underlying t = some (.slice e)) (he : P.underlying e = some (.int .i64)) (hc : P.cellsOf e = 1)
  (h : DataW.trod enc P W 0 (fun _ => true) true fuel t [x] = some y) : ∃ zs, InInts W x zs ∧ DLen y.1 zs.length := by
 have hx : ∃ a len cap, x = .slice a len cap := by
  rcases open_ints ht he hc h with ⟨hcs, _⟩ | ⟨a, len, cap, zs, hcs, _⟩
  ·
   exact ⟨_, _, _, List.head_eq_of_cons_eq hcs⟩
  ·
   exact ⟨_, _, _, List.head_eq_of_cons_eq hcs⟩
 obtain ⟨a, len, cap, rfl⟩ := hx
 exact open_in_ints (d := y.1) (p := y.2) ht he hc ⟨_, _, _, rfl⟩ ⟨fuel, by simpa [Value.cells] using h⟩
end Go.Proofs.YtaholpfikcdhbaaGreat

/- What came in, said plainly for a walk: slices of slices of ints and their sizes; two of them in a struct. No program in sight. -/
namespace Go.Proofs.YtaholpfikcdhbaaGreat
open Go.ChangeShapes Go.WideShapes Go.ChangeAt Go.RowKit Go.Deep
theorem weights_mem_all {H : Type} {P : Program} {e : TypeId} {d : DataW H} {x : Nat} : ∀ {l : List (DataW H)}, d ∈ l → x ∈ d.weights P e → x ∈ DataW.weightsAll P e l
 | [], h, _ => by cases h
 | a :: l, h, hx => by
  simp only [DataW.weightsAll, List.mem_append]
  rcases List.mem_cons.1 h with rfl | h
  ·
   exact .inl hx
  ·
   exact .inr (weights_mem_all h hx)
def Light {H : Type} (P : Program) (t : TypeId) (d : DataW H) : Prop := ∀ x ∈ d.weights P t, x ≤ reachBytes
theorem weigh_len {H : Type} {P : Program} {t e : TypeId} {d : DataW H} {n B : Nat} (h : ∀ x ∈ d.weights P t, x ≤ B) (hd : DLen d n) (hu : P.underlying t = some (.slice e)) : n * P.bytesOf e ≤ B := by
 rcases hd with ⟨rfl, rfl⟩ | ⟨el, sp, rfl, rfl⟩
 ·
  simp
 ·
  have := h ((el.length + sp.length) * P.bytesOf e) (by simp [DataW.weights, hu])
  exact Nat.le_trans (Nat.mul_le_mul_right _ (by omega)) this
theorem Light.len {H : Type} {P : Program} {t e : TypeId} {d : DataW H} {n : Nat} (h : Light P t d) (hd : DLen d n) (hu : P.underlying t = some (.slice e)) : n * P.bytesOf e ≤ reachBytes := weigh_len h hd hu
theorem open_rows_by {P : Program} {H : Type} {enc : TypeId × Value → H} {W : World} {t s e : TypeId} {v : Value} {d : DataW H} {p : List MemPlace} (ht : P.underlying t = some (.slice s)) (hs : P.underlying s = some (.slice e)) (he : P.underlying e = some (.int .i64)) (hce : P.cellsOf e = 1) (hcs : P.cellsOf s = 1)
  (hv : ∃ a len cap, v = .slice a len cap) (h : DataW.Trod enc P W 0 (fun _ => true) true t v d p) : ∃ xss, LL W v xss ∧ (∀ l ∈ xss, ∀ x ∈ l, -9223372036854775808 ≤ x ∧ x ≤ 9223372036854775807) ∧ (∀ B, (∀ x ∈ d.weights P t, x ≤ B) → xss.length * P.bytesOf s ≤ B ∧ ∀ l ∈ xss, l.length * P.bytesOf e ≤ B) := by
 obtain ⟨a1, len1, cap1, rfl⟩ := hv
 obtain ⟨fuel, hf⟩ := h
 rcases open_slice ht hf with ⟨hc, hx⟩ | ⟨a, len, cap, m, n, D, Pl, hc, _, hl, hm, hmm, hx, hel⟩
 ·
  simp [Value.cells] at hc
  obtain ⟨rfl, rfl, rfl⟩ := hc
  exact ⟨[], ⟨[], rfl, .inl ⟨rfl, none, 0, rfl⟩, fun k hk => by simp at hk⟩, by simp, fun _ _ => ⟨by simp, by simp⟩⟩
 ·
  simp [Value.cells] at hc
  obtain ⟨rfl, rfl, rfl⟩ := hc
  simp at hmm
  have each : ∀ i, i < len1 → ∃ q : Value × List Int, W.cell? (a.add i) = some q.1 ∧ InInts W q.1 q.2 ∧ DLen (D i) q.2.length := by
   intro i hi
   obtain ⟨cs', hcells, htr⟩ := hel i (by omega)
   rw [hcs] at hcells
   simp only [Nat.mul_one] at hcells
   obtain ⟨_, hll, hev⟩ := World.cells?_some hcells
   match cs', hll with
   | [x0], _ =>
    obtain ⟨zs, hz, hdl⟩ := open_in_ints_cells hs he hce htr
    have g0 := hev 0 (by omega)
    have e0 : (a.add i).add 0 = a.add i := by cases a; simp [Addr.add]
    rw [e0] at g0
    exact ⟨(x0, zs), by simpa using g0, hz, hdl⟩
  obtain ⟨Q, hQ⟩ := choose_lt (α := Value × List Int) (p := fun i q => W.cell? (a.add i) = some q.1 ∧ InInts W q.1 q.2 ∧ DLen (D i) q.2.length) each
  have hd : d = _ := congrArg Prod.fst hx
  refine ⟨(List.range len1).map fun i => (Q i).2, ⟨(List.range len1).map fun i => (Q i).1, by simp, ?_, fun k hk => ?_⟩, fun l hl x hx => ?_, fun B hL => ⟨?_, fun l hl => ?_⟩⟩
  ·
   by_cases hp : 0 < len1
   ·
    have hsp : a.spot = none := by
     have := World.cell?_spot (hQ 0 hp).1
     simpa [Addr.add] using this
    obtain ⟨b, off, spot⟩ := a
    simp at hsp
    subst hsp
    refine .inr ⟨by simpa using hp, b, off, cap1, by simp, by simp; omega, ?_, rfl, fun k hk => ?_⟩
    ·
     have := World.block_lt_of_cell? _ _ (hQ 0 hp).1
     simpa [Addr.add] using this
    ·
     have hk' : k < len1 := by simpa using hk
     have := (hQ k hk').1
     simp only [Addr.add_lit] at this
     simpa [hk'] using this
   ·
    obtain rfl : len1 = 0 := by omega
    exact .inl ⟨rfl, some a, cap1, rfl⟩
  ·
   have hk' : k < len1 := by simpa using hk
   have := (hQ k hk').2.1.has
   simpa [hk'] using this
  ·
   simp only [List.mem_map, List.mem_range] at hl
   obtain ⟨i, hi, rfl⟩ := hl
   exact (hQ i hi).2.1.fits x hx
  ·
   exact weigh_len (n := ((List.range len1).map fun i => (Q i).2).length) hL (.inr ⟨_, _, hd, by simp⟩) ht
  ·
   simp only [List.mem_map, List.mem_range] at hl
   obtain ⟨i, hi, rfl⟩ := hl
   have hLi : ∀ x ∈ (D i).weights P s, x ≤ B := fun x hx => hL x (by
    rw [hd]
    simp only [DataW.weights, ht]
    exact List.mem_cons_of_mem _ (List.mem_append_left _ (weights_mem_all (List.mem_map.2 ⟨i, List.mem_range.2 hi, rfl⟩) hx)))
   exact weigh_len hLi (hQ i hi).2.2 hs
end Go.Proofs.YtaholpfikcdhbaaGreat

/- What came in, said plainly for a walk: a slice of records. No function in sight. -/
namespace Go.Proofs.YtaholpfikcdhbaaGreat
open Go.ChangeShapes Go.WideShapes Go.ChangeAt Go.RowKit Go.Deep
section
variable {H : Type} {enc : TypeId × Value → H} {W : World}
abbrev Trods (enc : TypeId × Value → H) (W : World) (fuel : Nat) (t : TypeId) (cs : List Value) (y : DataW H × List MemPlace) : Prop := DataW.trod enc Tryz.prog W 0 (fun _ => true) true fuel t cs = some y
theorem cell_int : Tryz.prog.cellsOf 3 = 1 := by kernel_rfl
theorem cell_ints : Tryz.prog.cellsOf 27 = 1 := by kernel_rfl
theorem byte_int : Tryz.prog.bytesOf 3 = 8 := by kernel_rfl
theorem reach_val : reachBytes = 140737488351232 := rfl
theorem part_by {B : Nat} {t : TypeId} {fs : Array Field} {xs : List (DataW H × List MemPlace)} (ht : Tryz.prog.underlying t = some (.struct fs)) (hL : ∀ x ∈ (DataW.agg (xs.map (·.1))).weights Tryz.prog t, x ≤ B) {i : Nat} {f : Field} {y : DataW H × List MemPlace} (hf : fs[i]? = some f) (hy : xs[i]? = some y) : ∀ x ∈ y.1.weights Tryz.prog f.type, x ≤ B := fun x hx => hL x (by
 simp only [DataW.weights, ht]
 have h1 : (fs.toList.map (·.type))[i]? = some f.type := by simp [hf]
 have h2 : (xs.map (·.1))[i]? = some y.1 := by simp [hy]
 exact DataW.weights_mem_each h1 h2 x hx)
theorem light_part {t : TypeId} {fs : Array Field} {xs : List (DataW H × List MemPlace)} (ht : Tryz.prog.underlying t = some (.struct fs)) (hL : Light Tryz.prog t (.agg (xs.map (·.1)))) {i : Nat} {f : Field} {y : DataW H × List MemPlace} (hf : fs[i]? = some f) (hy : xs[i]? = some y) : Light Tryz.prog f.type y.1 := part_by ht hL hf hy
theorem int_at {fuel : Nat} {x : Value} {y : DataW H × List MemPlace} (h : Trods enc W fuel 3 [x] y) : ∃ n, x = .int .i64 n := by
 obtain ⟨n, h1, _⟩ := DataW.trod_int Tryz.underlying3 h
 exact ⟨n, by simpa using h1⟩
theorem list_get {cs : List Value} {n i : Nat} (hl : cs.length = n) (hi : i < n) : cs[i]? = some (cs[i]?.getD undef) := by
 rw [List.getElem?_eq_getElem (by omega)]; rfl
theorem open_recs {α : Type} {R : World → α → List Value → Prop} {Z : α → Prop} {t e : TypeId} {sz : Nat} {fuel : Nat} {x : Value} {y : DataW H × List MemPlace} (ht : Tryz.prog.underlying t = some (.slice e)) (hc : Tryz.prog.cellsOf e = sz) (hsz : 0 < sz)
  (el : ∀ (fuel : Nat) (cs : List Value) (y : DataW H × List MemPlace), cs.length = sz → Trods enc W fuel e cs y → ∃ a : α, R W a cs ∧ (Light Tryz.prog e y.1 → Z a)) (h : Trods enc W fuel t [x] y) :
  ∃ l : List α, Recs W sz R x l ∧ (Light Tryz.prog t y.1 → l.length * Tryz.prog.bytesOf e ≤ reachBytes ∧ ∀ a ∈ l, Z a) := by
 rcases open_slice ht h with ⟨hcs', hx⟩ | ⟨a, len, cap, m, n, D, Pl, hcs', _, hl, hm, hmm, hx, hel⟩
 ·
  obtain rfl : x = .slice none 0 0 := List.head_eq_of_cons_eq hcs'
  exact ⟨[], .inl ⟨rfl, _, _, rfl⟩, fun _ => ⟨by simp, by simp⟩⟩
 ·
  obtain rfl := List.head_eq_of_cons_eq hcs'
  simp at hmm
  have each : ∀ j, j < len → ∃ q : α × List Value, q.2.length = sz ∧ R W q.1 q.2 ∧ (Light Tryz.prog e (D j) → Z q.1) ∧ ∀ i, i < sz → W.cell? ((a.add (j * sz)).add i) = some (q.2[i]?.getD undef) := by
   intro j hj
   obtain ⟨cs', hcells, htr⟩ := hel j (by omega)
   rw [hc] at hcells
   obtain ⟨_, hll, hev⟩ := World.cells?_some hcells
   obtain ⟨q, h1, h2⟩ := el _ _ _ hll htr
   exact ⟨(q, cs'), hll, h1, h2, fun i hi => (hev i hi).trans (list_get hll hi)⟩
  by_cases hp : 0 < len
  ·
   haveI : Inhabited (α × List Value) := ⟨(each 0 hp).choose⟩
   obtain ⟨Q, hQ⟩ := choose_lt (α := α × List Value) (p := fun j q => q.2.length = sz ∧ R W q.1 q.2 ∧ (Light Tryz.prog e (D j) → Z q.1) ∧ ∀ i, i < sz → W.cell? ((a.add (j * sz)).add i) = some (q.2[i]?.getD undef)) each
   have hd : y.1 = _ := congrArg Prod.fst hx
   refine ⟨(List.range len).map fun j => (Q j).1, .inr ?_, fun hL => ⟨hL.len (n := ((List.range len).map fun j => (Q j).1).length) (.inr ⟨_, _, hd, by simp⟩) ht, fun z hz => ?_⟩⟩
   rotate_left
   ·
    simp only [List.mem_map, List.mem_range] at hz
    obtain ⟨j, hj, rfl⟩ := hz
    exact (hQ j hj).2.2.1 fun x hx => hL x (by
     rw [hd]
     simp only [DataW.weights, ht]
     exact List.mem_cons_of_mem _ (List.mem_append_left _ (weights_mem_all (List.mem_map.2 ⟨j, List.mem_range.2 hj, rfl⟩) hx)))
   have hsp : a.spot = none := by
    have := World.cell?_spot ((hQ 0 hp).2.2.2 0 hsz)
    simpa [Addr.add] using this
   obtain ⟨b, off, spot⟩ := a
   simp at hsp
   subst hsp
   refine ⟨by simpa using hp, b, off, cap, by simp, by simp; omega, ?_, fun k hk => ?_⟩
   ·
    have := World.block_lt_of_cell? _ _ ((hQ 0 hp).2.2.2 0 hsz)
    simpa [Addr.add] using this
   ·
    have hk' : k < len := by simpa using hk
    obtain ⟨e1, e2, _, e4⟩ := hQ k hk'
    refine ⟨(Q k).2, e1, by simpa [hk'] using e2, fun i hi => ?_⟩
    have := e4 i hi
    simp only [Addr.add_lit] at this
    exact this
  ·
   obtain rfl : len = 0 := by omega
   exact ⟨[], .inl ⟨rfl, some a, cap, rfl⟩, fun _ => ⟨by simp, by simp⟩⟩
end
end Go.Proofs.YtaholpfikcdhbaaGreat

/- What is not bulky is light: lists that are short weigh little. No function in sight. -/
namespace Go.Proofs.YtaholpfikcdhbaaGreat
open Go.ChangeShapes Go.WideShapes Go.ChangeAt Go.RowKit Go.Deep
section
variable {H : Type}
theorem bulk_one (d : DataW H) : 1 ≤ Rows.uptoBulk d := by
 cases d with
 | lit l => cases l <;> simp [Rows.uptoBulk]
 | nil => simp [Rows.uptoBulk]
 | ptr d => simp [Rows.uptoBulk]
 | slice elems spare => simp [Rows.uptoBulk]
 | agg parts => simp [Rows.uptoBulk]
 | iface t d => simp [Rows.uptoBulk]
 | map entries => simp [Rows.uptoBulk]
 | held h => simp [Rows.uptoBulk]
theorem bulk_part {d : DataW H} : ∀ {l : List (DataW H)}, d ∈ l → Rows.uptoBulk d ≤ Rows.uptoBulkAll l
 | [], h => by cases h
 | x :: r, h => by
  simp only [Rows.uptoBulkAll]
  rcases List.mem_cons.1 h with rfl | h
  ·
   omega
  ·
   have := bulk_part h; omega
theorem bulk_len : ∀ l : List (DataW H), l.length ≤ Rows.uptoBulkAll l
 | [] => by simp [Rows.uptoBulkAll]
 | x :: r => by have := bulk_one x; have := bulk_len r; simp only [Rows.uptoBulkAll, List.length_cons]; omega
theorem dlen_bulk {d : DataW H} {n : Nat} (h : DLen d n) : n ≤ Rows.uptoBulk d := by
 rcases h with ⟨rfl, h0⟩ | ⟨el, sp, rfl, h0⟩
 ·
  omega
 ·
  have := bulk_len el
  simp only [Rows.uptoBulk]
  omega
def shutB (P : Program) (S : List TypeId) (t : TypeId) : Bool :=
 match P.underlying t with
 | some (.slice e) => S.contains e && decide (P.bytesOf e ≤ 64)
 | some (.struct fs) => fs.toList.all fun f => S.contains f.type
 | some (.int _) => true
 | some .string => true
 | _ => false
theorem weigh_all {P : Program} {e : TypeId} {x : Nat} : ∀ {l : List (DataW H)}, x ∈ DataW.weightsAll P e l → ∃ d ∈ l, x ∈ d.weights P e
 | [], h => by simp [DataW.weightsAll] at h
 | d :: r, h => by
  simp only [DataW.weightsAll, List.mem_append] at h
  rcases h with h | h
  ·
   exact ⟨d, List.mem_cons_self, h⟩
  ·
   obtain ⟨y, h1, h2⟩ := weigh_all h
   exact ⟨y, List.mem_cons_of_mem _ h1, h2⟩
theorem weigh_each {P : Program} {x : Nat} : ∀ {ts : List TypeId} {l : List (DataW H)}, x ∈ DataW.weightsEach P ts l → ∃ d ∈ l, ∃ t ∈ ts, x ∈ d.weights P t
 | [], l, h => by cases l <;> simp [DataW.weightsEach] at h
 | t :: ts, [], h => by simp [DataW.weightsEach] at h
 | t :: ts, d :: r, h => by
  simp only [DataW.weightsEach, List.mem_append] at h
  rcases h with h | h
  ·
   exact ⟨d, List.mem_cons_self, t, List.mem_cons_self, h⟩
  ·
   obtain ⟨y, h1, u, h2, h3⟩ := weigh_each h
   exact ⟨y, List.mem_cons_of_mem _ h1, u, List.mem_cons_of_mem _ h2, h3⟩
theorem weigh {P : Program} {S : List TypeId} (hS : ∀ t ∈ S, shutB P S t = true) : ∀ (n : Nat) (d : DataW H) (t : TypeId), SizeOf.sizeOf d ≤ n → t ∈ S → ∀ x ∈ d.weights P t, x ≤ Rows.uptoBulk d * 64
 | 0, d, _, hn, _, _, _ => by cases d <;> simp at hn
 | n + 1, d, t, hn, ht, x, hx => by
  have hs := hS t ht
  unfold shutB at hs
  cases d with
  | lit l =>
   cases l with
   | string b =>
    simp [DataW.weights] at hx
    simp only [Rows.uptoBulk]
    omega
   | _ => simp [DataW.weights] at hx
  | nil => simp [DataW.weights] at hx
  | ptr d =>
   simp only [DataW.weights] at hx
   split at hx
   ·
    rename_i e he
    rw [he] at hs
    simp at hs
   ·
    cases hx
  | slice el sp =>
   simp only [DataW.weights] at hx
   split at hx
   ·
    rename_i e he
    rw [he] at hs
    simp only [Bool.and_eq_true, List.contains_iff_mem, decide_eq_true_eq] at hs
    simp only [Rows.uptoBulk]
    have l1 := bulk_len el
    have l2 := bulk_len sp
    rcases List.mem_cons.1 hx with rfl | hx
    ·
     have h1 : (el.length + sp.length) * P.bytesOf e ≤ (el.length + sp.length) * 64 := Nat.mul_le_mul_left _ hs.2
     omega
    ·
     rcases List.mem_append.1 hx with hx | hx
     ·
      obtain ⟨y, hy, hxy⟩ := weigh_all hx
      have := List.sizeOf_lt_of_mem hy
      have h1 := weigh hS n y e (by simp at hn; omega) hs.1 x hxy
      have := bulk_part hy
      omega
     ·
      obtain ⟨y, hy, hxy⟩ := weigh_all hx
      have := List.sizeOf_lt_of_mem hy
      have h1 := weigh hS n y e (by simp at hn; omega) hs.1 x hxy
      have := bulk_part hy
      omega
   ·
    cases hx
  | agg ps =>
   simp only [DataW.weights] at hx
   split at hx
   ·
    rename_i fs he
    rw [he] at hs
    simp only [List.all_eq_true, List.contains_iff_mem] at hs
    obtain ⟨y, hy, u, hu, hxy⟩ := weigh_each hx
    obtain ⟨f, hf, rfl⟩ := List.mem_map.1 hu
    have := List.sizeOf_lt_of_mem hy
    have h1 := weigh hS n y f.type (by simp at hn; omega) (hs f hf) x hxy
    have := bulk_part hy
    simp only [Rows.uptoBulk]
    omega
   ·
    rename_i e he
    rw [he] at hs
    simp at hs
   ·
    cases hx
  | iface u d => simp [DataW.weights] at hx
  | map es =>
   simp only [DataW.weights] at hx
   split at hx
   ·
    rename_i k e he
    rw [he] at hs
    simp at hs
   ·
    cases hx
  | held h => simp [DataW.weights] at hx
theorem light_of_bulk {P : Program} {S : List TypeId} (hS : S.all (shutB P S) = true) {d : DataW H} {t : TypeId} (ht : t ∈ S) (hb : Rows.uptoBulk d ≤ 1048576) : Light P t d := fun x hx => by
 have h := weigh (fun t ht => List.all_eq_true.1 hS t ht) _ d t (Nat.le_refl _) ht x hx
 have h2 : reachBytes = 140737488351232 := rfl
 omega
end
end Go.Proofs.YtaholpfikcdhbaaGreat

/- What came in, said plainly for a walk: a run. No function in sight. -/
namespace Go.Proofs.YtaholpfikcdhbaaGreat
open Go.ChangeShapes Go.WideShapes Go.ChangeAt Go.RowKit Go.Deep
section
variable {H : Type} {enc : TypeId × Value → H} {W : World}
theorem cell_string : Tryz.prog.cellsOf 9 = 1 := by kernel_rfl
theorem cell_tag : Tryz.prog.cellsOf 94 = 1 := by kernel_rfl
theorem string_at {fuel : Nat} {x : Value} {y : DataW H × List MemPlace} (h : Trods enc W fuel 9 [x] y) : ∃ s : ByteArray, x = .string s ∧ (Light Tryz.prog 9 y.1 → s.size ≤ 4611686018427387904) := by
 obtain ⟨s, h1, h2, _⟩ := DataW.trod_string Tryz.underlying9 h
 refine ⟨s, by simpa using h1, fun hL => ?_⟩
 have := hL s.data.toList.length (by rw [h2]; simp [DataW.weights])
 have h3 := reach_val
 have h4 : s.data.toList.length = s.size := by simp
 omega
set_option maxRecDepth 100000 in
theorem el_port {fuel : Nat} {cs : List Value} {y : DataW H × List MemPlace} (hl : cs.length = 3) (h : Trods enc W fuel 118 cs y) : ∃ a : GPort, PortR W a cs ∧ (Light Tryz.prog 118 y.1 → a.name.size ≤ 4611686018427387904) := by
 obtain ⟨xs, n, _, rfl, _, hlen, hf⟩ := DataW.trod_struct Tryz.underlying118 h
 match cs, hl, xs, hlen with
 | [x0, x1, x2], _, [y0, y1, y2], _ =>
  have h0 : Trods enc W n 9 [x0] y0 := by simpa [cell_string] using hf 0 _ rfl
  have h1 : Trods enc W n 3 [x1] y1 := by simpa [cell_int] using hf 1 _ rfl
  have h2 : Trods enc W n 3 [x2] y2 := by simpa [cell_int] using hf 2 _ rfl
  obtain ⟨s, rfl, s2⟩ := string_at h0
  obtain ⟨n1, rfl⟩ := int_at h1
  obtain ⟨n2, rfl⟩ := int_at h2
  exact ⟨⟨s, n1, n2⟩, rfl, fun hL => s2 (light_part Tryz.underlying118 (xs := [y0, y1, y2]) hL (i := 0) rfl rfl)⟩
theorem cell_rows : Tryz.prog.cellsOf 22 = 1 ∧ Tryz.prog.cellsOf 23 = 1 ∧ Tryz.prog.cellsOf 24 = 1 := ⟨by kernel_rfl, by kernel_rfl, by kernel_rfl⟩
theorem ints_atR {fuel : Nat} {x : Value} {y : DataW H × List MemPlace} (h : Trods enc W fuel 27 [x] y) : ∃ l, Has W x (ivs l) ∧ (∀ n ∈ l, Fits n) ∧ (Light Tryz.prog 27 y.1 → l.length ≤ 17600000000000) := by
 obtain ⟨l, h1, h2⟩ := open_in_ints_cells Tryz.underlying27 Tryz.underlying3 cell_int h
 refine ⟨l, h1.has, h1.fits, fun hL => ?_⟩
 have := hL.len h2 Tryz.underlying27
 rw [byte_int] at this
 have h3 := reach_val
 omega
set_option maxRecDepth 100000 in
theorem el_actorF {fuel : Nat} {cs : List Value} {y : DataW H × List MemPlace} (hl : cs.length = 3) (h : Trods enc W fuel 96 cs y) : ∃ a : GActor, ActorR W a cs ∧ (Light Tryz.prog 96 y.1 → (a.name.size ≤ 4611686018427387904 ∧ a.params.length ≤ 17600000000000) ∧ ∀ n ∈ a.params, Fits n) := by
 obtain ⟨xs, n, _, rfl, _, hlen, hf⟩ := DataW.trod_struct Tryz.underlying96 h
 match cs, hl, xs, hlen with
 | [x0, x1, x2], _, [y0, y1, y2], _ =>
  have h0 : Trods enc W n 9 [x0] y0 := by simpa [cell_string] using hf 0 _ rfl
  have h1 : Trods enc W n 94 [x1] y1 := by simpa [cell_tag] using hf 1 _ rfl
  have h2 : Trods enc W n 27 [x2] y2 := by simpa [cell_ints] using hf 2 _ rfl
  obtain ⟨s, rfl, s2⟩ := string_at h0
  obtain ⟨tg, t1, _⟩ := DataW.trod_int Tryz.underlying94 h1
  obtain rfl : x1 = .int .u8 tg := by simpa using t1
  obtain ⟨l, l1, l3, l2⟩ := ints_atR h2
  exact ⟨⟨s, tg, l⟩, ⟨x2, rfl, l1⟩, fun hL => ⟨⟨s2 (light_part Tryz.underlying96 (xs := [y0, y1, y2]) hL (i := 0) rfl rfl), l2 (light_part Tryz.underlying96 (xs := [y0, y1, y2]) hL (i := 2) rfl rfl)⟩, l3⟩⟩
set_option maxRecDepth 100000 in
theorem el_edgeF {fuel : Nat} {cs : List Value} {y : DataW H × List MemPlace} (hl : cs.length = 5) (h : Trods enc W fuel 107 cs y) : ∃ a : GEdge, EdgeR W a cs ∧ (Light Tryz.prog 107 y.1 → a.start.length ≤ 17600000000000 ∧ ∀ n ∈ a.start, Fits n) := by
 obtain ⟨xs, n, _, rfl, _, hlen, hf⟩ := DataW.trod_struct Tryz.underlying107 h
 match cs, hl, xs, hlen with
 | [x0, x1, x2, x3, x4], _, [y0, y1, y2, y3, y4], _ =>
  have h0 : Trods enc W n 3 [x0] y0 := by simpa [cell_int] using hf 0 _ rfl
  have h1 : Trods enc W n 3 [x1] y1 := by simpa [cell_int] using hf 1 _ rfl
  have h2 : Trods enc W n 3 [x2] y2 := by simpa [cell_int] using hf 2 _ rfl
  have h3 : Trods enc W n 3 [x3] y3 := by simpa [cell_int] using hf 3 _ rfl
  have h4 : Trods enc W n 27 [x4] y4 := by simpa [cell_ints] using hf 4 _ rfl
  obtain ⟨n0, rfl⟩ := int_at h0
  obtain ⟨n1, rfl⟩ := int_at h1
  obtain ⟨n2, rfl⟩ := int_at h2
  obtain ⟨n3, rfl⟩ := int_at h3
  obtain ⟨l, l1, l3, l2⟩ := ints_atR h4
  exact ⟨⟨n0, n1, n2, n3, l⟩, ⟨x4, rfl, l1⟩, fun hL => ⟨l2 (light_part Tryz.underlying107 (xs := [y0, y1, y2, y3, y4]) hL (i := 4) rfl rfl), l3⟩⟩
set_option maxRecDepth 100000 in
theorem graph_at {fuel : Nat} {x0 x1 x2 x3 x4 : Value} {y : DataW H × List MemPlace} (h : Trods enc W fuel 26 [x0, x1, x2, x3, x4] y) : ∃ g, HasGraph W (.agg #[x0, x1, x2, x3, x4]) g ∧ (Light Tryz.prog 26 y.1 → GSized g ∧ (∀ a ∈ g.actors, ∀ n ∈ a.params, Fits n) ∧ (∀ e ∈ g.edges, ∀ n ∈ e.start, Fits n) ∧ g.ins.length ≤ 5000000000000) := by
 obtain ⟨xs, n, _, hx, _, hlen, hf⟩ := DataW.trod_struct Tryz.underlying26 h
 match xs, hlen with
 | [y0, y1, y2, y3, y4], _ =>
  have h0 : Trods enc W n 9 [x0] y0 := by simpa [cell_string, Value.cells] using hf 0 _ rfl
  have h1 : Trods enc W n 22 [x1] y1 := by simpa [cell_rows.1, Value.cells] using hf 1 _ rfl
  have h2 : Trods enc W n 23 [x2] y2 := by simpa [cell_rows.2.1, Value.cells] using hf 2 _ rfl
  have h3 : Trods enc W n 24 [x3] y3 := by simpa [cell_rows.2.2, Value.cells] using hf 3 _ rfl
  have h4 : Trods enc W n 24 [x4] y4 := by simpa [cell_rows.2.2, Value.cells] using hf 4 _ rfl
  have hd : y.1 = .agg ([y0, y1, y2, y3, y4].map (·.1)) := congrArg Prod.fst hx
  obtain ⟨s, rfl, s2⟩ := string_at h0
  obtain ⟨la, a1, a2⟩ := open_recs (sz := 3) Tryz.underlying22 (by kernel_rfl) (by decide) (fun fuel cs y => el_actorF) h1
  obtain ⟨le, e1, e2⟩ := open_recs (sz := 5) Tryz.underlying23 (by kernel_rfl) (by decide) (fun fuel cs y => el_edgeF) h2
  obtain ⟨li, i1, i2⟩ := open_recs (sz := 3) Tryz.underlying24 (by kernel_rfl) (by decide) (fun fuel cs y => el_port) h3
  obtain ⟨lo, o1, o2⟩ := open_recs (sz := 3) Tryz.underlying24 (by kernel_rfl) (by decide) (fun fuel cs y => el_port) h4
  refine ⟨⟨s, la, le, li, lo⟩, ⟨_, _, _, _, rfl, a1, e1, i1, o1⟩, fun hL => ?_⟩
  rw [hd] at hL
  have s3 := s2 (light_part Tryz.underlying26 hL (i := 0) rfl rfl)
  have a3 := a2 (light_part Tryz.underlying26 hL (i := 1) rfl rfl)
  have e3 := e2 (light_part Tryz.underlying26 hL (i := 2) rfl rfl)
  have i3 := i2 (light_part Tryz.underlying26 hL (i := 3) rfl rfl)
  have o3 := o2 (light_part Tryz.underlying26 hL (i := 4) rfl rfl)
  exact ⟨⟨s3, fun a ha => (a3.2 a ha).1, i3.2, o3.2⟩, fun a ha => (a3.2 a ha).2, fun e he => (e3.2 e he).2, by
   have := i3.1
   rw [show Tryz.prog.bytesOf 118 = 32 by kernel_rfl, reach_val] at this
   show li.length ≤ _
   omega⟩
set_option maxRecDepth 100000 in
theorem open_run_by {v : Value} {d : DataW H} {p : List MemPlace} (hv : ∃ cs, v = .agg cs ∧ cs.size = Tryz.prog.cellsOf 30) (h : DataW.Trod enc Tryz.prog W 0 (fun _ => true) true 30 v d p) : ∃ g caps fed, HasRun W v g caps fed ∧ (Light Tryz.prog 30 d → RunOk g caps fed ∧ g.ins.length ≤ 5000000000000) ∧ ∀ B, (∀ x ∈ d.weights Tryz.prog 30, x ≤ B) → ∀ l ∈ fed, l.length * 8 ≤ B := by
 obtain ⟨cs, rfl, hsz⟩ := hv
 obtain ⟨fuel, hf0⟩ := h
 rw [show Tryz.prog.cellsOf 30 = 7 by kernel_rfl] at hsz
 obtain ⟨xs, n, _, hx, _, hlen, hf⟩ := DataW.trod_struct Tryz.underlying30 hf0
 obtain ⟨l⟩ := cs
 match l, hsz, xs, hlen with
 | [x0, x1, x2, x3, x4, x5, x6], _, [y0, y1, y2], _ =>
  have h0 : Trods enc W n 26 [x0, x1, x2, x3, x4] y0 := by simpa [show Tryz.prog.cellsOf 26 = 5 by kernel_rfl, Value.cells] using hf 0 _ rfl
  have h1 : Trods enc W n 27 [x5] y1 := by simpa [cell_ints, Value.cells] using hf 1 _ rfl
  have h2 : Trods enc W n 28 [x6] y2 := by simpa [show Tryz.prog.cellsOf 28 = 1 by kernel_rfl, Value.cells] using hf 2 _ rfl
  have hd : d = .agg ([y0, y1, y2].map (·.1)) := congrArg Prod.fst hx
  obtain ⟨g, g1, g2⟩ := graph_at h0
  obtain ⟨caps, c1, c2, c3⟩ := ints_atR h1
  have sl : ∃ a len cap, x6 = .slice a len cap := by
   rcases open_slice Tryz.underlying28 h2 with ⟨hc, _⟩ | ⟨a, len, cap, _, _, _, _, hc, _⟩
   ·
    exact ⟨_, _, _, List.head_eq_of_cons_eq hc⟩
   ·
    exact ⟨_, _, _, List.head_eq_of_cons_eq hc⟩
  obtain ⟨ax, lx, cx, rfl⟩ := sl
  obtain ⟨fed, q1, q2, q3⟩ := open_rows_by (d := y2.1) (p := y2.2) Tryz.underlying28 Tryz.underlying27 Tryz.underlying3 (by kernel_rfl) (by kernel_rfl) ⟨_, _, _, rfl⟩ ⟨n, by simpa [Value.cells] using h2⟩
  refine ⟨g, caps, fed, ⟨_, _, _, _, _, _, _, rfl, g1, c1, q1⟩, fun hL => ?_, fun B hL => ?_⟩
  ·
   rw [hd] at hL
   have g3 := g2 (light_part Tryz.underlying30 hL (i := 0) rfl rfl)
   have c4 := c3 (light_part Tryz.underlying30 hL (i := 1) rfl rfl)
   have q4 := q3 reachBytes (light_part Tryz.underlying30 hL (i := 2) rfl rfl)
   rw [byte_int, reach_val] at q4
   exact ⟨⟨g3.1, c4, g3.2.1, g3.2.2.1, c2, q2, fun l hl => by have := q4.2 l hl; omega⟩, g3.2.2.2⟩
  ·
   rw [hd] at hL
   have q4 := q3 B (part_by Tryz.underlying30 hL (i := 2) rfl rfl)
   rw [byte_int] at q4
   exact q4.2
theorem run_light {d : DataW H} (hb : Rows.uptoBulk d ≤ 1048576) : Light Tryz.prog 30 d :=
 light_of_bulk (S := [30, 26, 9, 22, 23, 24, 96, 107, 118, 94, 3, 27, 28]) (by kernel_rfl) (by simp) hb
end
end Go.Proofs.YtaholpfikcdhbaaGreat

/- What came in, said plainly for a walk: what more a run has. No function in sight. -/
namespace Go.Proofs.YtaholpfikcdhbaaGreat
open Go.ChangeShapes Go.WideShapes Go.ChangeAt Go.RowKit Go.Deep
section
variable {H : Type} {enc : TypeId × Value → H} {W : World}
theorem weigh_bulk {S : List TypeId} (hS : S.all (shutB Tryz.prog S) = true) {d : DataW H} {t : TypeId} (ht : t ∈ S) (hb : Rows.uptoBulk d ≤ 1048576) : ∀ x ∈ d.weights Tryz.prog t, x ≤ 67108864 := fun x hx => by
 have h := weigh (fun t ht => List.all_eq_true.1 hS t ht) _ d t (Nat.le_refl _) ht x hx
 omega
theorem run_weighs {d : DataW H} (hb : Rows.uptoBulk d ≤ 1048576) : ∀ x ∈ d.weights Tryz.prog 30, x ≤ 67108864 :=
 weigh_bulk (S := [30, 26, 9, 22, 23, 24, 96, 107, 118, 94, 3, 27, 28]) (by kernel_rfl) (by simp) hb
theorem rows_weigh {d : DataW H} (hb : Rows.uptoBulk d ≤ 1048576) : ∀ x ∈ d.weights Tryz.prog 28, x ≤ 67108864 :=
 weigh_bulk (S := [3, 27, 28]) (by kernel_rfl) (by simp) hb
end
end Go.Proofs.YtaholpfikcdhbaaGreat

namespace Go.Proofs.YtaholpfikcdhbaaGreat.dynLate
open Go.ChangeShapes Go.WideShapes Go.ChangeAt Go.RowKit
open Go.ChangeMaps (open_string shut_string)

theorem own : ownKnob Tryz.prog.godebug = none := by kernel_rfl
theorem laidOut : laidOutB Tryz.prog = true := by kernel_rfl

set_option maxRecDepth 100000 in
theorem contract (H : Type) (enc : TypeId × Value → H) (W : World) (base : Nat) (args : Array Value) (ds gs : List (DataW H)) (before : List MemPlace)
  (hval : ∀ (j : Nat) t v, Tryz.f9.params[j]? = some t → args[j]? = some v → Value.okWide Tryz.prog W .any base t v)
  (hW : DataW.Whole enc Tryz.prog Tryz.f9.params.toList Rows.dynLateSpec.vars false W args.toList ds gs before) (hk : Rows.uptoSmall H (ds ++ gs) = true) :
  Calls Tryz.prog 9 args W fun e W' => ∃ v, e = .returned v ∧ Rows.dynLateSpec.post enc Tryz.prog Tryz.f9 false true false false W args v W' := by
 have hW' := hW
 obtain ⟨p, q, hA0, hV, rfl, hfz, hnd⟩ := hW
 have hA : DataW.TrodAll enc Tryz.prog W 0 (fun _ => true) true Tryz.f9.params.toList args.toList ds p := hA0
 rw [Tryz.params9] at hA hval
 obtain ⟨v0, vs0, d0, ds0, p0, q0, hargs, rfl, rfl, h0, r0⟩ := trodAll_cons hA
 obtain ⟨v1, vs1, d1, ds1, p1, q1, rfl, rfl, rfl, h1, r1⟩ := trodAll_cons r0
 obtain ⟨v2, vs2, d2, ds2, p2, q2, rfl, rfl, rfl, h2, r2⟩ := trodAll_cons r1
 obtain ⟨rfl, rfl, rfl⟩ := trodAll_nil r2
 obtain rfl : args = #[v0, v1, v2] := by cases args; simp_all
 obtain ⟨rfl, rfl⟩ := trodVars_none hV
 have hB : Rows.uptoBulkAll [d0, d1, d2] ≤ 1048576 := of_decide_eq_true (by simpa [Rows.uptoSmall] using hk)
 simp only [Rows.uptoBulkAll] at hB
 have k0 := h0
 have lt0 : ∀ x ∈ p0, x.block < W.heap.size := by obtain ⟨m, hm⟩ := k0; exact DataW.trod_lt m _ _ _ hm
 have k1 := h1
 have lt1 : ∀ x ∈ p1, x.block < W.heap.size := by obtain ⟨m, hm⟩ := k1; exact DataW.trod_lt m _ _ _ hm
 have k2 := h2
 have lt2 : ∀ x ∈ p2, x.block < W.heap.size := by obtain ⟨m, hm⟩ := k2; exact DataW.trod_lt m _ _ _ hm
 have L0 : Light Tryz.prog 30 d0 := run_light (by omega)
 obtain ⟨g0, cp0, fd0, i0, z0, y0⟩ := open_run_by (okWide_struct Tryz.underlying30 (hval 0 30 v0 rfl rfl)) h0
 have z0 := z0 L0
 have y0 := y0 _ (run_weighs (by omega))
 obtain ⟨xs1, i1, m1, y1⟩ := open_rows_by (P := Tryz.prog) (t := 28) Tryz.underlying28 Tryz.underlying27 Tryz.underlying3 (by kernel_rfl) (by kernel_rfl) (okWide_slice Tryz.underlying28 (hval 1 28 v1 rfl rfl)) h1
 have y1 := (y1 _ (rows_weigh (by omega))).2
 rw [show Tryz.prog.bytesOf 3 = 8 by kernel_rfl] at y1
 obtain ⟨zs2, i2, l2⟩ := open_in_ints Tryz.underlying27 Tryz.underlying3 (by kernel_rfl) (okWide_slice Tryz.underlying27 (hval 2 27 v2 rfl rfl)) h2
 clear hA0
 refine (dynlate_all W v0 v1 v2 g0 cp0 fd0 xs1 zs2 i0 z0.1 z0.2 (fun xs h => by have := y0 xs h; omega) i1 m1 (fun xs h => by have := y1 xs h; omega) i2.has i2.fits (by have := dlen_bulk l2; omega)).mono fun e W' ⟨he, bel⟩ => ?_
 subst he
 exact ⟨_, rfl, _, _, _, [], _, [], hW', trodAll_mk1 (shut_bool Tryz.underlying4 _), (trodAll_cons_mk (Below.trod laidOut (by kernel_rfl) (of_decide_eq_true (by kernel_rfl)) k0 bel lt0) (trodAll_cons_mk (Below.trod laidOut (by kernel_rfl) (of_decide_eq_true (by kernel_rfl)) k1 bel lt1) (trodAll_cons_mk (Below.trod laidOut (by kernel_rfl) (of_decide_eq_true (by kernel_rfl)) k2 bel lt2) trodAll_mk0))), rfl, bel.frame _, fun h => by cases h⟩

set_option maxRecDepth 100000 in
theorem lifted (os : Os) (started : os.Started) (H : Type) (enc : TypeId × Value → H) (F : Stop.Interp) :
  ReturnsInHanded {} Tryz.checked os 9 .any ((Rows.OpenSpec.upto Rows.dynLateSpec).pre6 enc Tryz.prog Tryz.f9 Rows.dynLateUptoRow.domain false) (((Rows.OpenSpec.upto Rows.dynLateSpec).at F).post enc Tryz.prog Tryz.f9 false true false false) := by
 refine returnsInHanded_of_cond (C := Tryz.checked) (s := Rows.OpenSpec.upto Rows.dynLateSpec) (k := Rows.uptoSmall) rfl own started (by kernel_rfl) Tryz.func9
  (OpenSpec.witness (enc := enc) (C := Tryz.checked) (s := Rows.OpenSpec.upto Rows.dynLateSpec) (k := Rows.uptoSmall) rfl false ⟨#[], #[.agg #[.string ByteArray.empty, .slice none 0 0, .slice none 0 0, .slice none 0 0, .slice none 0 0, .slice none 0 0, .slice none 0 0], .slice none 0 0, .slice none 0 0], []⟩ 8 (by kernel_rfl) (by kernel_rfl) (by kernel_rfl)
   (x := ([.agg [.agg [.lit (.string []), .nil, .nil, .nil, .nil], .nil, .nil], .nil, .nil], [], [])) (by kernel_rfl) rfl (by kernel_rfl)) ?_
 intro W base args ds gs before hval hW _ hk _
 exact contract H enc W base args ds gs before hval hW hk

theorem proved : Rows.DynLateUptoSaid :=
 OpenClaim.holds_of_cond 9 Tryz.f9 rfl rfl rfl rfl rfl rfl rfl ⟨rfl, rfl, rfl, rfl, rfl⟩ rfl rfl rfl rfl rfl (by kernel_rfl) Tryz.func9 (by kernel_rfl)
  (of_decide_eq_true (by kernel_rfl)) (by unfold Func.isWrapper; first | (rw [if_pos (by decide +kernel)]; kernel_rfl) | (rw [if_neg (by decide +kernel)]; exact ⟨rfl, rfl⟩))
  (fun os started H enc _ F => lifted os started H enc F)
end Go.Proofs.YtaholpfikcdhbaaGreat.dynLate
