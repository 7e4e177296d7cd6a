/- both: two machines agree in all that can be asked. -/
import Derived.Test.YtnnnpippekpibaaSvmStepsZ8
import Derived.Test.YtnnnpippekpibaaSvmStepsZ4
import Derived.Test.YtnnnpippekpibaaSvmStepsZ2
import Derived.Test.YtnnnpippekpibaaSvmStepsZ3
import Derived.Test.YtnnnpippekpibaaSvmStepsZ6
import Derived.Test.YtnnnpippekpibaaSvmStepsZ7
namespace Go.Proofs.Ytnnnpippekpibaa
open Go.RowKit

theorem outL_same {m m' : MachP} (h : m.out = m'.out) (k : Int) : outL m k = outL m' k := by unfold outL; rw [h]
theorem outL_len {m : MachP} {B : Nat} (h : ∀ r ∈ m.out, r.length ≤ B) (k : Int) : (outL m k).length ≤ B := by
  have := rowAt_ok (Q := fun r : List Int => r.length ≤ B) h (Nat.zero_le _) k.toNat
  unfold outL
  split
  · exact this
  · exact Nat.zero_le _
theorem MachAt.later {w w' : World} {o : Col} {M b : Nat} {P : GProg} {m : MachP} {v : MVals} (h : MachAt w o M b P m v) (hb : Below w.heap.size w w') : MachAt w' (ext o w.heap.size 0) M b P m v := h.turn (Turn.of_below o 0 hb) (fun _ h => h.elim)
theorem cntL_same {m m' : MachP} (h : m.lines = m'.lines) : cntL m = cntL m' := by unfold cntL; rw [h]
theorem firL_same {m m' : MachP} (h : m.bods = m'.bods) : firL m = firL m' := by unfold firL; rw [h]
theorem cntL_len (m : MachP) : (cntL m).length = m.lines.length := by simp [cntL]
theorem firL_len (m : MachP) : (firL m).length = m.bods.length := by simp [firL]
/-- what two machines show -/
structure Shows (m m' : MachP) : Prop where
  out : m.out = m'.out
  cs : m.cs = m'.cs
  lines : m.lines = m'.lines
  mem : m.mem = m'.mem
  bods : m.bods = m'.bods
  periods : m.periods = m'.periods

set_option maxRecDepth 100000 in
set_option maxHeartbeats 2000000 in
theorem both_yes {w : World} {o : Col} {M N a b : Nat} {P Q : GProg} {m m' : MachP} {v v' : MVals} (h : MachAt w o M a P m v) (h' : MachAt w o N b Q m' v') (hs : Shows m m') (n : Int) (hn : n ≤ 4611686018427387904)
    (ho : ∀ r ∈ m.out, r.length ≤ 20000000000000) (hc : m.cs.length ≤ 100000) (hl : m.lines.length ≤ 100000) (hm : m.mem.length ≤ 100000) (hb : m.bods.length = P.parts.length) (hb' : m'.bods.length = Q.parts.length) (hpl : P.parts.length ≤ 100000) :
    Calls Try.prog 21 #[.pointer (some ⟨a, 0, none⟩), .pointer (some ⟨b, 0, none⟩), .int .i64 n] w (Tells (.bool true) w) := by
  have HA := Lib.hid h
  have HA' := Lib.hid h'
  have HS := Lib.hid hs
  have HB : Hid (Below w.heap.size w w) := Lib.hid (Below.refl _ _)
  have HO := Lib.hid ho
  have HC := Lib.hid hc
  have HL := Lib.hid hl
  have HM := Lib.hid hm
  have HBB := Lib.hid hb
  have HBB' := Lib.hid hb'
  have HPL := Lib.hid hpl
  clear h h' hs ho hc hl hm hb hb' hpl
  go_enter Try.func21, Try.ntmps21
  go_wp2_with fail
  go_loopw [7] (fun i wl => ∃ (k : Nat), i = .int .i64 k ∧ ((k : Int) ≤ n ∨ k = 0) ∧ Below w.heap.size w wl) (fun i _ => n.toNat - (intOf i).toNat)
  case atStart => exact ⟨0, rfl, .inr rfl, HB.out⟩
  case round =>
    clear HB
    obtain ⟨k, rfl, hk, hB⟩ := hrel
    have HB := Lib.hid hB
    clear hB
    by_cases hlt : (k : Int) < n
    · go_wp2_with fail
      refine (Out_any (HA.out.later HB.out) (k : Int) HO.out).mono ?_
      intro e wa HN
      obtain ⟨sa, sc, rfl, hI, hba⟩ := newInts_at HN
      have HBA := Lib.hid (HB.out.trans (hba.mono HB.out.size))
      have HIA := Lib.hid hI
      clear HN hI hba
      go_wp2_with fail
      refine (Out_any (HA'.out.later HBA.out) (k : Int) (by rw [← HS.out.out]; exact HO.out)).mono ?_
      intro e wb HN
      obtain ⟨sb, sd, rfl, hI2, hbb⟩ := newInts_at HN
      replace HIA := Lib.hid (HIA.out.below hbb)
      replace HB := Lib.hid (HBA.out.trans (hbb.mono HBA.out.size))
      have HIB := Lib.hid hI2
      clear HN hI2 hbb HBA
      go_wp2_with fail
      rw [← outL_same HS.out.out (k : Int)] at HIB
      try rw [← outL_same HS.out.out (k : Int)]
      refine (sameints_yes HIA.out HIB.out (by have := outL_len HO.out (k : Int); omega)).mono ?_
      rintro e wc ⟨rfl, nn, rfl⟩
      replace HB := Lib.hid (below_dr (n := nn) HB.out)
      clear HIA HIB
      go_wp2
      go_roundw
      case rel => exact ⟨k + 1, by go_num, .inl (by omega), HB.out⟩
      case measure => simp [intOf]; omega
    · go_wp2_with fail
      refine (Counters_any (HA.out.later HB.out) HC.out).mono ?_
      intro e wa HN
      obtain ⟨sa, sc, rfl, hI, hba⟩ := newInts_at HN
      have HBA := Lib.hid (HB.out.trans (hba.mono HB.out.size))
      have HIA := Lib.hid hI
      clear HN hI hba
      go_wp2_with fail
      refine (Counters_any (HA'.out.later HBA.out) (by rw [← HS.out.cs]; exact HC.out)).mono ?_
      intro e wb HN
      obtain ⟨sb, sd, rfl, hI2, hbb⟩ := newInts_at HN
      replace HIA := Lib.hid (HIA.out.below hbb)
      replace HB := Lib.hid (HBA.out.trans (hbb.mono HBA.out.size))
      have HIB := Lib.hid hI2
      clear HN hI2 hbb HBA
      go_wp2_with fail
      rw [← HS.out.cs] at HIB
      try rw [← HS.out.cs]
      refine (sameints_yes HIA.out HIB.out (by have := HC.out; omega)).mono ?_
      rintro e wc ⟨rfl, nn, rfl⟩
      replace HB := Lib.hid (below_dr (n := nn) HB.out)
      clear HIA HIB
      go_wp2_with fail
      refine (Count_any (HA.out.later HB.out) HL.out).mono ?_
      intro e wa HN
      obtain ⟨sa, sc, rfl, hI, hba⟩ := newInts_at HN
      have HBA := Lib.hid (HB.out.trans (hba.mono HB.out.size))
      have HIA := Lib.hid hI
      clear HN hI hba
      go_wp2_with fail
      refine (Count_any (HA'.out.later HBA.out) (by rw [← HS.out.lines]; exact HL.out)).mono ?_
      intro e wb HN
      obtain ⟨sb, sd, rfl, hI2, hbb⟩ := newInts_at HN
      replace HIA := Lib.hid (HIA.out.below hbb)
      replace HB := Lib.hid (HBA.out.trans (hbb.mono HBA.out.size))
      have HIB := Lib.hid hI2
      clear HN hI2 hbb HBA
      go_wp2_with fail
      rw [← cntL_same HS.out.lines] at HIB
      try rw [← cntL_same HS.out.lines]
      refine (sameints_yes HIA.out HIB.out (by have := HL.out; rw [cntL_len]; omega)).mono ?_
      rintro e wc ⟨rfl, nn, rfl⟩
      replace HB := Lib.hid (below_dr (n := nn) HB.out)
      clear HIA HIB
      go_wp2_with fail
      refine (Memory_any (HA.out.later HB.out) HM.out).mono ?_
      intro e wa HN
      obtain ⟨sa, sc, rfl, hI, hba⟩ := newInts_at HN
      have HBA := Lib.hid (HB.out.trans (hba.mono HB.out.size))
      have HIA := Lib.hid hI
      clear HN hI hba
      go_wp2_with fail
      refine (Memory_any (HA'.out.later HBA.out) (by rw [← HS.out.mem]; exact HM.out)).mono ?_
      intro e wb HN
      obtain ⟨sb, sd, rfl, hI2, hbb⟩ := newInts_at HN
      replace HIA := Lib.hid (HIA.out.below hbb)
      replace HB := Lib.hid (HBA.out.trans (hbb.mono HBA.out.size))
      have HIB := Lib.hid hI2
      clear HN hI2 hbb HBA
      go_wp2_with fail
      rw [← HS.out.mem] at HIB
      try rw [← HS.out.mem]
      refine (sameints_yes HIA.out HIB.out (by have := HM.out; omega)).mono ?_
      rintro e wc ⟨rfl, nn, rfl⟩
      replace HB := Lib.hid (below_dr (n := nn) HB.out)
      clear HIA HIB
      go_wp2_with fail
      refine (mFired_any (HA.out.later HB.out) HBB.out).mono ?_
      intro e wa HN
      obtain ⟨sa, sc, rfl, hI, hba⟩ := newInts_at HN
      have HBA := Lib.hid (HB.out.trans (hba.mono HB.out.size))
      have HIA := Lib.hid hI
      clear HN hI hba
      go_wp2_with fail
      refine (mFired_any (HA'.out.later HBA.out) HBB'.out).mono ?_
      intro e wb HN
      obtain ⟨sb, sd, rfl, hI2, hbb⟩ := newInts_at HN
      replace HIA := Lib.hid (HIA.out.below hbb)
      replace HB := Lib.hid (HBA.out.trans (hbb.mono HBA.out.size))
      have HIB := Lib.hid hI2
      clear HN hI2 hbb HBA
      go_wp2_with fail
      rw [← firL_same HS.out.bods] at HIB
      try rw [← firL_same HS.out.bods]
      refine (sameints_yes HIA.out HIB.out (by have := HPL.out; rw [firL_len, HBB.out]; omega)).mono ?_
      rintro e wc ⟨rfl, nn, rfl⟩
      replace HB := Lib.hid (below_dr (n := nn) HB.out)
      clear HIA HIB
      go_wp2_with fail
      refine (Periods_any (HA.out.later HB.out)).mono ?_
      rintro e _ ⟨rfl, rfl⟩
      go_wp2_with fail
      refine (Periods_any (HA'.out.later HB.out)).mono ?_
      rintro e _ ⟨rfl, rfl⟩
      rw [← HS.out.periods]
      go_wp2
      go_ret
      exact ⟨rfl, HB.out⟩
end Go.Proofs.Ytnnnpippekpibaa

/- HeavyProgram. -/
namespace Go.Proofs.Ytnnnpippekpibaa
open Go.RowKit

def ppSum (l : List GPart) : Nat := (l.map fun a => a.params.length).sum
def lsSum (l : List GLine) : Nat := (l.map fun a => a.start.length).sum
theorem ppSum_take {l : List GPart} {j : Nat} (h : j < l.length) : ppSum (l.take (j + 1)) = ppSum (l.take j) + l[j].params.length := by
  rw [ppSum, ppSum, List.take_succ_eq_append_getElem h, List.map_append, List.sum_append]; simp
theorem lsSum_take {l : List GLine} {j : Nat} (h : j < l.length) : lsSum (l.take (j + 1)) = lsSum (l.take j) + l[j].start.length := by
  rw [lsSum, lsSum, List.take_succ_eq_append_getElem h, List.map_append, List.sum_append]; simp
def headP (p : GProg) : Nat := p.parts.length + p.lines.length + p.ops.length
/-- no part of it is great -/
structure GreatP (p : GProg) : Prop where
  parts : p.parts.length ≤ 17600000000000
  lines : p.lines.length ≤ 17600000000000
  ops : p.ops.length ≤ 17600000000000
  params : ∀ a ∈ p.parts, a.params.length ≤ 17600000000000
  starts : ∀ e ∈ p.lines, e.start.length ≤ 17600000000000
def HeavyPRet (w : World) (p : GProg) (e : Ending) (w' : World) : Prop := ∃ b, e = .returned (.bool b) ∧ (b = false → headP p + ppSum p.parts + lsSum p.lines ≤ 1048576) ∧ Below w.heap.size w w'


set_option maxRecDepth 100000 in
set_option maxHeartbeats 1000000 in
theorem heavy_prog (w : World) (vg : Value) (g : GProg) (hg : HasProg w vg g) (hgr : GreatP g) : Calls Try.prog 14 #[vg] w (HeavyPRet w g) := by
  obtain ⟨va, ve, vo, rfl, ra, re, ro⟩ := hg
  obtain ⟨aa, ac, rfl⟩ := ra.slice
  obtain ⟨ae, ec, rfl⟩ := re.slice
  obtain ⟨ao, oc, rfl⟩ := ro.slice
  have hb1 := below_alloc w (.cells #[.int .i64 g.memory, .int .i64 g.counters, .int .i64 g.ins, .int .i64 g.outs, .slice aa g.parts.length ac, .slice ae g.lines.length ec, .slice ao g.ops.length oc] 30)
  have hG := heap_alloc_new w (.cells #[.int .i64 g.memory, .int .i64 g.counters, .int .i64 g.ins, .int .i64 g.outs, .slice aa g.parts.length ac, .slice ae g.lines.length ec, .slice ao g.ops.length oc] 30)
  generalize hW : w.alloc (.cells #[.int .i64 g.memory, .int .i64 g.counters, .int .i64 g.ins, .int .i64 g.outs, .slice aa g.parts.length ac, .slice ae g.lines.length ec, .slice ao g.ops.length oc] 30) = W at *
  have y1 := cells_row _ _ hG 4 _ rfl
  have y2 := cells_row _ _ hG 5 _ rfl
  have y3 := cells_row _ _ hG 6 _ rfl
  have RA := Lib.hid (ra.below (tail_steady _ _) hb1)
  have RE := Lib.hid (re.below (tail_steady _ _) hb1)
  have HB := Lib.hid hb1
  have GR := Lib.hid hgr
  have s1 := hgr.parts
  have s2 := hgr.lines
  have s3 := hgr.ops
  obtain ⟨A, hA⟩ : ∃ x, headP g = x := ⟨_, rfl⟩
  have hA2 : A = g.parts.length + g.lines.length + g.ops.length := hA.symm
  have HA := Lib.hid hA
  have e1 : IntKind.i64.wrap ((g.parts.length : Int) + g.lines.length) = (g.parts.length : Int) + g.lines.length := IntWalk.i64_in _ (by omega)
  have e2 : IntKind.i64.wrap ((g.parts.length : Int) + g.lines.length + g.ops.length) = (A : Int) := by rw [IntWalk.i64_in _ (by omega)]; omega
  clear ra re ro hgr hG hb1 hA
  go_enter Try.func14, Try.ntmps14
  go_wp2_with fail
  clear e1 e2 y3 hW
  obtain ⟨n, hn⟩ : ∃ x, g.parts.length = x := ⟨_, rfl⟩
  have HN := Lib.hid hn
  rw [hn] at s1 hA2 y1 y2 RA ⊢
  clear hn
  obtain ⟨m, hm⟩ : ∃ x, g.lines.length = x := ⟨_, rfl⟩
  have HM := Lib.hid hm
  rw [hm] at s2 hA2 y1 y2 RE ⊢
  clear hm
  go_loopw [3, 4] (fun x i wr => ∃ (k : Nat), k ≤ n ∧ i = .int .i64 k ∧ x = .int .i64 ((A + ppSum (g.parts.take k) : Nat) : Int) ∧ A + ppSum (g.parts.take k) ≤ 100000000000000 ∧ wr = W) (fun _ i _ => n - (intOf i).toNat)
  case atStart => exact ⟨0, Nat.zero_le _, rfl, by simp [ppSum]; omega, by simp [ppSum]; omega, rfl⟩
  case round =>
    obtain ⟨k, hk, rfl, rfl, hle, hWW⟩ := hrel
    obtain rfl := hWW.symm
    by_cases hgo : k < n ∧ A + ppSum (g.parts.take k) ≤ 1048576
    · obtain ⟨hlt, hsm⟩ := hgo
      have hlti : (k : Int) < n := by omega
      have hlt2 : k < g.parts.length := by have := HN.out; omega
      have hsmi : ((A + ppSum (g.parts.take k) : Nat) : Int) ≤ 1048576 := by omega
      obtain ⟨b0, off, rfl, hcap, hb0, hrec⟩ := RA.out.at (by omega)
      obtain ⟨cs, hcs, hPR, hcl⟩ := hrec k hlt2
      obtain ⟨xs, rfl, hst⟩ := hPR
      have c2 : W.cell? ⟨b0, off + k * 2 + 1, none⟩ = some xs := hcl 1 (by omega)
      obtain ⟨sa, sc, hxs⟩ := Ints.slice hst
      subst hxs
      have hcapi : (n : Int) ≤ ac := by have := HN.out; omega
      have hpk := GR.out.params _ (List.getElem_mem hlt2)
      have hT := ppSum_take hlt2
      have hwr : IntKind.i64.wrap (((A + ppSum (g.parts.take k) : Nat) : Int) + (g.parts[k].params.length : Int)) = ((A + ppSum (g.parts.take (k + 1)) : Nat) : Int) := by rw [IntWalk.i64_in _ (by omega)]; omega
      obtain ⟨N, hN⟩ : ∃ x, A + ppSum (g.parts.take k) = x := ⟨_, rfl⟩
      obtain ⟨N2, hN2⟩ : ∃ x, A + ppSum (g.parts.take (k + 1)) = x := ⟨_, rfl⟩
      have hle2 : N2 ≤ 100000000000000 := by omega
      have HN2 := Lib.hid hN2
      rw [hN, hN2] at hwr
      rw [hN] at hsmi ⊢
      clear hcl hcs hrec hst hpk hT hN hN2 hle hsm
      generalize g.parts[k].params.length = z at *
      have hwr := Lib.hid hwr
      go_wp2_with fail
      go_roundw
      case rel => exact ⟨k + 1, hlt, by go_num, by rw [HN2.out], by rw [HN2.out]; exact hle2, by trivial⟩
      case measure => simp [intOf]; omega
    · obtain ⟨N, hN⟩ : ∃ x, A + ppSum (g.parts.take k) = x := ⟨_, rfl⟩
      have HE : Hid (N ≤ 1048576 → N = A + ppSum g.parts) := Lib.hid fun h => by
        have : k = n := by omega
        rw [← hN, List.take_of_length_le (by have := HN.out; omega)]
      rw [hN] at hle ⊢
      have hgo2 : k < n → ¬ N ≤ 1048576 := fun h h2 => hgo ⟨h, by omega⟩
      clear hN hgo RA
      by_cases hlt : k < n
      · have hlti : (k : Int) < n := by omega
        have hsmi : ¬ (N : Int) ≤ 1048576 := by have := hgo2 hlt; omega
        clear hgo2 hlt
        go_wp2_with fail
        go_loopw [3, 5] (fun x i wr => ∃ (k : Nat), k ≤ m ∧ i = .int .i64 k ∧ x = .int .i64 ((N + lsSum (g.lines.take k) : Nat) : Int) ∧ N + lsSum (g.lines.take k) ≤ 300000000000000 ∧ wr = W) (fun _ i _ => m - (intOf i).toNat)
        case atStart => exact ⟨0, Nat.zero_le _, rfl, by simp [lsSum], by simp [lsSum]; omega, rfl⟩
        case round =>
          obtain ⟨k, hk, rfl, rfl, hle, hWW⟩ := hrel
          obtain rfl := hWW.symm
          by_cases hgo : k < m ∧ N + lsSum (g.lines.take k) ≤ 1048576
          · obtain ⟨hlt, hsm⟩ := hgo
            have hlti : (k : Int) < m := by omega
            have hlt2 : k < g.lines.length := by have := HM.out; omega
            have hsmi : ((N + lsSum (g.lines.take k) : Nat) : Int) ≤ 1048576 := by omega
            obtain ⟨b0, off, rfl, hcap, hb0, hrec⟩ := RE.out.at (by omega)
            obtain ⟨cs, hcs, hPR, hcl⟩ := hrec k hlt2
            obtain ⟨xs, rfl, hst⟩ := hPR
            have c4 : W.cell? ⟨b0, off + k * 3 + 2, none⟩ = some xs := hcl 2 (by omega)
            obtain ⟨sa, sc, hxs⟩ := Ints.slice hst
            subst hxs
            have hcapi : (m : Int) ≤ ec := by have := HM.out; omega
            have hpk := GR.out.starts _ (List.getElem_mem hlt2)
            have hT := lsSum_take hlt2
            have hwr : IntKind.i64.wrap (((N + lsSum (g.lines.take k) : Nat) : Int) + (g.lines[k].start.length : Int)) = ((N + lsSum (g.lines.take (k + 1)) : Nat) : Int) := by rw [IntWalk.i64_in _ (by omega)]; omega
            obtain ⟨N1, hN⟩ : ∃ x, N + lsSum (g.lines.take k) = x := ⟨_, rfl⟩
            obtain ⟨N2, hN2⟩ : ∃ x, N + lsSum (g.lines.take (k + 1)) = x := ⟨_, rfl⟩
            have hle2 : N2 ≤ 300000000000000 := by omega
            have HN2 := Lib.hid hN2
            rw [hN, hN2] at hwr
            rw [hN] at hsmi ⊢
            clear hcl hcs hrec hst hpk hT hN hN2 hle hsm
            generalize g.lines[k].start.length = z at *
            have hwr := Lib.hid hwr
            go_wp2_with fail
            go_roundw
            case rel => exact ⟨k + 1, hlt, by go_num, by rw [HN2.out], by rw [HN2.out]; exact hle2, by trivial⟩
            case measure => simp [intOf]; omega
          · obtain ⟨N1, hN⟩ : ∃ x, N + lsSum (g.lines.take k) = x := ⟨_, rfl⟩
            have HE2 : Hid (N1 ≤ 1048576 → N1 = A + ppSum g.parts + lsSum g.lines) := Lib.hid fun h => by
              have e1 : k = m := by omega
              have e2 := HE.out (by omega)
              rw [← hN, e2, List.take_of_length_le (by have := HM.out; omega)]
            rw [hN] at hle ⊢
            have hgo2 : k < m → ¬ N1 ≤ 1048576 := fun h h2 => hgo ⟨h, by omega⟩
            clear hN hgo RE
            by_cases hbig : N1 ≤ 1048576
            · have hlti : ¬ (k : Int) < m := by have : ¬ k < m := fun h => hgo2 h hbig; omega
              have hbi : ¬ (1048576 : Int) < N1 := by omega
              have HBG := Lib.hid hbig
              clear hgo2 hbig
              go_wp2
              go_ret
              exact ⟨_, rfl, fun _ => by rw [HA.out, ← HE2.out HBG.out]; exact HBG.out, HB.out⟩
            · have hbi : (1048576 : Int) < N1 := by omega
              have hsm2 : ¬ (N1 : Int) ≤ 1048576 := by omega
              clear hgo2 hbig
              by_cases hlt : k < m
              · have hlti : (k : Int) < m := by omega
                clear hlt
                go_wp2
                go_ret
                exact ⟨_, rfl, (fun h => by cases h), HB.out⟩
              · have hlti : ¬ (k : Int) < m := by omega
                clear hlt
                go_wp2
                go_ret
                exact ⟨_, rfl, (fun h => by cases h), HB.out⟩
      · have hlti : ¬ (k : Int) < n := by omega
        clear hgo2 hlt
        go_wp2_with fail
        go_loopw [3, 5] (fun x i wr => ∃ (k : Nat), k ≤ m ∧ i = .int .i64 k ∧ x = .int .i64 ((N + lsSum (g.lines.take k) : Nat) : Int) ∧ N + lsSum (g.lines.take k) ≤ 300000000000000 ∧ wr = W) (fun _ i _ => m - (intOf i).toNat)
        case atStart => exact ⟨0, Nat.zero_le _, rfl, by simp [lsSum], by simp [lsSum]; omega, rfl⟩
        case round =>
          obtain ⟨k, hk, rfl, rfl, hle, hWW⟩ := hrel
          obtain rfl := hWW.symm
          by_cases hgo : k < m ∧ N + lsSum (g.lines.take k) ≤ 1048576
          · obtain ⟨hlt, hsm⟩ := hgo
            have hlti : (k : Int) < m := by omega
            have hlt2 : k < g.lines.length := by have := HM.out; omega
            have hsmi : ((N + lsSum (g.lines.take k) : Nat) : Int) ≤ 1048576 := by omega
            obtain ⟨b0, off, rfl, hcap, hb0, hrec⟩ := RE.out.at (by omega)
            obtain ⟨cs, hcs, hPR, hcl⟩ := hrec k hlt2
            obtain ⟨xs, rfl, hst⟩ := hPR
            have c4 : W.cell? ⟨b0, off + k * 3 + 2, none⟩ = some xs := hcl 2 (by omega)
            obtain ⟨sa, sc, hxs⟩ := Ints.slice hst
            subst hxs
            have hcapi : (m : Int) ≤ ec := by have := HM.out; omega
            have hpk := GR.out.starts _ (List.getElem_mem hlt2)
            have hT := lsSum_take hlt2
            have hwr : IntKind.i64.wrap (((N + lsSum (g.lines.take k) : Nat) : Int) + (g.lines[k].start.length : Int)) = ((N + lsSum (g.lines.take (k + 1)) : Nat) : Int) := by rw [IntWalk.i64_in _ (by omega)]; omega
            obtain ⟨N1, hN⟩ : ∃ x, N + lsSum (g.lines.take k) = x := ⟨_, rfl⟩
            obtain ⟨N2, hN2⟩ : ∃ x, N + lsSum (g.lines.take (k + 1)) = x := ⟨_, rfl⟩
            have hle2 : N2 ≤ 300000000000000 := by omega
            have HN2 := Lib.hid hN2
            rw [hN, hN2] at hwr
            rw [hN] at hsmi ⊢
            clear hcl hcs hrec hst hpk hT hN hN2 hle hsm
            generalize g.lines[k].start.length = z at *
            have hwr := Lib.hid hwr
            go_wp2_with fail
            go_roundw
            case rel => exact ⟨k + 1, hlt, by go_num, by rw [HN2.out], by rw [HN2.out]; exact hle2, by trivial⟩
            case measure => simp [intOf]; omega
          · obtain ⟨N1, hN⟩ : ∃ x, N + lsSum (g.lines.take k) = x := ⟨_, rfl⟩
            have HE2 : Hid (N1 ≤ 1048576 → N1 = A + ppSum g.parts + lsSum g.lines) := Lib.hid fun h => by
              have e1 : k = m := by omega
              have e2 := HE.out (by omega)
              rw [← hN, e2, List.take_of_length_le (by have := HM.out; omega)]
            rw [hN] at hle ⊢
            have hgo2 : k < m → ¬ N1 ≤ 1048576 := fun h h2 => hgo ⟨h, by omega⟩
            clear hN hgo RE
            by_cases hbig : N1 ≤ 1048576
            · have hlti : ¬ (k : Int) < m := by have : ¬ k < m := fun h => hgo2 h hbig; omega
              have hbi : ¬ (1048576 : Int) < N1 := by omega
              have HBG := Lib.hid hbig
              clear hgo2 hbig
              go_wp2
              go_ret
              exact ⟨_, rfl, fun _ => by rw [HA.out, ← HE2.out HBG.out]; exact HBG.out, HB.out⟩
            · have hbi : (1048576 : Int) < N1 := by omega
              have hsm2 : ¬ (N1 : Int) ≤ 1048576 := by omega
              clear hgo2 hbig
              by_cases hlt : k < m
              · have hlti : (k : Int) < m := by omega
                clear hlt
                go_wp2
                go_ret
                exact ⟨_, rfl, (fun h => by cases h), HB.out⟩
              · have hlti : ¬ (k : Int) < m := by omega
                clear hlt
                go_wp2
                go_ret
                exact ⟨_, rfl, (fun h => by cases h), HB.out⟩
end Go.Proofs.Ytnnnpippekpibaa

/- LentProgram. -/
namespace Go.Proofs.Ytnnnpippekpibaa
open Go.RowKit

theorem info_Part : (Try.prog.info? 81).map (fun i => (i.zero, i.size, i.bytes)) = some (some (.agg #[.int .u8 0, .slice none 0 0]), 2, 32) := by kernel_rfl
theorem info_Line : (Try.prog.info? 76).map (fun i => (i.zero, i.size, i.bytes)) = some (some (.agg #[.int .i64 0, .int .i64 0, .slice none 0 0]), 3, 40) := by kernel_rfl
theorem info_Op : (Try.prog.info? 43).map (fun i => (i.zero, i.size, i.bytes)) = some (some (.agg #[.int .u8 0, .int .i64 0, .int .i64 0]), 3, 24) := by kernel_rfl
def partMark : GPart := ⟨99, []⟩
def lineMark : GLine := ⟨-7770777, 0, []⟩
def opMark : GOp := ⟨0, -7770777, 0⟩

def LentProgRet (w : World) (g : GProg) (e : Ending) (w' : World) : Prop := ∃ v, e = .returned v ∧ HasProg w' v g ∧ Below w.heap.size w w'
/-- a slice grown, and stored into cell i of block B -/
theorem Own.into {w w2 : World} {o : Col} {c e ty sz n n' B i : Nat} {t : TypeId} {cs : Array Value} {v v' : Value} {xs xs' : List Value} (h : Own w o c ty sz v n xs) (hB : Blk w o e B t cs) (hce : c ≠ e) (hi : i < cs.size)
    (k1 : w2.ownsRow 0 ty sz v' n' xs') (k2 : Mods (fun b => v.ownBlock = some b) w w2) (k4 : v'.ownBlock = v.ownBlock ∨ ∀ b, v'.ownBlock = some b → w.heap.size ≤ b) :
    w2.cell? ⟨B, i, none⟩ = some cs[i] ∧ w2.frozen? ⟨B, i, none⟩ = false ∧ Turn o (ext o w.heap.size c) (fun x => x = c ∨ x = e) w (w2.setCell ⟨B, i, none⟩ v') ∧ Own (w2.setCell ⟨B, i, none⟩ v') (ext o w.heap.size c) c ty sz v' n' xs' ∧ Blk (w2.setCell ⟨B, i, none⟩ v') (ext o w.heap.size c) e B t (cs.setIfInBounds i v') := by
  have T : Turn o (ext o w.heap.size c) (fun x => x = c) w w2 := Turn.of_mods o c k2 (fun b _ hb => h.2 b hb)
  have b2 := hB.turn T (fun e => hce e.symm)
  obtain ⟨b3, T3⟩ := b2.set i v'
  have hM := hB.lt
  have hMc : o B = e := hB.2
  have hvM : v'.ownBlock ≠ some B := fun e => by
    rcases k4 with k4 | k4
    · rw [k4] at e
      have := h.2 B e
      omega
    · have := k4 B e; omega
  refine ⟨b2.cell i _ (by simp [hi]), b2.frozen i, (T.mono (D := fun x => x = c ∨ x = e) (fun x e => .inl e)).trans T3 (fun x e => .inr e), ⟨ownsRow_setCell_other k1 hvM v', fun b hb => ?_⟩, b3⟩
  rcases k4 with k4 | k4
  · rw [k4] at hb
    exact (ext_old (h.1.lt b hb).2).trans (h.2 b hb)
  · exact ext_new (k4 b hb)
theorem HasRow.front {w : World} {ao : Option Addr} {n cap : Nat} {l m : List GOp} (h : HasRow w (.slice ao n cap) (l ++ m)) : HasRow w (.slice ao l.length cap) l := by
  obtain ⟨ao', cap', e, h1, h2, h3⟩ := h
  cases e
  have hl : l.length ≤ (l ++ m).length := by simp
  refine ⟨ao, cap, rfl, fun e => by have := h1 e; omega, ⟨Nat.le_trans hl h2.1, h2.2⟩, fun ad e j u hu => h3 ad e j u ?_⟩
  have hj : j < (opsV l).length := by
    rcases Nat.lt_or_ge j (opsV l).length with h | h
    · exact h
    · rw [List.getElem?_eq_none h] at hu; cases hu
  rw [show opsV (l ++ m) = opsV l ++ opsV m by simp [opsV], List.getElem?_append_left hj]
  exact hu
theorem HasRow.newsR {w : World} {ao : Option Addr} {n cap : Nat} {l : List GOp} (h : HasRow w (.slice ao n cap) l) : (ao = none → n = 0) ∧ ∀ ad, ao = some ad → ∀ j u, (opsV l)[j]? = some u → w.cell? (ad.add j) = some u := by
  obtain ⟨ao', cap', e, h1, h2, h3⟩ := h
  cases e
  exact ⟨h1, h3⟩

set_option maxRecDepth 100000 in
set_option maxHeartbeats 4000000 in
theorem lentprog_any (w : World) (vg : Value) (g : GProg) (hg : HasProg w vg g) (hgr : headP g + ppSum g.parts + lsSum g.lines ≤ 1048576) (hps : ∀ a ∈ g.parts, a.params.length ≤ 17600000000000) (hes : ∀ e ∈ g.lines, e.start.length ≤ 17600000000000) : Calls Try.prog 16 #[vg] w (LentProgRet w g) := by
  obtain ⟨va, ve, vo, rfl, ra, re, ro⟩ := hg
  obtain ⟨aa, ac, rfl⟩ := ra.slice
  obtain ⟨ae, ec, rfl⟩ := re.slice
  obtain ⟨ao, oc, rfl⟩ := ro.slice
  have RA := Lib.hid ra
  have RE := Lib.hid re
  have RO := Lib.hid ro
  have HPS := Lib.hid hps
  have HES := Lib.hid hes
  have hsA : g.parts.length ≤ 1048576 := by unfold headP at hgr; omega
  have hsE : g.lines.length ≤ 1048576 := by unfold headP at hgr; omega
  have hsO : g.ops.length ≤ 1048576 := by unfold headP at hgr; omega
  clear ra re ro hps hes hgr
  have hb1 := below_alloc w (.cells #[.int .i64 g.memory, .int .i64 g.counters, .int .i64 g.ins, .int .i64 g.outs, .slice aa g.parts.length ac, .slice ae g.lines.length ec, .slice ao g.ops.length oc] 30)
  have T1 := Turn.of_below (fun _ => 0) 9 hb1
  have hG : Blk _ (ext (fun _ => 0) w.heap.size 9) 9 _ _ _ := ⟨heap_alloc_new w (.cells #[.int .i64 g.memory, .int .i64 g.counters, .int .i64 g.ins, .int .i64 g.outs, .slice aa g.parts.length ac, .slice ae g.lines.length ec, .slice ao g.ops.length oc] 30), ext_new (Nat.le_refl _)⟩
  have K1 := (Kept.start w).turn T1 (fun h => h)
  generalize hW1 : w.alloc (.cells #[.int .i64 g.memory, .int .i64 g.counters, .int .i64 g.ins, .int .i64 g.outs, .slice aa g.parts.length ac, .slice ae g.lines.length ec, .slice ao g.ops.length oc] 30) = W1 at *
  have hs1 : W1.heap.size = w.heap.size + 1 := by rw [← hW1]; simp
  have T2 := Turn.of_below (ext (fun _ => 0) w.heap.size 9) 9 (below_alloc W1 (.cells progZ 30))
  have hR : Blk _ (ext (ext (fun _ => 0) w.heap.size 9) W1.heap.size 9) 9 _ _ _ := ⟨heap_alloc_new W1 (.cells progZ 30), ext_new (Nat.le_refl _)⟩
  generalize ext (fun _ => 0) w.heap.size 9 = q0 at *
  have K2 := K1.turn T2 (fun h => h)
  have hG2 := hG.turn T2 (fun h => h)
  generalize hW2 : W1.alloc (.cells progZ 30) = W2 at *
  have hs2 : W2.heap.size = w.heap.size + 2 := by rw [← hW2, World.size_alloc, hs1]
  generalize ext q0 W1.heap.size 9 = q1 at *
  rw [hs1] at hR
  have T3 := Turn.of_below q1 3 (below_alloc W2 (.cells #[.int .i64 g.memory, .int .i64 g.counters, .int .i64 g.ins, .int .i64 g.outs, .slice none 0 0, .slice none 0 0, .slice none 0 0] 30))
  have hO : Blk _ (ext q1 W2.heap.size 3) 3 _ _ _ := ⟨heap_alloc_new W2 (.cells #[.int .i64 g.memory, .int .i64 g.counters, .int .i64 g.ins, .int .i64 g.outs, .slice none 0 0, .slice none 0 0, .slice none 0 0] 30), ext_new (Nat.le_refl _)⟩
  have HK := Lib.hid (K2.turn T3 (fun h => h))
  have HGB := Lib.hid (hG2.turn T3 (fun h => h))
  have HR := Lib.hid (hR.turn T3 (fun h => h))
  have z0 := hG2.cell 0 _ rfl
  have z1 := hG2.cell 1 _ rfl
  have z2 := hG2.cell 2 _ rfl
  have z3 := hG2.cell 3 _ rfl
  rw [hs2] at hO HK HGB HR
  have HO := Lib.hid hO
  generalize ext q1 (w.heap.size + 2) 3 = q at *
  clear hb1 T1 hG K1 T2 hR K2 hG2 T3 hO
  go_enter Try.func16, Try.ntmps16
  go_wp2_with fail
  clear hW1 hs1 hW2 hs2 z0 z1 z2 z3
  obtain ⟨n, hn⟩ : ∃ x, g.parts.length = x := ⟨_, rfl⟩
  have HNA := Lib.hid hn
  rw [hn] at hsA HGB ⊢
  clear hn
  go_loopw [4] (fun i wl => ∃ (j : Nat) (q : Col) (v : Value) (ps : List (GPart × Value)), j ≤ n ∧ i = .int .i64 j ∧ Kept w.heap.size q w wl ∧ Blk wl q 9 w.heap.size 30 #[.int .i64 g.memory, .int .i64 g.counters, .int .i64 g.ins, .int .i64 g.outs, .slice aa n ac, .slice ae g.lines.length ec, .slice ao g.ops.length oc] ∧ Blk wl q 9 (w.heap.size + 1) 30 progZ ∧ Blk wl q 3 (w.heap.size + 2) 30 #[.int .i64 g.memory, .int .i64 g.counters, .int .i64 g.ins, .int .i64 g.outs, v, .slice none 0 0, .slice none 0 0] ∧ TailAt partHd GPart.params wl q 4 5 81 2 v ps ∧ ps.map Prod.fst = g.parts.take j) (fun i _ => n - (intOf i).toNat)
  case atStart => exact ⟨0, _, _, [], Nat.zero_le _, rfl, HK.out, HGB.out, HR.out, HO.out, TailAt.nil, rfl⟩
  case round =>
    clear HK HGB HR HO
    obtain ⟨j, q, v, ps, hj, rfl, hK, hG, hR, hO, hT, hps⟩ := hrel
    have HK := Lib.hid hK
    have HGB := Lib.hid hG
    have HR := Lib.hid hR
    have HO := Lib.hid hO
    have HT := Lib.hid hT
    have HPJ := Lib.hid hps
    clear hK hG hR hO hT hps
    by_cases hlt : j < n
    · have hlti : (j : Int) < n := by omega
      have hlt2 : j < g.parts.length := by have := HNA.out; omega
      obtain ⟨b0, off, rfl, hcap, hb0, hrec⟩ := RA.out.at (by omega)
      obtain ⟨cs, hcs, hPR, hcl⟩ := hrec j hlt2
      obtain ⟨xs, rfl, hst⟩ := hPR
      have c0 := cell_later HK.out.below (hcl 0 (by omega))
      have c1 := cell_later HK.out.below (hcl 1 (by omega))
      simp [partHd] at c0 c1
      have hcapi : (n : Int) ≤ ac := by have := HNA.out; omega
      have hst2 : Has w xs (ivs g.parts[j].params) := hst
      obtain ⟨sa, sc, hxs⟩ := Ints.slice hst2
      subst hxs
      have HST := Lib.hid hst2
      have hpl := HPS.out _ (List.getElem_mem hlt2)
      have HTK : Hid (g.parts.take (j + 1) = g.parts.take j ++ [g.parts[j]]) := Lib.hid (List.take_succ_eq_append_getElem hlt2)
      clear hcl hcs hrec hst hst2
      generalize g.parts[j] = a at *
      have y := HGB.out.cell 4 _ rfl
      have hbX := below_alloc wr (.cells #[.int .u8 a.tag, .slice sa a.params.length sc] 81)
      have TX := Turn.of_below q 8 hbX
      have HX : Hid (Blk _ (ext q wr.heap.size 8) 8 _ _ _) := Lib.hid ⟨heap_alloc_new wr (.cells #[.int .u8 a.tag, .slice sa a.params.length sc] 81), ext_new (Nat.le_refl _)⟩
      have HK2 := Lib.hid (HK.out.turn TX (fun h => h))
      have HG2 := Lib.hid (HGB.out.turn TX (fun h => h))
      have HR2 := Lib.hid (HR.out.turn TX (fun h => h))
      have HO2 := Lib.hid (HO.out.turn TX (fun h => h))
      have HT2 := Lib.hid (HT.out.turn TX (fun h => h) (fun h => h))
      have x4 := HX.out.cell 1 _ rfl
      clear hbX TX HK HGB HR HO HT
      go_wp2_with fail
      refine (lent_has (HST.out.below HK2.out.below) hpl).mono ?_
      rintro e w5 ⟨gy, cy, rfl, hy, hgy, hb5⟩
      have T5 := Turn.of_below (ext q wr.heap.size 8) 5 hb5
      have HY5 := Lib.hid (Vals.recol hy (ext_new (o := ext q wr.heap.size 8) (c := 5) hgy))
      have HK5 := Lib.hid (HK2.out.turn T5 (fun h => h))
      have HG5 := Lib.hid (HG2.out.turn T5 (fun h => h))
      have HR5 := Lib.hid (HR2.out.turn T5 (fun h => h))
      have HO5 := Lib.hid (HO2.out.turn T5 (fun h => h))
      have HT5 := Lib.hid (HT2.out.turn T5 (fun h => h) (fun h => h))
      have hX5 := HX.out.turn T5 (fun h => h)
      have v4 := hX5.cell 1 _ rfl
      have f4 := hX5.frozen 1
      obtain ⟨b6, T6⟩ := hX5.set 1 (.slice (some ⟨gy, 0, none⟩) a.params.length cy)
      have HX6 := Lib.hid b6
      have HK6 := Lib.hid (HK5.out.turn T6 (by decide))
      have HG6 := Lib.hid (HG5.out.turn T6 (by decide))
      have HR6 := Lib.hid (HR5.out.turn T6 (by decide))
      have HO6 := Lib.hid (HO5.out.turn T6 (by decide))
      have HT6 := Lib.hid (HT5.out.turn T6 (by decide) (by decide))
      have HY6 := Lib.hid (HY5.out.turn T6 (by decide))
      clear hy hgy hb5 T5 T6 b6 hX5 HX x4 y c0 c1 HK2 HG2 HR2 HO2 HT2 HK5 HG5 HR5 HO5 HT5 HY5
      obtain ⟨pa0, pc0, rfl⟩ := HT6.out.own.slice
      have o1 := HO6.out.cell 4 _ rfl
      have u0 := HX6.out.cell 0 _ rfl
      have u1 := HX6.out.cell 1 _ rfl
      have HPL : Hid (ps.length = j) := Lib.hid (by have := congrArg List.length HPJ.out; rw [List.length_map, List.length_take] at this; omega)
      go_wp2_with (at_builtin; refine stop_here ?_)
      refine go_on ?_
      clear v4 f4 o1 u0 u1
      obtain ⟨i0, hi, hz0, hz1, hz2⟩ := info_parts info_Part
      obtain ⟨w6, hw6⟩ : ∃ x, w5.setCell ⟨wr.heap.size, 1, none⟩ (.slice (some ⟨gy, 0, none⟩) a.params.length cy) = x := ⟨_, rfl⟩
      obtain ⟨q6, hq6⟩ : ∃ x : Col, x = ext (ext q wr.heap.size 8) (wr.alloc (.cells #[.int .u8 a.tag, .slice sa a.params.length sc] 81)).heap.size 5 := ⟨_, rfl⟩
      rw [hw6, ← hq6] at HX6 HK6 HG6 HR6 HO6 HT6 HY6
      have hs6 : w5.heap.size = w6.heap.size := by rw [← hw6, size_setCell']
      rw [hw6, hs6]
      clear hw6 hq6 hs6
      refine wpList_app rfl _ _ 26 rfl 0 81 i0 _ 2 32 Try.underlying26 hi hz0 hz1 hz2 rfl (.slice pa0 ps.length pc0) ps.length _ rfl (HT6.out.own.1.alloc (.cells #[.int .u8 a.tag, .slice (some ⟨gy, 0, none⟩) a.params.length cy] 81)) (some ⟨w6.heap.size, 0, none⟩) 1 1 [.int .u8 a.tag, .slice (some ⟨gy, 0, none⟩) a.params.length cy] rfl rfl (fun h => by cases h) (news_alloc w6 [.int .u8 a.tag, .slice (some ⟨gy, 0, none⟩) a.params.length cy] 81) (by simp [Value.oneCell']) (by have := HPL.out; unfold maxLen; omega) (grow_ok (by have := HPL.out; omega)) (Nat.zero_le _) ?_
      intro v7 w7 k1 k20 _ k4
      have hm : Mods (fun b => (Value.slice pa0 ps.length pc0).ownBlock = some b) w6 w7 := ((Mods.refl _ w6).alloc _).grown k20 (fun b hb _ => hb)
      obtain ⟨z4, zf, T7, N7, B7⟩ := HT6.out.grow (a := a) (y := .slice (some ⟨gy, 0, none⟩) a.params.length cy) (v' := v7) (w2 := w7) HO6.out (i := 4) (by decide) (by decide) (by decide) (by show 4 < 7; decide) HY6.out k1 hm (k4.imp id (fun k4 b hb => by rw [k4] at hb; have := Option.some.inj hb; simp at this; omega))
      obtain ⟨sp7, cp7, rfl⟩ := owns_slice k1
      have HK7 := Lib.hid (HK6.out.turn T7 (by decide))
      have HG7 := Lib.hid (HG6.out.turn T7 (by decide))
      have HR7 := Lib.hid (HR6.out.turn T7 (by decide))
      have HO7 := Lib.hid B7
      have HT7 := Lib.hid N7
      have HPJ7 : Hid ((ps ++ [(a, (.slice (some ⟨gy, 0, none⟩) a.params.length cy : Value))]).map Prod.fst = g.parts.take (j + 1)) := Lib.hid (by rw [HTK.out, ← HPJ.out]; simp)
      clear HPL T7 N7 B7 k1 k20 k4 hm HK6 HG6 HR6 HO6 HT6 HY6 HX6
      go_wp2
      go_roundw
      case rel => exact ⟨j + 1, _, _, _, hlt, by go_num, HK7.out, HG7.out, HR7.out, HO7.out, HT7.out, HPJ7.out⟩
      case measure => simp [intOf]; omega
    · obtain rfl : n = j := by omega
      clear hj hlt
      have hPJ := HPJ.out
      rw [List.take_of_length_le (by have := HNA.out; omega)] at hPJ
      have HPJ := Lib.hid hPJ
      have HPL : Hid (ps.length = n) := Lib.hid (by have := congrArg List.length hPJ; rw [List.length_map] at this; have := HNA.out; omega)
      clear hPJ
      obtain ⟨pa0, pc0, rfl⟩ := HT.out.own.slice
      have o1 := HO.out.cell 4 _ rfl
      have y := HGB.out.cell 4 _ rfl
      obtain ⟨i0, hi, hz0, hz1, hz2⟩ := info_parts info_Part
      go_wp2_with (at_builtin; refine stop_here ?_)
      refine go_on ?_
      clear o1
      refine wpList_app rfl _ _ 26 rfl 0 81 i0 _ 2 32 Try.underlying26 hi hz0 hz1 hz2 rfl (.slice pa0 ps.length pc0) ps.length _ rfl (HT.out.own.1.alloc (.cells #[.int .u8 99, .slice none 0 0] 81)) (some ⟨wr.heap.size, 0, none⟩) 1 1 [.int .u8 99, .slice none 0 0] rfl rfl (fun h => by cases h) (news_alloc wr [.int .u8 99, .slice none 0 0] 81) (by simp [Value.oneCell']) (by have := HPL.out; unfold maxLen; omega) (grow_ok (by have := HPL.out; omega)) (Nat.zero_le _) ?_
      intro v7 w7 k1 k20 _ k4
      have hm : Mods (fun b => (Value.slice pa0 ps.length pc0).ownBlock = some b) wr w7 := ((Mods.refl _ wr).alloc _).grown k20 (fun b hb _ => hb)
      obtain ⟨z4, zf, T7, N7, B7⟩ := HT.out.grow (a := partMark) (y := .slice none 0 0) (v' := v7) (w2 := w7) HO.out (i := 4) (by decide) (by decide) (by decide) (by show 4 < 7; decide) (.inl ⟨rfl, _, _, rfl⟩) k1 hm (k4.imp id (fun k4 b hb => by rw [k4] at hb; have := Option.some.inj hb; simp at this; omega))
      obtain ⟨sp7, cp7, rfl⟩ := owns_slice k1
      have HK7 := Lib.hid (HK.out.turn T7 (by decide))
      have hG7 := HGB.out.turn T7 (by decide)
      have HG7 := Lib.hid hG7
      have HR7 := Lib.hid (HR.out.turn T7 (by decide))
      obtain ⟨_, hcp7, ba, _, eb7, _⟩ := owns_cell k1 (by simp)
      subst eb7
      have hcp7n : n ≤ cp7 := by have := HPL.out; omega
      have y7 := hG7.cell 4 _ rfl
      have o7 := B7.cell 4 _ rfl
      have g7 := B7.frozen 4
      obtain ⟨B8, T8⟩ := B7.set 4 (.slice (some ⟨ba, 0, none⟩) n cp7)
      have HK8 := Lib.hid (HK7.out.turn T8 (by decide))
      have HG8 := Lib.hid (HG7.out.turn T8 (by decide))
      have HR8 := Lib.hid (HR7.out.turn T8 (by decide))
      have HO8 := Lib.hid B8
      have HT8 := Lib.hid (N7.turn T8 (by decide) (by decide))
      clear T7 N7 B7 B8 T8 k1 k20 k4 hm hG7 HK HGB HR HO HT HK7 HG7 HR7 y
      go_wp2_with fail
      rw [HPL.out] at HT8
      rw [HPL.out] at HK8 HG8 HR8 HO8 ⊢
      obtain ⟨w8, hw8⟩ : ∃ x, (w7.setCell ⟨w.heap.size + 2, 4, none⟩ (.slice (some ⟨ba, 0, none⟩) (n + 1) cp7)).setCell ⟨w.heap.size + 2, 4, none⟩ (.slice (some ⟨ba, 0, none⟩) n cp7) = x := ⟨_, rfl⟩
      obtain ⟨q8, hq8⟩ : ∃ x : Col, x = ext q wr.heap.size 4 := ⟨_, rfl⟩
      obtain ⟨pa, hpa⟩ : ∃ x, ps ++ [(partMark, Value.slice none 0 0)] = x := ⟨_, rfl⟩
      have HPA : Hid (pa.map Prod.fst = g.parts ++ [partMark]) := Lib.hid (by rw [← hpa, ← HPJ.out]; simp)
      rw [hw8, ← hq8] at HK8 HG8 HR8 HO8 HT8
      rw [hpa] at HT8
      rw [hw8]
      have HTA := HT8
      have HK := HK8
      have HGB := HG8
      have HR := HR8
      have HO : Hid (Blk w8 q8 3 (w.heap.size + 2) 30 #[.int .i64 g.memory, .int .i64 g.counters, .int .i64 g.ins, .int .i64 g.outs, .slice (some ⟨ba, 0, none⟩) n cp7, .slice none 0 0, .slice none 0 0]) := HO8
      clear hw8 hq8 hpa HT8 HK8 HG8 HR8 HO8 HPJ HPL o7 g7 y7 z4 zf
      obtain ⟨ca, hca⟩ : ∃ x, x = cp7 := ⟨_, rfl⟩
      rw [← hca] at HTA HO hcp7n
      have HCA := Lib.hid hca
      clear hca
      obtain ⟨m, hm⟩ : ∃ x, g.lines.length = x := ⟨_, rfl⟩
      have HNE := Lib.hid hm
      rw [hm] at hsE HGB ⊢
      clear hm
      go_loopw [6] (fun i wl => ∃ (j : Nat) (q : Col) (v : Value) (ps : List (GLine × Value)), j ≤ m ∧ i = .int .i64 j ∧ Kept w.heap.size q w wl ∧ Blk wl q 9 w.heap.size 30 #[.int .i64 g.memory, .int .i64 g.counters, .int .i64 g.ins, .int .i64 g.outs, .slice aa n ac, .slice ae m ec, .slice ao g.ops.length oc] ∧ Blk wl q 9 (w.heap.size + 1) 30 progZ ∧ Blk wl q 3 (w.heap.size + 2) 30 #[.int .i64 g.memory, .int .i64 g.counters, .int .i64 g.ins, .int .i64 g.outs, .slice (some ⟨ba, 0, none⟩) n ca, v, .slice none 0 0] ∧ TailAt lineHd GLine.start wl q 6 7 76 3 v ps ∧ ps.map Prod.fst = g.lines.take j ∧ TailAt partHd GPart.params wl q 4 5 81 2 (.slice (some ⟨ba, 0, none⟩) (n + 1) ca) pa) (fun i _ => m - (intOf i).toNat)
      case atStart => exact ⟨0, _, _, [], Nat.zero_le _, rfl, HK.out, HGB.out, HR.out, HO.out, TailAt.nil, rfl, HTA.out⟩
      case round =>
        clear HK HGB HR HO HTA
        obtain ⟨j, q, v, ps, hj, rfl, hK, hG, hR, hO, hT, hps, hTA⟩ := hrel
        have HK := Lib.hid hK
        have HGB := Lib.hid hG
        have HR := Lib.hid hR
        have HO := Lib.hid hO
        have HT := Lib.hid hT
        have HPJ := Lib.hid hps
        have HTA := Lib.hid hTA
        clear hK hG hR hO hT hps hTA
        by_cases hlt : j < m
        · have hlti : (j : Int) < m := by omega
          have hlt2 : j < g.lines.length := by have := HNE.out; omega
          obtain ⟨b0, off, rfl, hcap, hb0, hrec⟩ := RE.out.at (by omega)
          obtain ⟨cs, hcs, hPR, hcl⟩ := hrec j hlt2
          obtain ⟨xs, rfl, hst⟩ := hPR
          have c0 := cell_later HK.out.below (hcl 0 (by omega))
          have c1 := cell_later HK.out.below (hcl 1 (by omega))
          have c2 := cell_later HK.out.below (hcl 2 (by omega))
          simp [lineHd] at c0 c1 c2
          have hcapi : (m : Int) ≤ ec := by have := HNE.out; omega
          have hst2 : Has w xs (ivs g.lines[j].start) := hst
          obtain ⟨sa, sc, hxs⟩ := Ints.slice hst2
          subst hxs
          have HST := Lib.hid hst2
          have hpl := HES.out _ (List.getElem_mem hlt2)
          have HTK : Hid (g.lines.take (j + 1) = g.lines.take j ++ [g.lines[j]]) := Lib.hid (List.take_succ_eq_append_getElem hlt2)
          clear hcl hcs hrec hst hst2
          generalize g.lines[j] = a at *
          have y := HGB.out.cell 5 _ rfl
          have hbX := below_alloc wr (.cells #[.int .i64 a.base, .int .i64 a.size, .slice sa a.start.length sc] 76)
          have TX := Turn.of_below q 8 hbX
          have HX : Hid (Blk _ (ext q wr.heap.size 8) 8 _ _ _) := Lib.hid ⟨heap_alloc_new wr (.cells #[.int .i64 a.base, .int .i64 a.size, .slice sa a.start.length sc] 76), ext_new (Nat.le_refl _)⟩
          have HK2 := Lib.hid (HK.out.turn TX (fun h => h))
          have HG2 := Lib.hid (HGB.out.turn TX (fun h => h))
          have HR2 := Lib.hid (HR.out.turn TX (fun h => h))
          have HO2 := Lib.hid (HO.out.turn TX (fun h => h))
          have HT2 := Lib.hid (HT.out.turn TX (fun h => h) (fun h => h))
          have HTA2 := Lib.hid (HTA.out.turn TX (fun h => h) (fun h => h))
          have x4 := HX.out.cell 2 _ rfl
          clear hbX TX HK HGB HR HO HT HTA
          go_wp2_with fail
          refine (lent_has (HST.out.below HK2.out.below) hpl).mono ?_
          rintro e w5 ⟨gy, cy, rfl, hy, hgy, hb5⟩
          have T5 := Turn.of_below (ext q wr.heap.size 8) 7 hb5
          have HY5 := Lib.hid (Vals.recol hy (ext_new (o := ext q wr.heap.size 8) (c := 7) hgy))
          have HK5 := Lib.hid (HK2.out.turn T5 (fun h => h))
          have HG5 := Lib.hid (HG2.out.turn T5 (fun h => h))
          have HR5 := Lib.hid (HR2.out.turn T5 (fun h => h))
          have HO5 := Lib.hid (HO2.out.turn T5 (fun h => h))
          have HT5 := Lib.hid (HT2.out.turn T5 (fun h => h) (fun h => h))
          have HTA5 := Lib.hid (HTA2.out.turn T5 (fun h => h) (fun h => h))
          have hX5 := HX.out.turn T5 (fun h => h)
          have v4 := hX5.cell 2 _ rfl
          have f4 := hX5.frozen 2
          obtain ⟨b6, T6⟩ := hX5.set 2 (.slice (some ⟨gy, 0, none⟩) a.start.length cy)
          have HX6 := Lib.hid b6
          have HK6 := Lib.hid (HK5.out.turn T6 (by decide))
          have HG6 := Lib.hid (HG5.out.turn T6 (by decide))
          have HR6 := Lib.hid (HR5.out.turn T6 (by decide))
          have HO6 := Lib.hid (HO5.out.turn T6 (by decide))
          have HT6 := Lib.hid (HT5.out.turn T6 (by decide) (by decide))
          have HTA6 := Lib.hid (HTA5.out.turn T6 (by decide) (by decide))
          have HY6 := Lib.hid (HY5.out.turn T6 (by decide))
          clear hy hgy hb5 T5 T6 b6 hX5 HX x4 y c0 c1 c2 HK2 HG2 HR2 HO2 HT2 HK5 HG5 HR5 HO5 HT5 HY5 HTA2 HTA5
          obtain ⟨pa0, pc0, rfl⟩ := HT6.out.own.slice
          have o1 := HO6.out.cell 5 _ rfl
          have u0 := HX6.out.cell 0 _ rfl
          have u1 := HX6.out.cell 1 _ rfl
          have u2 := HX6.out.cell 2 _ rfl
          have HPL : Hid (ps.length = j) := Lib.hid (by have := congrArg List.length HPJ.out; rw [List.length_map, List.length_take] at this; omega)
          go_wp2_with (at_builtin; refine stop_here ?_)
          refine go_on ?_
          clear v4 f4 o1 u0 u1 u2
          obtain ⟨i0, hi, hz0, hz1, hz2⟩ := info_parts info_Line
          obtain ⟨w6, hw6⟩ : ∃ x, w5.setCell ⟨wr.heap.size, 2, none⟩ (.slice (some ⟨gy, 0, none⟩) a.start.length cy) = x := ⟨_, rfl⟩
          obtain ⟨q6, hq6⟩ : ∃ x : Col, x = ext (ext q wr.heap.size 8) (wr.alloc (.cells #[.int .i64 a.base, .int .i64 a.size, .slice sa a.start.length sc] 76)).heap.size 7 := ⟨_, rfl⟩
          rw [hw6, ← hq6] at HX6 HK6 HG6 HR6 HO6 HT6 HY6 HTA6
          have hs6 : w5.heap.size = w6.heap.size := by rw [← hw6, size_setCell']
          rw [hw6, hs6]
          clear hw6 hq6 hs6
          refine wpList_app rfl _ _ 27 rfl 0 76 i0 _ 3 40 Try.underlying27 hi hz0 hz1 hz2 rfl (.slice pa0 ps.length pc0) ps.length _ rfl (HT6.out.own.1.alloc (.cells #[.int .i64 a.base, .int .i64 a.size, .slice (some ⟨gy, 0, none⟩) a.start.length cy] 76)) (some ⟨w6.heap.size, 0, none⟩) 1 1 [.int .i64 a.base, .int .i64 a.size, .slice (some ⟨gy, 0, none⟩) a.start.length cy] rfl rfl (fun h => by cases h) (news_alloc w6 [.int .i64 a.base, .int .i64 a.size, .slice (some ⟨gy, 0, none⟩) a.start.length cy] 76) (by simp [Value.oneCell']) (by have := HPL.out; unfold maxLen; omega) (grow_ok (by have := HPL.out; omega)) (Nat.zero_le _) ?_
          intro v7 w7 k1 k20 _ k4
          have hm : Mods (fun b => (Value.slice pa0 ps.length pc0).ownBlock = some b) w6 w7 := ((Mods.refl _ w6).alloc _).grown k20 (fun b hb _ => hb)
          obtain ⟨z4, zf, T7, N7, B7⟩ := HT6.out.grow (a := a) (y := .slice (some ⟨gy, 0, none⟩) a.start.length cy) (v' := v7) (w2 := w7) HO6.out (i := 5) (by decide) (by decide) (by decide) (by show 5 < 7; decide) HY6.out k1 hm (k4.imp id (fun k4 b hb => by rw [k4] at hb; have := Option.some.inj hb; simp at this; omega))
          obtain ⟨sp7, cp7, rfl⟩ := owns_slice k1
          have HK7 := Lib.hid (HK6.out.turn T7 (by decide))
          have HG7 := Lib.hid (HG6.out.turn T7 (by decide))
          have HR7 := Lib.hid (HR6.out.turn T7 (by decide))
          have HTA7 := Lib.hid (HTA6.out.turn T7 (by decide) (by decide))
          have HO7 := Lib.hid B7
          have HT7 := Lib.hid N7
          have HPJ7 : Hid ((ps ++ [(a, (.slice (some ⟨gy, 0, none⟩) a.start.length cy : Value))]).map Prod.fst = g.lines.take (j + 1)) := Lib.hid (by rw [HTK.out, ← HPJ.out]; simp)
          clear HPL T7 N7 B7 k1 k20 k4 hm HK6 HG6 HR6 HO6 HT6 HY6 HX6 HTA6
          go_wp2
          go_roundw
          case rel => exact ⟨j + 1, _, _, _, hlt, by go_num, HK7.out, HG7.out, HR7.out, HO7.out, HT7.out, HPJ7.out, HTA7.out⟩
          case measure => simp [intOf]; omega
        · obtain rfl : m = j := by omega
          clear hj hlt
          have hPJ := HPJ.out
          rw [List.take_of_length_le (by have := HNE.out; omega)] at hPJ
          have HPJ := Lib.hid hPJ
          have HPL : Hid (ps.length = m) := Lib.hid (by have := congrArg List.length hPJ; rw [List.length_map] at this; have := HNE.out; omega)
          clear hPJ
          obtain ⟨pa0, pc0, rfl⟩ := HT.out.own.slice
          have o1 := HO.out.cell 5 _ rfl
          have y := HGB.out.cell 5 _ rfl
          obtain ⟨i0, hi, hz0, hz1, hz2⟩ := info_parts info_Line
          go_wp2_with (at_builtin; refine stop_here ?_)
          refine go_on ?_
          clear o1
          refine wpList_app rfl _ _ 27 rfl 0 76 i0 _ 3 40 Try.underlying27 hi hz0 hz1 hz2 rfl (.slice pa0 ps.length pc0) ps.length _ rfl (HT.out.own.1.alloc (.cells #[.int .i64 (-7770777), .int .i64 0, .slice none 0 0] 76)) (some ⟨wr.heap.size, 0, none⟩) 1 1 [.int .i64 (-7770777), .int .i64 0, .slice none 0 0] rfl rfl (fun h => by cases h) (news_alloc wr [.int .i64 (-7770777), .int .i64 0, .slice none 0 0] 76) (by simp [Value.oneCell']) (by have := HPL.out; unfold maxLen; omega) (grow_ok (by have := HPL.out; omega)) (Nat.zero_le _) ?_
          intro v7 w7 k1 k20 _ k4
          have hm : Mods (fun b => (Value.slice pa0 ps.length pc0).ownBlock = some b) wr w7 := ((Mods.refl _ wr).alloc _).grown k20 (fun b hb _ => hb)
          obtain ⟨z4, zf, T7, N7, B7⟩ := HT.out.grow (a := lineMark) (y := .slice none 0 0) (v' := v7) (w2 := w7) HO.out (i := 5) (by decide) (by decide) (by decide) (by show 5 < 7; decide) (.inl ⟨rfl, _, _, rfl⟩) k1 hm (k4.imp id (fun k4 b hb => by rw [k4] at hb; have := Option.some.inj hb; simp at this; omega))
          obtain ⟨sp7, cp7, rfl⟩ := owns_slice k1
          have HK7 := Lib.hid (HK.out.turn T7 (by decide))
          have hG7 := HGB.out.turn T7 (by decide)
          have HG7 := Lib.hid hG7
          have HR7 := Lib.hid (HR.out.turn T7 (by decide))
          have HTA7 := Lib.hid (HTA.out.turn T7 (by decide) (by decide))
          obtain ⟨_, hcp7, be, _, eb7, _⟩ := owns_cell k1 (by simp)
          subst eb7
          have hcp7n : m ≤ cp7 := by have := HPL.out; omega
          have y7 := hG7.cell 5 _ rfl
          have o7 := B7.cell 5 _ rfl
          have g7 := B7.frozen 5
          obtain ⟨B8, T8⟩ := B7.set 5 (.slice (some ⟨be, 0, none⟩) m cp7)
          have HK8 := Lib.hid (HK7.out.turn T8 (by decide))
          have HG8 := Lib.hid (HG7.out.turn T8 (by decide))
          have HR8 := Lib.hid (HR7.out.turn T8 (by decide))
          have HTA8 := Lib.hid (HTA7.out.turn T8 (by decide) (by decide))
          have HO8 := Lib.hid B8
          have y9 := HG8.out.cell 6 _ rfl
          have HT8 := Lib.hid (N7.turn T8 (by decide) (by decide))
          clear T7 N7 B7 B8 T8 k1 k20 k4 hm hG7 HK HGB HR HO HT HK7 HG7 HR7 HTA HTA7 y
          have o6 := HO8.out.cell 6 _ rfl
          go_wp2_with (at_builtin; refine stop_here ?_)
          refine go_on ?_
          rw [HPL.out] at HT8
          rw [HPL.out] at HK8 HG8 HR8 HO8 HTA8 ⊢
          have HPE : Hid ((ps ++ [(lineMark, Value.slice none 0 0)]).map Prod.fst = g.lines ++ [lineMark]) := Lib.hid (by rw [← HPJ.out]; simp)
          clear y9 o6 o7 g7 y7 z4 zf HPJ
          obtain ⟨w8, hw8⟩ : ∃ x, (w7.setCell ⟨w.heap.size + 2, 5, none⟩ (.slice (some ⟨be, 0, none⟩) (m + 1) cp7)).setCell ⟨w.heap.size + 2, 5, none⟩ (.slice (some ⟨be, 0, none⟩) m cp7) = x := ⟨_, rfl⟩
          obtain ⟨q8, hq8⟩ : ∃ x : Col, x = ext q wr.heap.size 6 := ⟨_, rfl⟩
          rw [hw8, ← hq8] at HK8 HG8 HR8 HO8 HTA8 HT8
          rw [hw8]
          clear hw8 hq8
          have HO : Hid (Blk w8 q8 3 (w.heap.size + 2) 30 #[.int .i64 g.memory, .int .i64 g.counters, .int .i64 g.ins, .int .i64 g.outs, .slice (some ⟨ba, 0, none⟩) n ca, .slice (some ⟨be, 0, none⟩) m cp7, .slice none 0 0]) := HO8
          obtain ⟨i0, hi, hz0, hz1, hz2⟩ := info_parts info_Op
          have hro := (RO.out.below HK8.out.below)
          obtain ⟨nw1, nw2⟩ := hro.newsR
          have hov : (opsV g.ops).length = g.ops.length * 3 := opsV_len g.ops
          refine wpList_app rfl _ _ 28 rfl 0 43 i0 _ 3 24 Try.underlying28 hi hz0 hz1 hz2 rfl (.slice none 0 0) 0 [] rfl (World.ownsRow_nil _ _ _ _) ao g.ops.length oc (opsV g.ops) rfl hov nw1 nw2 (opsV_one g.ops) (by unfold maxLen; omega) (grow_ok (by omega)) (Nat.zero_le _) ?_
          intro v9 w9 k1 k20 _ k4
          have k1' : w9.ownsRow 0 43 3 v9 g.ops.length (opsV g.ops) := by simpa using k1
          have hm9 : Mods (fun b => (Value.slice none 0 0).ownBlock = some b) w8 w9 := (Mods.refl _ w8).grown k20 (fun b hb _ => hb)
          obtain ⟨z9, f9, T9, N9, B9⟩ := (Own.nil w8 q8 10 43 3).into (v' := v9) (w2 := w9) HO.out (i := 6) (by decide) (by show 6 < 7; decide) k1' hm9 (k4.imp id (fun k4 b hb => by rw [k4] at hb; have := Option.some.inj hb; omega))
          obtain ⟨s9, c9, rfl⟩ := owns_slice k1'
          have HK9 := Lib.hid (HK8.out.turn T9 (by decide))
          have HG9 := Lib.hid (HG8.out.turn T9 (by decide))
          have HR9 := Lib.hid (HR8.out.turn T9 (by decide))
          have HTA9 := Lib.hid (HTA8.out.turn T9 (by decide) (by decide))
          have HT9 := Lib.hid (HT8.out.turn T9 (by decide) (by decide))
          have o9 := B9.cell 6 _ rfl
          have HB9 := Lib.hid B9
          have HN9 := Lib.hid N9
          clear nw1 nw2 hov hro k1 k20 k4 k1' hm9 T9 N9 B9 HK8 HG8 HR8 HTA8 HT8 HO8 HO
          go_wp2_with (at_builtin; refine stop_here ?_)
          refine go_on ?_
          clear z9 f9 o9
          obtain ⟨wA, hwA⟩ : ∃ x, w9.setCell ⟨w.heap.size + 2, 6, none⟩ (.slice s9 g.ops.length c9) = x := ⟨_, rfl⟩
          obtain ⟨qA, hqA⟩ : ∃ x : Col, x = ext q8 w8.heap.size 10 := ⟨_, rfl⟩
          have hsA9 : w9.heap.size = wA.heap.size := by rw [← hwA, size_setCell']
          rw [hwA, ← hqA] at HK9 HG9 HR9 HTA9 HT9 HB9 HN9
          rw [hwA]
          try rw [hsA9]
          clear hwA hqA hsA9
          refine wpList_app rfl _ _ 28 rfl 0 43 i0 _ 3 24 Try.underlying28 hi hz0 hz1 hz2 rfl (.slice s9 g.ops.length c9) g.ops.length _ rfl (HN9.out.1.alloc (.cells #[.int .u8 0, .int .i64 (-7770777), .int .i64 0] 43)) (some ⟨wA.heap.size, 0, none⟩) 1 1 [.int .u8 0, .int .i64 (-7770777), .int .i64 0] rfl rfl (fun h => by cases h) (news_alloc wA [.int .u8 0, .int .i64 (-7770777), .int .i64 0] 43) (by simp [Value.oneCell']) (by unfold maxLen; omega) (grow_ok (by omega)) (Nat.zero_le _) ?_
          intro vB wB k1 k20 _ k4
          have k1' : wB.ownsRow 0 43 3 vB (g.ops.length + 1) (opsV (g.ops ++ [opMark])) := by rw [show opsV (g.ops ++ [opMark]) = opsV g.ops ++ opsV [opMark] by simp [opsV]]; exact k1
          have hmB : Mods (fun b => (Value.slice s9 g.ops.length c9).ownBlock = some b) wA wB := ((Mods.refl _ wA).alloc _).grown k20 (fun b hb _ => hb)
          obtain ⟨zB, fB, TB, NB, BB⟩ := HN9.out.into (v' := vB) (w2 := wB) HB9.out (i := 6) (by decide) (by show 6 < 7; decide) k1' hmB (k4.imp id (fun k4 b hb => by rw [k4] at hb; have := Option.some.inj hb; simp at this; omega))
          obtain ⟨sB, cB, rfl⟩ := owns_slice k1'
          have HKB := Lib.hid (HK9.out.turn TB (by decide))
          have HGB := Lib.hid (HG9.out.turn TB (by decide))
          have HRB := Lib.hid (HR9.out.turn TB (by decide))
          have HTAB := Lib.hid (HTA9.out.turn TB (by decide) (by decide))
          have HTB := Lib.hid (HT9.out.turn TB (by decide) (by decide))
          obtain ⟨_, hcpB, bo, _, ebB, _⟩ := owns_cell k1' (by simp [opsV, opV])
          subst ebB
          have hcpBn : g.ops.length ≤ cB := by omega
          have yB := HGB.out.cell 6 _ rfl
          have oB := BB.cell 6 _ rfl
          have gB := BB.frozen 6
          obtain ⟨BC, TC⟩ := BB.set 6 (.slice (some ⟨bo, 0, none⟩) g.ops.length cB)
          have HKC := Lib.hid (HKB.out.turn TC (by decide))
          have HGC := Lib.hid (HGB.out.turn TC (by decide))
          have HRC := Lib.hid (HRB.out.turn TC (by decide))
          have HTAC := Lib.hid (HTAB.out.turn TC (by decide) (by decide))
          have HTC := Lib.hid (HTB.out.turn TC (by decide) (by decide))
          have HNC := Lib.hid (NB.turn TC (by decide))
          have s0 := BC.cell 0 _ rfl
          have s1 := BC.cell 1 _ rfl
          have s2 := BC.cell 2 _ rfl
          have s3 := BC.cell 3 _ rfl
          have s4 := BC.cell 4 _ rfl
          have s5 := BC.cell 5 _ rfl
          have s6 := BC.cell 6 _ rfl
          have hRZ := HRC.out
          have r0 := hRZ.cell 0 _ rfl
          have r1 := hRZ.cell 1 _ rfl
          have r2 := hRZ.cell 2 _ rfl
          have r3 := hRZ.cell 3 _ rfl
          have r4 := hRZ.cell 4 _ rfl
          have r5 := hRZ.cell 5 _ rfl
          have r6 := hRZ.cell 6 _ rfl
          have e0 := hRZ.frozen 0
          have e1 := hRZ.frozen 1
          have e2 := hRZ.frozen 2
          have e3 := hRZ.frozen 3
          have e4 := hRZ.frozen 4
          have e5 := hRZ.frozen 5
          have e6 := hRZ.frozen 6
          clear hRZ k1 k20 k4 hmB TB NB BB BC TC k1' HK9 HG9 HR9 HTA9 HT9 HB9 HN9 HKB HGB HRB HTAB HTB HGC
          go_wp2
          clear zB fB yB oB gB s0 s1 s2 s3 s4 s5 s6 r0 r1 r2 r3 r4 r5 r6 e0 e1 e2 e3 e4 e5 e6
          obtain ⟨wz, hwz⟩ : ∃ x, (wB.setCell ⟨w.heap.size + 2, 6, none⟩ (.slice (some ⟨bo, 0, none⟩) (g.ops.length + 1) cB)).setCell ⟨w.heap.size + 2, 6, none⟩ (.slice (some ⟨bo, 0, none⟩) g.ops.length cB) = x := ⟨_, rfl⟩
          obtain ⟨qz, hqz⟩ : ∃ x : Col, x = ext qA wA.heap.size 10 := ⟨_, rfl⟩
          rw [hwz, ← hqz] at HKC HTAC HTC HRC HNC
          rw [hwz]
          clear hwz hqz
          refine bodyPost_ret_by (results_cell_row rfl _ _ _ _ _ _ _ rfl (prog_set HRC.out.1 _ _ _ _ _ _ _) Try.underlying30 rfl (by kernel_rfl)) rfl ?_
          have mm := prog_mods wz (w.heap.size + 1) (.int .i64 g.memory) (.int .i64 g.counters) (.int .i64 g.ins) (.int .i64 g.outs) (.slice (some ⟨ba, 0, none⟩) n ca) (.slice (some ⟨be, 0, none⟩) m cp7) (.slice (some ⟨bo, 0, none⟩) g.ops.length cB)
          have T : Turn qz qz (fun x => x = 9) wz _ := ⟨mm.mono (fun k _ e => by subst e; exact HRC.out.2), fun _ _ => rfl⟩
          refine ⟨_, rfl, ⟨_, _, _, rfl, ?_, ?_, ?_⟩, HKC.out.below.trans (mm.below HKC.out.size (fun k hk e => by omega))⟩
          · have h1 := TailAt.recs (show ∀ a, (partHd a).length + 1 = 2 from fun _ => rfl) (HTAC.out.turn T (by decide) (by decide))
            rw [HPA.out] at h1
            have h2 := h1.front
            rw [HNA.out] at h2
            exact h2
          · have h1 := TailAt.recs (show ∀ a, (lineHd a).length + 1 = 3 from fun _ => rfl) (HTC.out.turn T (by decide) (by decide))
            rw [HPE.out] at h1
            have h2 := h1.front
            rw [HNE.out] at h2
            exact h2
          · have h1 := HNC.out.turn T (by decide)
            rw [show g.ops.length + 1 = (g.ops ++ [opMark]).length by simp] at h1
            exact h1.row.front
end Go.Proofs.Ytnnnpippekpibaa

/- Two machines of one program side by side; a program in a block of its own. No function in sight. -/
namespace Go.Proofs.Ytnnnpippekpibaa
open Go.RowKit

/-- two machines: X is the block of the law's own program -/
structure Two (w0 w : World) (o : Col) (X a b : Nat) (cs : Array Value) (P : GProg) (m m' : MachP) (v v' : MVals) : Prop where
  kept : Kept w0.heap.size o w0 w
  box : Blk w o 5 X 30 cs
  one : MachAt w o 1000 a P m v
  two : MachAt w o 2000 b P m' v'
variable {w0 w w' : World} {o o' : Col} {X a b : Nat} {cs : Array Value} {P : GProg} {m m' m2 : MachP} {v v' v2 : MVals}
theorem Two.below (h : Two w0 w o X a b cs P m m' v v') (hb : Below w.heap.size w w') : Two w0 w' (ext o w.heap.size 6) X a b cs P m m' v v' :=
  have T := Turn.of_below o 6 hb
  ⟨h.kept.turn T (fun h => h), h.box.turn T (fun h => h), h.one.turn T (fun _ h => h.elim), h.two.turn T (fun _ h => h.elim)⟩
theorem Two.drewN (h : Two w0 w o X a b cs P m m' v v') (n : Nat) : Two w0 (w.drewN n) o X a b cs P m m' v v' :=
  have T := (Turn.refl o (fun _ => False) w).drewN n
  ⟨h.kept.turn T (fun h => h), h.box.turn T (fun h => h), h.one.turn T (fun _ h => h.elim), h.two.turn T (fun _ h => h.elim)⟩
theorem Two.turnA (h : Two w0 w o X a b cs P m m' v v') (T : Turn o o' (MineS 1000) w w') (M : MachAt w' o' 1000 a P m2 v2) : Two w0 w' o' X a b cs P m2 m' v2 v' :=
  ⟨h.kept.turn T (by unfold MineS; omega), h.box.turn T (by unfold MineS; omega), M, h.two.turn T (fun k hk => by unfold MineS at hk; unfold Mine; omega)⟩
theorem Two.turnB (h : Two w0 w o X a b cs P m m' v v') (T : Turn o o' (MineS 2000) w w') (M : MachAt w' o' 2000 b P m2 v2) : Two w0 w' o' X a b cs P m m2 v v2 :=
  ⟨h.kept.turn T (by unfold MineS; omega), h.box.turn T (by unfold MineS; omega), h.one.turn T (fun k hk => by unfold MineS at hk; unfold Mine; omega), M⟩
theorem Two.cell (h : Two w0 w o X a b cs P m m' v v') (i : Nat) (u : Value) (hu : cs[i]? = some u) : w.cell? ⟨X, i, none⟩ = some u := h.box.cell i u hu

/-- each input fed at most once -/
theorem mok_fedAll {P : GProg} {F s G : Nat} {m : MachP} (h : MOk P F s m) (X : List (List Int)) (hx : ∀ r ∈ X, r.length ≤ G ∧ ∀ x ∈ r, Fits x) : MOk P (F + G) s (feedAll X 0 m) := by
  have h1 := MOk.feedAll X 0 F G m h hx
  have h2 := feedAll_rows (G := G) X 0 F m (fun x hX => (hx x hX).1) (fun j => ?_) (fun j _ => ?_)
  · exact { h1 with fedf := fun r hr => ⟨rows_mem h2.1 r hr, (h1.fedf r hr).2⟩ }
  · have := (rowAt_ok (Q := fun r : List Int => r.length ≤ F ∧ ∀ x ∈ r, Fits x) h.fedf ⟨Nat.zero_le _, fun _ h => by cases h⟩ j).1
    omega
  · exact (rowAt_ok (Q := fun r : List Int => r.length ≤ F ∧ ∀ x ∈ r, Fits x) h.fedf ⟨Nat.zero_le _, fun _ h => by cases h⟩ j).1
theorem cutsL_in {n : Int} {f t : Nat} {xss : List (List Int)} (hx : ∀ x ∈ xss, ∀ z ∈ x, Fits z) : ∀ r ∈ cutsL n f t xss, r.length ≤ t ∧ ∀ x ∈ r, Fits x := fun r hr => by
  obtain ⟨y, hy, rfl⟩ := List.mem_map.1 hr
  refine ⟨cutL_le f t y, fun x h => ?_⟩
  exact hx y (List.mem_of_mem_take hy) x (List.mem_of_mem_take (List.mem_of_mem_drop h))
theorem check_some {P : GProg} (h : checkC P = 0) : ∃ S, cstepsE P = (S, 0) := by
  unfold checkC at h
  exact ⟨(cstepsE P).1, by rw [← h]⟩
/-- two machines of one state show the same -/
theorem shows_refl (m : MachP) : Shows m m := ⟨rfl, rfl, rfl, rfl, rfl, rfl⟩
/-- what is fed is not shown -/
theorem shows_feedAll (Y : List (List Int)) (i : Nat) (m : MachP) : Shows (feedAll Y i m) m := by
  obtain ⟨f, e, _⟩ := feedAll_rest Y i m
  rw [e]
  exact ⟨rfl, rfl, rfl, rfl, rfl, rfl⟩
end Go.Proofs.Ytnnnpippekpibaa

/- How a run of eight periods ends, plainly; a machine that stands. No function in sight. -/
namespace Go.Proofs.Ytnnnpippekpibaa
open Go.RowKit

theorem mstep_halt {P : GProg} {m : MachP} {d : Nat} (h : Ready P m d) : (mstep P m).1.halt = 0 ∨ (mstep P m).1.halt = 1 ∨ (mstep P m).1.halt = 2 ∨ (mstep P m).1.halt = 3 ∨ (mstep P m).1.halt = 4 := by
  unfold mstep
  rcases hl : m.last with _ | e
  · simp only
    rcases doesX_cases P (ctlOp P.ops m.next) m with h1 | h1 | h1 | h1 | h1
    · rw [if_pos (.inl h1)]; exact .inl h1
    · rw [if_pos (.inr h1)]; exact .inr (.inl h1)
    · rw [h1]; exact .inr (.inr (.inl rfl))
    · rw [h1]; exact .inr (.inr (.inr (.inl rfl)))
    · rw [h1]; exact .inr (.inr (.inr (.inr rfl)))
  · have := h.last e hl
    simp only
    omega
theorem feedAll_last (Y : List (List Int)) (i : Nat) (m : MachP) : (feedAll Y i m).last = m.last := by
  obtain ⟨f, e, _⟩ := feedAll_rest Y i m
  rw [e]
/-- a machine that starves or stands, and what it is when it is fed -/
structure Stands (P : GProg) (h : Int) (m m3 : MachP) (x k l : Int) : Prop where
  first : mstep P m3 = (⟨x, k, l, [], h⟩, m3)
  second : mstep P m = (⟨x, k, l, [], h⟩, m)
theorem stands_of {P : GProg} {m : MachP} {h : Int} (h0 : h ≠ 0) (h1 : h ≠ 1) (hh : (mstep P m).1.halt = h) (hm : mstep P m = ((mstep P m).1, m)) (hl : h ≠ 2 → ∃ e, m.last = some e) {Y : List (List Int)} (hY : h = 2 → Y = []) : ∃ x k l, Stands P h m (feedAll Y 0 m) x k l := by
  by_cases h2 : h = 2
  · rw [hY h2]
    have hc : (mstep P m).1.cells = [] := by
      rw [h2] at hh
      revert hh
      unfold mstep
      rcases hl2 : m.last with _ | e
      · simp only
        intro hh
        by_cases hgo : (doesX P (ctlOp P.ops m.next) m).1 = 0 ∨ (doesX P (ctlOp P.ops m.next) m).1 = 1
        · rw [if_pos hgo] at hh
          have : (doesX P (ctlOp P.ops m.next) m).1 = 2 := hh
          omega
        · rw [if_neg hgo]
          split <;> rfl
      · intro _
        rfl
    obtain ⟨⟨x, k, l, c, y⟩, he⟩ : ∃ x, (mstep P m).1 = x := ⟨_, rfl⟩
    rw [he] at hm hh hc
    dsimp only at hh hc
    subst hh hc
    exact ⟨x, k, l, hm, hm⟩
  · obtain ⟨⟨x, k, l, c, y⟩, he⟩ := hl h2
    have e1 : mstep P m = (⟨x, k, l, [], y⟩, m) := by unfold mstep; rw [he]
    have e2 : mstep P (feedAll Y 0 m) = (⟨x, k, l, [], y⟩, feedAll Y 0 m) := by unfold mstep; rw [feedAll_last, he]
    rw [e1] at hh
    dsimp only at hh
    subst hh
    exact ⟨x, k, l, e2, e1⟩
/-- a run of one period more -/
theorem stands_run {P : GProg} {S : Int} (hS : cstepsE P = (S, 0)) {h : Int} {m m3 : MachP} {x k l : Int} {d : Nat} (hs : Stands P h m m3 x k l) (h0 : h ≠ 0) (h1 : h ≠ 1) (hr : Ready P m3 d) (hd : d < S.toNat) : mrunTo P S (m3.periods + (1 : Nat)) m3 = (h, m3) := by
  rw [mrunTo_step hS hr hd (by omega), hs.first]
  simp only
  rw [if_pos ⟨h0, h1⟩]
/-- what a run of eight periods ends with -/
theorem ends_eight {P : GProg} {S : Int} (hS : cstepsE P = (S, 0)) {m : MachP} (hp : m.periods = 0) {d : Nat} (h : Ready P m d) (hd : d < S.toNat) {R : Int × MachP} (hR : mrunTo P S 8 m = R) :
    (R.1 = 1 ∧ R.2.periods = 8) ∨
    ((R.1 = 2 ∨ R.1 = 3 ∨ R.1 = 4) ∧ (mstep P R.2).1.halt = R.1 ∧ mstep P R.2 = ((mstep P R.2).1, R.2) ∧ (R.1 ≠ 2 → ∃ e, R.2.last = some e) ∧ ∃ d', d' < S.toNat ∧ Ready P R.2 d') := by
  rcases mrun_ends hS 8 _ rfl h hd hR with ⟨a1, a2, a3, a4⟩ | ⟨b1, b2, b3, b4, b5, b6, b7⟩
  · refine .inl ⟨a1, ?_⟩
    have := a3 (by omega)
    omega
  · obtain ⟨d', c1, c2⟩ := b7
    have := mstep_halt c2
    rw [b4] at this
    exact .inr ⟨by omega, b4, b5, b6, d', c1, c2⟩
/-- both, for machines of one program -/
theorem both_ok {w : World} {o : Col} {M N a b : Nat} {P : GProg} {m m' : MachP} {v v' : MVals} {F F' s s' : Nat} (h : MachAt w o M a P m v) (h' : MachAt w o N b P m' v') (hs : Shows m m') (hP : POk P) (hm : MOk P F s m) (hm' : MOk P F' s' m') (hb : s ≤ 1000000000) :
    Calls Try.prog 21 #[.pointer (some ⟨a, 0, none⟩), .pointer (some ⟨b, 0, none⟩), .int .i64 P.outs] w (Tells (.bool true) w) := by
  obtain ⟨d, _, hd⟩ := hm.ctl
  have hc := (rest_cs hd).1
  have h1 := hP.counters
  have h2 := hP.mem
  have h3 := hP.nlines
  have h4 := hP.nparts
  have h5 := hP.outs
  exact both_yes h h' hs P.outs (by omega) (fun r hr => by have := (hm.outf r hr).1; omega) (by dsimp only at hc; omega) (by rw [hm.lines]; omega) (by rw [hm.mem]; omega) hm.bods hm'.bods (by omega)
theorem newP_rows (P : GProg) (j : Nat) : (rowAt (newP P).fed j).length ≤ 0 :=
  rowAt_ok (Q := fun r : List Int => r.length ≤ 0) (l := List.replicate P.ins.toNat []) (fun r hr => by rw [List.eq_of_mem_replicate hr]; exact Nat.le_refl _) (Nat.le_refl _) j
end Go.Proofs.Ytnnnpippekpibaa

/- SameEvent: two events that are the same. -/
namespace Go.Proofs.Ytnnnpippekpibaa
open Go.RowKit

set_option maxRecDepth 100000 in
set_option maxHeartbeats 1000000 in
theorem sameevent_yes {w : World} {op kd ln ht : Int} {cs : List Int} {ca cb : Option Addr} {cc cd : Nat} (ha : Has w (.slice ca cs.length cc) (ivs cs)) (hb : Has w (.slice cb cs.length cd) (ivs cs)) (hl : cs.length ≤ 100000) :
    Calls Try.prog 23 #[.agg #[.int .i64 op, .int .u8 kd, .int .i64 ln, .slice ca cs.length cc, .int .u8 ht], .agg #[.int .i64 op, .int .u8 kd, .int .i64 ln, .slice cb cs.length cd, .int .u8 ht]] w (Tells (.bool true) w) := by
  have b1 := below_alloc w (.cells #[.int .i64 op, .int .u8 kd, .int .i64 ln, .slice ca cs.length cc, .int .u8 ht] 39)
  have g1 := heap_alloc_new w (.cells #[.int .i64 op, .int .u8 kd, .int .i64 ln, .slice ca cs.length cc, .int .u8 ht] 39)
  have s1 := World.size_alloc w (.cells #[.int .i64 op, .int .u8 kd, .int .i64 ln, .slice ca cs.length cc, .int .u8 ht] 39)
  obtain ⟨w1, hw1⟩ : ∃ x, w.alloc (.cells #[.int .i64 op, .int .u8 kd, .int .i64 ln, .slice ca cs.length cc, .int .u8 ht] 39) = x := ⟨_, rfl⟩
  rw [hw1] at b1 g1 s1
  have b2 := below_alloc w1 (.cells #[.int .i64 op, .int .u8 kd, .int .i64 ln, .slice cb cs.length cd, .int .u8 ht] 39)
  have g2 := heap_alloc_new w1 (.cells #[.int .i64 op, .int .u8 kd, .int .i64 ln, .slice cb cs.length cd, .int .u8 ht] 39)
  have g3 := block_alloc g1 (.cells #[.int .i64 op, .int .u8 kd, .int .i64 ln, .slice cb cs.length cd, .int .u8 ht] 39)
  obtain ⟨w2, hw2⟩ : ∃ x, w1.alloc (.cells #[.int .i64 op, .int .u8 kd, .int .i64 ln, .slice cb cs.length cd, .int .u8 ht] 39) = x := ⟨_, rfl⟩
  rw [hw2] at b2 g2 g3
  rw [s1] at g2
  have HB := Lib.hid (b1.trans (b2.mono (by omega)))
  have HA := Lib.hid ((ha.below b1).below b2)
  have HC := Lib.hid ((hb.below b1).below b2)
  have HL := Lib.hid hl
  have x0 := cells_row _ _ g3 0 _ rfl
  have x1 := cells_row _ _ g3 1 _ rfl
  have x2 := cells_row _ _ g3 2 _ rfl
  have x3 := cells_row _ _ g3 3 _ rfl
  have x4 := cells_row _ _ g3 4 _ rfl
  have y0 := cells_row _ _ g2 0 _ rfl
  have y1 := cells_row _ _ g2 1 _ rfl
  have y2 := cells_row _ _ g2 2 _ rfl
  have y3 := cells_row _ _ g2 3 _ rfl
  have y4 := cells_row _ _ g2 4 _ rfl
  clear ha hb hl b1 b2 g1 g2 g3
  go_enter Try.func23, Try.ntmps23
  go_wp2_with fail
  refine (sameints_yes HA.out HC.out (by have := HL.out; omega)).mono ?_
  rintro e w3 ⟨rfl, nn, rfl⟩
  go_wp2
  go_ret
  exact ⟨rfl, below_dr (n := nn) HB.out⟩
end Go.Proofs.Ytnnnpippekpibaa

/- Tokens are fed, where the one row is not too long. -/
namespace Go.Proofs.Ytnnnpippekpibaa
open Go.RowKit

set_option maxRecDepth 100000 in
set_option maxHeartbeats 1000000 in
theorem efeed_row {w : World} {o : Col} {M b ct : Nat} {P : GProg} {m : MachP} {v : MVals} {ta : Option Addr} {n tc : Nat} {ts : List Int} {o2 : Col} (h : MachAt w o M b P m v) (k : Int) (hts : Ints w o2 ct (.slice ta n tc) ts) (hl : (rowAt m.fed k.toNat).length + ts.length ≤ 20000000000000) :
    Calls Try.prog 31 #[.pointer (some ⟨b, 2, none⟩), .int .i64 k, .slice ta n tc] w (FeedRet w o M b P m k ts) := by
  have c2 := h.cell 2 (u := .slice (some ⟨v.fed, 0, none⟩) m.fed.length m.fed.length) (by unfold machV; rfl)
  have HM := Lib.hid h
  have hsm := h.small.1
  clear h
  unfold FeedRet
  by_cases h0 : k < 0
  · rw [if_neg (by unfold inIn; omega)]
    go_enter Try.func31, Try.ntmps31
    go_wp2
    go_ret
    exact ⟨rfl, rfl⟩
  · by_cases h1 : k < m.fed.length
    · rw [if_pos (by unfold inIn; omega)]
      obtain ⟨x, rfl⟩ : ∃ x : Nat, k = x := ⟨k.toNat, by omega⟩
      have hx : x < m.fed.length := by omega
      obtain ⟨ra, rc, -, r1, r2, rf⟩ := HM.out.fed.at hx
      obtain rfl := hts.len
      obtain ⟨hnone, hnews⟩ := hts.news
      have hle : (rowAt m.fed x).length + ts.length ≤ 20000000000000 := hl
      unfold FedRet
      rw [Int.toNat_natCast]
      obtain ⟨i0, hi, hz0, hz1, hz2⟩ := info_parts info_int
      have HI := Lib.hid hi
      have HNO := Lib.hid hnone
      have HNE := Lib.hid hnews
      have HR := Lib.hid r2
      have HLE := Lib.hid hle
      obtain ⟨rl, hrl⟩ : ∃ y, (rowAt m.fed x).length = y := ⟨_, rfl⟩
      rw [hrl] at r1 HR
      have HRL := Lib.hid hrl
      have hnn : decide (m.fed.length ≤ x) = false := decide_eq_false (by omega)
      clear hnone hnews r2 hle hrl hl hts hi
      go_enter Try.func31, Try.ntmps31
      go_wp2_with fail
      refine wp_region_lex1 (fun w' => w'.cell? ⟨b, 2, none⟩ = some (.slice (some ⟨v.fed, 0, none⟩) m.fed.length m.fed.length) ∧ w'.cell? ⟨v.fed, x, none⟩ = some (.slice ra rl rc)) [0, 1, 2, 3, 4, 5, 6, 7, 8, 9, 10, 11, 12] [] 13 [14, 15] (by kernel_rfl) (by kernel_rfl) (by kernel_rfl) rfl (fun _ _ hx h => ⟨hx.cell h.1, hx.cell h.2⟩) ⟨c2, r1⟩ ?_
      intro Q' hQ'
      simp only [pickOps, List.flatMap_cons, List.flatMap_nil, List.drop_succ_cons, List.drop_zero, List.take_succ_cons, List.take_zero, List.cons_append, List.nil_append, List.append_nil]
      repeat (first
        | (refine wpReads_skip (by rfl) ?_; (try simp only [Act.put, List.setIfInBounds_toArray, List.set_cons_zero, List.set_cons_succ]))
        | (refine wpReads_cons ?_ (by rfl) (by rfl) ?_ ?_; rotate_left; (intro wz hz; (try dsimp only at hz); go_simp; try with_reducible rfl); (try simp only [Act.put, List.setIfInBounds_toArray, List.set_cons_zero, List.set_cons_succ]))
        | (refine wpReads_any ?_ (by rfl) ?_ ?_; rotate_left; (intro wz; go_simp; try with_reducible rfl); (try simp only [Act.put, List.setIfInBounds_toArray, List.set_cons_zero, List.set_cons_succ])))
      refine wpReads_nil ?_
      go_wp2_with (at_builtin; refine stop_here ?_)
      refine go_on ?_
      refine wpList_app_off rfl _ _ 37 rfl o (M + 16 + x) 3 i0 _ 8 Try.underlying37 HI.out hz0 hz1 hz2 rfl (.slice ra rl rc) (ivs (rowAt m.fed x)) rfl (HR.out.turn ((Turn.refl o (fun _ => False) _).drewN 1) (fun h => h)) ta ts.length tc (ivs ts) rfl (ivs_len _) HNO.out HNE.out (ivs_one _) (by rw [ivs_len]; have := HLE.out; unfold maxLen; omega) (grow_ok (by rw [ivs_len]; have := HLE.out; omega)) ?_
      intro v7 w7 T7 O7
      obtain ⟨sp7, cp7, hv7⟩ := O7.slice
      simp only [List.length_append, List.length_map] at hv7
      subst hv7
      have M7 := (HM.out.drewN 1).setFed (l := rowAt m.fed x ++ ts) hx T7 (by rw [ivs, List.map_append]; exact O7)
      have t2 := T7.cell c2 (by show ¬ o b = M + 16 + x; rw [HM.out.blk.2]; omega)
      have tr1 := T7.cell r1 (by show ¬ o v.fed = M + 16 + x; rw [HM.out.fed.blk.2]; omega)
      have X7 := (HM.out.drewN 1).fed.blk.turn T7 (by omega)
      have s2 := X7.frozen x
      have HM7 := Lib.hid M7
      clear M7 X7 T7 O7 HNE c2 r1
      go_wp2
      refine ⟨⟨t2, tr1⟩, ?_⟩
      clear t2
      go_wp2
      go_ret
      exact ⟨_, _, rfl, ((Turn.refl o (MineS M) w).drewN 1).trans (HM7.out.2.mono Mine.s) (fun _ h => h), HM7.out.1⟩
    · rw [if_neg (by unfold inIn; omega)]
      go_enter Try.func31, Try.ntmps31
      go_wp2
      go_ret
      exact ⟨rfl, rfl⟩

set_option maxRecDepth 100000 in
theorem Feed_row {w : World} {o : Col} {M b ct : Nat} {P : GProg} {m : MachP} {v : MVals} {ta : Option Addr} {n tc : Nat} {ts : List Int} {o2 : Col} (h : MachAt w o M b P m v) (k : Int) (hts : Ints w o2 ct (.slice ta n tc) ts) (hl : (rowAt m.fed k.toNat).length + ts.length ≤ 20000000000000) :
    Calls Try.prog 10 #[.pointer (some ⟨b, 0, none⟩), .int .i64 k, .slice ta n tc] w (FeedRet w o M b P m k ts) := by
  have HM := Lib.hid h
  have HTS := Lib.hid hts
  clear h hts
  go_enter Try.func10, Try.ntmps10
  go_wp2_with fail
  refine (efeed_row HM.out k HTS.out hl).mono ?_
  intro e w1 H
  obtain ⟨y, rfl⟩ := FedRet.slot H
  have HH := Lib.hid H
  clear H
  go_wp2
  go_ret
  exact HH.out
end Go.Proofs.Ytnnnpippekpibaa

/- The reference's Of: its small calls. -/

namespace Go.Proofs.Ytnnnpippekpibaa
open Go.RowKit

theorem rep_succ (k : Nat) (r : Int) : List.replicate (k + 1) r = List.replicate k r ++ [r] := by rw [List.replicate_succ', ]

set_option maxHeartbeats 1000000 in
theorem rports_any (w : World) (n : Nat) (r : Int) (hn : n ≤ 1000) : Calls Try.prog 70 #[.int .i64 n, .int .i64 r] w (Stated w (List.replicate n r)) := by
  obtain ⟨i0, hi, hz0, hz1, hz2⟩ := info_parts info_int
  have hni : (n : Int) ≤ 1000 := by omega
  go_enter Try.func70, Try.ntmps70
  go_wp2_with fail
  go_loopw [5, 6] (fun v i wr => ∃ j : Nat, j ≤ n ∧ i = .int .i64 j ∧ wr.ownsRow w.heap.size 3 1 v j (ivs (List.replicate j r)) ∧ Below w.heap.size w wr) (fun _ i _ => n - (intOf i).toNat)
  case atStart => exact ⟨0, Nat.zero_le _, rfl, by simpa using World.ownsRow_nil w w.heap.size 3 1, Below.refl _ _⟩
  case round =>
    obtain ⟨j, hj, rfl, ho, hb⟩ := hrel
    have hs := hb.size
    obtain ⟨sv, cv, rfl⟩ := owns_slice ho
    by_cases hjn : j < n
    · have hjni : (j : Int) < n := by omega
      go_wp2_with (at_builtin; refine stop_here ?_)
      refine go_on ?_
      refine wpList_app rfl _ _ 37 rfl w.heap.size 3 i0 _ 1 8 Try.underlying37 hi hz0 hz1 hz2 rfl (.slice sv j cv) j _ rfl (ho.alloc (.cells #[.int .i64 r] 3)) (some ⟨wr.heap.size, 0, none⟩) 1 1 [.int .i64 r] rfl rfl (fun h => by cases h) (news_alloc wr [.int .i64 r] 3) (by simp [Value.oneCell']) (by unfold maxLen; omega) (grow_ok (by omega)) (size_le_alloc hs _) ?_
      intro v5 w5 k1 k20 _ _
      have k2 : (wr.alloc (.cells #[.int .i64 r] 3)).grownBy w5 (Value.slice sv j cv).ownBlock := k20
      have hb5 := hb.trans (below_app ho k2 hs)
      have k3 : w5.ownsRow w.heap.size 3 1 v5 (j + 1) (ivs (List.replicate (j + 1) r)) := by
        rw [rep_succ]; simpa using k1
      clear k1 k20 k2 ho hb
      go_wp2
      go_roundw
      case rel => exact ⟨j + 1, by omega, by go_num, k3, hb5⟩
      case measure => simp [intOf]; omega
    · obtain rfl : j = n := by omega
      have HO := Lib.hid ho
      clear ho
      go_wp2
      go_ret
      exact ⟨_, rfl, by rw [List.length_replicate]; exact HO.out, hb⟩

theorem rone_any {o : Col} {c : Nat} (w : World) (ao : Option Addr) (n cap : Nat) (l : List Int) (m : Int) (h : Ints w o c (.slice ao n cap) l) : Calls Try.prog 72 #[.slice ao n cap, .int .i64 m] w fun e w' => e = .returned (.bool (decide (oneP l m))) ∧ w = w' := by
  obtain rfl := h.len
  by_cases hl : l.length = 1
  · obtain ⟨x, rfl⟩ : ∃ x, l = [x] := by
      match l, hl with
      | [x], _ => exact ⟨x, rfl⟩
    obtain ⟨b, off, rfl, -, hcap, -, -, hc⟩ := h.at (by simp)
    have c0 := hc 0 (by simp)
    simp at c0
    have hc1 : (1 : Int) ≤ cap := by simp at hcap; omega
    clear hc h
    by_cases h1 : 1 ≤ x
    · by_cases h2 : x ≤ m
      · have e : decide (oneP [x] m) = true := decide_eq_true (by simp [oneP, hd]; omega)
        rw [e]
        clear e
        go_enter Try.func72, Try.ntmps72
        go_wp2
        go_ret
        exact ⟨rfl, rfl⟩
      · have e : decide (oneP [x] m) = false := decide_eq_false (by simp [oneP, hd]; omega)
        rw [e]
        clear e
        go_enter Try.func72, Try.ntmps72
        go_wp2
        go_ret
        exact ⟨rfl, rfl⟩
    · have e : decide (oneP [x] m) = false := decide_eq_false (by simp [oneP, hd]; omega)
      rw [e]
      clear e
      go_enter Try.func72, Try.ntmps72
      go_wp2
      go_ret
      exact ⟨rfl, rfl⟩
  · have e : decide (oneP l m) = false := decide_eq_false (fun h => hl h.1)
    have hli : ¬ (l.length : Int) = 1 := by omega
    rw [e]
    clear e h
    go_enter Try.func72, Try.ntmps72
    go_wp2
    go_ret
    exact ⟨rfl, rfl⟩


set_option maxHeartbeats 1000000 in
theorem rtwo_any {o : Col} {c : Nat} (w : World) (ao : Option Addr) (n cap : Nat) (l : List Int) (h : Ints w o c (.slice ao n cap) l) : Calls Try.prog 73 #[.slice ao n cap] w (Quiet (.bool (decide (pairP l))) w) := by
  obtain rfl := h.len
  by_cases hl : l.length = 2
  · obtain ⟨x, y, rfl⟩ : ∃ x y, l = [x, y] := by
      match l, hl with
      | [x, y], _ => exact ⟨x, y, rfl⟩
    obtain ⟨b, off, rfl, -, hcap, -, -, hc⟩ := h.at (by simp)
    have c0 := hc 0 (by simp)
    have c1 := hc 1 (by simp)
    simp at c0 c1
    have hc1 : (2 : Int) ≤ cap := by simp at hcap; omega
    clear hc h
    rcases pair_cases x y with hh | ⟨⟨g1, g2⟩, hh⟩ | ⟨⟨g1, g2⟩, ⟨g3, g4⟩, g5, g6⟩ | ⟨⟨g1, g2⟩, ⟨g3, g4⟩, g5, g6⟩
    · have e : decide (pairP [x, y]) = false := decide_eq_false (by simp [pairP, hd, hd1]; omega)
      rw [e]
      clear e
      by_cases h1 : x < 1
      · go_enter Try.func73, Try.ntmps73
        go_wp2
        go_ret
        exact ⟨rfl, 0, rfl⟩
      · have h2 : 16 < x := by omega
        go_enter Try.func73, Try.ntmps73
        go_wp2
        go_ret
        exact ⟨rfl, 0, rfl⟩
    · have e : decide (pairP [x, y]) = false := decide_eq_false (by simp [pairP, hd, hd1]; omega)
      rw [e]
      clear e
      by_cases h1 : y < 1
      · go_enter Try.func73, Try.ntmps73
        go_wp2
        go_ret
        exact ⟨rfl, 0, rfl⟩
      · have h2 : 64 < y := by omega
        go_enter Try.func73, Try.ntmps73
        go_wp2
        go_ret
        exact ⟨rfl, 0, rfl⟩
    · have e : decide (pairP [x, y]) = true := decide_eq_true (by simp [pairP, hd, hd1]; omega)
      rw [e]
      clear e
      have hw : wrap64 (x * y) = x * y := IntWalk.wrap64_in _ (by omega)
      go_enter Try.func73, Try.ntmps73
      go_wp2
      go_quiet (fail)
      go_wp2
      go_ret
      exact ⟨rfl, _, rfl⟩
    · have e : decide (pairP [x, y]) = false := decide_eq_false (by simp [pairP, hd, hd1]; omega)
      rw [e]
      clear e
      have g7 : ¬ x * y ≤ 64 := by omega
      have hw : wrap64 (x * y) = x * y := IntWalk.wrap64_in _ (by omega)
      go_enter Try.func73, Try.ntmps73
      go_wp2
      go_quiet (fail)
      go_wp2
      go_ret
      refine ⟨?_, _, rfl⟩
      show Ending.returned (.bool (decide (x * y ≤ 64))) = _
      rw [decide_eq_false (show ¬ x * y ≤ 64 by omega)]
  · have e : decide (pairP l) = false := decide_eq_false (fun h => hl h.1)
    have hli : ¬ (l.length : Int) = 2 := by omega
    rw [e]
    clear e h
    go_enter Try.func73, Try.ntmps73
    go_wp2
    go_ret
    exact ⟨rfl, 0, rfl⟩























end Go.Proofs.Ytnnnpippekpibaa

/- The reference's Of: what may be. -/
namespace Go.Proofs.Ytnnnpippekpibaa
open Go.RowKit

theorem rgood_2 {o : Col} {c : Nat} (w : World) (ao : Option Addr) (n cap : Nat) (l : List Int) (h : Ints w o c (.slice ao n cap) l) : Calls Try.prog 69 #[.int .u8 2, .slice ao n cap] w (Quiet (.bool (decide (goodP 2 l))) w) := by
  have e : goodP 2 l ↔ oneP l 64 := by simp [goodP]
  rw [show decide (goodP 2 l) = decide (oneP l 64) from decide_eq_decide.2 e]
  have H := Lib.hid h
  clear h e
  go_enter Try.func69, Try.ntmps69
  go_wp2_with fail
  refine (rone_any _ _ _ _ l 64 H.out).mono ?_
  rintro e w' ⟨rfl, rfl⟩
  go_wp2
  go_ret
  exact ⟨rfl, 0, rfl⟩

theorem rgood_3 {o : Col} {c : Nat} (w : World) (ao : Option Addr) (n cap : Nat) (l : List Int) (h : Ints w o c (.slice ao n cap) l) : Calls Try.prog 69 #[.int .u8 3, .slice ao n cap] w (Quiet (.bool (decide (goodP 3 l))) w) := by
  have e : goodP 3 l ↔ oneP l 64 := by simp [goodP]
  rw [show decide (goodP 3 l) = decide (oneP l 64) from decide_eq_decide.2 e]
  have H := Lib.hid h
  clear h e
  go_enter Try.func69, Try.ntmps69
  go_wp2_with fail
  refine (rone_any _ _ _ _ l 64 H.out).mono ?_
  rintro e w' ⟨rfl, rfl⟩
  go_wp2
  go_ret
  exact ⟨rfl, 0, rfl⟩

theorem rgood_11 {o : Col} {c : Nat} (w : World) (ao : Option Addr) (n cap : Nat) (l : List Int) (h : Ints w o c (.slice ao n cap) l) : Calls Try.prog 69 #[.int .u8 11, .slice ao n cap] w (Quiet (.bool (decide (goodP 11 l))) w) := by
  have e : goodP 11 l ↔ oneP l 64 := by simp [goodP]
  rw [show decide (goodP 11 l) = decide (oneP l 64) from decide_eq_decide.2 e]
  have H := Lib.hid h
  clear h e
  go_enter Try.func69, Try.ntmps69
  go_wp2_with fail
  refine (rone_any _ _ _ _ l 64 H.out).mono ?_
  rintro e w' ⟨rfl, rfl⟩
  go_wp2
  go_ret
  exact ⟨rfl, 0, rfl⟩

theorem rgood_6 {o : Col} {c : Nat} (w : World) (ao : Option Addr) (n cap : Nat) (l : List Int) (h : Ints w o c (.slice ao n cap) l) : Calls Try.prog 69 #[.int .u8 6, .slice ao n cap] w (Quiet (.bool (decide (goodP 6 l))) w) := by
  have e : goodP 6 l ↔ oneP l 16 := by simp [goodP]
  rw [show decide (goodP 6 l) = decide (oneP l 16) from decide_eq_decide.2 e]
  have H := Lib.hid h
  clear h e
  go_enter Try.func69, Try.ntmps69
  go_wp2_with fail
  refine (rone_any _ _ _ _ l 16 H.out).mono ?_
  rintro e w' ⟨rfl, rfl⟩
  go_wp2
  go_ret
  exact ⟨rfl, 0, rfl⟩

theorem rgood_9 {o : Col} {c : Nat} (w : World) (ao : Option Addr) (n cap : Nat) (l : List Int) (h : Ints w o c (.slice ao n cap) l) : Calls Try.prog 69 #[.int .u8 9, .slice ao n cap] w (Quiet (.bool (decide (goodP 9 l))) w) := by
  have e : goodP 9 l ↔ oneP l 16 := by simp [goodP]
  rw [show decide (goodP 9 l) = decide (oneP l 16) from decide_eq_decide.2 e]
  have H := Lib.hid h
  clear h e
  go_enter Try.func69, Try.ntmps69
  go_wp2_with fail
  refine (rone_any _ _ _ _ l 16 H.out).mono ?_
  rintro e w' ⟨rfl, rfl⟩
  go_wp2
  go_ret
  exact ⟨rfl, 0, rfl⟩


theorem rgood_4 {o : Col} {c : Nat} (w : World) (ao : Option Addr) (n cap : Nat) (l : List Int) (h : Ints w o c (.slice ao n cap) l) : Calls Try.prog 69 #[.int .u8 4, .slice ao n cap] w (Quiet (.bool (decide (goodP 4 l))) w) := by
  have e : goodP 4 l ↔ pairP l := by simp [goodP]
  rw [show decide (goodP 4 l) = decide (pairP l) from decide_eq_decide.2 e]
  have H := Lib.hid h
  clear h e
  go_enter Try.func69, Try.ntmps69
  go_wp2_with fail
  refine (rtwo_any _ _ _ _ l H.out).mono ?_
  rintro e w' ⟨rfl, m, rfl⟩
  go_wp2
  go_ret
  exact ⟨rfl, m, rfl⟩

theorem rgood_5 {o : Col} {c : Nat} (w : World) (ao : Option Addr) (n cap : Nat) (l : List Int) (h : Ints w o c (.slice ao n cap) l) : Calls Try.prog 69 #[.int .u8 5, .slice ao n cap] w (Quiet (.bool (decide (goodP 5 l))) w) := by
  have e : goodP 5 l ↔ pairP l := by simp [goodP]
  rw [show decide (goodP 5 l) = decide (pairP l) from decide_eq_decide.2 e]
  have H := Lib.hid h
  clear h e
  go_enter Try.func69, Try.ntmps69
  go_wp2_with fail
  refine (rtwo_any _ _ _ _ l H.out).mono ?_
  rintro e w' ⟨rfl, m, rfl⟩
  go_wp2
  go_ret
  exact ⟨rfl, m, rfl⟩


theorem rgood_7 {o : Col} {c : Nat} (w : World) (ao : Option Addr) (n cap : Nat) (l : List Int) (h : Ints w o c (.slice ao n cap) l) : Calls Try.prog 69 #[.int .u8 7, .slice ao n cap] w (Quiet (.bool (decide (goodP 7 l))) w) := by
  have e : goodP 7 l ↔ l.length = 0 := by simp [goodP]
  rw [show decide (goodP 7 l) = decide (l.length = 0) from decide_eq_decide.2 e]
  obtain rfl := h.len
  clear h e
  generalize l.length = L at *
  by_cases hl : L = 0
  · subst hl
    rw [decide_eq_true rfl]
    go_enter Try.func69, Try.ntmps69
    go_wp2
    go_ret
    exact ⟨rfl, 0, rfl⟩
  · have hb : decide (L = 0) = false := decide_eq_false hl
    have hb1 : ((L : Int) == 0) = false := by simp; omega
    rw [hb]
    go_enter Try.func69, Try.ntmps69
    go_wp2
    go_ret
    refine ⟨?_, 0, rfl⟩
    first
      | rfl
      | (show Ending.returned (.bool (decide (L = 0))) = _; rw [hb])
      | (show Ending.returned (.bool (L == 0)) = _; simp [hl])
      | (show Ending.returned (.bool ((L : Int) == 0)) = _; rw [hb1])
      | (show Ending.returned (.bool (decide ((L : Int) = 0))) = _; rw [decide_eq_false (by omega)])

theorem rgood_8 {o : Col} {c : Nat} (w : World) (ao : Option Addr) (n cap : Nat) (l : List Int) (h : Ints w o c (.slice ao n cap) l) : Calls Try.prog 69 #[.int .u8 8, .slice ao n cap] w (Quiet (.bool (decide (goodP 8 l))) w) := by
  have e : goodP 8 l ↔ l.length = 0 := by simp [goodP]
  rw [show decide (goodP 8 l) = decide (l.length = 0) from decide_eq_decide.2 e]
  obtain rfl := h.len
  clear h e
  generalize l.length = L at *
  by_cases hl : L = 0
  · subst hl
    rw [decide_eq_true rfl]
    go_enter Try.func69, Try.ntmps69
    go_wp2
    go_ret
    exact ⟨rfl, 0, rfl⟩
  · have hb : decide (L = 0) = false := decide_eq_false hl
    have hb1 : ((L : Int) == 0) = false := by simp; omega
    rw [hb]
    go_enter Try.func69, Try.ntmps69
    go_wp2
    go_ret
    refine ⟨?_, 0, rfl⟩
    first
      | rfl
      | (show Ending.returned (.bool (decide (L = 0))) = _; rw [hb])
      | (show Ending.returned (.bool (L == 0)) = _; simp [hl])
      | (show Ending.returned (.bool ((L : Int) == 0)) = _; rw [hb1])
      | (show Ending.returned (.bool (decide ((L : Int) = 0))) = _; rw [decide_eq_false (by omega)])

theorem rgood_10 {o : Col} {c : Nat} (w : World) (ao : Option Addr) (n cap : Nat) (l : List Int) (h : Ints w o c (.slice ao n cap) l) : Calls Try.prog 69 #[.int .u8 10, .slice ao n cap] w (Quiet (.bool (decide (goodP 10 l))) w) := by
  have e : goodP 10 l ↔ l.length = 2 := by simp [goodP]
  rw [show decide (goodP 10 l) = decide (l.length = 2) from decide_eq_decide.2 e]
  obtain rfl := h.len
  clear h e
  generalize l.length = L at *
  by_cases hl : L = 2
  · subst hl
    rw [decide_eq_true rfl]
    go_enter Try.func69, Try.ntmps69
    go_wp2
    go_ret
    exact ⟨rfl, 0, rfl⟩
  · have hb : decide (L = 2) = false := decide_eq_false hl
    have hb1 : ((L : Int) == 2) = false := by simp; omega
    rw [hb]
    go_enter Try.func69, Try.ntmps69
    go_wp2
    go_ret
    refine ⟨?_, 0, rfl⟩
    first
      | rfl
      | (show Ending.returned (.bool (decide (L = 2))) = _; rw [hb])
      | (show Ending.returned (.bool (L == 2)) = _; simp [hl])
      | (show Ending.returned (.bool ((L : Int) == 2)) = _; rw [hb1])
      | (show Ending.returned (.bool (decide ((L : Int) = 2))) = _; rw [decide_eq_false (by omega)])


theorem rgood_1 {o : Col} {c : Nat} (w : World) (ao : Option Addr) (n cap : Nat) (l : List Int) (h : Ints w o c (.slice ao n cap) l) : Calls Try.prog 69 #[.int .u8 1, .slice ao n cap] w (Quiet (.bool (decide (goodP 1 l))) w) := by
  have e : goodP 1 l ↔ 1 ≤ l.length ∧ l.length ≤ 16 := by simp [goodP]
  rw [show decide (goodP 1 l) = decide (1 ≤ l.length ∧ l.length ≤ 16) from decide_eq_decide.2 e]
  obtain rfl := h.len
  clear h e
  by_cases h1 : 1 ≤ l.length
  · have h1i : (1 : Int) ≤ l.length := by omega
    by_cases h2 : l.length ≤ 16
    · have h2i : (l.length : Int) ≤ 16 := by omega
      rw [decide_eq_true ⟨h1, h2⟩]
      go_enter Try.func69, Try.ntmps69
      go_wp2
      go_ret
      exact ⟨rfl, 0, rfl⟩
    · have h2i : ¬ (l.length : Int) ≤ 16 := by omega
      rw [decide_eq_false (fun h => h2 h.2)]
      go_enter Try.func69, Try.ntmps69
      go_wp2
      go_ret
      exact ⟨rfl, 0, rfl⟩
  · have h1i : ¬ (1 : Int) ≤ l.length := by omega
    rw [decide_eq_false (fun h => h1 h.1)]
    go_enter Try.func69, Try.ntmps69
    go_wp2
    go_ret
    exact ⟨rfl, 0, rfl⟩

theorem rgood_any {o : Col} {c : Nat} (w : World) (t : Int) (ht : TagOk t) (ao : Option Addr) (n cap : Nat) (l : List Int) (h : Ints w o c (.slice ao n cap) l) : Calls Try.prog 69 #[.int .u8 t, .slice ao n cap] w (Quiet (.bool (decide (goodP t l))) w) := by
  rcases ht with rfl | rfl | rfl | rfl | rfl | rfl | rfl | rfl | rfl | rfl | rfl
  · exact rgood_1 w ao n cap l h
  · exact rgood_2 w ao n cap l h
  · exact rgood_3 w ao n cap l h
  · exact rgood_4 w ao n cap l h
  · exact rgood_5 w ao n cap l h
  · exact rgood_6 w ao n cap l h
  · exact rgood_7 w ao n cap l h
  · exact rgood_8 w ao n cap l h
  · exact rgood_9 w ao n cap l h
  · exact rgood_10 w ao n cap l h
  · exact rgood_11 w ao n cap l h

theorem rof_tag (w : World) (t : Int) (v : Value) (h : t < 1 ∨ 11 < t) : Calls Try.prog 65 #[.int .u8 t, v] w (OfNo w 60) := by
  by_cases h1 : t < 1
  · go_enter Try.func65, Try.ntmps65
    go_wp2
    go_ret3
    exact ⟨rfl, Below.refl _ _⟩
  · have h2 : 11 < t := by omega
    go_enter Try.func65, Try.ntmps65
    go_wp2
    go_ret3
    exact ⟨rfl, Below.refl _ _⟩

theorem rof_bad {o : Col} {c : Nat} (w : World) (t : Int) (ht : TagOk t) (ao : Option Addr) (n cap : Nat) (l : List Int) (hg : ¬ goodP t l) (h : Ints w o c (.slice ao n cap) l) : Calls Try.prog 65 #[.int .u8 t, .slice ao n cap] w (OfNo w 61) := by
  have h1 : 1 ≤ t := by unfold TagOk at ht; omega
  have h2 : t ≤ 11 := by unfold TagOk at ht; omega
  have hgd := rgood_any w t ht ao n cap l h
  rw [decide_eq_false hg] at hgd
  clear ht hg h
  go_enter Try.func65, Try.ntmps65
  go_wp2_with fail
  refine hgd.mono ?_
  rintro e w' ⟨rfl, m, rfl⟩
  clear hgd
  go_wp2
  go_ret3
  exact ⟨rfl, below_n (Below.refl _ _) m⟩
end Go.Proofs.Ytnnnpippekpibaa

/- The reference's Of, where the parameters may be. -/
namespace Go.Proofs.Ytnnnpippekpibaa
open Go.RowKit


theorem rof_1 {o : Col} {c : Nat} (w : World) (ao : Option Addr) (n cap : Nat) (l : List Int) (hg : goodP 1 l) (h : Ints w o c (.slice ao n cap) l) : Calls Try.prog 65 #[.int .u8 1, .slice ao n cap] w (OfOk w 1 l) := by
  have hgd := rgood_any w 1 (by simp [TagOk]) _ _ _ _ h
  rw [decide_eq_true hg] at hgd
  clear hg h
  go_enter Try.func65, Try.ntmps65
  go_wp2_with fail
  refine hgd.mono ?_
  rintro e w0 ⟨rfl, m, rfl⟩
  clear hgd
  go_wp2_with fail
  refine (rports_any _ 1 1 (by omega)).mono ?_
  rintro e w1 ⟨v1, rfl, ho1, hb1⟩
  have HO1 := Lib.hid ho1
  clear ho1
  go_wp2_with fail
  refine (rports_any _ 1 1 (by omega)).mono ?_
  rintro e w2 ⟨v2, rfl, ho2, hb2⟩
  have HO2 := Lib.hid ho2
  clear ho2
  go_wp2
  go_ret3
  obtain ⟨q1, q2, q3⟩ := of_fin (below_n (Below.refl _ w) m) HO1.out hb1 (Below.refl _ _) HO2.out hb2
  exact ⟨v1, v2, rfl, q1, q2, q3⟩
theorem rof_8 {o : Col} {c : Nat} (w : World) (ao : Option Addr) (n cap : Nat) (l : List Int) (hg : goodP 8 l) (h : Ints w o c (.slice ao n cap) l) : Calls Try.prog 65 #[.int .u8 8, .slice ao n cap] w (OfOk w 8 l) := by
  have hgd := rgood_any w 8 (by simp [TagOk]) _ _ _ _ h
  rw [decide_eq_true hg] at hgd
  clear hg h
  go_enter Try.func65, Try.ntmps65
  go_wp2_with fail
  refine hgd.mono ?_
  rintro e w0 ⟨rfl, m, rfl⟩
  clear hgd
  go_wp2_with fail
  refine (rports_any _ 1 1 (by omega)).mono ?_
  rintro e w1 ⟨v1, rfl, ho1, hb1⟩
  have HO1 := Lib.hid ho1
  clear ho1
  go_wp2_with fail
  refine (rports_any _ 1 1 (by omega)).mono ?_
  rintro e w2 ⟨v2, rfl, ho2, hb2⟩
  have HO2 := Lib.hid ho2
  clear ho2
  go_wp2
  go_ret3
  obtain ⟨q1, q2, q3⟩ := of_fin (below_n (Below.refl _ w) m) HO1.out hb1 (Below.refl _ _) HO2.out hb2
  exact ⟨v1, v2, rfl, q1, q2, q3⟩
theorem rof_7 {o : Col} {c : Nat} (w : World) (ao : Option Addr) (n cap : Nat) (l : List Int) (hg : goodP 7 l) (h : Ints w o c (.slice ao n cap) l) : Calls Try.prog 65 #[.int .u8 7, .slice ao n cap] w (OfOk w 7 l) := by
  have hgd := rgood_any w 7 (by simp [TagOk]) _ _ _ _ h
  rw [decide_eq_true hg] at hgd
  clear hg h
  go_enter Try.func65, Try.ntmps65
  go_wp2_with fail
  refine hgd.mono ?_
  rintro e w0 ⟨rfl, m, rfl⟩
  clear hgd
  go_wp2_with fail
  refine (rports_any _ 2 1 (by omega)).mono ?_
  rintro e w1 ⟨v1, rfl, ho1, hb1⟩
  have HO1 := Lib.hid ho1
  clear ho1
  go_wp2_with fail
  refine (rports_any _ 1 1 (by omega)).mono ?_
  rintro e w2 ⟨v2, rfl, ho2, hb2⟩
  have HO2 := Lib.hid ho2
  clear ho2
  go_wp2
  go_ret3
  obtain ⟨q1, q2, q3⟩ := of_fin (below_n (Below.refl _ w) m) HO1.out hb1 (Below.refl _ _) HO2.out hb2
  exact ⟨v1, v2, rfl, q1, q2, q3⟩

theorem rof_3 {o : Col} {c : Nat} (w : World) (ao : Option Addr) (n cap : Nat) (l : List Int) (hg : goodP 3 l) (h : Ints w o c (.slice ao n cap) l) : Calls Try.prog 65 #[.int .u8 3, .slice ao n cap] w (OfOk w 3 l) := by
  have hp : oneP l 64 := by simpa [goodP] using hg
  obtain ⟨hl, hx1, hx2⟩ := hp
  obtain ⟨x, rfl⟩ : ∃ x, l = [x] := by
    match l, hl with
    | [x], _ => exact ⟨x, rfl⟩
  simp only [hd, List.getElem?_cons_zero, Option.getD_some] at hx1 hx2
  obtain rfl := h.len
  obtain ⟨b, off, rfl, -, hcap, -, -, hc⟩ := h.at (by simp)
  have c0 := hc 0 (by simp)
  simp at c0
  have hcapi : (1 : Int) ≤ cap := by simp at hcap; omega
  clear hc
  have hgd := rgood_any w 3 (by simp [TagOk]) _ _ _ _ h
  rw [decide_eq_true hg] at hgd
  clear hg h
  go_enter Try.func65, Try.ntmps65
  go_wp2_with fail
  refine hgd.mono ?_
  rintro e w0 ⟨rfl, m, rfl⟩
  clear hgd
  go_wp2_with fail
  refine (rports_any _ 1 x (by omega)).mono ?_
  rintro e w1 ⟨v1, rfl, ho1, hb1⟩
  have HO1 := Lib.hid ho1
  clear ho1
  go_wp2_with fail
  refine (rports_any _ 1 1 (by omega)).mono ?_
  rintro e w2 ⟨v2, rfl, ho2, hb2⟩
  have HO2 := Lib.hid ho2
  clear ho2
  go_wp2
  go_ret3
  obtain ⟨q1, q2, q3⟩ := of_fin (below_n (Below.refl _ w) m) HO1.out hb1 (Below.refl _ _) HO2.out hb2
  exact ⟨v1, v2, rfl, q1, q2, q3⟩
theorem rof_11 {o : Col} {c : Nat} (w : World) (ao : Option Addr) (n cap : Nat) (l : List Int) (hg : goodP 11 l) (h : Ints w o c (.slice ao n cap) l) : Calls Try.prog 65 #[.int .u8 11, .slice ao n cap] w (OfOk w 11 l) := by
  have hp : oneP l 64 := by simpa [goodP] using hg
  obtain ⟨hl, hx1, hx2⟩ := hp
  obtain ⟨x, rfl⟩ : ∃ x, l = [x] := by
    match l, hl with
    | [x], _ => exact ⟨x, rfl⟩
  simp only [hd, List.getElem?_cons_zero, Option.getD_some] at hx1 hx2
  obtain rfl := h.len
  obtain ⟨b, off, rfl, -, hcap, -, -, hc⟩ := h.at (by simp)
  have c0 := hc 0 (by simp)
  simp at c0
  have hcapi : (1 : Int) ≤ cap := by simp at hcap; omega
  clear hc
  have hgd := rgood_any w 11 (by simp [TagOk]) _ _ _ _ h
  rw [decide_eq_true hg] at hgd
  clear hg h
  go_enter Try.func65, Try.ntmps65
  go_wp2_with fail
  refine hgd.mono ?_
  rintro e w0 ⟨rfl, m, rfl⟩
  clear hgd
  go_wp2_with fail
  refine (rports_any _ 1 x (by omega)).mono ?_
  rintro e w1 ⟨v1, rfl, ho1, hb1⟩
  have HO1 := Lib.hid ho1
  clear ho1
  go_wp2
  go_ret3
  obtain ⟨q1, q3⟩ := of_fin1 (below_n (Below.refl _ w) m) HO1.out hb1
  exact ⟨v1, .slice none 0 0, rfl, q1, World.ownsRow_nil _ _ _ _, q3⟩
theorem rof_10 {o : Col} {c : Nat} (w : World) (ao : Option Addr) (n cap : Nat) (l : List Int) (hg : goodP 10 l) (h : Ints w o c (.slice ao n cap) l) : Calls Try.prog 65 #[.int .u8 10, .slice ao n cap] w (OfOk w 10 l) := by
  have hgd := rgood_any w 10 (by simp [TagOk]) _ _ _ _ h
  rw [decide_eq_true hg] at hgd
  clear hg h
  go_enter Try.func65, Try.ntmps65
  go_wp2_with fail
  refine hgd.mono ?_
  rintro e w0 ⟨rfl, m, rfl⟩
  clear hgd
  go_wp2_with fail
  refine (rports_any _ 1 1 (by omega)).mono ?_
  rintro e w1 ⟨v1, rfl, ho1, hb1⟩
  have HO1 := Lib.hid ho1
  clear ho1
  go_wp2
  go_ret3
  obtain ⟨q1, q3⟩ := of_fin1 (below_n (Below.refl _ w) m) HO1.out hb1
  exact ⟨.slice none 0 0, v1, rfl, World.ownsRow_nil _ _ _ _, q1, q3⟩
theorem rof_6 {o : Col} {c : Nat} (w : World) (ao : Option Addr) (n cap : Nat) (l : List Int) (hg : goodP 6 l) (h : Ints w o c (.slice ao n cap) l) : Calls Try.prog 65 #[.int .u8 6, .slice ao n cap] w (OfOk w 6 l) := by
  have hp : oneP l 16 := by simpa [goodP] using hg
  obtain ⟨hl, hx1, hx2⟩ := hp
  obtain ⟨x, rfl⟩ : ∃ x, l = [x] := by
    match l, hl with
    | [x], _ => exact ⟨x, rfl⟩
  simp only [hd, List.getElem?_cons_zero, Option.getD_some] at hx1 hx2
  obtain rfl := h.len
  obtain ⟨b, off, rfl, -, hcap, -, -, hc⟩ := h.at (by simp)
  have c0 := hc 0 (by simp)
  simp at c0
  have hcapi : (1 : Int) ≤ cap := by simp at hcap; omega
  clear hc
  have hgd := rgood_any w 6 (by simp [TagOk]) _ _ _ _ h
  rw [decide_eq_true hg] at hgd
  clear hg h
  go_enter Try.func65, Try.ntmps65
  go_wp2_with fail
  refine hgd.mono ?_
  rintro e w0 ⟨rfl, m, rfl⟩
  clear hgd
  obtain ⟨u, rfl⟩ : ∃ u : Nat, x = u := ⟨x.toNat, by omega⟩
  go_wp2_with fail
  refine (rports_any _ u 1 (by omega)).mono ?_
  rintro e w1 ⟨v1, rfl, ho1, hb1⟩
  have HO1 := Lib.hid ho1
  clear ho1
  go_wp2_with fail
  refine (rports_any _ 1 1 (by omega)).mono ?_
  rintro e w2 ⟨v2, rfl, ho2, hb2⟩
  have HO2 := Lib.hid ho2
  clear ho2
  go_wp2
  go_ret3
  obtain ⟨q1, q2, q3⟩ := of_fin (below_n (Below.refl _ w) m) HO1.out hb1 (Below.refl _ _) HO2.out hb2
  exact ⟨v1, v2, rfl, q1, q2, q3⟩

theorem rof_2 {o : Col} {c : Nat} (w : World) (ao : Option Addr) (n cap : Nat) (l : List Int) (hg : goodP 2 l) (h : Ints w o c (.slice ao n cap) l) : Calls Try.prog 65 #[.int .u8 2, .slice ao n cap] w (OfOk w 2 l) := by
  have hp : oneP l 64 := by simpa [goodP] using hg
  obtain ⟨hl, hx1, hx2⟩ := hp
  obtain ⟨x, rfl⟩ : ∃ x, l = [x] := by
    match l, hl with
    | [x], _ => exact ⟨x, rfl⟩
  simp only [hd, List.getElem?_cons_zero, Option.getD_some] at hx1 hx2
  obtain rfl := h.len
  obtain ⟨b, off, rfl, -, hcap, -, -, hc⟩ := h.at (by simp)
  have c0 := hc 0 (by simp)
  simp at c0
  have hcapi : (1 : Int) ≤ cap := by simp at hcap; omega
  clear hc
  have hgd := rgood_any w 2 (by simp [TagOk]) _ _ _ _ h
  rw [decide_eq_true hg] at hgd
  clear hg h
  go_enter Try.func65, Try.ntmps65
  go_wp2_with fail
  refine hgd.mono ?_
  rintro e w0 ⟨rfl, m, rfl⟩
  clear hgd
  go_wp2_with fail
  refine wp_region_rest (fun w' => w'.cell? ⟨b, off, none⟩ = some (.int .i64 x)) [1, 2, 3] [0] 5 (by kernel_rfl) (by kernel_rfl) rfl c0 ?_
  intro Q' hQ'
  simp only [pickOps, List.flatMap_cons, List.flatMap_nil, List.drop_succ_cons, List.drop_zero, List.take_succ_cons, List.take_zero, List.cons_append, List.nil_append, List.append_nil]
  repeat (first
    | (refine wpReads_skip (by rfl) ?_; (try simp only [Act.put, List.setIfInBounds_toArray, List.set_cons_zero, List.set_cons_succ]))
    | (refine wpReads_cons ?_ (by rfl) (by rfl) ?_ ?_; rotate_left; (intro wz hz; (try dsimp only at hz); go_simp; try with_reducible rfl); (try simp only [Act.put, List.setIfInBounds_toArray, List.set_cons_zero, List.set_cons_succ]))
    | (refine wpReads_any ?_ (by rfl) ?_ ?_; rotate_left; (intro wz; go_simp; try with_reducible rfl); (try simp only [Act.put, List.setIfInBounds_toArray, List.set_cons_zero, List.set_cons_succ])))
  refine wpReads_nil ?_
  refine wpAnyT_one (i := 0) (by kernel_rfl) ?_
  simp only [pickOps, List.flatMap_cons, List.flatMap_nil, List.drop_zero, List.take_succ_cons, List.take_zero, List.append_nil]
  go_wp2_with fail
  refine (rports_any _ 1 1 (by omega)).mono ?_
  rintro e w1 ⟨v1, rfl, ho1, hb1⟩
  have HO1 := Lib.hid ho1
  clear ho1
  have hb1 : Below w.heap.size w w1 := below_ld (n := m + 1) hb1
  go_wp2
  refine ⟨fun _ hS => cell_later hb1 c0, ?_⟩
  refine wpAnyT_list (ks := [4, 5, 6, 7]) (fun _ _ hx h => hx.cell h) (by kernel_rfl) ?_
  simp only [pickOps, List.flatMap_cons, List.flatMap_nil, List.drop_succ_cons, List.drop_zero, List.take_succ_cons, List.take_zero, List.cons_append, List.nil_append, List.append_nil]
  go_wp2_with fail
  refine (rports_any _ 1 x (by omega)).mono ?_
  rintro e w2 ⟨v2, rfl, ho2, hb2⟩
  have HO2 := Lib.hid ho2
  clear ho2
  go_wp2
  go_ret3
  obtain ⟨q1, q2, q3⟩ := of_fin (Below.refl _ w) HO1.out hb1 (Below.refl _ _) HO2.out hb2
  exact ⟨v1, v2, rfl, q1, q2, q3⟩

theorem rof_9 {o : Col} {c : Nat} (w : World) (ao : Option Addr) (n cap : Nat) (l : List Int) (hg : goodP 9 l) (h : Ints w o c (.slice ao n cap) l) : Calls Try.prog 65 #[.int .u8 9, .slice ao n cap] w (OfOk w 9 l) := by
  have hp : oneP l 16 := by simpa [goodP] using hg
  obtain ⟨hl, hx1, hx2⟩ := hp
  obtain ⟨x, rfl⟩ : ∃ x, l = [x] := by
    match l, hl with
    | [x], _ => exact ⟨x, rfl⟩
  simp only [hd, List.getElem?_cons_zero, Option.getD_some] at hx1 hx2
  obtain rfl := h.len
  obtain ⟨b, off, rfl, -, hcap, -, -, hc⟩ := h.at (by simp)
  have c0 := hc 0 (by simp)
  simp at c0
  have hcapi : (1 : Int) ≤ cap := by simp at hcap; omega
  clear hc
  have hgd := rgood_any w 9 (by simp [TagOk]) _ _ _ _ h
  rw [decide_eq_true hg] at hgd
  clear hg h
  go_enter Try.func65, Try.ntmps65
  go_wp2_with fail
  refine hgd.mono ?_
  rintro e w0 ⟨rfl, m, rfl⟩
  clear hgd
  obtain ⟨u, hu⟩ : ∃ u : Nat, x = u := ⟨x.toNat, by omega⟩
  subst hu
  go_wp2_with fail
  refine wp_region_rest (fun w' => w'.cell? ⟨b, off, none⟩ = some (.int .i64 u)) [1, 2, 3] [0] 5 (by kernel_rfl) (by kernel_rfl) rfl c0 ?_
  intro Q' hQ'
  simp only [pickOps, List.flatMap_cons, List.flatMap_nil, List.drop_succ_cons, List.drop_zero, List.take_succ_cons, List.take_zero, List.cons_append, List.nil_append, List.append_nil]
  repeat (first
    | (refine wpReads_skip (by rfl) ?_; (try simp only [Act.put, List.setIfInBounds_toArray, List.set_cons_zero, List.set_cons_succ]))
    | (refine wpReads_cons ?_ (by rfl) (by rfl) ?_ ?_; rotate_left; (intro wz hz; (try dsimp only at hz); go_simp; try with_reducible rfl); (try simp only [Act.put, List.setIfInBounds_toArray, List.set_cons_zero, List.set_cons_succ]))
    | (refine wpReads_any ?_ (by rfl) ?_ ?_; rotate_left; (intro wz; go_simp; try with_reducible rfl); (try simp only [Act.put, List.setIfInBounds_toArray, List.set_cons_zero, List.set_cons_succ])))
  refine wpReads_nil ?_
  refine wpAnyT_one (i := 0) (by kernel_rfl) ?_
  simp only [pickOps, List.flatMap_cons, List.flatMap_nil, List.drop_zero, List.take_succ_cons, List.take_zero, List.append_nil]
  go_wp2_with fail
  refine (rports_any _ 1 1 (by omega)).mono ?_
  rintro e w1 ⟨v1, rfl, ho1, hb1⟩
  have HO1 := Lib.hid ho1
  clear ho1
  have hb1 : Below w.heap.size w w1 := below_ld (n := m + 1) hb1
  go_wp2
  refine ⟨fun _ hS => cell_later hb1 c0, ?_⟩
  refine wpAnyT_list (ks := [4, 5, 6, 7]) (fun _ _ hx h => hx.cell h) (by kernel_rfl) ?_
  simp only [pickOps, List.flatMap_cons, List.flatMap_nil, List.drop_succ_cons, List.drop_zero, List.take_succ_cons, List.take_zero, List.cons_append, List.nil_append, List.append_nil]
  go_wp2_with fail
  refine (rports_any _ u 1 (by omega)).mono ?_
  rintro e w2 ⟨v2, rfl, ho2, hb2⟩
  have HO2 := Lib.hid ho2
  clear ho2
  go_wp2
  go_ret3
  obtain ⟨q1, q2, q3⟩ := of_fin (Below.refl _ w) HO1.out hb1 (Below.refl _ _) HO2.out hb2
  exact ⟨v1, v2, rfl, q1, q2, q3⟩

theorem rof_4 {o : Col} {c : Nat} (w : World) (ao : Option Addr) (n cap : Nat) (l : List Int) (hg : goodP 4 l) (h : Ints w o c (.slice ao n cap) l) : Calls Try.prog 65 #[.int .u8 4, .slice ao n cap] w (OfOk w 4 l) := by
  have hp : pairP l := by simpa [goodP] using hg
  obtain ⟨hl, hx, hy, hxy⟩ := hp
  obtain ⟨x, y, rfl⟩ : ∃ x y, l = [x, y] := by
    match l, hl with
    | [x, y], _ => exact ⟨x, y, rfl⟩
  simp only [hd, hd1, List.getElem?_cons_zero, List.getElem?_cons_succ, Option.getD_some] at hx hy hxy
  obtain rfl := h.len
  obtain ⟨b, off, rfl, -, hcap, -, -, hc⟩ := h.at (by simp)
  have c0 := hc 0 (by simp)
  have c1 := hc 1 (by simp)
  simp at c0 c1
  have hcapi : (2 : Int) ≤ cap := by simp at hcap; omega
  clear hc
  have hgd := rgood_any w 4 (by simp [TagOk]) _ _ _ _ h
  rw [decide_eq_true hg] at hgd
  clear hg h
  go_enter Try.func65, Try.ntmps65
  go_wp2_with fail
  refine hgd.mono ?_
  rintro e w0 ⟨rfl, m, rfl⟩
  clear hgd
  obtain ⟨u, hu⟩ : ∃ u : Nat, x = u := ⟨x.toNat, by omega⟩
  obtain ⟨k, hk⟩ : ∃ k : Nat, y = k := ⟨y.toNat, by omega⟩
  subst hu hk
  have hn0 : (0 : Int) ≤ (u : Int) * k := Int.mul_nonneg (by omega) (by omega)
  have hw : wrap64 ((u : Int) * k) = (u : Int) * k := IntWalk.wrap64_in _ (by omega)
  have hw2 : IntKind.i64.wrap ((u : Int) * k) = (u : Int) * k := IntWalk.i64_in _ (by omega)
  go_wp2_with fail
  refine wp_region_rest (fun w' => w'.cell? ⟨b, off, none⟩ = some (.int .i64 u) ∧ w'.cell? ⟨b, off + 1, none⟩ = some (.int .i64 k)) [0, 1, 2, 3, 4, 5, 7, 8, 9, 10, 11, 12, 13] [6] 5 (by kernel_rfl) (by kernel_rfl) rfl ⟨c0, c1⟩ ?_
  intro Q' hQ'
  simp only [pickOps, List.flatMap_cons, List.flatMap_nil, List.drop_succ_cons, List.drop_zero, List.take_succ_cons, List.take_zero, List.cons_append, List.nil_append, List.append_nil]
  repeat (first
    | (refine wpReads_skip (by rfl) ?_; (try simp only [Act.put, List.setIfInBounds_toArray, List.set_cons_zero, List.set_cons_succ]))
    | (refine wpReads_cons ?_ (by rfl) (by rfl) ?_ ?_; rotate_left; (intro wz hz; (try dsimp only at hz); go_simp; try with_reducible rfl); (try simp only [Act.put, List.setIfInBounds_toArray, List.set_cons_zero, List.set_cons_succ]))
    | (refine wpReads_any ?_ (by rfl) ?_ ?_; rotate_left; (intro wz; go_simp; try with_reducible rfl); (try simp only [Act.put, List.setIfInBounds_toArray, List.set_cons_zero, List.set_cons_succ])))
  refine wpReads_nil ?_
  refine wpAnyT_one (i := 6) (by kernel_rfl) ?_
  simp only [pickOps, List.flatMap_cons, List.flatMap_nil, List.drop_succ_cons, List.drop_zero, List.take_succ_cons, List.take_zero, List.append_nil]
  go_wp2_with fail
  refine (rports_any _ u k (by omega)).mono ?_
  rintro e w1 ⟨v1, rfl, ho1, hb1⟩
  have HO1 := Lib.hid ho1
  clear ho1
  have hb1 : Below w.heap.size w w1 := below_ld (n := m + 1) hb1
  go_wp2
  refine ⟨fun _ hS => ⟨cell_later hb1 c0, cell_later hb1 c1⟩, ?_⟩
  refine wpAnyT_list (ks := [14, 15, 16, 17]) (fun _ _ hx h => ⟨hx.cell h.1, hx.cell h.2⟩) (by kernel_rfl) ?_
  simp only [pickOps, List.flatMap_cons, List.flatMap_nil, List.drop_succ_cons, List.drop_zero, List.take_succ_cons, List.take_zero, List.cons_append, List.nil_append, List.append_nil]
  go_wp2_with fail
  refine (rports_any _ 1 ((u : Int) * k) (by omega)).mono ?_
  rintro e w2 ⟨v2, rfl, ho2, hb2⟩
  have HO2 := Lib.hid ho2
  clear ho2
  go_wp2
  go_ret3
  obtain ⟨q1, q2, q3⟩ := of_fin (Below.refl _ w) HO1.out hb1 (Below.refl _ _) HO2.out hb2
  exact ⟨v1, v2, rfl, q1, q2, q3⟩
theorem rof_5 {o : Col} {c : Nat} (w : World) (ao : Option Addr) (n cap : Nat) (l : List Int) (hg : goodP 5 l) (h : Ints w o c (.slice ao n cap) l) : Calls Try.prog 65 #[.int .u8 5, .slice ao n cap] w (OfOk w 5 l) := by
  have hp : pairP l := by simpa [goodP] using hg
  obtain ⟨hl, hx, hy, hxy⟩ := hp
  obtain ⟨x, y, rfl⟩ : ∃ x y, l = [x, y] := by
    match l, hl with
    | [x, y], _ => exact ⟨x, y, rfl⟩
  simp only [hd, hd1, List.getElem?_cons_zero, List.getElem?_cons_succ, Option.getD_some] at hx hy hxy
  obtain rfl := h.len
  obtain ⟨b, off, rfl, -, hcap, -, -, hc⟩ := h.at (by simp)
  have c0 := hc 0 (by simp)
  have c1 := hc 1 (by simp)
  simp at c0 c1
  have hcapi : (2 : Int) ≤ cap := by simp at hcap; omega
  clear hc
  have hgd := rgood_any w 5 (by simp [TagOk]) _ _ _ _ h
  rw [decide_eq_true hg] at hgd
  clear hg h
  go_enter Try.func65, Try.ntmps65
  go_wp2_with fail
  refine hgd.mono ?_
  rintro e w0 ⟨rfl, m, rfl⟩
  clear hgd
  obtain ⟨u, hu⟩ : ∃ u : Nat, x = u := ⟨x.toNat, by omega⟩
  obtain ⟨k, hk⟩ : ∃ k : Nat, y = k := ⟨y.toNat, by omega⟩
  subst hu hk
  have hn0 : (0 : Int) ≤ (u : Int) * k := Int.mul_nonneg (by omega) (by omega)
  have hw : wrap64 ((u : Int) * k) = (u : Int) * k := IntWalk.wrap64_in _ (by omega)
  have hw2 : IntKind.i64.wrap ((u : Int) * k) = (u : Int) * k := IntWalk.i64_in _ (by omega)
  go_wp2_with fail
  refine wp_region_rest (fun w' => w'.cell? ⟨b, off, none⟩ = some (.int .i64 u) ∧ w'.cell? ⟨b, off + 1, none⟩ = some (.int .i64 k)) [0, 1, 2, 3, 4, 5, 6, 8, 9, 10, 11, 12, 13] [7] 5 (by kernel_rfl) (by kernel_rfl) rfl ⟨c0, c1⟩ ?_
  intro Q' hQ'
  simp only [pickOps, List.flatMap_cons, List.flatMap_nil, List.drop_succ_cons, List.drop_zero, List.take_succ_cons, List.take_zero, List.cons_append, List.nil_append, List.append_nil]
  repeat (first
    | (refine wpReads_skip (by rfl) ?_; (try simp only [Act.put, List.setIfInBounds_toArray, List.set_cons_zero, List.set_cons_succ]))
    | (refine wpReads_cons ?_ (by rfl) (by rfl) ?_ ?_; rotate_left; (intro wz hz; (try dsimp only at hz); go_simp; try with_reducible rfl); (try simp only [Act.put, List.setIfInBounds_toArray, List.set_cons_zero, List.set_cons_succ]))
    | (refine wpReads_any ?_ (by rfl) ?_ ?_; rotate_left; (intro wz; go_simp; try with_reducible rfl); (try simp only [Act.put, List.setIfInBounds_toArray, List.set_cons_zero, List.set_cons_succ])))
  refine wpReads_nil ?_
  refine wpAnyT_one (i := 7) (by kernel_rfl) ?_
  simp only [pickOps, List.flatMap_cons, List.flatMap_nil, List.drop_succ_cons, List.drop_zero, List.take_succ_cons, List.take_zero, List.append_nil]
  go_wp2_with fail
  refine (rports_any _ 1 ((u : Int) * k) (by omega)).mono ?_
  rintro e w1 ⟨v1, rfl, ho1, hb1⟩
  have HO1 := Lib.hid ho1
  clear ho1
  have hb1 : Below w.heap.size w w1 := below_ld (n := m + 1) hb1
  go_wp2
  refine ⟨fun _ hS => ⟨cell_later hb1 c0, cell_later hb1 c1⟩, ?_⟩
  refine wpAnyT_list (ks := [14, 15, 16, 17]) (fun _ _ hx h => ⟨hx.cell h.1, hx.cell h.2⟩) (by kernel_rfl) ?_
  simp only [pickOps, List.flatMap_cons, List.flatMap_nil, List.drop_succ_cons, List.drop_zero, List.take_succ_cons, List.take_zero, List.cons_append, List.nil_append, List.append_nil]
  go_wp2_with fail
  refine (rports_any _ u k (by omega)).mono ?_
  rintro e w2 ⟨v2, rfl, ho2, hb2⟩
  have HO2 := Lib.hid ho2
  clear ho2
  go_wp2
  go_ret3
  obtain ⟨q1, q2, q3⟩ := of_fin (Below.refl _ w) HO1.out hb1 (Below.refl _ _) HO2.out hb2
  exact ⟨v1, v2, rfl, q1, q2, q3⟩

theorem rof_ok {o : Col} {c : Nat} (w : World) (t : Int) (ao : Option Addr) (n cap : Nat) (ps : List Int) (hg : goodP t ps) (h : Ints w o c (.slice ao n cap) ps) : Calls Try.prog 65 #[.int .u8 t, .slice ao n cap] w (OfOk w t ps) := by
  rcases goodP_cases hg with rfl | rfl | rfl | rfl | rfl | rfl | rfl | rfl | rfl | rfl | rfl
  · exact rof_1 w ao n cap ps hg h
  · exact rof_2 w ao n cap ps hg h
  · exact rof_3 w ao n cap ps hg h
  · exact rof_4 w ao n cap ps hg h
  · exact rof_5 w ao n cap ps hg h
  · exact rof_6 w ao n cap ps hg h
  · exact rof_7 w ao n cap ps hg h
  · exact rof_8 w ao n cap ps hg h
  · exact rof_9 w ao n cap ps hg h
  · exact rof_10 w ao n cap ps hg h
  · exact rof_11 w ao n cap ps hg h
theorem rof_no {o : Col} {c : Nat} (w : World) (t : Int) (ao : Option Addr) (n cap : Nat) (ps : List Int) (hg : ¬ goodP t ps) (h : Ints w o c (.slice ao n cap) ps) : Calls Try.prog 65 #[.int .u8 t, .slice ao n cap] w (OfNo w (errP t)) := by
  unfold errP
  by_cases ht : 1 ≤ t ∧ t ≤ 11
  · rw [if_pos ht]; exact rof_bad w t (by unfold TagOk; omega) ao n cap ps hg h
  · rw [if_neg ht]; exact rof_tag w t _ (by omega)
end Go.Proofs.Ytnnnpippekpibaa

/- The reference's table: part, count, allowed. -/
namespace Go.Proofs.Ytnnnpippekpibaa
open Go.RowKit

theorem r20part_any (w : World) (n k : Int) : Calls Try.prog 74 #[.int .i64 n, .int .i64 k] w (SameW (.bool (decide (0 ≤ n) && decide (n < k))) w) := by
  go_enter Try.func74, Try.ntmps74
  by_cases h1 : 0 ≤ n
  · rw [decide_eq_true h1, Bool.true_and]
    by_cases h2 : n < k
    · rw [decide_eq_true h2]
      go_wp2
      go_ret
      exact ⟨rfl, rfl⟩
    · rw [decide_eq_false h2]
      go_wp2
      go_ret
      exact ⟨rfl, rfl⟩
  · rw [decide_eq_false h1, Bool.false_and]
    go_wp2
    go_ret
    exact ⟨rfl, rfl⟩
theorem r20count_any (w : World) (n k : Int) : Calls Try.prog 75 #[.int .i64 n, .int .i64 k] w (SameW (.bool (decide (1 ≤ n) && decide (n ≤ k))) w) := by
  go_enter Try.func75, Try.ntmps75
  by_cases h1 : 1 ≤ n
  · rw [decide_eq_true h1, Bool.true_and]
    by_cases h2 : n ≤ k
    · rw [decide_eq_true h2]
      go_wp2
      go_ret
      exact ⟨rfl, rfl⟩
    · rw [decide_eq_false h2]
      go_wp2
      go_ret
      exact ⟨rfl, rfl⟩
  · rw [decide_eq_false h1, Bool.false_and]
    go_wp2
    go_ret
    exact ⟨rfl, rfl⟩

set_option maxRecDepth 100000 in
set_option maxHeartbeats 4000000 in
theorem allowed_any (w : World) (v : Value) (P : GProg) (i : Nat) (hv : HasProg w v P) (hz : Sized P) (hi : i < P.ops.length) : Calls Try.prog 71 #[v, .int .i64 i] w (Tells (.bool (soundOp P i P.ops[i])) w) := by
  obtain ⟨vp, vl, vo, rfl, rp, rl, ro⟩ := hv
  obtain ⟨ap, cp, rfl⟩ := rp.slice
  obtain ⟨al, cl, rfl⟩ := rl.slice
  obtain ⟨ao, co, rfl⟩ := ro.slice
  obtain ⟨hc9, _, bo, oo, rfl, o1, o2, o3⟩ := HasRow.opAt ro (List.getElem?_eq_getElem hi)
  obtain ⟨F, hF⟩ : ∃ F, soundOp P i P.ops[i] = F := ⟨_, rfl⟩
  rw [hF]
  obtain ⟨x, hx⟩ : ∃ x, P.ops[i] = x := ⟨_, rfl⟩
  rw [hx] at hF o1 o2 o3
  clear hx rp rl ro
  obtain ⟨kd, xa, xb⟩ := x
  dsimp only at o1 o2 o3
  obtain ⟨z1, z2⟩ := hz.cnt
  obtain ⟨z3, z4⟩ := hz.ins
  obtain ⟨z5, z6⟩ := hz.outs
  have z7 := hz.parts
  have z8 := hz.lines
  have z9 := hz.ops
  unfold soundOp at hF
  dsimp only at hF
  have hb1 := below_alloc w (.cells #[.int .i64 P.memory, .int .i64 P.counters, .int .i64 P.ins, .int .i64 P.outs, .slice ap P.parts.length cp, .slice al P.lines.length cl, .slice (some ⟨bo, oo, none⟩) P.ops.length co] 30)
  have hX := heap_alloc_new w (.cells #[.int .i64 P.memory, .int .i64 P.counters, .int .i64 P.ins, .int .i64 P.outs, .slice ap P.parts.length cp, .slice al P.lines.length cl, .slice (some ⟨bo, oo, none⟩) P.ops.length co] 30)
  have o1 := cell_later hb1 o1
  have o2 := cell_later hb1 o2
  have o3 := cell_later hb1 o3
  have hs : (w.alloc (.cells #[.int .i64 P.memory, .int .i64 P.counters, .int .i64 P.ins, .int .i64 P.outs, .slice ap P.parts.length cp, .slice al P.lines.length cl, .slice (some ⟨bo, oo, none⟩) P.ops.length co] 30)).heap.size = w.heap.size + 1 := by simp
  generalize hW : w.alloc (.cells #[.int .i64 P.memory, .int .i64 P.counters, .int .i64 P.ins, .int .i64 P.outs, .slice ap P.parts.length cp, .slice al P.lines.length cl, .slice (some ⟨bo, oo, none⟩) P.ops.length co] 30) = W at *
  have hb2 := below_alloc W (.cells #[.int .u8 kd, .int .i64 xa, .int .i64 xb] 43)
  have hY := heap_alloc_new W (.cells #[.int .u8 kd, .int .i64 xa, .int .i64 xb] 43)
  have hX2 := block_alloc hX (.cells #[.int .u8 kd, .int .i64 xa, .int .i64 xb] 43)
  have y0 := cells_row _ _ hY 0 _ rfl
  have y1 := cells_row _ _ hY 1 _ rfl
  have y2 := cells_row _ _ hY 2 _ rfl
  have p1 := cells_row _ _ hX2 1 _ rfl
  have p2 := cells_row _ _ hX2 2 _ rfl
  have p3 := cells_row _ _ hX2 3 _ rfl
  have p4 := cells_row _ _ hX2 4 _ rfl
  have p5 := cells_row _ _ hX2 5 _ rfl
  have p6 := cells_row _ _ hX2 6 _ rfl
  have q6 := cells_row _ _ hX 6 _ rfl
  have HB := Lib.hid (hb1.trans (hb2.mono hb1.size))
  have hii : (i : Int) < P.ops.length := by omega
  have hcoi : (P.ops.length : Int) ≤ co := by omega
  clear hb1 hb2 hX hX2 hY hz
  by_cases k0 : kd = 0
  · subst k0
    rw [if_pos rfl] at hF
    have HF := Lib.hid hF
    clear hF
    have hwl : IntKind.i64.wrap ((P.ops.length : Int) - 1) = (P.ops.length : Int) - 1 := IntWalk.i64_in _ (by omega)
    go_enter Try.func71, Try.ntmps71
    by_cases d1 : xa = 0
    · by_cases d2 : xb = 0
      · by_cases d3 : i + 1 = P.ops.length
        · have e : F = true := by rw [← HF.out, decide_eq_true d1, decide_eq_true d2, decide_eq_true d3]; rfl
          subst e
          have d3i : ((i : Int) == (P.ops.length : Int) - 1) = true := by rw [beq_iff_eq]; omega
          subst d1 d2
          go_wp2
          go_ret
          exact ⟨rfl, HB.out⟩
        · have e : F = false := by rw [← HF.out, decide_eq_false d3]; simp
          subst e
          have d3i : ((i : Int) == (P.ops.length : Int) - 1) = false := by rw [beq_eq_false_iff_ne]; omega
          subst d1 d2
          go_wp2
          go_ret
          exact ⟨rfl, HB.out⟩
      · have e : F = false := by rw [← HF.out, decide_eq_false d2]; simp
        subst e
        have d2i : (xb == 0) = false := by rw [beq_eq_false_iff_ne]; exact d2
        subst d1
        go_wp2
        go_ret
        exact ⟨rfl, HB.out⟩
    · have e : F = false := by rw [← HF.out, decide_eq_false d1]; simp
      subst e
      have d1i : (xa == 0) = false := by rw [beq_eq_false_iff_ne]; exact d1
      go_wp2
      go_ret
      exact ⟨rfl, HB.out⟩
  · rw [if_neg k0] at hF
    have k0i : (kd == 0) = false := by rw [beq_eq_false_iff_ne]; exact k0
    by_cases k1 : kd = 1
    · subst k1
      simp only [limP] at hF
      -- a: P.counters, least: (1 : Int), most: 2048
      have HF : Hid ((decide (0 ≤ xa) && decide (xa ≤ P.counters - 1) && decide ((1 : Int) ≤ xb) && decide (xb ≤ 2048)) = F) := Lib.hid (by simpa using hF)
      clear hF
      go_enter Try.func71, Try.ntmps71
      go_wp2_with fail
      refine (r20part_any _ _ _).mono ?_
      rintro e _ ⟨rfl, rfl⟩
      by_cases d1 : 0 ≤ xa
      · by_cases d2 : xa < P.counters
        · rw [decide_eq_true d1, decide_eq_true d2, Bool.true_and]
          have e : F = (decide ((1 : Int) ≤ xb) && decide (xb ≤ 2048)) := by rw [← HF.out, decide_eq_true d1, decide_eq_true (show xa ≤ P.counters - 1 by omega)]; simp
          subst e
          go_wp2_with fail
          refine (r20count_any _ _ _).mono ?_
          rintro e _ ⟨rfl, rfl⟩
          go_wp2
          go_ret
          exact ⟨rfl, HB.out⟩
        · have e : F = false := by rw [← HF.out, decide_eq_false (show ¬ xa ≤ P.counters - 1 by omega)]; simp
          subst e
          rw [decide_eq_false d2, Bool.and_false]
          go_wp2
          go_ret
          exact ⟨rfl, HB.out⟩
      · have e : F = false := by rw [← HF.out, decide_eq_false d1]; simp
        subst e
        rw [decide_eq_false d1, Bool.false_and]
        go_wp2
        go_ret
        exact ⟨rfl, HB.out⟩
    have k1i : (kd == 1) = false := by rw [beq_eq_false_iff_ne]; exact k1
    by_cases k2 : kd = 2
    · subst k2
      simp only [limP] at hF
      -- a: (P.ops.length : Int), least: (0 : Int), most: (P.ops.length : Int) - 1
      have HF : Hid ((decide (0 ≤ xa) && decide (xa ≤ P.counters - 1) && decide ((0 : Int) ≤ xb) && decide (xb ≤ (P.ops.length : Int) - 1)) = F) := Lib.hid (by simpa using hF)
      clear hF
      go_enter Try.func71, Try.ntmps71
      go_wp2_with fail
      refine (r20part_any _ _ _).mono ?_
      rintro e _ ⟨rfl, rfl⟩
      by_cases d1 : 0 ≤ xa
      · by_cases d2 : xa < P.counters
        · rw [decide_eq_true d1, decide_eq_true d2, Bool.true_and]
          have e : F = (decide ((0 : Int) ≤ xb) && decide (xb ≤ (P.ops.length : Int) - 1)) := by rw [← HF.out, decide_eq_true d1, decide_eq_true (show xa ≤ P.counters - 1 by omega)]; simp
          subst e
          go_wp2_with fail
          refine (r20part_any _ _ _).mono ?_
          rintro e _ ⟨rfl, rfl⟩
          rw [show decide (xb < (P.ops.length : Int)) = decide (xb ≤ (P.ops.length : Int) - 1) from decide_eq_decide.2 (by omega)]
          go_wp2
          go_ret
          exact ⟨rfl, HB.out⟩
        · have e : F = false := by rw [← HF.out, decide_eq_false (show ¬ xa ≤ P.counters - 1 by omega)]; simp
          subst e
          rw [decide_eq_false d2, Bool.and_false]
          go_wp2
          go_ret
          exact ⟨rfl, HB.out⟩
      · have e : F = false := by rw [← HF.out, decide_eq_false d1]; simp
        subst e
        rw [decide_eq_false d1, Bool.false_and]
        go_wp2
        go_ret
        exact ⟨rfl, HB.out⟩
    have k2i : (kd == 2) = false := by rw [beq_eq_false_iff_ne]; exact k2
    by_cases k3 : kd = 3
    · subst k3
      simp only [limP] at hF
      -- a: (P.lines.length : Int), least: (1 : Int), most: 64
      have HF : Hid ((decide (0 ≤ xa) && decide (xa ≤ (P.lines.length : Int) - 1) && decide ((1 : Int) ≤ xb) && decide (xb ≤ 64)) = F) := Lib.hid (by simpa using hF)
      clear hF
      go_enter Try.func71, Try.ntmps71
      go_wp2_with fail
      refine (r20part_any _ _ _).mono ?_
      rintro e _ ⟨rfl, rfl⟩
      by_cases d1 : 0 ≤ xa
      · by_cases d2 : xa < (P.lines.length : Int)
        · rw [decide_eq_true d1, decide_eq_true d2, Bool.true_and]
          have e : F = (decide ((1 : Int) ≤ xb) && decide (xb ≤ 64)) := by rw [← HF.out, decide_eq_true d1, decide_eq_true (show xa ≤ (P.lines.length : Int) - 1 by omega)]; simp
          subst e
          go_wp2_with fail
          refine (r20count_any _ _ _).mono ?_
          rintro e _ ⟨rfl, rfl⟩
          go_wp2
          go_ret
          exact ⟨rfl, HB.out⟩
        · have e : F = false := by rw [← HF.out, decide_eq_false (show ¬ xa ≤ (P.lines.length : Int) - 1 by omega)]; simp
          subst e
          rw [decide_eq_false d2, Bool.and_false]
          go_wp2
          go_ret
          exact ⟨rfl, HB.out⟩
      · have e : F = false := by rw [← HF.out, decide_eq_false d1]; simp
        subst e
        rw [decide_eq_false d1, Bool.false_and]
        go_wp2
        go_ret
        exact ⟨rfl, HB.out⟩
    have k3i : (kd == 3) = false := by rw [beq_eq_false_iff_ne]; exact k3
    by_cases k6 : kd = 6
    · subst k6
      simp only [limP] at hF
      -- a: (P.lines.length : Int), least: (1 : Int), most: 64
      have HF : Hid ((decide (0 ≤ xa) && decide (xa ≤ (P.lines.length : Int) - 1) && decide ((1 : Int) ≤ xb) && decide (xb ≤ 64)) = F) := Lib.hid (by simpa using hF)
      clear hF
      go_enter Try.func71, Try.ntmps71
      go_wp2_with fail
      refine (r20part_any _ _ _).mono ?_
      rintro e _ ⟨rfl, rfl⟩
      by_cases d1 : 0 ≤ xa
      · by_cases d2 : xa < (P.lines.length : Int)
        · rw [decide_eq_true d1, decide_eq_true d2, Bool.true_and]
          have e : F = (decide ((1 : Int) ≤ xb) && decide (xb ≤ 64)) := by rw [← HF.out, decide_eq_true d1, decide_eq_true (show xa ≤ (P.lines.length : Int) - 1 by omega)]; simp
          subst e
          go_wp2_with fail
          refine (r20count_any _ _ _).mono ?_
          rintro e _ ⟨rfl, rfl⟩
          go_wp2
          go_ret
          exact ⟨rfl, HB.out⟩
        · have e : F = false := by rw [← HF.out, decide_eq_false (show ¬ xa ≤ (P.lines.length : Int) - 1 by omega)]; simp
          subst e
          rw [decide_eq_false d2, Bool.and_false]
          go_wp2
          go_ret
          exact ⟨rfl, HB.out⟩
      · have e : F = false := by rw [← HF.out, decide_eq_false d1]; simp
        subst e
        rw [decide_eq_false d1, Bool.false_and]
        go_wp2
        go_ret
        exact ⟨rfl, HB.out⟩
    have k6i : (kd == 6) = false := by rw [beq_eq_false_iff_ne]; exact k6
    by_cases k4 : kd = 4
    · subst k4
      simp only [limP] at hF
      -- a: P.ins, least: (1 : Int), most: 64
      have HF : Hid ((decide (0 ≤ xa) && decide (xa ≤ P.ins - 1) && decide ((1 : Int) ≤ xb) && decide (xb ≤ 64)) = F) := Lib.hid (by simpa using hF)
      clear hF
      go_enter Try.func71, Try.ntmps71
      go_wp2_with fail
      refine (r20part_any _ _ _).mono ?_
      rintro e _ ⟨rfl, rfl⟩
      by_cases d1 : 0 ≤ xa
      · by_cases d2 : xa < P.ins
        · rw [decide_eq_true d1, decide_eq_true d2, Bool.true_and]
          have e : F = (decide ((1 : Int) ≤ xb) && decide (xb ≤ 64)) := by rw [← HF.out, decide_eq_true d1, decide_eq_true (show xa ≤ P.ins - 1 by omega)]; simp
          subst e
          go_wp2_with fail
          refine (r20count_any _ _ _).mono ?_
          rintro e _ ⟨rfl, rfl⟩
          go_wp2
          go_ret
          exact ⟨rfl, HB.out⟩
        · have e : F = false := by rw [← HF.out, decide_eq_false (show ¬ xa ≤ P.ins - 1 by omega)]; simp
          subst e
          rw [decide_eq_false d2, Bool.and_false]
          go_wp2
          go_ret
          exact ⟨rfl, HB.out⟩
      · have e : F = false := by rw [← HF.out, decide_eq_false d1]; simp
        subst e
        rw [decide_eq_false d1, Bool.false_and]
        go_wp2
        go_ret
        exact ⟨rfl, HB.out⟩
    have k4i : (kd == 4) = false := by rw [beq_eq_false_iff_ne]; exact k4
    by_cases k7 : kd = 7
    · subst k7
      simp only [limP] at hF
      -- a: P.outs, least: (1 : Int), most: 64
      have HF : Hid ((decide (0 ≤ xa) && decide (xa ≤ P.outs - 1) && decide ((1 : Int) ≤ xb) && decide (xb ≤ 64)) = F) := Lib.hid (by simpa using hF)
      clear hF
      go_enter Try.func71, Try.ntmps71
      go_wp2_with fail
      refine (r20part_any _ _ _).mono ?_
      rintro e _ ⟨rfl, rfl⟩
      by_cases d1 : 0 ≤ xa
      · by_cases d2 : xa < P.outs
        · rw [decide_eq_true d1, decide_eq_true d2, Bool.true_and]
          have e : F = (decide ((1 : Int) ≤ xb) && decide (xb ≤ 64)) := by rw [← HF.out, decide_eq_true d1, decide_eq_true (show xa ≤ P.outs - 1 by omega)]; simp
          subst e
          go_wp2_with fail
          refine (r20count_any _ _ _).mono ?_
          rintro e _ ⟨rfl, rfl⟩
          go_wp2
          go_ret
          exact ⟨rfl, HB.out⟩
        · have e : F = false := by rw [← HF.out, decide_eq_false (show ¬ xa ≤ P.outs - 1 by omega)]; simp
          subst e
          rw [decide_eq_false d2, Bool.and_false]
          go_wp2
          go_ret
          exact ⟨rfl, HB.out⟩
      · have e : F = false := by rw [← HF.out, decide_eq_false d1]; simp
        subst e
        rw [decide_eq_false d1, Bool.false_and]
        go_wp2
        go_ret
        exact ⟨rfl, HB.out⟩
    have k7i : (kd == 7) = false := by rw [beq_eq_false_iff_ne]; exact k7
    by_cases k5 : kd = 5
    · subst k5
      simp only [limP] at hF
      -- a: (P.parts.length : Int), least: (0 : Int), most: 0
      have HF : Hid ((decide (0 ≤ xa) && decide (xa ≤ (P.parts.length : Int) - 1) && decide ((0 : Int) ≤ xb) && decide (xb ≤ 0)) = F) := Lib.hid (by simpa using hF)
      clear hF
      go_enter Try.func71, Try.ntmps71
      go_wp2_with fail
      refine (r20part_any _ _ _).mono ?_
      rintro e _ ⟨rfl, rfl⟩
      by_cases d1 : 0 ≤ xa
      · by_cases d2 : xa < (P.parts.length : Int)
        · rw [decide_eq_true d1, decide_eq_true d2, Bool.true_and]
          have e : F = (decide ((0 : Int) ≤ xb) && decide (xb ≤ 0)) := by rw [← HF.out, decide_eq_true d1, decide_eq_true (show xa ≤ (P.parts.length : Int) - 1 by omega)]; simp
          by_cases d3 : xb = 0
          · have e2 : F = true := by rw [e, d3]; decide
            subst d3 e2
            clear e
            go_wp2
            go_ret
            exact ⟨rfl, HB.out⟩
          · have d3i : (xb == 0) = false := by rw [beq_eq_false_iff_ne]; exact d3
            have e2 : F = false := by
              rw [e]
              by_cases h : (0 : Int) ≤ xb
              · rw [decide_eq_false (show ¬ xb ≤ 0 by omega)]; simp
              · rw [decide_eq_false h]; rfl
            subst e2
            clear e
            go_wp2
            go_ret
            exact ⟨rfl, HB.out⟩
        · have e : F = false := by rw [← HF.out, decide_eq_false (show ¬ xa ≤ (P.parts.length : Int) - 1 by omega)]; simp
          subst e
          rw [decide_eq_false d2, Bool.and_false]
          go_wp2
          go_ret
          exact ⟨rfl, HB.out⟩
      · have e : F = false := by rw [← HF.out, decide_eq_false d1]; simp
        subst e
        rw [decide_eq_false d1, Bool.false_and]
        go_wp2
        go_ret
        exact ⟨rfl, HB.out⟩
    have k5i : (kd == 5) = false := by rw [beq_eq_false_iff_ne]; exact k5
    have e : F = false := by
      rw [← hF, limP, if_neg k1, if_neg k2, if_neg (by omega), if_neg k4, if_neg k7, if_neg k5]
      by_cases h : 0 ≤ xa
      · rw [decide_eq_false (show ¬ xa ≤ (0 : Int) - 1 by omega)]; simp
      · rw [decide_eq_false h]; rfl
    subst e
    clear hF
    go_enter Try.func71, Try.ntmps71
    go_wp2
    go_ret
    exact ⟨rfl, HB.out⟩
end Go.Proofs.Ytnnnpippekpibaa

/- The reference's small: a program of few parts. -/
namespace Go.Proofs.Ytnnnpippekpibaa
open Go.RowKit

def SmallPRet (w : World) (P : GProg) (e : Ending) (w' : World) : Prop := ∃ x : Int, e = .returned (.int .i64 x) ∧ (x = 0 → Sized P) ∧ Below w.heap.size w w'
set_option maxRecDepth 100000 in
theorem r20small_any (w : World) (v : Value) (P : GProg) (hv : HasProg w v P) : Calls Try.prog 64 #[v] w (SmallPRet w P) := by
  obtain ⟨vp, vl, vo, rfl, rp, rl, ro⟩ := hv
  obtain ⟨ap, cp, rfl⟩ := rp.slice
  obtain ⟨al, cl, rfl⟩ := rl.slice
  obtain ⟨ao, co, rfl⟩ := ro.slice
  have hb1 := below_alloc w (.cells #[.int .i64 P.memory, .int .i64 P.counters, .int .i64 P.ins, .int .i64 P.outs, .slice ap P.parts.length cp, .slice al P.lines.length cl, .slice ao P.ops.length co] 30)
  have hX := heap_alloc_new w (.cells #[.int .i64 P.memory, .int .i64 P.counters, .int .i64 P.ins, .int .i64 P.outs, .slice ap P.parts.length cp, .slice al P.lines.length cl, .slice ao P.ops.length co] 30)
  have p0 := cells_row _ _ hX 0 _ rfl
  have p1 := cells_row _ _ hX 1 _ rfl
  have p2 := cells_row _ _ hX 2 _ rfl
  have p3 := cells_row _ _ hX 3 _ rfl
  have p4 := cells_row _ _ hX 4 _ rfl
  have p5 := cells_row _ _ hX 5 _ rfl
  have p6 := cells_row _ _ hX 6 _ rfl
  have HB := Lib.hid hb1
  clear rp rl ro hX hb1
  go_enter Try.func64, Try.ntmps64
  by_cases a1 : P.memory < 0
  · go_wp2
    go_ret
    exact ⟨_, rfl, (fun h => by cases h), HB.out⟩
  by_cases a2 : 1024 < P.memory
  · go_wp2
    go_ret
    exact ⟨_, rfl, (fun h => by cases h), HB.out⟩
  by_cases a3 : P.counters < 0
  · go_wp2
    go_ret
    exact ⟨_, rfl, (fun h => by cases h), HB.out⟩
  by_cases a4 : 17 < P.counters
  · go_wp2
    go_ret
    exact ⟨_, rfl, (fun h => by cases h), HB.out⟩
  by_cases a5 : P.ins < 0
  · go_wp2
    go_ret
    exact ⟨_, rfl, (fun h => by cases h), HB.out⟩
  by_cases a6 : 16 < P.ins
  · go_wp2
    go_ret
    exact ⟨_, rfl, (fun h => by cases h), HB.out⟩
  by_cases a7 : P.outs < 0
  · go_wp2
    go_ret
    exact ⟨_, rfl, (fun h => by cases h), HB.out⟩
  by_cases a8 : 16 < P.outs
  · go_wp2
    go_ret
    exact ⟨_, rfl, (fun h => by cases h), HB.out⟩
  by_cases b1 : (32 : Int) < P.parts.length
  · go_wp2
    go_ret
    exact ⟨_, rfl, (fun h => by cases h), HB.out⟩
  by_cases b2 : (96 : Int) < P.lines.length
  · go_wp2
    go_ret
    exact ⟨_, rfl, (fun h => by cases h), HB.out⟩
  by_cases b3 : (131072 : Int) < P.ops.length
  · go_wp2
    go_ret
    exact ⟨_, rfl, (fun h => by cases h), HB.out⟩
  go_wp2
  go_ret
  exact ⟨0, rfl, fun _ => ⟨by omega, by omega, by omega, by omega, by omega, by omega⟩, HB.out⟩
end Go.Proofs.Ytnnnpippekpibaa

/- The reference's rows, steps: a number, whatever the program that may be. -/
namespace Go.Proofs.Ytnnnpippekpibaa
open Go.RowKit

def RowsPRet (w : World) (P : GProg) (a : Nat) (e : Ending) (w' : World) : Prop := ∃ (n : Int) (b : Nat), e = .returned (.tuple #[.int .i64 n, .int .i64 b]) ∧ (0 ≤ n ∧ n ≤ 131073) ∧ (a ≤ b ∧ b + a ≤ 2 * P.ops.length) ∧ Below w.heap.size w w'
theorem quo_some {c ob : Int} (hc : 0 ≤ c) (hc2 : c ≤ 1000000) (h : 1 ≤ ob) : ∃ q, wrap64 (Int.tdiv c ob) = q ∧ c / ob = q ∧ 0 ≤ q ∧ q ≤ c ∧ ob * q ≤ c := by
  have e : Int.tdiv c ob = c / ob := Int.tdiv_eq_ediv_of_nonneg hc
  have h1 : 0 ≤ c / ob := Int.ediv_nonneg hc (by omega)
  have h2 : c / ob ≤ c := Int.ediv_le_self _ hc
  exact ⟨c / ob, by rw [e]; exact IntWalk.wrap64_in _ (by omega), rfl, h1, h2, Int.mul_ediv_self_le (by omega)⟩
theorem head_times {P : GProg} {i : Nat} {x : GOp} (h : soundOp P i x = true) (hk : x.kind = 1) : 1 ≤ x.b ∧ x.b ≤ 2048 := by
  unfold soundOp at h
  rw [if_neg (by omega)] at h
  simp only [limP, hk, Bool.and_eq_true, decide_eq_true_eq] at h
  simp at h
  omega
/-- a program whose operations may all be -/
def AllSound (P : GProg) : Prop := ∀ i (h : i < P.ops.length), soundOp P i P.ops[i] = true

set_option maxRecDepth 100000 in
set_option maxHeartbeats 2000000 in
theorem r20rows_any (P : GProg) (hz : Sized P) (hs : AllSound P) : ∀ (f : Nat) (w : World) (v : Value) (a : Nat), HasProg w v P → P.ops.length - a ≤ f → a ≤ P.ops.length → Calls Try.prog 67 #[v, .int .i64 a] w (RowsPRet w P a) := by
  intro f
  induction f with
  | zero => 
    intro w v a hv hf ha
    obtain ⟨vp, vl, vo, rfl, rp, rl, ro⟩ := hv
    obtain ⟨ap, cp, rfl⟩ := rp.slice
    obtain ⟨al, cl, rfl⟩ := rl.slice
    obtain ⟨ao, co, rfl⟩ := ro.slice
    have hb1 := below_alloc w (.cells #[.int .i64 P.memory, .int .i64 P.counters, .int .i64 P.ins, .int .i64 P.outs, .slice ap P.parts.length cp, .slice al P.lines.length cl, .slice ao P.ops.length co] 30)
    have hX := heap_alloc_new w (.cells #[.int .i64 P.memory, .int .i64 P.counters, .int .i64 P.ins, .int .i64 P.outs, .slice ap P.parts.length cp, .slice al P.lines.length cl, .slice ao P.ops.length co] 30)
    have p0 := cells_row _ _ hX 0 _ rfl
    have p1 := cells_row _ _ hX 1 _ rfl
    have p2 := cells_row _ _ hX 2 _ rfl
    have p3 := cells_row _ _ hX 3 _ rfl
    have p4 := cells_row _ _ hX 4 _ rfl
    have p5 := cells_row _ _ hX 5 _ rfl
    have p6 := cells_row _ _ hX 6 _ rfl
    have HB := Lib.hid hb1
    have z9 := hz.ops
    have hla : ¬ (a : Int) < P.ops.length := by omega
    clear rp rl ro hX hb1
    go_enter Try.func67, Try.ntmps67
    go_wp2_with fail
    go_loopw [1, 6] (fun i n wl => i = .int .i64 a ∧ n = .int .i64 0 ∧ Below w.heap.size w wl ∧ wl.cell? ⟨w.heap.size, 6, none⟩ = some (.slice ao P.ops.length co)) (fun _ _ _ => 0)
    case atStart => exact ⟨rfl, rfl, HB.out, p6⟩
    case round =>
      obtain ⟨rfl, rfl, hB, c6⟩ := hrel
      go_wp2
      go_ret2
      exact ⟨0, a, rfl, by omega, by omega, hB⟩
  | succ f IH =>
    intro w v a hv hf ha
    obtain ⟨vp, vl, vo, rfl, rp, rl, ro⟩ := hv
    obtain ⟨ap, cp, rfl⟩ := rp.slice
    obtain ⟨al, cl, rfl⟩ := rl.slice
    obtain ⟨ao, co, rfl⟩ := ro.slice
    have HV : Hid (HasProg w (.agg #[.int .i64 P.memory, .int .i64 P.counters, .int .i64 P.ins, .int .i64 P.outs, .slice ap P.parts.length cp, .slice al P.lines.length cl, .slice ao P.ops.length co]) P) := Lib.hid ⟨_, _, _, rfl, rp, rl, ro⟩
    have HRO := Lib.hid ro
    have hb1 := below_alloc w (.cells #[.int .i64 P.memory, .int .i64 P.counters, .int .i64 P.ins, .int .i64 P.outs, .slice ap P.parts.length cp, .slice al P.lines.length cl, .slice ao P.ops.length co] 30)
    have hX := heap_alloc_new w (.cells #[.int .i64 P.memory, .int .i64 P.counters, .int .i64 P.ins, .int .i64 P.outs, .slice ap P.parts.length cp, .slice al P.lines.length cl, .slice ao P.ops.length co] 30)
    have p0 := cells_row _ _ hX 0 _ rfl
    have p1 := cells_row _ _ hX 1 _ rfl
    have p2 := cells_row _ _ hX 2 _ rfl
    have p3 := cells_row _ _ hX 3 _ rfl
    have p4 := cells_row _ _ hX 4 _ rfl
    have p5 := cells_row _ _ hX 5 _ rfl
    have p6 := cells_row _ _ hX 6 _ rfl
    have HB := Lib.hid hb1
    have HX := Lib.hid hX
    have z9 := hz.ops
    have HIH := Lib.hid IH
    have HS := Lib.hid hs
    clear rp rl ro hX IH hs hz hb1
    generalize hW : w.alloc (.cells #[.int .i64 P.memory, .int .i64 P.counters, .int .i64 P.ins, .int .i64 P.outs, .slice ap P.parts.length cp, .slice al P.lines.length cl, .slice ao P.ops.length co] 30) = W at *
    have hsW : W.heap.size = w.heap.size + 1 := by rw [← hW]; simp
    go_enter Try.func67, Try.ntmps67
    go_wp2_with fail
    clear p0 p1 p2 p3 p4 p5 p6 hW
    obtain ⟨N, hN⟩ : ∃ x, P.ops.length = x := ⟨_, rfl⟩
    have HN := Lib.hid hN
    rw [hN] at z9 ha hf HX HV HRO
    clear hN
    go_loopw [1, 6] (fun i n wl => ∃ (j : Nat) (nn : Int), (a ≤ j ∧ j + a ≤ 2 * N) ∧ i = .int .i64 j ∧ n = .int .i64 nn ∧ 0 ≤ nn ∧ nn ≤ 131073 ∧ Below W.heap.size W wl) (fun i _ _ => N - (intOf i).toNat)
    case atStart => exact ⟨a, 0, by omega, rfl, rfl, by omega, by omega, Below.refl _ _⟩
    case round =>
      obtain ⟨j, n, hj, rfl, rfl, hn0, hn1, hB⟩ := hrel
      have HBW := Lib.hid hB
      have HBB := Lib.hid (HB.out.trans (HBW.out.mono (by omega)))
      have p6 := cell_later HBW.out (cells_row _ _ HX.out 6 _ rfl)
      clear hB
      by_cases hlt : j < N
      · have hlti : (j : Int) < N := by omega
        have hlt2 : j < P.ops.length := by have := HN.out; omega
        obtain ⟨hc9, _, bo, oo, rfl, o1, o2, o3⟩ := HasRow.opAt (HRO.out.below HBB.out) (List.getElem?_eq_getElem hlt2)
        have hcoi : (N : Int) ≤ co := by omega
        have HSO : Hid (soundOp P j P.ops[j] = true) := Lib.hid (HS.out j hlt2)
        obtain ⟨x, hx⟩ : ∃ x, P.ops[j] = x := ⟨_, rfl⟩
        rw [hx] at o1 o2 o3 HSO
        obtain ⟨kd, xa, xb⟩ := x
        dsimp only at o1 o2 o3
        clear hx
        by_cases k2 : kd = 2
        · subst k2
          have HB9 := Lib.hid (below_dr (n := 0) HBB.out)
          go_wp2
          go_ret2
          exact ⟨n, j, rfl, by omega, by omega, HBB.out⟩
        have k2i : (kd != 2) = true := by simpa using k2
        by_cases k1 : kd = 1
        · subst k1
          have hxb := head_times HSO.out rfl
          dsimp only at hxb
          have hjw : IntKind.i64.wrap ((j : Int) + 1) = ((j + 1 : Nat) : Int) := by rw [IntWalk.i64_in _ (by omega)]; omega
          have p0 := cell_later HBW.out (cells_row _ _ HX.out 0 _ rfl)
          have p1 := cell_later HBW.out (cells_row _ _ HX.out 1 _ rfl)
          have p2 := cell_later HBW.out (cells_row _ _ HX.out 2 _ rfl)
          have p3 := cell_later HBW.out (cells_row _ _ HX.out 3 _ rfl)
          have p4 := cell_later HBW.out (cells_row _ _ HX.out 4 _ rfl)
          have p5 := cell_later HBW.out (cells_row _ _ HX.out 5 _ rfl)
          go_wp2_with fail
          refine (HIH.out _ _ (j + 1) (HV.out.below HBB.out) (by have := HN.out; omega) (by have := HN.out; omega)).mono ?_
          rintro e w5 ⟨n5, b5, rfl, hn5, hb5, hbl⟩
          have hb5' : j + 1 ≤ b5 ∧ b5 + (j + 1) ≤ 2 * N := by have := HN.out; omega
          have HB9 := Lib.hid (HBW.out.trans (hbl.mono HBW.out.size))
          have p6 := cell_later HB9.out (cells_row _ _ HX.out 6 _ rfl)
          have o3 := cell_later hbl o3
          clear p0 p1 p2 p3 p4 p5 o1 o2 hbl hjw hb5
          have h5w : IntKind.i64.wrap (n5 + 1) = n5 + 1 := IntWalk.i64_in _ (by omega)
          obtain ⟨Q, hQ, hQ2, q0, q1, q2⟩ := quo_some (c := 131073) (ob := xb) (by omega) (by omega) hxb.1
          by_cases c1 : n5 < 131073
          · by_cases c2 : n5 + 1 ≤ Q
            · have hle1 : n5 + 1 ≤ wrap64 (Int.tdiv 131073 xb) := by rw [hQ]; exact c2
              have hle2 : n5 + 1 ≤ 131073 / xb := by rw [hQ2]; exact c2
              obtain ⟨MM, hMM⟩ : ∃ x, xb * (n5 + 1) = x := ⟨_, rfl⟩
              have hm1 : MM ≤ 131073 := by
                have := Int.mul_le_mul_of_nonneg_left c2 (show 0 ≤ xb by omega)
                omega
              have hm0 : 0 ≤ MM := by rw [← hMM]; exact Int.mul_nonneg (by omega) (by omega)
              have hw1 : wrap64 (xb * (n5 + 1)) = MM := by rw [hMM]; exact IntWalk.wrap64_in _ (by omega)
              have hw2 : wrap64 (1 + MM) = 1 + MM := IntWalk.wrap64_in _ (by omega)
              have hw3 : IntKind.i64.wrap (n + (1 + MM)) = n + (1 + MM) := IntWalk.i64_in _ (by omega)
              have hjw : IntKind.i64.wrap ((b5 : Int) + 1) = ((b5 + 1 : Nat) : Int) := by rw [IntWalk.i64_in _ (by omega)]; omega
              clear hMM q2 hQ hQ2
              by_cases hb : 131073 < n + (1 + MM)
              · go_wp2
                go_roundw
                case rel => exact ⟨b5 + 1, 131073, by omega, by go_num, by first | rfl | go_num, by omega, by omega, HB9.out⟩
                case measure => simp [intOf]; omega
              · go_wp2
                go_roundw
                case rel => exact ⟨b5 + 1, n + (1 + MM), by omega, by go_num, by first | rfl | go_num, by omega, by omega, HB9.out⟩
                case measure => simp [intOf]; omega
            · have hle1 : ¬ n5 + 1 ≤ wrap64 (Int.tdiv 131073 xb) := by rw [hQ]; exact c2
              have hle2 : ¬ n5 + 1 ≤ 131073 / xb := by rw [hQ2]; exact c2
              have hw3 : IntKind.i64.wrap (n + 131073) = n + 131073 := IntWalk.i64_in _ (by omega)
              have hjw : IntKind.i64.wrap ((b5 : Int) + 1) = ((b5 + 1 : Nat) : Int) := by rw [IntWalk.i64_in _ (by omega)]; omega
              clear q2 hQ hQ2
              by_cases hb : 131073 < n + 131073
              · go_wp2
                go_roundw
                case rel => exact ⟨b5 + 1, 131073, by omega, by go_num, by first | rfl | go_num, by omega, by omega, HB9.out⟩
                case measure => simp [intOf]; omega
              · go_wp2
                go_roundw
                case rel => exact ⟨b5 + 1, n + 131073, by omega, by go_num, by first | rfl | go_num, by omega, by omega, HB9.out⟩
                case measure => simp [intOf]; omega
          · have hw3 : IntKind.i64.wrap (n + 131073) = n + 131073 := IntWalk.i64_in _ (by omega)
            have hjw : IntKind.i64.wrap ((b5 : Int) + 1) = ((b5 + 1 : Nat) : Int) := by rw [IntWalk.i64_in _ (by omega)]; omega
            clear q2 hQ hQ2
            by_cases hb : 131073 < n + 131073
            · go_wp2
              go_roundw
              case rel => exact ⟨b5 + 1, 131073, by omega, by go_num, by first | rfl | go_num, by omega, by omega, HB9.out⟩
              case measure => simp [intOf]; omega
            · go_wp2
              go_roundw
              case rel => exact ⟨b5 + 1, n + 131073, by omega, by go_num, by first | rfl | go_num, by omega, by omega, HB9.out⟩
              case measure => simp [intOf]; omega
        · have k1i : (kd == 1) = false := by rw [beq_eq_false_iff_ne]; exact k1
          have hw3 : IntKind.i64.wrap (n + 1) = n + 1 := IntWalk.i64_in _ (by omega)
          have HB9 := HBW
          have hjw : IntKind.i64.wrap ((j : Int) + 1) = ((j + 1 : Nat) : Int) := by rw [IntWalk.i64_in _ (by omega)]; omega
          by_cases hb : 131073 < n + 1
          · go_wp2
            go_roundw
            case rel => exact ⟨j + 1, 131073, by omega, by go_num, by first | rfl | go_num, by omega, by omega, HB9.out⟩
            case measure => simp [intOf]; omega
          · go_wp2
            go_roundw
            case rel => exact ⟨j + 1, n + 1, by omega, by go_num, by first | rfl | go_num, by omega, by omega, HB9.out⟩
            case measure => simp [intOf]; omega
      · have hlti : ¬ (j : Int) < N := by omega
        go_wp2
        go_ret2
        exact ⟨n, j, rfl, by omega, by have := HN.out; omega, HBB.out⟩
set_option maxRecDepth 100000 in
theorem r20steps_any (w : World) (v : Value) (P : GProg) (hv : HasProg w v P) (hz : Sized P) (hs : AllSound P) : Calls Try.prog 53 #[v] w fun e w' => ∃ n : Int, e = .returned (.int .i64 n) ∧ Below w.heap.size w w' := by
  obtain ⟨vp, vl, vo, rfl, rp, rl, ro⟩ := hv
  obtain ⟨ap, cp, rfl⟩ := rp.slice
  obtain ⟨al, cl, rfl⟩ := rl.slice
  obtain ⟨ao, co, rfl⟩ := ro.slice
  have HV : Hid (HasProg w (.agg #[.int .i64 P.memory, .int .i64 P.counters, .int .i64 P.ins, .int .i64 P.outs, .slice ap P.parts.length cp, .slice al P.lines.length cl, .slice ao P.ops.length co]) P) := Lib.hid ⟨_, _, _, rfl, rp, rl, ro⟩
  have hb1 := below_alloc w (.cells #[.int .i64 P.memory, .int .i64 P.counters, .int .i64 P.ins, .int .i64 P.outs, .slice ap P.parts.length cp, .slice al P.lines.length cl, .slice ao P.ops.length co] 30)
  have hX := heap_alloc_new w (.cells #[.int .i64 P.memory, .int .i64 P.counters, .int .i64 P.ins, .int .i64 P.outs, .slice ap P.parts.length cp, .slice al P.lines.length cl, .slice ao P.ops.length co] 30)
  have p0 := cells_row _ _ hX 0 _ rfl
  have p1 := cells_row _ _ hX 1 _ rfl
  have p2 := cells_row _ _ hX 2 _ rfl
  have p3 := cells_row _ _ hX 3 _ rfl
  have p4 := cells_row _ _ hX 4 _ rfl
  have p5 := cells_row _ _ hX 5 _ rfl
  have p6 := cells_row _ _ hX 6 _ rfl
  have HB := Lib.hid hb1
  have HZ := Lib.hid hz
  have HS := Lib.hid hs
  clear rp rl ro hX hb1 hz hs
  go_enter Try.func53, Try.ntmps53
  go_wp2_with fail
  refine (r20rows_any P HZ.out HS.out P.ops.length _ _ 0 (HV.out.below HB.out) (by omega) (by omega)).mono ?_
  rintro e w5 ⟨n5, b5, rfl, -, -, hbl⟩
  have HB9 := Lib.hid (HB.out.trans (hbl.mono HB.out.size))
  clear hbl
  go_wp2
  go_ret
  exact ⟨n5, rfl, HB9.out⟩
end Go.Proofs.Ytnnnpippekpibaa
