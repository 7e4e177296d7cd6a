/- The law 'pianola DynStays' (upto): for every input it returns true, and what it was handed reads as before. The frame: arguments opened, the walk called, arguments shut. -/
import Derived.Test.YtaholpfikcdhbaaGreatDynSwapsZ5
import Derived.Test.YtaholpfikcdhbaaGreatDynSwapsZ8
import Derived.Test.YtaholpfikcdhbaaGreatDynSwapsZ3
import Derived.Test.YtaholpfikcdhbaaGreatDynSwapsZ9
import Derived.Test.YtaholpfikcdhbaaGreatDynSwapsZ11
import Derived.Test.YtaholpfikcdhbaaGreatDynSwapsZ1
import Derived.Deep.Slices
import Derived.SizedLaws
import Derived.WalkKit
import Derived.ProofKit
import Derived.OpenShut
import Derived.ChangeOld
import Derived.Below
import Derived.Test.YtaholpfikcdhbaaGreatRows
import Derived.ShutString
import Derived.JoinedCond
/- Rig.Play. -/
namespace Go.Proofs.YtaholpfikcdhbaaGreat
open Go.RowKit
theorem play_drop {g : GGraph} {caps : List Int} {l : List Int} {r : RunP} {j : Nat} (h : j < l.length) (he : ¬ readyL g caps r = []) : playP g caps (l.drop j) r = ((playP g caps (l.drop (j + 1)) (stepR g caps r ((readyL g caps r)[pickP l[j] (readyL g caps r).length]?.getD 0)).1).1, (playP g caps (l.drop (j + 1)) (stepR g caps r ((readyL g caps r)[pickP l[j] (readyL g caps r).length]?.getD 0)).1).2 + 1) := by
  rw [List.drop_eq_getElem_cons h, playP, if_neg he]
theorem play_none {g : GGraph} {caps : List Int} {l : List Int} {r : RunP} (he : readyL g caps r = []) : playP g caps l r = (r, 0) := by
  cases l with
  | nil => rfl
  | cons p l => rw [playP, if_pos he]
theorem ready_few (g : GGraph) (caps : List Int) (r : RunP) : (readyL g caps r).length ≤ g.actors.length := by
  unfold readyL
  cases r.failed with
  | some t => simp
  | none => exact Nat.le_trans (List.length_filter_le _ _) (by simp)
theorem pick_eq (p : Int) {L : Nat} (hL : 0 < L) : Int.tmod (Int.tmod p L + L) L = ((pickP p L : Nat) : Int) ∧ pickP p L < L ∧ -(L : Int) < Int.tmod p L ∧ Int.tmod p L < L := by
  have h0 : (0 : Int) < L := by omega
  have e1 : 0 ≤ p % (L : Int) := Int.emod_nonneg p (by omega)
  have e2 : p % (L : Int) < L := Int.emod_lt_of_pos p h0
  have hz : (pickP p L : Int) = p % (L : Int) := Int.toNat_of_nonneg e1
  have h1 : -(L : Int) < Int.tmod p L ∧ Int.tmod p L < L := by
    refine ⟨?_, Int.tmod_lt_of_pos p h0⟩
    have := Int.lt_tmod_of_pos p h0
    exact this
  refine ⟨?_, by omega, h1⟩
  rw [hz]
  have h2 : 0 ≤ Int.tmod p L + L := by omega
  rw [Int.tmod_eq_emod_of_nonneg h2, Int.add_emod_right]
  have h3 : Int.tmod p L = p - L * Int.tdiv p L := by have := Int.mul_tdiv_add_tmod p L; omega
  rw [h3, Int.sub_mul_emod_self_left]
set_option maxRecDepth 100000 in
set_option maxHeartbeats 4000000 in
theorem dPlay_ok {w : World} {o : Col} {R b c : Nat} {g : GGraph} {caps : List Int} {M : Nat} {J : Nat → Nat} {qs : Ptrs} {tb : Nat → Nat} {r : RunP} {v : RVals} {ao : Option Addr} {n cap : Nat} {l : List Int} (h : RigOk w o R b g caps M J qs tb r v) (hG : GOk g caps) (hl : Ints w o c (.slice ao n cap) l) (hc : ¬ MineR R c) (hf : ∀ x ∈ l, Fits x) (hM : M + l.length < 27000000000000) :
    Calls Tryz.prog 15 #[.pointer (some ⟨b, 0, none⟩), .slice ao n cap] w (OkRet w o R b g caps (M + l.length) J qs tb (playP g caps l r).1 (.int .i64 (playP g caps l r).2)) := by
  obtain rfl : n = l.length := Ints.len hl
  obtain ⟨F, hF⟩ : ∃ F, playP g caps l r = F := ⟨_, rfl⟩
  rw [hF]
  have HF := Lib.hid (show playP g caps (l.drop 0) r = F from hF)
  have H := Lib.hid h
  have HG := Lib.hid hG
  have HL := Lib.hid hl
  have HC := Lib.hid hc
  have HFI := Lib.hid hf
  have HM := Lib.hid hM
  clear h hG hl hc hF hf hM
  go_enter Tryz.func15, Tryz.ntmps15
  go_wp2_with fail
  go_loopw [10] (fun i wl => ∃ (j : Nat) (r' : RunP) (o' : Col) (v' : RVals), j ≤ l.length ∧ i = .int .i64 j ∧ Turn o o' (MineR R) w wl ∧ RigOk wl o' R b g caps (M + j) J qs tb r' v' ∧ (playP g caps (l.drop j) r').1 = F.1 ∧ (playP g caps (l.drop j) r').2 + j = F.2) (fun i _ => l.length - (intOf i).toNat)
  case atStart => exact ⟨0, r, o, v, Nat.zero_le _, rfl, Turn.refl _ _ _, H.out, by rw [HF.out], by rw [HF.out]; rfl⟩
  case round =>
    obtain ⟨j, r', o', v', hj, rfl, T, hR, e1, e2⟩ := hrel
    have HT := Lib.hid T
    have HR := Lib.hid hR
    have HE := Lib.hid (And.intro e1 e2)
    clear T hR e1 e2
    have hlm : l.length ≤ 27000000000000 := by have := HM.out; omega
    by_cases hlt : j < l.length
    · have hlti : (j : Int) < l.length := by omega
      obtain ⟨lb, lo, rfl, -, hcp, -, -, hcl⟩ := Ints.at (HL.out.turn HT.out HC.out) (by omega)
      have hcpi : (l.length : Int) ≤ cap := by omega
      have cj := hcl j hlt
      rw [List.getElem?_eq_getElem hlt] at cj
      change wr.cell? _ = some (iv l[j]) at cj
      obtain ⟨p, hp⟩ : ∃ p, l[j] = p := ⟨_, rfl⟩
      rw [hp] at cj
      have HP := Lib.hid hp
      have hpf := HFI.out l[j] (List.getElem_mem hlt)
      rw [hp] at hpf
      have HPF := Lib.hid hpf
      have hRd := dReady_any HR.out.mem HG.out.linked HG.out.caps HR.out.ok (fun d => Nat.le_of_lt (HR.out.lt (by have := HM.out; omega) d))
      have hfew := ready_few g caps r'
      have h32 := HR.out.mem.few.1
      obtain ⟨L, hL⟩ : ∃ L, (readyL g caps r').length = L := ⟨_, rfl⟩
      have hLI : (rdyI g caps r').length = L := by unfold rdyI; rw [List.length_map, hL]
      unfold DInts at hRd
      rw [hLI] at hRd
      rw [hL] at hfew
      have hL32 : L ≤ 32 := by omega
      have HRD := Lib.hid hRd
      have HLL := Lib.hid hL
      clear hcl hp hpf hRd hfew h32 hL hLI hcp
      go_wp2_with fail
      refine HRD.out.mono ?_
      rintro e w1 ⟨x, rfl, hO, hB⟩
      obtain ⟨sa, sc, rfl⟩ := owns_slice hO
      have HB := Lib.hid hB
      have HO := Lib.hid hO
      clear hO hB cj
      by_cases hL0 : L = 0
      · subst hL0
        go_wp2_with fail
        go_ret
        have hnil : readyL g caps r' = [] := List.eq_nil_of_length_eq_zero HLL.out
        obtain ⟨e1, e2⟩ := HE.out
        rw [play_none hnil] at e1 e2
        have hb := HR.out.turn (Turn.of_below o' 0 HB.out) (fun _ h => h.elim)
        refine ⟨ext o' wr.heap.size 0, v', ?_, HT.out.trans ((Turn.of_below o' 0 HB.out).mono (fun _ h => h.elim)) (fun _ h => h), ?_⟩
        · rw [← e2]; simp
        · rw [← e1]; exact hb.mono (by omega)
      · have hLz : ((L : Int) == 0) = false := by rw [beq_eq_false_iff_ne]; omega
        obtain ⟨k1, k2, k3, k4⟩ := pick_eq p (L := L) (by omega)
        have hwr : wrap64 (p.tmod L + L) = p.tmod L + L := IntWalk.wrap64_in _ (by omega)
        rw [← hwr] at k1
        obtain ⟨z, hz⟩ : ∃ z, pickP p L = z := ⟨_, rfl⟩
        rw [hz] at k1 k2
        have HZ := Lib.hid hz
        have hzi : (z : Int) < L := by omega
        have hO := (Own.made o' 0 HO.out).vals
        have hI : Ints w1 (ext o' wr.heap.size 0) 0 (.slice sa L sc) (rdyI g caps r') := hO
        have hlr : (rdyI g caps r').length = L := by unfold rdyI; rw [List.length_map, HLL.out]
        obtain ⟨gr, ro, rfl, -, hcp, -, -, hcl⟩ := hI.at (by omega)
        have hcpi2 : (L : Int) ≤ sc := by omega
        have cz := hcl z (by omega)
        obtain ⟨t, ht⟩ : ∃ t, (readyL g caps r')[z]?.getD 0 = t := ⟨_, rfl⟩
        have hzt : (rdyI g caps r')[z]?.getD 0 = (t : Int) := by
          have hzl : z < (readyL g caps r').length := by rw [HLL.out]; exact k2
          rw [← ht]
          unfold rdyI
          rw [List.getElem?_map, List.getElem?_eq_getElem hzl]
          rfl
        rw [hzt] at cz
        change w1.cell? _ = some (.int .i64 (t : Int)) at cz
        have HT9 := Lib.hid ht
        have hR1 := Lib.hid (HR.out.turn (Turn.of_below o' 0 HB.out) (fun _ h => h.elim))
        have hT1 := Lib.hid (HT.out.trans ((Turn.of_below o' 0 HB.out).mono (fun _ h => h.elim)) (fun _ h => h))
        generalize ext o' wr.heap.size 0 = o1 at *
        clear k2 k3 k4 hwr hz hO hI hlr hcp hcl hzt ht
        go_wp2_with fail
        refine (dStep_ok (t : Int) hR1.out HG.out (by have := HM.out; omega)).mono ?_
        rw [stepI_nat]
        rintro e w2 ⟨o2, v2, rfl, T2, hR2⟩
        have HR2 := Lib.hid hR2
        have HT2 := Lib.hid (hT1.out.trans T2 (fun _ h => h))
        have hne : ¬ readyL g caps r' = [] := fun h => hL0 (by have := HLL.out; rw [h] at this; exact this.symm)
        obtain ⟨e1, e2⟩ := HE.out
        rw [play_drop hlt hne, HLL.out, HP.out, HZ.out, HT9.out] at e1 e2
        have HE2 := Lib.hid (And.intro e1 e2)
        clear T2 hR2 e1 e2 hne
        go_wp2
        go_roundw
        case rel => exact ⟨j + 1, _, _, _, hlt, by go_num, HT2.out, HR2.out, HE2.out.1, by have := HE2.out.2; omega⟩
        case measure => simp [intOf]; omega
    · obtain rfl : j = l.length := by omega
      have hlti : ¬ ((l.length : Int) < l.length) := by omega
      go_wp2_with fail
      go_ret
      obtain ⟨e1, e2⟩ := HE.out
      rw [List.drop_length] at e1 e2
      refine ⟨o', v', ?_, HT.out, ?_⟩
      · have : l.length = F.2 := by rw [← e2]; show l.length = 0 + l.length; omega
        rw [← this]
        rfl
      · rw [← e1]; exact HR.out
end Go.Proofs.YtaholpfikcdhbaaGreat

/- Two rigs that are the same: same says yes. -/
namespace Go.Proofs.YtaholpfikcdhbaaGreat
open Go.RowKit
/- a question that answers a new list: $1 the contract, $2 the new world, $3 the list's fact, $4 $5 the colours, $6 what else turns -/
/- two lists are compared: $1 $2 their facts, $3 their length's bound, $4 the colour -/
end Go.Proofs.YtaholpfikcdhbaaGreat

/- The reference's Agree: of two lists the one begins the other. -/
namespace Go.Proofs.YtaholpfikcdhbaaGreat
open Go.RowKit
end Go.Proofs.YtaholpfikcdhbaaGreat

/- agree: the outputs of two rigs begin one another. -/
namespace Go.Proofs.YtaholpfikcdhbaaGreat
open Go.RowKit
end Go.Proofs.YtaholpfikcdhbaaGreat

/- A rig that is not there. -/
namespace Go.Proofs.YtaholpfikcdhbaaGreat
open Go.RowKit
end Go.Proofs.YtaholpfikcdhbaaGreat

/- The chapter's small graph is run: awake answers true. -/
namespace Go.Proofs.YtaholpfikcdhbaaGreat
open Go.RowKit
def LineRet (w : World) (e : Ending) (w' : World) : Prop := ∃ v, e = .returned v ∧ HasGraph w' v lineG ∧ Below w.heap.size w w'
def lineO (w : World) : List Obj :=
  [.cells #[.string { data := #[103] }, .slice (some ⟨w.heap.size + 3, 0, none⟩) 3 3, .slice (some ⟨w.heap.size + 4, 0, none⟩) 2 2, .slice none 0 0, .slice (some ⟨w.heap.size + 5, 0, none⟩) 1 1] 26, .cells #[.int .i64 1, .int .i64 1] 3, .cells #[.int .i64 1] 3, .cells #[.string { data := #[97] }, .int .u8 10, .slice (some ⟨w.heap.size + 1, 0, none⟩) 2 2, .string { data := #[98] }, .int .u8 6, .slice (some ⟨w.heap.size + 2, 0, none⟩) 1 1, .string { data := #[99] }, .int .u8 8, .slice none 0 0] 96, .cells #[.int .i64 0, .int .i64 0, .int .i64 1, .int .i64 0, .slice none 0 0, .int .i64 1, .int .i64 0, .int .i64 2, .int .i64 0, .slice none 0 0] 107, .cells #[.string { data := #[121] }, .int .i64 2, .int .i64 0] 118]
set_option maxRecDepth 100000 in
theorem line_has (w : World) : HasGraph (allocs w (lineO w)) (.agg #[.string { data := #[103] }, .slice (some ⟨w.heap.size + 3, 0, none⟩) 3 3, .slice (some ⟨w.heap.size + 4, 0, none⟩) 2 2, .slice none 0 0, .slice (some ⟨w.heap.size + 5, 0, none⟩) 1 1]) lineG := by
  refine ⟨_, _, _, _, rfl, ?_, ?_, .inl ⟨rfl, _, _, rfl⟩, ?_⟩
  · refine .inr ⟨by decide, w.heap.size + 3, 0, 3, rfl, Nat.le_refl _, block_lt (allocs_get (lineO w) w 3 _ rfl), fun k hk => ?_⟩
    match k, (show k < 3 from hk) with
    | 0, _ => exact ⟨[.string { data := #[97] }, .int .u8 10, .slice (some ⟨w.heap.size + 1, 0, none⟩) 2 2], rfl, ⟨_, rfl, .inr ⟨Nat.succ_pos 1, _, 0, 2, rfl, Nat.le_refl _, block_lt (allocs_get (lineO w) w 1 _ rfl), rfl, fun j hj => by
          match j, hj with
          | 0, _ => exact allocs_cell w (lineO w) 1 0 rfl rfl
          | 1, _ => exact allocs_cell w (lineO w) 1 1 rfl rfl⟩⟩, fun i hi => by
        match i, hi with
        | 0, _ => exact allocs_cell w (lineO w) 3 0 rfl rfl
        | 1, _ => exact allocs_cell w (lineO w) 3 1 rfl rfl
        | 2, _ => exact allocs_cell w (lineO w) 3 2 rfl rfl⟩
    | 1, _ => exact ⟨[.string { data := #[98] }, .int .u8 6, .slice (some ⟨w.heap.size + 2, 0, none⟩) 1 1], rfl, ⟨_, rfl, allocs_one w (lineO w) 2 rfl⟩, fun i hi => by
        match i, hi with
        | 0, _ => exact allocs_cell w (lineO w) 3 3 rfl rfl
        | 1, _ => exact allocs_cell w (lineO w) 3 4 rfl rfl
        | 2, _ => exact allocs_cell w (lineO w) 3 5 rfl rfl⟩
    | 2, _ => exact ⟨[.string { data := #[99] }, .int .u8 8, .slice none 0 0], rfl, ⟨_, rfl, .inl ⟨rfl, _, _, rfl⟩⟩, fun i hi => by
        match i, hi with
        | 0, _ => exact allocs_cell w (lineO w) 3 6 rfl rfl
        | 1, _ => exact allocs_cell w (lineO w) 3 7 rfl rfl
        | 2, _ => exact allocs_cell w (lineO w) 3 8 rfl rfl⟩
  · refine .inr ⟨by decide, w.heap.size + 4, 0, 2, rfl, Nat.le_refl _, block_lt (allocs_get (lineO w) w 4 _ rfl), fun k hk => ?_⟩
    match k, (show k < 2 from hk) with
    | 0, _ => exact ⟨[.int .i64 0, .int .i64 0, .int .i64 1, .int .i64 0, .slice none 0 0], rfl, ⟨_, rfl, .inl ⟨rfl, _, _, rfl⟩⟩, fun i hi => by
        match i, hi with
        | 0, _ => exact allocs_cell w (lineO w) 4 0 rfl rfl
        | 1, _ => exact allocs_cell w (lineO w) 4 1 rfl rfl
        | 2, _ => exact allocs_cell w (lineO w) 4 2 rfl rfl
        | 3, _ => exact allocs_cell w (lineO w) 4 3 rfl rfl
        | 4, _ => exact allocs_cell w (lineO w) 4 4 rfl rfl⟩
    | 1, _ => exact ⟨[.int .i64 1, .int .i64 0, .int .i64 2, .int .i64 0, .slice none 0 0], rfl, ⟨_, rfl, .inl ⟨rfl, _, _, rfl⟩⟩, fun i hi => by
        match i, hi with
        | 0, _ => exact allocs_cell w (lineO w) 4 5 rfl rfl
        | 1, _ => exact allocs_cell w (lineO w) 4 6 rfl rfl
        | 2, _ => exact allocs_cell w (lineO w) 4 7 rfl rfl
        | 3, _ => exact allocs_cell w (lineO w) 4 8 rfl rfl
        | 4, _ => exact allocs_cell w (lineO w) 4 9 rfl rfl⟩
  · refine .inr ⟨by decide, w.heap.size + 5, 0, 1, rfl, Nat.le_refl _, block_lt (allocs_get (lineO w) w 5 _ rfl), fun k hk => ?_⟩
    match k, (show k < 1 from hk) with
    | 0, _ => exact ⟨_, rfl, rfl, fun i hi => by
        match i, hi with
        | 0, _ => exact allocs_cell w (lineO w) 5 0 rfl rfl
        | 1, _ => exact allocs_cell w (lineO w) 5 1 rfl rfl
        | 2, _ => exact allocs_cell w (lineO w) 5 2 rfl rfl⟩
set_option maxRecDepth 100000 in
theorem line_ret (w : World) : Calls Tryz.prog 36 #[] w (LineRet w) := by
  go_enter Tryz.func36, Tryz.ntmps36
  go_wp2
  refine bodyPost_ret_by (results_cell_row rfl _ _ _ _ _ _ _ rfl (allocs_get (lineO w) w 0 _ rfl) Tryz.underlying26 rfl (by kernel_rfl)) rfl ?_
  exact ⟨_, rfl, line_has w, (allocs_below (lineO w) w).1⟩
theorem line_sized : GSized lineG := ⟨by decide, by decide, by decide, by decide⟩
theorem line_fitp : ∀ a ∈ lineG.actors, ∀ x ∈ a.params, Fits x := by
  intro a ha x hx
  unfold lineG at ha
  simp only [List.mem_cons, List.not_mem_nil, or_false] at ha
  rcases ha with rfl | rfl | rfl <;> simp at hx <;> subst hx <;> unfold Fits <;> omega
theorem line_fits : ∀ e ∈ lineG.edges, ∀ x ∈ e.start, Fits x := by
  intro e he x hx
  unfold lineG at he
  simp only [List.mem_cons, List.not_mem_nil, or_false] at he
  rcases he with rfl | rfl <;> simp at hx
def lineEnd : RunP × Nat := roundsP lineG [1, 1] 10 ⟨newRig lineG, none⟩
theorem line_halt : haltI lineG [1, 1] lineEnd.1 = 0 := by
  have h1 : lineEnd.1.failed = none := line_fail
  have h2 : (readyL lineG [1, 1] lineEnd.1).length = 2 := line_ready
  unfold haltI
  rw [if_neg (by rw [h1]; simp), if_neg (fun h => by rw [h] at h2; cases h2)]
theorem line_out : outI lineG lineEnd.1 0 = [1, 3] := by
  unfold outI
  rw [if_pos (by decide)]
  exact line_run.2
theorem ints_two {w : World} (a b : Int) : Has (w.alloc (.cells #[.int .i64 a, .int .i64 b] 3)) (.slice (some ⟨w.heap.size, 0, none⟩) 2 2) (ivs [a, b]) := by
  have h := heap_alloc_new w (.cells #[.int .i64 a, .int .i64 b] 3)
  exact .inr ⟨by simp, _, 0, 2, rfl, Nat.le_refl _, block_lt h, rfl, fun k hk => by
    match k, hk with
    | 0, _ => exact cells_row _ _ h 0 _ rfl
    | 1, _ => exact cells_row _ _ h 1 _ rfl⟩
set_option maxRecDepth 100000 in
set_option maxHeartbeats 2000000 in
theorem dawake_yes (w : World) : Calls Tryz.prog 14 #[] w (Tells (.bool true) w) := by
  go_enter Tryz.func14, Tryz.ntmps14
  go_wp2_with fail
  refine (line_ret w).mono ?_
  rintro e w1 ⟨v, rfl, hG, hb1⟩
  have hb2 := below_alloc w1 (.cells #[.int .i64 1, .int .i64 1] 3)
  have HC := Lib.hid (ints_two (w := w1) 1 1)
  have HG := Lib.hid (hG.below hb2)
  have HB := Lib.hid (hb1.trans (hb2.mono hb1.size))
  clear hG hb1 hb2
  go_wp2_with fail
  obtain ⟨w2, hw2⟩ : ∃ x, w1.alloc (.cells #[.int .i64 1, .int .i64 1] 3) = x := ⟨_, rfl⟩
  rw [hw2] at HC HG HB ⊢
  clear hw2
  refine (dnew_any w2 (fun _ => 0) 1 (Nat.le_refl _) v lineG [1, 1] HG.out line_sized HC.out (by decide) line_fitp line_fits (by intro c hc; simp at hc; subst hc; unfold Fits; omega)).mono ?_
  rintro e w3 hret
  obtain ⟨b, q, qs, rv, rfl, T, hR, hGO, -⟩ := hret.2 line_check
  have K3 := (Kept.start w2).turn T (fun h => h)
  have HR := Lib.hid hR
  have HGO := Lib.hid hGO
  clear hret T hR hGO HC HG
  go_wp2_with fail
  refine (dRounds_ok 10 HR.out HGO.out (by decide)).mono ?_
  rintro e w4 ⟨q4, v4, rfl, T4, hR4⟩
  have e10 : (min (10 : Int) 4096).toNat = 10 := by decide
  rw [e10] at hR4 ⊢
  have K4 := K3.turn T4 (by unfold MineR; omega)
  have hR5 : RigOk w4 q4 1 b lineG [1, 1] (256 + 4096 * 32) (fun _ => 256) qs rv.tb lineEnd.1 v4 := hR4
  have h10 : 10 < lineEnd.2 := of_decide_eq_true line_run.1
  change _ at hR4
  obtain ⟨n, hn⟩ : ∃ n, (roundsP lineG [1, 1] 10 ⟨newRig lineG, none⟩).2 = n := ⟨_, rfl⟩
  have hn2 : lineEnd.2 = n := hn
  rw [hn]
  rw [hn2] at h10
  have h10i : (10 : Int) < n := by omega
  have HR5 := Lib.hid hR5
  have HB4 := Lib.hid (HB.out.trans (K4.below.mono HB.out.size))
  clear hR4 hR5 hn hn2 h10 T4 K3 K4 HR HB
  go_wp2_with fail
  refine (dHalt_any HR5.out.mem HGO.out.linked rfl HR5.out.ok (fun d => Nat.le_of_lt (HR5.out.lt (by decide) d))).mono ?_
  rintro e w5 ⟨rfl, hb5⟩
  rw [line_halt]
  have HR6 := Lib.hid (HR5.out.turn (Turn.of_below q4 0 hb5) (fun _ h => h.elim))
  have HB5 := Lib.hid (HB4.out.trans (hb5.mono HB4.out.size))
  generalize ext q4 w4.heap.size 0 = q5 at *
  clear hb5 HB4 HR5
  go_wp2_with fail
  refine (dFailed_any HR6.out.mem).mono ?_
  rintro e w6 ⟨rfl, rfl⟩
  have hfl : failI lineEnd.1 = -1 := by
    unfold failI
    rw [show lineEnd.1.failed = none from line_fail]
  rw [hfl]
  clear hfl
  go_wp2_with fail
  refine (dOut_any 0 HR6.out.mem (fun d hd => Nat.le_of_lt (HR6.out.tape (by decide) d hd))).mono ?_
  rw [line_out]
  rintro e w7 ⟨ov, rfl, ho, hb7⟩
  obtain ⟨oa, oc, rfl⟩ := owns_slice ho
  have hO := (Own.made q5 7 ho).vals
  have hb8 := below_alloc w7 (.cells #[.int .i64 1, .int .i64 3] 3)
  have HO := Lib.hid (hO.turn (Turn.of_below _ 0 hb8) (fun h => h))
  have HI := Lib.hid (ints_two (w := w7) 1 3)
  have HB7 := Lib.hid (HB5.out.trans ((hb7.trans (hb8.mono hb7.size)).mono HB5.out.size))
  clear ho hO hb7 hb8 HB5
  go_wp2_with fail
  refine (sameints_yes HO.out HI.out (by decide)).mono ?_
  rintro e w8 ⟨rfl, m, rfl⟩
  go_wp2
  go_ret
  exact ⟨rfl, below_dr HB7.out⟩
end Go.Proofs.YtaholpfikcdhbaaGreat

/- Two ready tasks in either order, plainly. No function in sight. -/
namespace Go.Proofs.YtaholpfikcdhbaaGreat
open Go.RowKit
theorem rdyI_len (g : GGraph) (caps : List Int) (r : RunP) : (rdyI g caps r).length = (readyL g caps r).length := by simp [rdyI]
theorem ready_is {g : GGraph} {caps : List Int} {r : RunP} {a : Nat} (h : a ∈ readyL g caps r) : r.failed = none ∧ stepP g caps r.rig a ≠ .waits := by
  unfold readyL at h
  split at h
  · cases h
  · rename_i hf
    refine ⟨hf, fun e => ?_⟩
    have := (List.mem_filter.1 h).2
    unfold isReady at this
    rw [e] at this
    cases this
theorem halt_3 {g : GGraph} {caps : List Int} {r : RunP} : (haltI g caps r = 3) ↔ r.failed ≠ none := by
  unfold haltI
  split
  · rename_i h; exact ⟨fun _ => h, fun _ => rfl⟩
  · rename_i h
    split <;> simp [h]
end Go.Proofs.YtaholpfikcdhbaaGreat

/- What two runs of one rig tell of one another, plainly. No function in sight. -/
namespace Go.Proofs.YtaholpfikcdhbaaGreat
open Go.RowKit
end Go.Proofs.YtaholpfikcdhbaaGreat

/- Who is ready stays ready, plainly. No function in sight. -/
namespace Go.Proofs.YtaholpfikcdhbaaGreat
open Go.RowKit
theorem fail_ready {g : GGraph} {caps : List Int} {r : RunP} (h : r.failed ≠ none) : readyL g caps r = [] := by
  unfold readyL
  cases hr : r.failed with
  | none => exact absurd hr h
  | some a => rfl
theorem fail_play {g : GGraph} {caps : List Int} {r : RunP} (h : r.failed ≠ none) (x : Int) : (playP g caps [x] r).2 = 0 := by
  rw [playP, if_pos (fail_ready h)]
theorem mem_ready {g : GGraph} {caps : List Int} {r : RunP} (hf : r.failed = none) {a : Nat} : a ∈ readyL g caps r ↔ a < g.actors.length ∧ isReady g caps r.rig a = true := by
  unfold readyL
  rw [hf]
  simp
theorem rdyI_mem {g : GGraph} {caps : List Int} {r : RunP} {k : Int} : k ∈ rdyI g caps r ↔ ∃ a ∈ readyL g caps r, (a : Int) = k := by simp [rdyI]
theorem step_stays {g : GGraph} {caps : List Int} {r : RunP} {k : Int} (hf : r.failed = none) :
    ((stepI g caps r k).1.failed ≠ none → (stepI g caps r k).2 = true) ∧
    ((stepI g caps r k).1.failed = none → (stepI g caps r k).2 = decide (k ∈ rdyI g caps r) ∧ ∀ b ∈ rdyI g caps r, b ≠ k → b ∈ rdyI g caps (stepI g caps r k).1) := by
  unfold stepI
  by_cases h0 : k < 0
  · rw [if_pos h0]
    refine ⟨fun h => absurd hf h, fun _ => ⟨?_, fun b hb _ => hb⟩⟩
    refine (decide_eq_false fun h => ?_).symm
    obtain ⟨a, _, e⟩ := rdyI_mem.1 h
    omega
  · rw [if_neg h0]
    obtain ⟨t, rfl⟩ := Int.eq_ofNat_of_zero_le (show 0 ≤ k by omega)
    rw [Int.toNat_natCast]
    unfold stepR
    rw [hf]
    cases hs : stepP g caps r.rig t with
    | waits =>
      refine ⟨fun h => absurd hf h, fun _ => ⟨?_, fun b hb _ => hb⟩⟩
      refine (decide_eq_false fun h => ?_).symm
      obtain ⟨a, ha, e⟩ := rdyI_mem.1 h
      obtain rfl : a = t := by omega
      exact (ready_is ha).2 hs
    | fails => exact ⟨fun _ => rfl, fun h => by cases h⟩
    | goes s =>
      obtain ⟨ht, _⟩ := step_kind.1 hs
      have hr : isReady g caps r.rig t = true := by unfold isReady; rw [hs]
      refine ⟨fun h => absurd rfl h, fun _ => ⟨?_, fun b hb hne => ?_⟩⟩
      · exact (decide_eq_true (rdyI_mem.2 ⟨t, (mem_ready hf).2 ⟨ht, hr⟩, rfl⟩)).symm
      · obtain ⟨a, ha, rfl⟩ := rdyI_mem.1 hb
        obtain ⟨h1, h2⟩ := (mem_ready hf).1 ha
        exact rdyI_mem.2 ⟨a, (mem_ready rfl).2 ⟨h1, stays_ready (by omega) hs h2⟩, rfl⟩
end Go.Proofs.YtaholpfikcdhbaaGreat

/- DynStays, walked: who is ready stays ready. -/
namespace Go.Proofs.YtaholpfikcdhbaaGreat
open Go.RowKit
theorem take_mem {l : List Int} {j : Nat} (hj : j < l.length) (x : Int) : decide (x ∈ l.take (j + 1)) = (decide (x ∈ l.take j) || l[j]?.getD 0 == x) := by
  have e : l.take (j + 1) = l.take j ++ [l[j]] := by rw [List.take_add_one, List.getElem?_eq_getElem hj]; rfl
  have e2 : l[j]?.getD 0 = l[j] := by rw [List.getElem?_eq_getElem hj]; rfl
  rw [e2]
  by_cases h1 : x ∈ l.take j
  · rw [decide_eq_true (show x ∈ l.take (j + 1) by rw [e]; exact List.mem_append_left _ h1), decide_eq_true h1]; rfl
  · rw [decide_eq_false h1]
    by_cases h2 : l[j] = x
    · rw [decide_eq_true (show x ∈ l.take (j + 1) by rw [e, h2]; exact List.mem_append_right _ (List.mem_singleton_self _))]; simp [h2]
    · rw [decide_eq_false (show ¬ x ∈ l.take (j + 1) by rw [e]; intro h; rcases List.mem_append.1 h with h | h; exact h1 h; exact h2 (List.mem_singleton.1 h).symm)]; simp [h2]
/- $1 the colours' fact: the lists turn with the rig -/
set_option maxRecDepth 100000 in
set_option maxHeartbeats 4000000 in
theorem dynstays_all (w : World) (v vl vt : Value) (g : GGraph) (caps : List Int) (fed : List (List Int)) (lead tasks : List Int) (hv : HasRun w v g caps fed) (ok : RunOk g caps fed) (hl : Has w vl (ivs lead)) (hlf : ∀ x ∈ lead, Fits x) (ht : Has w vt (ivs tasks)) (hn : lead.length + tasks.length ≤ 20000000000000) : Calls Tryz.prog 3 #[v, vl, vt] w (Tells (.bool true) w) := by
  obtain ⟨la, lc, rfl⟩ := Ints.slice hl
  obtain ⟨ta, tc, rfl⟩ := Ints.slice ht
  have HLE := Lib.hid hl
  have HLF := Lib.hid hlf
  have HTE := Lib.hid ht
  clear hl hlf ht
  obtain ⟨nm, va, ve, vi, vo, vc, vf, rfl, hg, hc, hf⟩ := hv
  obtain ⟨_, _, _, _, e0, ra, re, ri, ro⟩ := hg.shape
  obtain ⟨aa, ac, rfl⟩ := ra.slice
  obtain ⟨ae, ec, rfl⟩ := re.slice
  obtain ⟨ai, ic, rfl⟩ := ri.slice
  obtain ⟨ao, oc, rfl⟩ := ro.slice
  simp only [Value.agg.injEq, Array.mk.injEq, List.cons.injEq, and_true] at e0
  obtain ⟨rfl, rfl, rfl, rfl, rfl⟩ := e0
  obtain ⟨ca, cc, rfl⟩ := Ints.slice hc
  obtain ⟨fa, fc, rfl⟩ := hf.slice
  have hrun : HasRun w (.agg #[.string g.name, .slice aa g.actors.length ac, .slice ae g.edges.length ec, .slice ai g.ins.length ic, .slice ao g.outs.length oc, .slice ca caps.length cc, .slice fa fed.length fc]) g caps fed := ⟨_, _, _, _, _, _, _, rfl, hg, hc, hf⟩
  have HRUN := Lib.hid hrun
  have OK := Lib.hid ok
  have hb1 := below_alloc w (.cells #[.string g.name, .slice aa g.actors.length ac, .slice ae g.edges.length ec, .slice ai g.ins.length ic, .slice ao g.outs.length oc, .slice ca caps.length cc, .slice fa fed.length fc] 30)
  have T1 := Turn.of_below (fun _ => 0) 20000 hb1
  have hX := blk_new (w := w) (fun _ => 0) 20000 #[.string g.name, .slice aa g.actors.length ac, .slice ae g.edges.length ec, .slice ai g.ins.length ic, .slice ao g.outs.length oc, .slice ca caps.length cc, .slice fa fed.length fc] 30
  have HX := Lib.hid hX
  have HK := Lib.hid ((Kept.start w).turn T1 (fun h => h))
  generalize ext (fun _ => 0) w.heap.size 20000 = o1 at *
  obtain ⟨w1, hw1⟩ : ∃ x, w.alloc (.cells #[.string g.name, .slice aa g.actors.length ac, .slice ae g.edges.length ec, .slice ai g.ins.length ic, .slice ao g.outs.length oc, .slice ca caps.length cc, .slice fa fed.length fc] 30) = x := ⟨_, rfl⟩
  rw [hw1] at HX HK
  clear hb1 T1 hX hg hc hf ok ra re ri ro hrun
  have x0 := HX.out.cell 0 _ rfl
  have x1 := HX.out.cell 1 _ rfl
  have x2 := HX.out.cell 2 _ rfl
  have x3 := HX.out.cell 3 _ rfl
  have x4 := HX.out.cell 4 _ rfl
  have x5 := HX.out.cell 5 _ rfl
  have x6 := HX.out.cell 6 _ rfl
  go_enter Tryz.func3, Tryz.ntmps3
  go_wp2_with fail
  clear hw1
  refine (start_any (R := 1) (Nat.le_refl _) HK.out HRUN.out OK.out).mono ?_
  intro e w2 hret
  by_cases h0 : newE g caps = 0
  case neg =>
    obtain ⟨rfl, o2, T2⟩ := hret.1 h0
    replace HK := Lib.hid (HK.out.turn T2 (fun h => h))
    replace HX := Lib.hid (HX.out.turn T2 (fun h => h))
    have H0 := Lib.hid h0
    clear T2 hret h0
    clear x0 x1 x2 x3 x4 x5 x6
    have x0 := HX.out.cell 0 _ rfl
    have x1 := HX.out.cell 1 _ rfl
    have x2 := HX.out.cell 2 _ rfl
    have x3 := HX.out.cell 3 _ rfl
    have x4 := HX.out.cell 4 _ rfl
    have x5 := HX.out.cell 5 _ rfl
    have x6 := HX.out.cell 6 _ rfl
    go_wp2_with fail
    refine (refused_yes (HRUN.out.below HK.out.below) OK.out H0.out).mono ?_
    rintro e w4 ⟨rfl, hb4⟩
    clear x0 x1 x2 x3 x4 x5 x6
    have HB4 := Lib.hid (HK.out.below.trans (hb4.mono HK.out.size))
    clear hb4
    go_wp2_with fail
    refine (dawake_yes _).mono ?_
    rintro e w5 ⟨rfl, hb5⟩
    have HB5 := Lib.hid (HB4.out.trans (hb5.mono HB4.out.size))
    clear hb5
    go_wp2
    go_ret
    exact ⟨rfl, HB5.out⟩
  case pos =>
    obtain ⟨b1, o2, q1, v1, J1, rfl, T2, hM1, hG, hJ1⟩ := hret.2 h0
    have hz : ¬ MineR 1 20000 := by unfold MineR; omega
    have hz3 : ¬ MineR 1 0 := by unfold MineR; omega
    replace HK := Lib.hid (HK.out.turn T2 hz3)
    replace HX := Lib.hid (HX.out.turn T2 hz)
    have H0 := Lib.hid h0
    have HM1 := Lib.hid hM1
    have HG := Lib.hid hG
    have HJ1 := Lib.hid hJ1
    clear T2 hret h0 hM1 hG hJ1 hz hz3
    clear x0 x1 x2 x3 x4 x5 x6
    have x0 := HX.out.cell 0 _ rfl
    have x1 := HX.out.cell 1 _ rfl
    have x2 := HX.out.cell 2 _ rfl
    have x3 := HX.out.cell 3 _ rfl
    have x4 := HX.out.cell 4 _ rfl
    have x5 := HX.out.cell 5 _ rfl
    have x6 := HX.out.cell 6 _ rfl
    obtain ⟨s, hz⟩ : ∃ x, feedS g fed (newRig g) = x := ⟨_, rfl⟩
    rw [hz] at HM1
    obtain ⟨hf1, hf2, hf3, hf4⟩ := HM1.out.mem.few
    clear hz HJ1
    go_wp2_with fail
    clear x0 x1 x2 x3 x4 x5 x6
    refine (dPlay_ok HM1.out HG.out (HK.out.vals HLE.out) (by unfold MineR; omega) HLF.out (by omega)).mono ?_
    rintro e w4 ⟨o4, u1, rfl, T, hM⟩
    replace HK := Lib.hid (HK.out.turn T (by unfold MineR; omega))
    replace HX := Lib.hid (HX.out.turn T (by unfold MineR; omega))
    replace HM1 := Lib.hid hM
    clear T hM
    obtain ⟨p, hp⟩ : ∃ x, (playP g caps lead ⟨s, none⟩).1 = x := ⟨_, rfl⟩
    rw [hp] at HM1
    clear hp
    go_wp2_with fail
    refine (dHalt_any HM1.out.mem HG.out.linked HG.out.caps HM1.out.ok (fun d => Nat.le_of_lt (HM1.out.lt (by omega) d))).mono ?_
    rintro e w7 ⟨rfl, hb⟩
    have T := Turn.of_below o4 0 hb
    replace HK := Lib.hid (HK.out.turn T (fun h => h))
    replace HX := Lib.hid (HX.out.turn T (fun h => h))
    replace HM1 := Lib.hid (HM1.out.turn T (fun _ h => h.elim))
    generalize ext o4 _ 0 = o7 at *
    clear T hb
    by_cases hf : p.failed = none
    · have e1 : (haltI g caps p == 3) = false := by rw [beq_eq_false_iff_ne]; exact fun h => halt_3.1 h hf
      have HF0 := Lib.hid hf
      clear hf
      go_wp2_with fail
      go_loopw [8] (fun i wz => ∃ (k : Nat) (q : Col) (r : RunP) (u : RVals), k ≤ tasks.length ∧ i = .int .i64 k ∧ Kept w.heap.size q w wz ∧ Blk wz q 20000 w.heap.size 30 #[.string g.name, .slice aa g.actors.length ac, .slice ae g.edges.length ec, .slice ai g.ins.length ic, .slice ao g.outs.length oc, .slice ca caps.length cc, .slice fa fed.length fc] ∧ RigOk wz q 1 b1 g caps (256 + lead.length + k) J1 q1 v1.tb r u ∧ r.failed = none) (fun i _ => tasks.length - (intOf i).toNat)
      case atStart => exact ⟨0, o7, p, u1, Nat.zero_le _, rfl, HK.out, HX.out, HM1.out, HF0.out⟩
      case round =>
        clear HK HX HM1 HF0 e1
        obtain ⟨k, q, r, u, hk, rfl, hK, hX, hM1, hf⟩ := hrel
        have HK := Lib.hid hK
        have HX := Lib.hid hX
        have HM1 := Lib.hid hM1
        have HF0 := Lib.hid hf
        clear hK hX hM1 hf
        by_cases hlt : k < tasks.length
        · have hlti : (k : Int) < tasks.length := by omega
          obtain ⟨gt, gto, hta, -, htc, -, -, hcl⟩ := Ints.at HTE.out (by omega)
          obtain ⟨T, hT⟩ : ∃ x, tasks[k]?.getD 0 = x := ⟨_, rfl⟩
          have ct0 := hcl k hlt
          rw [hT] at ct0
          have HCT := Lib.hid ct0
          have htci : (tasks.length : Int) ≤ tc := by omega
          subst hta
          clear hcl ct0 hT htc
          go_wp2_with fail
          refine (dReady_any HM1.out.mem HG.out.linked HG.out.caps HM1.out.ok (fun d => Nat.le_of_lt (HM1.out.lt (by omega) d))).mono ?_
          rintro e w8 ⟨lv, rfl, ow, hb⟩
          obtain ⟨sa, sc, rfl⟩ := owns_slice ow
          have T := Turn.of_below q 0 hb
          have HL := Lib.hid (Own.made q 0 ow).vals
          replace HK := Lib.hid (HK.out.turn T (fun h => h))
          replace HX := Lib.hid (HX.out.turn T (fun h => h))
          replace HM1 := Lib.hid (HM1.out.turn T (fun _ h => h.elim))
          generalize ext q _ 0 = o8 at *
          clear T hb ow
          have c1 := cell_later HK.out.below HCT.out
          change w8.cell? _ = some (.int .i64 T) at c1
          have HST := Lib.hid (step_stays (g := g) (caps := caps) (r := r) (k := T) HF0.out)
          have hn32 := ready_few g caps r
          rw [← rdyI_len] at hn32
          obtain ⟨L1, hL1⟩ : ∃ x, rdyI g caps r = x := ⟨_, rfl⟩
          rw [hL1] at HL HST hn32 ⊢
          clear hL1
          go_wp2_with fail
          refine (dStep_ok T HM1.out HG.out (by omega)).mono ?_
          rintro e w9 ⟨o9, u9, rfl, TT, hM⟩
          replace HK := Lib.hid (HK.out.turn TT (by unfold MineR; omega))
          replace HX := Lib.hid (HX.out.turn TT (by unfold MineR; omega))
          replace HL := Lib.hid (HL.out.turn TT (by unfold MineR; omega))
          replace HM1 := Lib.hid hM
          clear TT hM c1
          obtain ⟨r2, hr2⟩ : ∃ x, (stepI g caps r T).1 = x := ⟨_, rfl⟩
          obtain ⟨did, hdid⟩ : ∃ x, (stepI g caps r T).2 = x := ⟨_, rfl⟩
          rw [hr2] at HM1 HST
          rw [hdid] at HST ⊢
          clear hr2 hdid
          go_wp2_with fail
          refine (dHalt_any HM1.out.mem HG.out.linked HG.out.caps HM1.out.ok (fun d => Nat.le_of_lt (HM1.out.lt (by omega) d))).mono ?_
          rintro e w10 ⟨rfl, hb⟩
          have TT := Turn.of_below o9 0 hb
          replace HK := Lib.hid (HK.out.turn TT (fun h => h))
          replace HX := Lib.hid (HX.out.turn TT (fun h => h))
          replace HL := Lib.hid (HL.out.turn TT (fun h => h))
          replace HM1 := Lib.hid (HM1.out.turn TT (fun _ h => h.elim))
          generalize ext o9 _ 0 = o10 at *
          clear TT hb
          by_cases hf2 : r2.failed = none
          · have e1 : (haltI g caps r2 == 3) = false := by rw [beq_eq_false_iff_ne]; exact fun h => halt_3.1 h hf2
            obtain ⟨hdid, hall⟩ := HST.out.2 hf2
            have HDID := Lib.hid hdid
            have HALL := Lib.hid hall
            have HF2 := Lib.hid hf2
            have hm32 := ready_few g caps r2
            rw [← rdyI_len] at hm32
            clear hdid hall hf2 HST
            go_wp2_with fail
            refine (dReady_any HM1.out.mem HG.out.linked HG.out.caps HM1.out.ok (fun d => Nat.le_of_lt (HM1.out.lt (by omega) d))).mono ?_
            rintro e w11 ⟨lv, rfl, ow, hb⟩
            obtain ⟨sa2, sc2, rfl⟩ := owns_slice ow
            have TT := Turn.of_below o10 0 hb
            replace HK := Lib.hid (HK.out.turn TT (fun h => h))
            replace HX := Lib.hid (HX.out.turn TT (fun h => h))
            replace HL := Lib.hid (HL.out.turn TT (fun h => h))
            replace HM1 := Lib.hid (HM1.out.turn TT (fun _ h => h.elim))
            have HL2 := Lib.hid (Own.made o10 0 ow).vals
            generalize ext o10 _ 0 = o11 at *
            clear TT hb ow e1
            obtain ⟨L2, hL2⟩ : ∃ x, rdyI g caps r2 = x := ⟨_, rfl⟩
            rw [hL2] at HL2 HALL hm32 ⊢
            clear hL2
            have c1 := cell_later HK.out.below HCT.out
            change w11.cell? _ = some (.int .i64 T) at c1
            go_wp2_with fail
            go_loopw [12, 13] (fun was jj wz => ∃ j m : Nat, j ≤ L1.length ∧ jj = .int .i64 j ∧ was = .bool (decide (T ∈ L1.take j)) ∧ wz = w11.drewN m) (fun _ jj _ => L1.length - (intOf jj).toNat)
            case atStart => exact ⟨0, 0, Nat.zero_le _, rfl, by simp, rfl⟩
            case round =>
              obtain ⟨j, m, hj, rfl, rfl, rfl⟩ := hrel
              by_cases hlj : j < L1.length
              · have hlji : (j : Int) < L1.length := by omega
                obtain ⟨gl, glo, hsa, -, hlc, -, -, hcl⟩ := Ints.at HL.out (by omega)
                have c2 := hcl j hlj
                have HTM := Lib.hid (take_mem hlj T)
                have HMEM : Hid (L1[j]?.getD 0 ∈ L1) := Lib.hid (by rw [List.getElem?_eq_getElem hlj]; exact List.getElem_mem hlj)
                obtain ⟨x, hx⟩ : ∃ x, L1[j]?.getD 0 = x := ⟨_, rfl⟩
                rw [hx] at c2 HTM HMEM
                change w11.cell? _ = some (.int .i64 x) at c2
                have hlci : (L1.length : Int) ≤ sc := by omega
                subst hsa
                clear hcl hx hlc
                by_cases hxT : x = T
                · subst hxT
                  go_wp2
                  go_quiet (fail)
                  go_wp2
                  go_roundw
                  case rel => exact ⟨j + 1, _, hlj, by go_num, by rw [HTM.out]; simp, rfl⟩
                  case measure => simp [intOf]; omega
                · have HXL := Lib.hid (HALL.out x HMEM.out hxT)
                  have HXT := Lib.hid hxT
                  have hbe : (x == T) = false := by rw [beq_eq_false_iff_ne]; exact hxT
                  obtain ⟨was, hwas⟩ : ∃ b, decide (T ∈ L1.take j) = b := ⟨_, rfl⟩
                  rw [hwas] at HTM ⊢
                  clear hxT hwas
                  go_wp2
                  go_quiet (fail)
                  go_wp2_with fail
                  go_loopw [14, 15] (fun st kk wz => ∃ k2 m : Nat, k2 ≤ L2.length ∧ kk = .int .i64 k2 ∧ st = .bool (decide (x ∈ L2.take k2)) ∧ wz = w11.drewN m) (fun _ kk _ => L2.length - (intOf kk).toNat)
                  case atStart => exact ⟨0, m + _, Nat.zero_le _, rfl, by simp, World.drewN_drewN _ _ _⟩
                  case round =>
                    obtain ⟨k2, m2, hk2, rfl, rfl, rfl⟩ := hrel
                    by_cases hlk : k2 < L2.length
                    · have hlki : (k2 : Int) < L2.length := by omega
                      obtain ⟨gm, gmo, hsa2, -, hlc2, -, -, hcl2⟩ := Ints.at HL2.out (by omega)
                      have c3 := hcl2 k2 hlk
                      have HTK := Lib.hid (take_mem hlk x)
                      obtain ⟨y, hy⟩ : ∃ x, L2[k2]?.getD 0 = x := ⟨_, rfl⟩
                      rw [hy] at c3 HTK
                      change w11.cell? _ = some (.int .i64 y) at c3
                      have hlci2 : (L2.length : Int) ≤ sc2 := by omega
                      subst hsa2
                      clear hcl2 hy hlc2
                      obtain ⟨st, hst⟩ : ∃ b, decide (x ∈ L2.take k2) = b := ⟨_, rfl⟩
                      rw [hst] at HTK ⊢
                      clear hst
                      cases st with
                      | true =>
                        go_wp2
                        go_quiet (fail)
                        go_wp2
                        go_roundw
                        case rel => exact ⟨k2 + 1, _, hlk, by go_num, by rw [HTK.out]; rfl, rfl⟩
                        case measure => simp [intOf]; omega
                      | false =>
                        obtain ⟨B, hB⟩ : ∃ b, (y == x) = b := ⟨_, rfl⟩
                        rw [hB] at HTK
                        go_wp2
                        go_quiet (fail)
                        go_wp2
                        go_roundw
                        case rel => exact ⟨k2 + 1, _, hlk, by go_num, by rw [HTK.out]; rfl, rfl⟩
                        case measure => simp [intOf]; omega
                    · obtain rfl : k2 = L2.length := by omega
                      have hlki : ¬ (L2.length : Int) < L2.length := by omega
                      rw [List.take_length, decide_eq_true HXL.out]
                      clear hlk hk2
                      go_wp2
                      go_roundw
                      case rel => exact ⟨j + 1, _, hlj, by go_num, by rw [HTM.out, hbe, Bool.or_false], rfl⟩
                      case measure => simp [intOf]; omega
              · obtain rfl : j = L1.length := by omega
                have hlji : ¬ (L1.length : Int) < L1.length := by omega
                rw [List.take_length, ← HDID.out]
                have T0 := Turn.of_quiet (w' := w11.drewN m) o11 ⟨m, rfl⟩
                replace HK := Lib.hid (HK.out.turn T0 (fun h => h))
                replace HX := Lib.hid (HX.out.turn T0 (fun h => h))
                replace HM1 := Lib.hid (HM1.out.turn T0 (fun _ h => h.elim))
                clear T0 hlj hj
                cases did with
                | true =>
                  go_wp2
                  go_roundw
                  case rel => exact ⟨k + 1, o11, r2, u9, hlt, by go_num, HK.out, HX.out, HM1.out, HF2.out⟩
                  case measure => simp [intOf]; omega
                | false =>
                  go_wp2
                  go_roundw
                  case rel => exact ⟨k + 1, o11, r2, u9, hlt, by go_num, HK.out, HX.out, HM1.out, HF2.out⟩
                  case measure => simp [intOf]; omega
          · have e1 : haltI g caps r2 = 3 := halt_3.2 hf2
            have hd := HST.out.1 hf2
            have HFR := Lib.hid (fail_ready (g := g) (caps := caps) hf2)
            rw [e1]
            subst hd
            clear hf2 e1 HL HST
            go_wp2_with fail
            refine (dReady_any HM1.out.mem HG.out.linked HG.out.caps HM1.out.ok (fun d => Nat.le_of_lt (HM1.out.lt (by omega) d))).mono ?_
            rintro e w11 ⟨lv, rfl, ow, hb⟩
            obtain ⟨sa, sc, rfl⟩ := owns_slice ow
            have T := Turn.of_below o10 0 hb
            have HL := Lib.hid (Own.made o10 0 ow).vals
            replace HK := Lib.hid (HK.out.turn T (fun h => h))
            replace HX := Lib.hid (HX.out.turn T (fun h => h))
            replace HM1 := Lib.hid (HM1.out.turn T (fun _ h => h.elim))
            generalize ext o10 _ 0 = o11 at *
            clear T hb ow
            rw [show (rdyI g caps r2).length = 0 by rw [rdyI_len, HFR.out]; rfl]
            clear HL
            go_wp2_with fail
            refine (dawake_yes _).mono ?_
            rintro e wz ⟨rfl, hbz⟩
            have HBZ := Lib.hid (HK.out.below.trans (hbz.mono HK.out.size))
            clear hbz
            go_wp2
            go_ret
            exact ⟨rfl, HBZ.out⟩
        · have hlti : ¬ (k : Int) < tasks.length := by omega
          go_wp2_with fail
          refine (dawake_yes _).mono ?_
          rintro e wz ⟨rfl, hbz⟩
          have HBZ := Lib.hid (HK.out.below.trans (hbz.mono HK.out.size))
          clear hbz
          go_wp2
          go_ret
          exact ⟨rfl, HBZ.out⟩
    · have e1 : haltI g caps p = 3 := halt_3.2 hf
      have E1 := Lib.hid e1
      rw [e1]
      have HFR := Lib.hid (fail_ready (g := g) (caps := caps) hf)
      have HFP := Lib.hid (fail_play (g := g) (caps := caps) hf 0)
      clear hf e1
      go_wp2_with fail
      refine (dReady_any HM1.out.mem HG.out.linked HG.out.caps HM1.out.ok (fun d => Nat.le_of_lt (HM1.out.lt (by omega) d))).mono ?_
      rintro e w8 ⟨lv, rfl, ow, hb⟩
      obtain ⟨sa, sc, rfl⟩ := owns_slice ow
      have T := Turn.of_below o7 0 hb
      have HL := Lib.hid (Own.made o7 0 ow).vals
      replace HK := Lib.hid (HK.out.turn T (fun h => h))
      replace HX := Lib.hid (HX.out.turn T (fun h => h))
      replace HM1 := Lib.hid (HM1.out.turn T (fun _ h => h.elim))
      generalize ext o7 _ 0 = o8 at *
      clear T hb ow
      rw [show (rdyI g caps p).length = 0 by rw [rdyI_len, HFR.out]; rfl]
      clear HL
      have hbn := below_alloc w8 (.cells #[.int .i64 0] 3)
      have TN := Turn.of_below o8 0 hbn
      have HNB := Lib.hid (blk_new (w := w8) o8 0 #[.int .i64 0] 3)
      replace HK := Lib.hid (HK.out.turn TN (fun h => h))
      replace HX := Lib.hid (HX.out.turn TN (fun h => h))
      replace HM1 := Lib.hid (HM1.out.turn TN (fun _ h => h.elim))
      generalize ext o8 w8.heap.size 0 = o9 at *
      clear hbn TN
      go_wp2_with fail
      have hone : Ints (w8.alloc (.cells #[.int .i64 0] 3)) o9 0 (.slice (some ⟨w8.heap.size, 0, none⟩) 1 1) [0] := .inr ⟨by simp [ivs], _, 0, 1, rfl, by simp [ivs], block_lt HNB.out.1, HNB.out.2, fun j hj => by
        have hj0 : j = 0 := by simp [ivs] at hj; omega
        subst hj0
        exact HNB.out.cell 0 _ rfl⟩
      refine (dPlay_ok HM1.out HG.out hone (by unfold MineR; omega) (by intro x hx; simp at hx; subst hx; unfold Fits; decide) (by simp; omega)).mono ?_
      rintro e w9 ⟨o10, u9, rfl, T, hM⟩
      rw [HFP.out]
      replace HK := Lib.hid (HK.out.turn T (by unfold MineR; omega))
      clear T hM hone HNB HM1
      go_wp2_with fail
      refine (dawake_yes _).mono ?_
      rintro e wz ⟨rfl, hbz⟩
      have HBZ := Lib.hid (HK.out.below.trans (hbz.mono HK.out.size))
      clear hbz
      go_wp2
      go_ret
      exact ⟨rfl, HBZ.out⟩
end Go.Proofs.YtaholpfikcdhbaaGreat

/- What came in, said plainly for a walk: a slice of ints. No program in sight. -/
namespace Go.Proofs.YtaholpfikcdhbaaGreat
open Go.ChangeShapes Go.WideShapes Go.ChangeAt Go.RowKit Go.Deep
def InInts (w : World) (v : Value) (zs : List Int) : Prop :=
  ∃ ao cap, v = .slice ao zs.length cap ∧ zs.length ≤ cap ∧ cap ≤ maxLen ∧ (ao = none → zs.length = 0) ∧ (∀ n ∈ zs, -9223372036854775808 ≤ n ∧ n ≤ 9223372036854775807) ∧
    ∀ ad, ao = some ad → ∀ j u, (zs.map (Value.int .i64))[j]? = some u → w.cell? (ad.add j) = some u
theorem wf_i64 {n : Int} (h : (Lit.int .i64 n).wf = true) : -9223372036854775808 ≤ n ∧ n ≤ 9223372036854775807 := by
  simp [Lit.wf] at h
  have h1 : IntKind.i64.min = -9223372036854775808 := rfl
  have h2 : IntKind.i64.max = 9223372036854775807 := rfl
  omega
def DLen {H : Type} (d : DataW H) (n : Nat) : Prop := (d = .nil ∧ n = 0) ∨ ∃ el sp, d = .slice el sp ∧ el.length = n
theorem DLen.reach {H : Type} {P : Program} {ts : List TypeId} {ds : List (DataW H)} {d : DataW H} {n j : Nat} {t e : TypeId} (h : DLen d n) (hs : (DataW.weightsEach P ts ds).all (· ≤ reachBytes) = true) (ht : ts[j]? = some t) (hd : ds[j]? = some d) (hu : P.underlying t = some (.slice e)) : n * P.bytesOf e ≤ 140737488351232 := by
  rcases h with ⟨rfl, rfl⟩ | ⟨el, sp, rfl, rfl⟩
  · omega
  · have := sized_slice hs ht hd hu
    have h1 : el.length * P.bytesOf e ≤ (el.length + sp.length) * P.bytesOf e := Nat.mul_le_mul_right _ (by omega)
    have h2 : reachBytes = 140737488351232 := rfl
    omega
theorem open_in_ints {P : Program} {H : Type} {enc : TypeId × Value → H} {W : World} {t e : TypeId} {v : Value} {d : DataW H} {p : List MemPlace} (ht : P.underlying t = some (.slice e)) (he : P.underlying e = some (.int .i64)) (hc : P.cellsOf e = 1)
    (hv : ∃ a len cap, v = .slice a len cap) (h : DataW.Trod enc P W 0 (fun _ => true) true t v d p) : ∃ zs, InInts W v zs ∧ DLen d zs.length := by
  obtain ⟨a1, len1, cap1, rfl⟩ := hv
  obtain ⟨fuel, hf⟩ := h
  rcases open_ints ht he hc hf with ⟨hcs, hx⟩ | ⟨x, l, c, zs, hcs, _, hl, hm, hz, hx, hcell, hwz⟩
  · simp [Value.cells] at hcs
    obtain ⟨rfl, rfl, rfl⟩ := hcs
    obtain rfl : d = .nil := congrArg Prod.fst hx
    exact ⟨[], ⟨none, 0, rfl, Nat.le_refl _, Nat.zero_le _, fun _ => rfl, by simp, fun _ h => by cases h⟩, .inl ⟨rfl, rfl⟩⟩
  · simp [Value.cells] at hcs
    obtain ⟨rfl, rfl, rfl⟩ := hcs
    simp at hz
    obtain rfl : d = _ := congrArg Prod.fst hx
    have hlen : (zs.take len1).length = len1 := by rw [List.length_take]; omega
    refine ⟨zs.take len1, ⟨some x, cap1, by rw [hlen], by omega, hm, (fun h => by cases h), fun n hn => ?_, ?_⟩, .inr ⟨_, _, rfl, by simp [lits]⟩⟩
    · exact wf_i64 (hwz n (List.mem_of_mem_take hn))
    · intro ad had j u hu
      obtain rfl := Option.some.inj had
      have hj : j < len1 := by have := (List.getElem?_eq_some_iff.1 hu).1; simp at this; omega
      have hcz := hcell j (by omega)
      rw [hcz]
      have : ((zs.take len1).map (Value.int .i64))[j]? = some (.int .i64 (zs.getD j 0)) := by
        simp [hj, show j < zs.length by omega]
      rw [this] at hu
      exact hu
theorem InInts.has {W : World} {v : Value} {zs : List Int} (h : InInts W v zs) : Has W v (ivs zs) := by
  obtain ⟨ao, cap, rfl, h1, h2, h3, h4, h5⟩ := h
  by_cases hp : 0 < zs.length
  · cases ao with
    | none => have := h3 rfl; omega
    | some a =>
      have hc : ∀ i, i < zs.length → W.cell? (a.add i) = some (.int .i64 (zs.getD i 0)) := fun i hi => h5 a rfl i _ (by simp [hi])
      obtain ⟨b, off, rfl, hcell⟩ := ints_at hc hp
      refine .inr ⟨by simpa using hp, b, off, cap, by simp, by simpa using h1, World.block_lt_of_cell? _ _ (hcell 0 hp), rfl, fun k hk => ?_⟩
      have hk' : k < zs.length := by simpa using hk
      have := hcell k hk'
      simpa [hk'] using this
  · obtain rfl : zs = [] := List.eq_nil_of_length_eq_zero (by omega)
    exact .inl ⟨rfl, ao, cap, rfl⟩
theorem InInts.fits {W : World} {v : Value} {zs : List Int} (h : InInts W v zs) : ∀ n ∈ zs, -9223372036854775808 ≤ n ∧ n ≤ 9223372036854775807 := h.choose_spec.choose_spec.2.2.2.2.1
end Go.Proofs.YtaholpfikcdhbaaGreat

/- What came in, said plainly for a walk: a slice of slices of ints. No program in sight. -/
namespace Go.Proofs.YtaholpfikcdhbaaGreat
open Go.ChangeShapes Go.WideShapes Go.ChangeAt Go.RowKit Go.Deep
theorem open_in_ints_cells {P : Program} {H : Type} {enc : TypeId × Value → H} {W : World} {t e : TypeId} {x : Value} {fuel : Nat} {y : DataW H × List MemPlace} (ht : P.underlying t = some (.slice e)) (he : P.underlying e = some (.int .i64)) (hc : P.cellsOf e = 1)
    (h : DataW.trod enc P W 0 (fun _ => true) true fuel t [x] = some y) : ∃ zs, InInts W x zs ∧ DLen y.1 zs.length := by
  have hx : ∃ a len cap, x = .slice a len cap := by
    rcases open_ints ht he hc h with ⟨hcs, _⟩ | ⟨a, len, cap, zs, hcs, _⟩
    · exact ⟨_, _, _, List.head_eq_of_cons_eq hcs⟩
    · exact ⟨_, _, _, List.head_eq_of_cons_eq hcs⟩
  obtain ⟨a, len, cap, rfl⟩ := hx
  exact open_in_ints (d := y.1) (p := y.2) ht he hc ⟨_, _, _, rfl⟩ ⟨fuel, by simpa [Value.cells] using h⟩
end Go.Proofs.YtaholpfikcdhbaaGreat

/- What came in, said plainly for a walk: slices of slices of ints and their sizes; two of them in a struct. No program in sight. -/
namespace Go.Proofs.YtaholpfikcdhbaaGreat
open Go.ChangeShapes Go.WideShapes Go.ChangeAt Go.RowKit Go.Deep
theorem weights_mem_all {H : Type} {P : Program} {e : TypeId} {d : DataW H} {x : Nat} : ∀ {l : List (DataW H)}, d ∈ l → x ∈ d.weights P e → x ∈ DataW.weightsAll P e l
  | [], h, _ => by cases h
  | a :: l, h, hx => by
    simp only [DataW.weightsAll, List.mem_append]
    rcases List.mem_cons.1 h with rfl | h
    · exact .inl hx
    · exact .inr (weights_mem_all h hx)
def Light {H : Type} (P : Program) (t : TypeId) (d : DataW H) : Prop := ∀ x ∈ d.weights P t, x ≤ reachBytes
theorem weigh_len {H : Type} {P : Program} {t e : TypeId} {d : DataW H} {n B : Nat} (h : ∀ x ∈ d.weights P t, x ≤ B) (hd : DLen d n) (hu : P.underlying t = some (.slice e)) : n * P.bytesOf e ≤ B := by
  rcases hd with ⟨rfl, rfl⟩ | ⟨el, sp, rfl, rfl⟩
  · simp
  · have := h ((el.length + sp.length) * P.bytesOf e) (by simp [DataW.weights, hu])
    exact Nat.le_trans (Nat.mul_le_mul_right _ (by omega)) this
theorem Light.len {H : Type} {P : Program} {t e : TypeId} {d : DataW H} {n : Nat} (h : Light P t d) (hd : DLen d n) (hu : P.underlying t = some (.slice e)) : n * P.bytesOf e ≤ reachBytes := weigh_len h hd hu
theorem open_rows_by {P : Program} {H : Type} {enc : TypeId × Value → H} {W : World} {t s e : TypeId} {v : Value} {d : DataW H} {p : List MemPlace} (ht : P.underlying t = some (.slice s)) (hs : P.underlying s = some (.slice e)) (he : P.underlying e = some (.int .i64)) (hce : P.cellsOf e = 1) (hcs : P.cellsOf s = 1)
    (hv : ∃ a len cap, v = .slice a len cap) (h : DataW.Trod enc P W 0 (fun _ => true) true t v d p) : ∃ xss, LL W v xss ∧ (∀ l ∈ xss, ∀ x ∈ l, -9223372036854775808 ≤ x ∧ x ≤ 9223372036854775807) ∧ (∀ B, (∀ x ∈ d.weights P t, x ≤ B) → xss.length * P.bytesOf s ≤ B ∧ ∀ l ∈ xss, l.length * P.bytesOf e ≤ B) := by
  obtain ⟨a1, len1, cap1, rfl⟩ := hv
  obtain ⟨fuel, hf⟩ := h
  rcases open_slice ht hf with ⟨hc, hx⟩ | ⟨a, len, cap, m, n, D, Pl, hc, _, hl, hm, hmm, hx, hel⟩
  · simp [Value.cells] at hc
    obtain ⟨rfl, rfl, rfl⟩ := hc
    exact ⟨[], ⟨[], rfl, .inl ⟨rfl, none, 0, rfl⟩, fun k hk => by simp at hk⟩, by simp, fun _ _ => ⟨by simp, by simp⟩⟩
  · simp [Value.cells] at hc
    obtain ⟨rfl, rfl, rfl⟩ := hc
    simp at hmm
    have each : ∀ i, i < len1 → ∃ q : Value × List Int, W.cell? (a.add i) = some q.1 ∧ InInts W q.1 q.2 ∧ DLen (D i) q.2.length := by
      intro i hi
      obtain ⟨cs', hcells, htr⟩ := hel i (by omega)
      rw [hcs] at hcells
      simp only [Nat.mul_one] at hcells
      obtain ⟨_, hll, hev⟩ := World.cells?_some hcells
      match cs', hll with
      | [x0], _ =>
        obtain ⟨zs, hz, hdl⟩ := open_in_ints_cells hs he hce htr
        have g0 := hev 0 (by omega)
        have e0 : (a.add i).add 0 = a.add i := by cases a; simp [Addr.add]
        rw [e0] at g0
        exact ⟨(x0, zs), by simpa using g0, hz, hdl⟩
    obtain ⟨Q, hQ⟩ := choose_lt (α := Value × List Int) (p := fun i q => W.cell? (a.add i) = some q.1 ∧ InInts W q.1 q.2 ∧ DLen (D i) q.2.length) each
    have hd : d = _ := congrArg Prod.fst hx
    refine ⟨(List.range len1).map fun i => (Q i).2, ⟨(List.range len1).map fun i => (Q i).1, by simp, ?_, fun k hk => ?_⟩, fun l hl x hx => ?_, fun B hL => ⟨?_, fun l hl => ?_⟩⟩
    · by_cases hp : 0 < len1
      · have hsp : a.spot = none := by
          have := World.cell?_spot (hQ 0 hp).1
          simpa [Addr.add] using this
        obtain ⟨b, off, spot⟩ := a
        simp at hsp
        subst hsp
        refine .inr ⟨by simpa using hp, b, off, cap1, by simp, by simp; omega, ?_, rfl, fun k hk => ?_⟩
        · have := World.block_lt_of_cell? _ _ (hQ 0 hp).1
          simpa [Addr.add] using this
        · have hk' : k < len1 := by simpa using hk
          have := (hQ k hk').1
          simp only [Addr.add_lit] at this
          simpa [hk'] using this
      · obtain rfl : len1 = 0 := by omega
        exact .inl ⟨rfl, some a, cap1, rfl⟩
    · have hk' : k < len1 := by simpa using hk
      have := (hQ k hk').2.1.has
      simpa [hk'] using this
    · simp only [List.mem_map, List.mem_range] at hl
      obtain ⟨i, hi, rfl⟩ := hl
      exact (hQ i hi).2.1.fits x hx
    · exact weigh_len (n := ((List.range len1).map fun i => (Q i).2).length) hL (.inr ⟨_, _, hd, by simp⟩) ht
    · simp only [List.mem_map, List.mem_range] at hl
      obtain ⟨i, hi, rfl⟩ := hl
      have hLi : ∀ x ∈ (D i).weights P s, x ≤ B := fun x hx => hL x (by
        rw [hd]
        simp only [DataW.weights, ht]
        exact List.mem_cons_of_mem _ (List.mem_append_left _ (weights_mem_all (List.mem_map.2 ⟨i, List.mem_range.2 hi, rfl⟩) hx)))
      exact weigh_len hLi (hQ i hi).2.2 hs
end Go.Proofs.YtaholpfikcdhbaaGreat

/- What came in, said plainly for a walk: a slice of records. No function in sight. -/
namespace Go.Proofs.YtaholpfikcdhbaaGreat
open Go.ChangeShapes Go.WideShapes Go.ChangeAt Go.RowKit Go.Deep
section
variable {H : Type} {enc : TypeId × Value → H} {W : World}
abbrev Trods (enc : TypeId × Value → H) (W : World) (fuel : Nat) (t : TypeId) (cs : List Value) (y : DataW H × List MemPlace) : Prop := DataW.trod enc Tryz.prog W 0 (fun _ => true) true fuel t cs = some y
theorem cell_int : Tryz.prog.cellsOf 3 = 1 := by kernel_rfl
theorem cell_ints : Tryz.prog.cellsOf 27 = 1 := by kernel_rfl
theorem byte_int : Tryz.prog.bytesOf 3 = 8 := by kernel_rfl
theorem reach_val : reachBytes = 140737488351232 := rfl
theorem part_by {B : Nat} {t : TypeId} {fs : Array Field} {xs : List (DataW H × List MemPlace)} (ht : Tryz.prog.underlying t = some (.struct fs)) (hL : ∀ x ∈ (DataW.agg (xs.map (·.1))).weights Tryz.prog t, x ≤ B) {i : Nat} {f : Field} {y : DataW H × List MemPlace} (hf : fs[i]? = some f) (hy : xs[i]? = some y) : ∀ x ∈ y.1.weights Tryz.prog f.type, x ≤ B := fun x hx => hL x (by
  simp only [DataW.weights, ht]
  have h1 : (fs.toList.map (·.type))[i]? = some f.type := by simp [hf]
  have h2 : (xs.map (·.1))[i]? = some y.1 := by simp [hy]
  exact DataW.weights_mem_each h1 h2 x hx)
theorem light_part {t : TypeId} {fs : Array Field} {xs : List (DataW H × List MemPlace)} (ht : Tryz.prog.underlying t = some (.struct fs)) (hL : Light Tryz.prog t (.agg (xs.map (·.1)))) {i : Nat} {f : Field} {y : DataW H × List MemPlace} (hf : fs[i]? = some f) (hy : xs[i]? = some y) : Light Tryz.prog f.type y.1 := part_by ht hL hf hy
theorem int_at {fuel : Nat} {x : Value} {y : DataW H × List MemPlace} (h : Trods enc W fuel 3 [x] y) : ∃ n, x = .int .i64 n := by
  obtain ⟨n, h1, _⟩ := DataW.trod_int Tryz.underlying3 h
  exact ⟨n, by simpa using h1⟩
theorem list_get {cs : List Value} {n i : Nat} (hl : cs.length = n) (hi : i < n) : cs[i]? = some (cs[i]?.getD undef) := by
  rw [List.getElem?_eq_getElem (by omega)]; rfl
theorem open_recs {α : Type} {R : World → α → List Value → Prop} {Z : α → Prop} {t e : TypeId} {sz : Nat} {fuel : Nat} {x : Value} {y : DataW H × List MemPlace} (ht : Tryz.prog.underlying t = some (.slice e)) (hc : Tryz.prog.cellsOf e = sz) (hsz : 0 < sz)
    (el : ∀ (fuel : Nat) (cs : List Value) (y : DataW H × List MemPlace), cs.length = sz → Trods enc W fuel e cs y → ∃ a : α, R W a cs ∧ (Light Tryz.prog e y.1 → Z a)) (h : Trods enc W fuel t [x] y) :
    ∃ l : List α, Recs W sz R x l ∧ (Light Tryz.prog t y.1 → l.length * Tryz.prog.bytesOf e ≤ reachBytes ∧ ∀ a ∈ l, Z a) := by
  rcases open_slice ht h with ⟨hcs', hx⟩ | ⟨a, len, cap, m, n, D, Pl, hcs', _, hl, hm, hmm, hx, hel⟩
  · obtain rfl : x = .slice none 0 0 := List.head_eq_of_cons_eq hcs'
    exact ⟨[], .inl ⟨rfl, _, _, rfl⟩, fun _ => ⟨by simp, by simp⟩⟩
  · obtain rfl := List.head_eq_of_cons_eq hcs'
    simp at hmm
    have each : ∀ j, j < len → ∃ q : α × List Value, q.2.length = sz ∧ R W q.1 q.2 ∧ (Light Tryz.prog e (D j) → Z q.1) ∧ ∀ i, i < sz → W.cell? ((a.add (j * sz)).add i) = some (q.2[i]?.getD undef) := by
      intro j hj
      obtain ⟨cs', hcells, htr⟩ := hel j (by omega)
      rw [hc] at hcells
      obtain ⟨_, hll, hev⟩ := World.cells?_some hcells
      obtain ⟨q, h1, h2⟩ := el _ _ _ hll htr
      exact ⟨(q, cs'), hll, h1, h2, fun i hi => (hev i hi).trans (list_get hll hi)⟩
    by_cases hp : 0 < len
    · haveI : Inhabited (α × List Value) := ⟨(each 0 hp).choose⟩
      obtain ⟨Q, hQ⟩ := choose_lt (α := α × List Value) (p := fun j q => q.2.length = sz ∧ R W q.1 q.2 ∧ (Light Tryz.prog e (D j) → Z q.1) ∧ ∀ i, i < sz → W.cell? ((a.add (j * sz)).add i) = some (q.2[i]?.getD undef)) each
      have hd : y.1 = _ := congrArg Prod.fst hx
      refine ⟨(List.range len).map fun j => (Q j).1, .inr ?_, fun hL => ⟨hL.len (n := ((List.range len).map fun j => (Q j).1).length) (.inr ⟨_, _, hd, by simp⟩) ht, fun z hz => ?_⟩⟩
      rotate_left
      · simp only [List.mem_map, List.mem_range] at hz
        obtain ⟨j, hj, rfl⟩ := hz
        exact (hQ j hj).2.2.1 fun x hx => hL x (by
          rw [hd]
          simp only [DataW.weights, ht]
          exact List.mem_cons_of_mem _ (List.mem_append_left _ (weights_mem_all (List.mem_map.2 ⟨j, List.mem_range.2 hj, rfl⟩) hx)))
      have hsp : a.spot = none := by
        have := World.cell?_spot ((hQ 0 hp).2.2.2 0 hsz)
        simpa [Addr.add] using this
      obtain ⟨b, off, spot⟩ := a
      simp at hsp
      subst hsp
      refine ⟨by simpa using hp, b, off, cap, by simp, by simp; omega, ?_, fun k hk => ?_⟩
      · have := World.block_lt_of_cell? _ _ ((hQ 0 hp).2.2.2 0 hsz)
        simpa [Addr.add] using this
      · have hk' : k < len := by simpa using hk
        obtain ⟨e1, e2, _, e4⟩ := hQ k hk'
        refine ⟨(Q k).2, e1, by simpa [hk'] using e2, fun i hi => ?_⟩
        have := e4 i hi
        simp only [Addr.add_lit] at this
        exact this
    · obtain rfl : len = 0 := by omega
      exact ⟨[], .inl ⟨rfl, some a, cap, rfl⟩, fun _ => ⟨by simp, by simp⟩⟩
end
end Go.Proofs.YtaholpfikcdhbaaGreat

/- What is not bulky is light: lists that are short weigh little. No function in sight. -/
namespace Go.Proofs.YtaholpfikcdhbaaGreat
open Go.ChangeShapes Go.WideShapes Go.ChangeAt Go.RowKit Go.Deep
section
variable {H : Type}
theorem bulk_one (d : DataW H) : 1 ≤ Rows.uptoBulk d := by
  cases d with
  | lit l => cases l <;> simp [Rows.uptoBulk]
  | nil => simp [Rows.uptoBulk]
  | ptr d => simp [Rows.uptoBulk]
  | slice elems spare => simp [Rows.uptoBulk]
  | agg parts => simp [Rows.uptoBulk]
  | iface t d => simp [Rows.uptoBulk]
  | map entries => simp [Rows.uptoBulk]
  | held h => simp [Rows.uptoBulk]
theorem bulk_part {d : DataW H} : ∀ {l : List (DataW H)}, d ∈ l → Rows.uptoBulk d ≤ Rows.uptoBulkAll l
  | [], h => by cases h
  | x :: r, h => by
    simp only [Rows.uptoBulkAll]
    rcases List.mem_cons.1 h with rfl | h
    · omega
    · have := bulk_part h; omega
theorem bulk_len : ∀ l : List (DataW H), l.length ≤ Rows.uptoBulkAll l
  | [] => by simp [Rows.uptoBulkAll]
  | x :: r => by have := bulk_one x; have := bulk_len r; simp only [Rows.uptoBulkAll, List.length_cons]; omega
theorem dlen_bulk {d : DataW H} {n : Nat} (h : DLen d n) : n ≤ Rows.uptoBulk d := by
  rcases h with ⟨rfl, h0⟩ | ⟨el, sp, rfl, h0⟩
  · omega
  · have := bulk_len el
    simp only [Rows.uptoBulk]
    omega
def shutB (P : Program) (S : List TypeId) (t : TypeId) : Bool :=
  match P.underlying t with
  | some (.slice e) => S.contains e && decide (P.bytesOf e ≤ 64)
  | some (.struct fs) => fs.toList.all fun f => S.contains f.type
  | some (.int _) => true
  | some .string => true
  | _ => false
theorem weigh_all {P : Program} {e : TypeId} {x : Nat} : ∀ {l : List (DataW H)}, x ∈ DataW.weightsAll P e l → ∃ d ∈ l, x ∈ d.weights P e
  | [], h => by simp [DataW.weightsAll] at h
  | d :: r, h => by
    simp only [DataW.weightsAll, List.mem_append] at h
    rcases h with h | h
    · exact ⟨d, List.mem_cons_self, h⟩
    · obtain ⟨y, h1, h2⟩ := weigh_all h
      exact ⟨y, List.mem_cons_of_mem _ h1, h2⟩
theorem weigh_each {P : Program} {x : Nat} : ∀ {ts : List TypeId} {l : List (DataW H)}, x ∈ DataW.weightsEach P ts l → ∃ d ∈ l, ∃ t ∈ ts, x ∈ d.weights P t
  | [], l, h => by cases l <;> simp [DataW.weightsEach] at h
  | t :: ts, [], h => by simp [DataW.weightsEach] at h
  | t :: ts, d :: r, h => by
    simp only [DataW.weightsEach, List.mem_append] at h
    rcases h with h | h
    · exact ⟨d, List.mem_cons_self, t, List.mem_cons_self, h⟩
    · obtain ⟨y, h1, u, h2, h3⟩ := weigh_each h
      exact ⟨y, List.mem_cons_of_mem _ h1, u, List.mem_cons_of_mem _ h2, h3⟩
theorem weigh {P : Program} {S : List TypeId} (hS : ∀ t ∈ S, shutB P S t = true) : ∀ (n : Nat) (d : DataW H) (t : TypeId), SizeOf.sizeOf d ≤ n → t ∈ S → ∀ x ∈ d.weights P t, x ≤ Rows.uptoBulk d * 64
  | 0, d, _, hn, _, _, _ => by cases d <;> simp at hn
  | n + 1, d, t, hn, ht, x, hx => by
    have hs := hS t ht
    unfold shutB at hs
    cases d with
    | lit l =>
      cases l with
      | string b =>
        simp [DataW.weights] at hx
        simp only [Rows.uptoBulk]
        omega
      | _ => simp [DataW.weights] at hx
    | nil => simp [DataW.weights] at hx
    | ptr d =>
      simp only [DataW.weights] at hx
      split at hx
      · rename_i e he
        rw [he] at hs
        simp at hs
      · cases hx
    | slice el sp =>
      simp only [DataW.weights] at hx
      split at hx
      · rename_i e he
        rw [he] at hs
        simp only [Bool.and_eq_true, List.contains_iff_mem, decide_eq_true_eq] at hs
        simp only [Rows.uptoBulk]
        have l1 := bulk_len el
        have l2 := bulk_len sp
        rcases List.mem_cons.1 hx with rfl | hx
        · have h1 : (el.length + sp.length) * P.bytesOf e ≤ (el.length + sp.length) * 64 := Nat.mul_le_mul_left _ hs.2
          omega
        · rcases List.mem_append.1 hx with hx | hx
          · obtain ⟨y, hy, hxy⟩ := weigh_all hx
            have := List.sizeOf_lt_of_mem hy
            have h1 := weigh hS n y e (by simp at hn; omega) hs.1 x hxy
            have := bulk_part hy
            omega
          · obtain ⟨y, hy, hxy⟩ := weigh_all hx
            have := List.sizeOf_lt_of_mem hy
            have h1 := weigh hS n y e (by simp at hn; omega) hs.1 x hxy
            have := bulk_part hy
            omega
      · cases hx
    | agg ps =>
      simp only [DataW.weights] at hx
      split at hx
      · rename_i fs he
        rw [he] at hs
        simp only [List.all_eq_true, List.contains_iff_mem] at hs
        obtain ⟨y, hy, u, hu, hxy⟩ := weigh_each hx
        obtain ⟨f, hf, rfl⟩ := List.mem_map.1 hu
        have := List.sizeOf_lt_of_mem hy
        have h1 := weigh hS n y f.type (by simp at hn; omega) (hs f hf) x hxy
        have := bulk_part hy
        simp only [Rows.uptoBulk]
        omega
      · rename_i e he
        rw [he] at hs
        simp at hs
      · cases hx
    | iface u d => simp [DataW.weights] at hx
    | map es =>
      simp only [DataW.weights] at hx
      split at hx
      · rename_i k e he
        rw [he] at hs
        simp at hs
      · cases hx
    | held h => simp [DataW.weights] at hx
theorem light_of_bulk {P : Program} {S : List TypeId} (hS : S.all (shutB P S) = true) {d : DataW H} {t : TypeId} (ht : t ∈ S) (hb : Rows.uptoBulk d ≤ 1048576) : Light P t d := fun x hx => by
  have h := weigh (fun t ht => List.all_eq_true.1 hS t ht) _ d t (Nat.le_refl _) ht x hx
  have h2 : reachBytes = 140737488351232 := rfl
  omega
end
end Go.Proofs.YtaholpfikcdhbaaGreat

/- What came in, said plainly for a walk: a run. No function in sight. -/
namespace Go.Proofs.YtaholpfikcdhbaaGreat
open Go.ChangeShapes Go.WideShapes Go.ChangeAt Go.RowKit Go.Deep
section
variable {H : Type} {enc : TypeId × Value → H} {W : World}
theorem cell_string : Tryz.prog.cellsOf 9 = 1 := by kernel_rfl
theorem cell_tag : Tryz.prog.cellsOf 94 = 1 := by kernel_rfl
theorem string_at {fuel : Nat} {x : Value} {y : DataW H × List MemPlace} (h : Trods enc W fuel 9 [x] y) : ∃ s : ByteArray, x = .string s ∧ (Light Tryz.prog 9 y.1 → s.size ≤ 4611686018427387904) := by
  obtain ⟨s, h1, h2, _⟩ := DataW.trod_string Tryz.underlying9 h
  refine ⟨s, by simpa using h1, fun hL => ?_⟩
  have := hL s.data.toList.length (by rw [h2]; simp [DataW.weights])
  have h3 := reach_val
  have h4 : s.data.toList.length = s.size := by simp
  omega
set_option maxRecDepth 100000 in
theorem el_port {fuel : Nat} {cs : List Value} {y : DataW H × List MemPlace} (hl : cs.length = 3) (h : Trods enc W fuel 118 cs y) : ∃ a : GPort, PortR W a cs ∧ (Light Tryz.prog 118 y.1 → a.name.size ≤ 4611686018427387904) := by
  obtain ⟨xs, n, _, rfl, _, hlen, hf⟩ := DataW.trod_struct Tryz.underlying118 h
  match cs, hl, xs, hlen with
  | [x0, x1, x2], _, [y0, y1, y2], _ =>
    have h0 : Trods enc W n 9 [x0] y0 := by simpa [cell_string] using hf 0 _ rfl
    have h1 : Trods enc W n 3 [x1] y1 := by simpa [cell_int] using hf 1 _ rfl
    have h2 : Trods enc W n 3 [x2] y2 := by simpa [cell_int] using hf 2 _ rfl
    obtain ⟨s, rfl, s2⟩ := string_at h0
    obtain ⟨n1, rfl⟩ := int_at h1
    obtain ⟨n2, rfl⟩ := int_at h2
    exact ⟨⟨s, n1, n2⟩, rfl, fun hL => s2 (light_part Tryz.underlying118 (xs := [y0, y1, y2]) hL (i := 0) rfl rfl)⟩
theorem cell_rows : Tryz.prog.cellsOf 22 = 1 ∧ Tryz.prog.cellsOf 23 = 1 ∧ Tryz.prog.cellsOf 24 = 1 := ⟨by kernel_rfl, by kernel_rfl, by kernel_rfl⟩
theorem ints_atR {fuel : Nat} {x : Value} {y : DataW H × List MemPlace} (h : Trods enc W fuel 27 [x] y) : ∃ l, Has W x (ivs l) ∧ (∀ n ∈ l, Fits n) ∧ (Light Tryz.prog 27 y.1 → l.length ≤ 17600000000000) := by
  obtain ⟨l, h1, h2⟩ := open_in_ints_cells Tryz.underlying27 Tryz.underlying3 cell_int h
  refine ⟨l, h1.has, h1.fits, fun hL => ?_⟩
  have := hL.len h2 Tryz.underlying27
  rw [byte_int] at this
  have h3 := reach_val
  omega
set_option maxRecDepth 100000 in
theorem el_actorF {fuel : Nat} {cs : List Value} {y : DataW H × List MemPlace} (hl : cs.length = 3) (h : Trods enc W fuel 96 cs y) : ∃ a : GActor, ActorR W a cs ∧ (Light Tryz.prog 96 y.1 → (a.name.size ≤ 4611686018427387904 ∧ a.params.length ≤ 17600000000000) ∧ ∀ n ∈ a.params, Fits n) := by
  obtain ⟨xs, n, _, rfl, _, hlen, hf⟩ := DataW.trod_struct Tryz.underlying96 h
  match cs, hl, xs, hlen with
  | [x0, x1, x2], _, [y0, y1, y2], _ =>
    have h0 : Trods enc W n 9 [x0] y0 := by simpa [cell_string] using hf 0 _ rfl
    have h1 : Trods enc W n 94 [x1] y1 := by simpa [cell_tag] using hf 1 _ rfl
    have h2 : Trods enc W n 27 [x2] y2 := by simpa [cell_ints] using hf 2 _ rfl
    obtain ⟨s, rfl, s2⟩ := string_at h0
    obtain ⟨tg, t1, _⟩ := DataW.trod_int Tryz.underlying94 h1
    obtain rfl : x1 = .int .u8 tg := by simpa using t1
    obtain ⟨l, l1, l3, l2⟩ := ints_atR h2
    exact ⟨⟨s, tg, l⟩, ⟨x2, rfl, l1⟩, fun hL => ⟨⟨s2 (light_part Tryz.underlying96 (xs := [y0, y1, y2]) hL (i := 0) rfl rfl), l2 (light_part Tryz.underlying96 (xs := [y0, y1, y2]) hL (i := 2) rfl rfl)⟩, l3⟩⟩
set_option maxRecDepth 100000 in
theorem el_edgeF {fuel : Nat} {cs : List Value} {y : DataW H × List MemPlace} (hl : cs.length = 5) (h : Trods enc W fuel 107 cs y) : ∃ a : GEdge, EdgeR W a cs ∧ (Light Tryz.prog 107 y.1 → a.start.length ≤ 17600000000000 ∧ ∀ n ∈ a.start, Fits n) := by
  obtain ⟨xs, n, _, rfl, _, hlen, hf⟩ := DataW.trod_struct Tryz.underlying107 h
  match cs, hl, xs, hlen with
  | [x0, x1, x2, x3, x4], _, [y0, y1, y2, y3, y4], _ =>
    have h0 : Trods enc W n 3 [x0] y0 := by simpa [cell_int] using hf 0 _ rfl
    have h1 : Trods enc W n 3 [x1] y1 := by simpa [cell_int] using hf 1 _ rfl
    have h2 : Trods enc W n 3 [x2] y2 := by simpa [cell_int] using hf 2 _ rfl
    have h3 : Trods enc W n 3 [x3] y3 := by simpa [cell_int] using hf 3 _ rfl
    have h4 : Trods enc W n 27 [x4] y4 := by simpa [cell_ints] using hf 4 _ rfl
    obtain ⟨n0, rfl⟩ := int_at h0
    obtain ⟨n1, rfl⟩ := int_at h1
    obtain ⟨n2, rfl⟩ := int_at h2
    obtain ⟨n3, rfl⟩ := int_at h3
    obtain ⟨l, l1, l3, l2⟩ := ints_atR h4
    exact ⟨⟨n0, n1, n2, n3, l⟩, ⟨x4, rfl, l1⟩, fun hL => ⟨l2 (light_part Tryz.underlying107 (xs := [y0, y1, y2, y3, y4]) hL (i := 4) rfl rfl), l3⟩⟩
set_option maxRecDepth 100000 in
theorem graph_at {fuel : Nat} {x0 x1 x2 x3 x4 : Value} {y : DataW H × List MemPlace} (h : Trods enc W fuel 26 [x0, x1, x2, x3, x4] y) : ∃ g, HasGraph W (.agg #[x0, x1, x2, x3, x4]) g ∧ (Light Tryz.prog 26 y.1 → GSized g ∧ (∀ a ∈ g.actors, ∀ n ∈ a.params, Fits n) ∧ (∀ e ∈ g.edges, ∀ n ∈ e.start, Fits n) ∧ g.ins.length ≤ 5000000000000) := by
  obtain ⟨xs, n, _, hx, _, hlen, hf⟩ := DataW.trod_struct Tryz.underlying26 h
  match xs, hlen with
  | [y0, y1, y2, y3, y4], _ =>
    have h0 : Trods enc W n 9 [x0] y0 := by simpa [cell_string, Value.cells] using hf 0 _ rfl
    have h1 : Trods enc W n 22 [x1] y1 := by simpa [cell_rows.1, Value.cells] using hf 1 _ rfl
    have h2 : Trods enc W n 23 [x2] y2 := by simpa [cell_rows.2.1, Value.cells] using hf 2 _ rfl
    have h3 : Trods enc W n 24 [x3] y3 := by simpa [cell_rows.2.2, Value.cells] using hf 3 _ rfl
    have h4 : Trods enc W n 24 [x4] y4 := by simpa [cell_rows.2.2, Value.cells] using hf 4 _ rfl
    have hd : y.1 = .agg ([y0, y1, y2, y3, y4].map (·.1)) := congrArg Prod.fst hx
    obtain ⟨s, rfl, s2⟩ := string_at h0
    obtain ⟨la, a1, a2⟩ := open_recs (sz := 3) Tryz.underlying22 (by kernel_rfl) (by decide) (fun fuel cs y => el_actorF) h1
    obtain ⟨le, e1, e2⟩ := open_recs (sz := 5) Tryz.underlying23 (by kernel_rfl) (by decide) (fun fuel cs y => el_edgeF) h2
    obtain ⟨li, i1, i2⟩ := open_recs (sz := 3) Tryz.underlying24 (by kernel_rfl) (by decide) (fun fuel cs y => el_port) h3
    obtain ⟨lo, o1, o2⟩ := open_recs (sz := 3) Tryz.underlying24 (by kernel_rfl) (by decide) (fun fuel cs y => el_port) h4
    refine ⟨⟨s, la, le, li, lo⟩, ⟨_, _, _, _, rfl, a1, e1, i1, o1⟩, fun hL => ?_⟩
    rw [hd] at hL
    have s3 := s2 (light_part Tryz.underlying26 hL (i := 0) rfl rfl)
    have a3 := a2 (light_part Tryz.underlying26 hL (i := 1) rfl rfl)
    have e3 := e2 (light_part Tryz.underlying26 hL (i := 2) rfl rfl)
    have i3 := i2 (light_part Tryz.underlying26 hL (i := 3) rfl rfl)
    have o3 := o2 (light_part Tryz.underlying26 hL (i := 4) rfl rfl)
    exact ⟨⟨s3, fun a ha => (a3.2 a ha).1, i3.2, o3.2⟩, fun a ha => (a3.2 a ha).2, fun e he => (e3.2 e he).2, by
      have := i3.1
      rw [show Tryz.prog.bytesOf 118 = 32 by kernel_rfl, reach_val] at this
      show li.length ≤ _
      omega⟩
set_option maxRecDepth 100000 in
theorem open_run_by {v : Value} {d : DataW H} {p : List MemPlace} (hv : ∃ cs, v = .agg cs ∧ cs.size = Tryz.prog.cellsOf 30) (h : DataW.Trod enc Tryz.prog W 0 (fun _ => true) true 30 v d p) : ∃ g caps fed, HasRun W v g caps fed ∧ (Light Tryz.prog 30 d → RunOk g caps fed ∧ g.ins.length ≤ 5000000000000) ∧ ∀ B, (∀ x ∈ d.weights Tryz.prog 30, x ≤ B) → ∀ l ∈ fed, l.length * 8 ≤ B := by
  obtain ⟨cs, rfl, hsz⟩ := hv
  obtain ⟨fuel, hf0⟩ := h
  rw [show Tryz.prog.cellsOf 30 = 7 by kernel_rfl] at hsz
  obtain ⟨xs, n, _, hx, _, hlen, hf⟩ := DataW.trod_struct Tryz.underlying30 hf0
  obtain ⟨l⟩ := cs
  match l, hsz, xs, hlen with
  | [x0, x1, x2, x3, x4, x5, x6], _, [y0, y1, y2], _ =>
    have h0 : Trods enc W n 26 [x0, x1, x2, x3, x4] y0 := by simpa [show Tryz.prog.cellsOf 26 = 5 by kernel_rfl, Value.cells] using hf 0 _ rfl
    have h1 : Trods enc W n 27 [x5] y1 := by simpa [cell_ints, Value.cells] using hf 1 _ rfl
    have h2 : Trods enc W n 28 [x6] y2 := by simpa [show Tryz.prog.cellsOf 28 = 1 by kernel_rfl, Value.cells] using hf 2 _ rfl
    have hd : d = .agg ([y0, y1, y2].map (·.1)) := congrArg Prod.fst hx
    obtain ⟨g, g1, g2⟩ := graph_at h0
    obtain ⟨caps, c1, c2, c3⟩ := ints_atR h1
    have sl : ∃ a len cap, x6 = .slice a len cap := by
      rcases open_slice Tryz.underlying28 h2 with ⟨hc, _⟩ | ⟨a, len, cap, _, _, _, _, hc, _⟩
      · exact ⟨_, _, _, List.head_eq_of_cons_eq hc⟩
      · exact ⟨_, _, _, List.head_eq_of_cons_eq hc⟩
    obtain ⟨ax, lx, cx, rfl⟩ := sl
    obtain ⟨fed, q1, q2, q3⟩ := open_rows_by (d := y2.1) (p := y2.2) Tryz.underlying28 Tryz.underlying27 Tryz.underlying3 (by kernel_rfl) (by kernel_rfl) ⟨_, _, _, rfl⟩ ⟨n, by simpa [Value.cells] using h2⟩
    refine ⟨g, caps, fed, ⟨_, _, _, _, _, _, _, rfl, g1, c1, q1⟩, fun hL => ?_, fun B hL => ?_⟩
    · rw [hd] at hL
      have g3 := g2 (light_part Tryz.underlying30 hL (i := 0) rfl rfl)
      have c4 := c3 (light_part Tryz.underlying30 hL (i := 1) rfl rfl)
      have q4 := q3 reachBytes (light_part Tryz.underlying30 hL (i := 2) rfl rfl)
      rw [byte_int, reach_val] at q4
      exact ⟨⟨g3.1, c4, g3.2.1, g3.2.2.1, c2, q2, fun l hl => by have := q4.2 l hl; omega⟩, g3.2.2.2⟩
    · rw [hd] at hL
      have q4 := q3 B (part_by Tryz.underlying30 hL (i := 2) rfl rfl)
      rw [byte_int] at q4
      exact q4.2
theorem open_run {v : Value} {d : DataW H} {p : List MemPlace} (hv : ∃ cs, v = .agg cs ∧ cs.size = Tryz.prog.cellsOf 30) (h : DataW.Trod enc Tryz.prog W 0 (fun _ => true) true 30 v d p) : ∃ g caps fed, HasRun W v g caps fed ∧ (Light Tryz.prog 30 d → RunOk g caps fed) := by
  obtain ⟨g, caps, fed, h1, h2, _⟩ := open_run_by hv h
  exact ⟨g, caps, fed, h1, fun h => (h2 h).1⟩
theorem run_light {d : DataW H} (hb : Rows.uptoBulk d ≤ 1048576) : Light Tryz.prog 30 d :=
  light_of_bulk (S := [30, 26, 9, 22, 23, 24, 96, 107, 118, 94, 3, 27, 28]) (by kernel_rfl) (by simp) hb
end
end Go.Proofs.YtaholpfikcdhbaaGreat

namespace Go.Proofs.YtaholpfikcdhbaaGreat.dynStays
open Go.ChangeShapes Go.WideShapes Go.ChangeAt Go.RowKit
open Go.ChangeMaps (open_string shut_string)

theorem own : ownKnob Tryz.prog.godebug = none := by kernel_rfl
theorem laidOut : laidOutB Tryz.prog = true := by kernel_rfl

set_option maxRecDepth 100000 in
theorem contract (H : Type) (enc : TypeId × Value → H) (W : World) (base : Nat) (args : Array Value) (ds gs : List (DataW H)) (before : List MemPlace)
    (hval : ∀ (j : Nat) t v, Tryz.f3.params[j]? = some t → args[j]? = some v → Value.okWide Tryz.prog W .any base t v)
    (hW : DataW.Whole enc Tryz.prog Tryz.f3.params.toList Rows.dynStaysSpec.vars false W args.toList ds gs before) (hk : Rows.uptoSmall H (ds ++ gs) = true) :
    Calls Tryz.prog 3 args W fun e W' => ∃ v, e = .returned v ∧ Rows.dynStaysSpec.post enc Tryz.prog Tryz.f3 false true false false W args v W' := by
  have hW' := hW
  obtain ⟨p, q, hA0, hV, rfl, hfz, hnd⟩ := hW
  have hA : DataW.TrodAll enc Tryz.prog W 0 (fun _ => true) true Tryz.f3.params.toList args.toList ds p := hA0
  rw [Tryz.params3] at hA hval
  obtain ⟨v0, vs0, d0, ds0, p0, q0, hargs, rfl, rfl, h0, r0⟩ := trodAll_cons hA
  obtain ⟨v1, vs1, d1, ds1, p1, q1, rfl, rfl, rfl, h1, r1⟩ := trodAll_cons r0
  obtain ⟨v2, vs2, d2, ds2, p2, q2, rfl, rfl, rfl, h2, r2⟩ := trodAll_cons r1
  obtain ⟨rfl, rfl, rfl⟩ := trodAll_nil r2
  obtain rfl : args = #[v0, v1, v2] := by cases args; simp_all
  obtain ⟨rfl, rfl⟩ := trodVars_none hV
  have hB : Rows.uptoBulkAll [d0, d1, d2] ≤ 1048576 := of_decide_eq_true (by simpa [Rows.uptoSmall] using hk)
  simp only [Rows.uptoBulkAll] at hB
  have k0 := h0
  have lt0 : ∀ x ∈ p0, x.block < W.heap.size := by obtain ⟨m, hm⟩ := k0; exact DataW.trod_lt m _ _ _ hm
  have k1 := h1
  have lt1 : ∀ x ∈ p1, x.block < W.heap.size := by obtain ⟨m, hm⟩ := k1; exact DataW.trod_lt m _ _ _ hm
  have k2 := h2
  have lt2 : ∀ x ∈ p2, x.block < W.heap.size := by obtain ⟨m, hm⟩ := k2; exact DataW.trod_lt m _ _ _ hm
  have L0 : Light Tryz.prog 30 d0 := run_light (by omega)
  obtain ⟨g0, cp0, fd0, i0, z0⟩ := open_run (okWide_struct Tryz.underlying30 (hval 0 30 v0 rfl rfl)) h0
  have z0 := z0 L0
  obtain ⟨zs1, i1, l1⟩ := open_in_ints Tryz.underlying27 Tryz.underlying3 (by kernel_rfl) (okWide_slice Tryz.underlying27 (hval 1 27 v1 rfl rfl)) h1
  obtain ⟨zs2, i2, l2⟩ := open_in_ints Tryz.underlying27 Tryz.underlying3 (by kernel_rfl) (okWide_slice Tryz.underlying27 (hval 2 27 v2 rfl rfl)) h2
  clear hA0
  refine (dynstays_all W v0 v1 v2 g0 cp0 fd0 zs1 zs2 i0 z0 i1.has i1.fits i2.has (by have := dlen_bulk l1; have := dlen_bulk l2; omega)).mono fun e W' ⟨he, bel⟩ => ?_
  subst he
  exact ⟨_, rfl, _, _, _, [], _, [], hW', trodAll_mk1 (shut_bool Tryz.underlying4 _), (trodAll_cons_mk (Below.trod laidOut (by kernel_rfl) (of_decide_eq_true (by kernel_rfl)) k0 bel lt0) (trodAll_cons_mk (Below.trod laidOut (by kernel_rfl) (of_decide_eq_true (by kernel_rfl)) k1 bel lt1) (trodAll_cons_mk (Below.trod laidOut (by kernel_rfl) (of_decide_eq_true (by kernel_rfl)) k2 bel lt2) trodAll_mk0))), rfl, bel.frame _, fun h => by cases h⟩

set_option maxRecDepth 100000 in
theorem lifted (os : Os) (started : os.Started) (H : Type) (enc : TypeId × Value → H) (F : Stop.Interp) :
    ReturnsInHanded {} Tryz.checked os 3 .any ((Rows.OpenSpec.upto Rows.dynStaysSpec).pre6 enc Tryz.prog Tryz.f3 Rows.dynStaysUptoRow.domain false) (((Rows.OpenSpec.upto Rows.dynStaysSpec).at F).post enc Tryz.prog Tryz.f3 false true false false) := by
  refine returnsInHanded_of_cond (C := Tryz.checked) (s := Rows.OpenSpec.upto Rows.dynStaysSpec) (k := Rows.uptoSmall) rfl own started (by kernel_rfl) Tryz.func3
    (OpenSpec.witness (enc := enc) (C := Tryz.checked) (s := Rows.OpenSpec.upto Rows.dynStaysSpec) (k := Rows.uptoSmall) rfl false ⟨#[], #[.agg #[.string ByteArray.empty, .slice none 0 0, .slice none 0 0, .slice none 0 0, .slice none 0 0, .slice none 0 0, .slice none 0 0], .slice none 0 0, .slice none 0 0], []⟩ 8 (by kernel_rfl) (by kernel_rfl) (by kernel_rfl)
      (x := ([.agg [.agg [.lit (.string []), .nil, .nil, .nil, .nil], .nil, .nil], .nil, .nil], [], [])) (by kernel_rfl) rfl (by kernel_rfl)) ?_
  intro W base args ds gs before hval hW _ hk _
  exact contract H enc W base args ds gs before hval hW hk

theorem proved : Rows.DynStaysUptoSaid :=
  OpenClaim.holds_of_cond 3 Tryz.f3 rfl rfl rfl rfl rfl rfl rfl ⟨rfl, rfl, rfl, rfl, rfl⟩ rfl rfl rfl rfl rfl (by kernel_rfl) Tryz.func3 (by kernel_rfl)
    (of_decide_eq_true (by kernel_rfl)) (by unfold Func.isWrapper; first | (rw [if_pos (by decide +kernel)]; kernel_rfl) | (rw [if_neg (by decide +kernel)]; exact ⟨rfl, rfl⟩))
    (fun os started H enc _ F => lifted os started H enc F)
end Go.Proofs.YtaholpfikcdhbaaGreat.dynStays
