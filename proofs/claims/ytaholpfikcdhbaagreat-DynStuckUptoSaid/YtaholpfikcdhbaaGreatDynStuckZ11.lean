/- A rig that is not there. -/
import Derived.Test.YtaholpfikcdhbaaGreatDynRoomZ5
import Derived.Test.YtaholpfikcdhbaaGreatDynRoomZ8
import Derived.Test.YtaholpfikcdhbaaGreatDynRoomZ9
import Derived.Test.YtaholpfikcdhbaaGreatDynRoomZ3
import Derived.Test.YtaholpfikcdhbaaGreatDynRoomZ4
import Derived.Test.YtaholpfikcdhbaaGreatDynRoomZ7
import Derived.Test.YtaholpfikcdhbaaGreatDynRoomZ10
import Derived.Test.YtaholpfikcdhbaaGreatDynRoomZ2
import Derived.Test.YtaholpfikcdhbaaGreatDynRoomZ6
import Derived.Test.YtaholpfikcdhbaaGreatDynRoomZ1
import Derived.Deep.Slices
import Derived.SizedLaws
import Derived.WalkKit
import Derived.ProofKit
import Derived.OpenShut
import Derived.ChangeOld
import Derived.Below
import Derived.Test.YtaholpfikcdhbaaGreatRows
namespace Go.Proofs.YtaholpfikcdhbaaGreat
open Go.RowKit
end Go.Proofs.YtaholpfikcdhbaaGreat

/- The chapter's small graph is run: awake answers true. -/
namespace Go.Proofs.YtaholpfikcdhbaaGreat
open Go.RowKit
def LineRet (w : World) (e : Ending) (w' : World) : Prop := ∃ v, e = .returned v ∧ HasGraph w' v lineG ∧ Below w.heap.size w w'
def lineO (w : World) : List Obj :=
 [.cells #[.string { data := #[103] }, .slice (some ⟨w.heap.size + 3, 0, none⟩) 3 3, .slice (some ⟨w.heap.size + 4, 0, none⟩) 2 2, .slice none 0 0, .slice (some ⟨w.heap.size + 5, 0, none⟩) 1 1] 26, .cells #[.int .i64 1, .int .i64 1] 3, .cells #[.int .i64 1] 3, .cells #[.string { data := #[97] }, .int .u8 10, .slice (some ⟨w.heap.size + 1, 0, none⟩) 2 2, .string { data := #[98] }, .int .u8 6, .slice (some ⟨w.heap.size + 2, 0, none⟩) 1 1, .string { data := #[99] }, .int .u8 8, .slice none 0 0] 96, .cells #[.int .i64 0, .int .i64 0, .int .i64 1, .int .i64 0, .slice none 0 0, .int .i64 1, .int .i64 0, .int .i64 2, .int .i64 0, .slice none 0 0] 107, .cells #[.string { data := #[121] }, .int .i64 2, .int .i64 0] 118]
set_option maxRecDepth 100000 in
theorem line_has (w : World) : HasGraph (allocs w (lineO w)) (.agg #[.string { data := #[103] }, .slice (some ⟨w.heap.size + 3, 0, none⟩) 3 3, .slice (some ⟨w.heap.size + 4, 0, none⟩) 2 2, .slice none 0 0, .slice (some ⟨w.heap.size + 5, 0, none⟩) 1 1]) lineG := by
 refine ⟨_, _, _, _, rfl, ?_, ?_, .inl ⟨rfl, _, _, rfl⟩, ?_⟩
 ·
  refine .inr ⟨by decide, w.heap.size + 3, 0, 3, rfl, Nat.le_refl _, block_lt (allocs_get (lineO w) w 3 _ rfl), fun k hk => ?_⟩
  match k, (show k < 3 from hk) with
  | 0, _ => exact ⟨[.string { data := #[97] }, .int .u8 10, .slice (some ⟨w.heap.size + 1, 0, none⟩) 2 2], rfl, ⟨_, rfl, .inr ⟨Nat.succ_pos 1, _, 0, 2, rfl, Nat.le_refl _, block_lt (allocs_get (lineO w) w 1 _ rfl), rfl, fun j hj => by
    match j, hj with
    | 0, _ => exact allocs_cell w (lineO w) 1 0 rfl rfl
    | 1, _ => exact allocs_cell w (lineO w) 1 1 rfl rfl⟩⟩, fun i hi => by
   match i, hi with
   | 0, _ => exact allocs_cell w (lineO w) 3 0 rfl rfl
   | 1, _ => exact allocs_cell w (lineO w) 3 1 rfl rfl
   | 2, _ => exact allocs_cell w (lineO w) 3 2 rfl rfl⟩
  | 1, _ => exact ⟨[.string { data := #[98] }, .int .u8 6, .slice (some ⟨w.heap.size + 2, 0, none⟩) 1 1], rfl, ⟨_, rfl, allocs_one w (lineO w) 2 rfl⟩, fun i hi => by
   match i, hi with
   | 0, _ => exact allocs_cell w (lineO w) 3 3 rfl rfl
   | 1, _ => exact allocs_cell w (lineO w) 3 4 rfl rfl
   | 2, _ => exact allocs_cell w (lineO w) 3 5 rfl rfl⟩
  | 2, _ => exact ⟨[.string { data := #[99] }, .int .u8 8, .slice none 0 0], rfl, ⟨_, rfl, .inl ⟨rfl, _, _, rfl⟩⟩, fun i hi => by
   match i, hi with
   | 0, _ => exact allocs_cell w (lineO w) 3 6 rfl rfl
   | 1, _ => exact allocs_cell w (lineO w) 3 7 rfl rfl
   | 2, _ => exact allocs_cell w (lineO w) 3 8 rfl rfl⟩
 ·
  refine .inr ⟨by decide, w.heap.size + 4, 0, 2, rfl, Nat.le_refl _, block_lt (allocs_get (lineO w) w 4 _ rfl), fun k hk => ?_⟩
  match k, (show k < 2 from hk) with
  | 0, _ => exact ⟨[.int .i64 0, .int .i64 0, .int .i64 1, .int .i64 0, .slice none 0 0], rfl, ⟨_, rfl, .inl ⟨rfl, _, _, rfl⟩⟩, fun i hi => by
   match i, hi with
   | 0, _ => exact allocs_cell w (lineO w) 4 0 rfl rfl
   | 1, _ => exact allocs_cell w (lineO w) 4 1 rfl rfl
   | 2, _ => exact allocs_cell w (lineO w) 4 2 rfl rfl
   | 3, _ => exact allocs_cell w (lineO w) 4 3 rfl rfl
   | 4, _ => exact allocs_cell w (lineO w) 4 4 rfl rfl⟩
  | 1, _ => exact ⟨[.int .i64 1, .int .i64 0, .int .i64 2, .int .i64 0, .slice none 0 0], rfl, ⟨_, rfl, .inl ⟨rfl, _, _, rfl⟩⟩, fun i hi => by
   match i, hi with
   | 0, _ => exact allocs_cell w (lineO w) 4 5 rfl rfl
   | 1, _ => exact allocs_cell w (lineO w) 4 6 rfl rfl
   | 2, _ => exact allocs_cell w (lineO w) 4 7 rfl rfl
   | 3, _ => exact allocs_cell w (lineO w) 4 8 rfl rfl
   | 4, _ => exact allocs_cell w (lineO w) 4 9 rfl rfl⟩
 ·
  refine .inr ⟨by decide, w.heap.size + 5, 0, 1, rfl, Nat.le_refl _, block_lt (allocs_get (lineO w) w 5 _ rfl), fun k hk => ?_⟩
  match k, (show k < 1 from hk) with
  | 0, _ => exact ⟨_, rfl, rfl, fun i hi => by
   match i, hi with
   | 0, _ => exact allocs_cell w (lineO w) 5 0 rfl rfl
   | 1, _ => exact allocs_cell w (lineO w) 5 1 rfl rfl
   | 2, _ => exact allocs_cell w (lineO w) 5 2 rfl rfl⟩
set_option maxRecDepth 100000 in
theorem line_ret (w : World) : Calls Tryz.prog 36 #[] w (LineRet w) := by
 go_enter Tryz.func36, Tryz.ntmps36
 go_wp2
 refine bodyPost_ret_by (results_cell_row rfl _ _ _ _ _ _ _ rfl (allocs_get (lineO w) w 0 _ rfl) Tryz.underlying26 rfl (by kernel_rfl)) rfl ?_
 exact ⟨_, rfl, line_has w, (allocs_below (lineO w) w).1⟩
theorem line_sized : GSized lineG := ⟨by decide, by decide, by decide, by decide⟩
theorem line_fitp : ∀ a ∈ lineG.actors, ∀ x ∈ a.params, Fits x := by
 intro a ha x hx
 unfold lineG at ha
 simp only [List.mem_cons, List.not_mem_nil, or_false] at ha
 rcases ha with rfl | rfl | rfl <;> simp at hx <;> subst hx <;> unfold Fits <;> omega
theorem line_fits : ∀ e ∈ lineG.edges, ∀ x ∈ e.start, Fits x := by
 intro e he x hx
 unfold lineG at he
 simp only [List.mem_cons, List.not_mem_nil, or_false] at he
 rcases he with rfl | rfl <;> simp at hx
def lineEnd : RunP × Nat := roundsP lineG [1, 1] 10 ⟨newRig lineG, none⟩
theorem line_halt : haltI lineG [1, 1] lineEnd.1 = 0 := by
 have h1 : lineEnd.1.failed = none := line_fail
 have h2 : (readyL lineG [1, 1] lineEnd.1).length = 2 := line_ready
 unfold haltI
 rw [if_neg (by rw [h1]; simp), if_neg (fun h => by rw [h] at h2; cases h2)]
theorem line_out : outI lineG lineEnd.1 0 = [1, 3] := by
 unfold outI
 rw [if_pos (by decide)]
 exact line_run.2
theorem ints_two {w : World} (a b : Int) : Has (w.alloc (.cells #[.int .i64 a, .int .i64 b] 3)) (.slice (some ⟨w.heap.size, 0, none⟩) 2 2) (ivs [a, b]) := by
 have h := heap_alloc_new w (.cells #[.int .i64 a, .int .i64 b] 3)
 exact .inr ⟨by simp, _, 0, 2, rfl, Nat.le_refl _, block_lt h, rfl, fun k hk => by
  match k, hk with
  | 0, _ => exact cells_row _ _ h 0 _ rfl
  | 1, _ => exact cells_row _ _ h 1 _ rfl⟩
set_option maxRecDepth 100000 in
set_option maxHeartbeats 2000000 in
theorem dawake_yes (w : World) : Calls Tryz.prog 14 #[] w (Tells (.bool true) w) := by
 go_enter Tryz.func14, Tryz.ntmps14
 go_wp2_with fail
 refine (line_ret w).mono ?_
 rintro e w1 ⟨v, rfl, hG, hb1⟩
 have hb2 := below_alloc w1 (.cells #[.int .i64 1, .int .i64 1] 3)
 have HC := Lib.hid (ints_two (w := w1) 1 1)
 have HG := Lib.hid (hG.below hb2)
 have HB := Lib.hid (hb1.trans (hb2.mono hb1.size))
 clear hG hb1 hb2
 go_wp2_with fail
 obtain ⟨w2, hw2⟩ : ∃ x, w1.alloc (.cells #[.int .i64 1, .int .i64 1] 3) = x := ⟨_, rfl⟩
 rw [hw2] at HC HG HB ⊢
 clear hw2
 refine (dnew_any w2 (fun _ => 0) 1 (Nat.le_refl _) v lineG [1, 1] HG.out line_sized HC.out (by decide) line_fitp line_fits (by intro c hc; simp at hc; subst hc; unfold Fits; omega)).mono ?_
 rintro e w3 hret
 obtain ⟨b, q, qs, rv, rfl, T, hR, hGO, -⟩ := hret.2 line_check
 have K3 := (Kept.start w2).turn T (fun h => h)
 have HR := Lib.hid hR
 have HGO := Lib.hid hGO
 clear hret T hR hGO HC HG
 go_wp2_with fail
 refine (dRounds_ok 10 HR.out HGO.out (by decide)).mono ?_
 rintro e w4 ⟨q4, v4, rfl, T4, hR4⟩
 have e10 : (min (10 : Int) 4096).toNat = 10 := by decide
 rw [e10] at hR4 ⊢
 have K4 := K3.turn T4 (by unfold MineR; omega)
 have hR5 : RigOk w4 q4 1 b lineG [1, 1] (256 + 4096 * 32) (fun _ => 256) qs rv.tb lineEnd.1 v4 := hR4
 have h10 : 10 < lineEnd.2 := of_decide_eq_true line_run.1
 change _ at hR4
 obtain ⟨n, hn⟩ : ∃ n, (roundsP lineG [1, 1] 10 ⟨newRig lineG, none⟩).2 = n := ⟨_, rfl⟩
 have hn2 : lineEnd.2 = n := hn
 rw [hn]
 rw [hn2] at h10
 have h10i : (10 : Int) < n := by omega
 have HR5 := Lib.hid hR5
 have HB4 := Lib.hid (HB.out.trans (K4.below.mono HB.out.size))
 clear hR4 hR5 hn hn2 h10 T4 K3 K4 HR HB
 go_wp2_with fail
 refine (dHalt_any HR5.out.mem HGO.out.linked rfl HR5.out.ok (fun d => Nat.le_of_lt (HR5.out.lt (by decide) d))).mono ?_
 rintro e w5 ⟨rfl, hb5⟩
 rw [line_halt]
 have HR6 := Lib.hid (HR5.out.turn (Turn.of_below q4 0 hb5) (fun _ h => h.elim))
 have HB5 := Lib.hid (HB4.out.trans (hb5.mono HB4.out.size))
 generalize ext q4 w4.heap.size 0 = q5 at *
 clear hb5 HB4 HR5
 go_wp2_with fail
 refine (dFailed_any HR6.out.mem).mono ?_
 rintro e w6 ⟨rfl, rfl⟩
 have hfl : failI lineEnd.1 = -1 := by
  unfold failI
  rw [show lineEnd.1.failed = none from line_fail]
 rw [hfl]
 clear hfl
 go_wp2_with fail
 refine (dOut_any 0 HR6.out.mem (fun d hd => Nat.le_of_lt (HR6.out.tape (by decide) d hd))).mono ?_
 rw [line_out]
 rintro e w7 ⟨ov, rfl, ho, hb7⟩
 obtain ⟨oa, oc, rfl⟩ := owns_slice ho
 have hO := (Own.made q5 7 ho).vals
 have hb8 := below_alloc w7 (.cells #[.int .i64 1, .int .i64 3] 3)
 have HO := Lib.hid (hO.turn (Turn.of_below _ 0 hb8) (fun h => h))
 have HI := Lib.hid (ints_two (w := w7) 1 3)
 have HB7 := Lib.hid (HB5.out.trans ((hb7.trans (hb8.mono hb7.size)).mono HB5.out.size))
 clear ho hO hb7 hb8 HB5
 go_wp2_with fail
 refine (sameints_yes HO.out HI.out (by decide)).mono ?_
 rintro e w8 ⟨rfl, m, rfl⟩
 go_wp2
 go_ret
 exact ⟨rfl, below_dr HB7.out⟩
end Go.Proofs.YtaholpfikcdhbaaGreat

/- Blocks that nobody passes, plainly. No function in sight. -/
namespace Go.Proofs.YtaholpfikcdhbaaGreat
def begunN (x : TaskP) : Int := x.whole + if x.gives then 1 else 0
structure BlocksP (g : GGraph) (l : List (Nat × Nat × Int)) : Prop where
 nn : ∀ b ∈ l, 0 ≤ b.2.2
 holds : ∀ b ∈ l, b.2.1 < g.edges.length ∧ (edgeAt g b.2.1).dst = (b.1 : Int) ∧ ∃ c ∈ l, (edgeAt g b.2.1).src = (c.1 : Int) ∧ ((edgeAt g b.2.1).start.length : Int) + rO g c.1 (edgeAt g b.2.1).sport.toNat * c.2.2 < rI g b.1 (edgeAt g b.2.1).dport.toNat * (b.2.2 + 1)
def Below' (l : List (Nat × Nat × Int)) (r : RigP) : Prop := ∀ b ∈ l, begunN (r.tasks b.1) ≤ b.2.2
theorem begun_finish {k o : Nat} {x : TaskP} (h : x.gives = true) : begunN (finishP k o x) = begunN x := by
 unfold finishP
 split
 ·
  show (((x.whole + 1 : Nat) : Int) + if false = true then 1 else 0) = (x.whole : Int) + if x.gives then 1 else 0
  rw [h]
  simp
 ·
  rfl
theorem given_le {g : GGraph} {t s : Nat} {x : TaskP} (hg : ActsOk g) (_h : TOk g t s x) {p : Nat} (hp : p < (ratesO g t).length) : givenN g t x p ≤ rO g t p * begunN x := by
 have hr := rO_pos hg hp
 unfold givenN begunN
 cases hgv : x.gives with
 | false => simp
 | true =>
  have h0 : 0 ≤ lenAt x.gift p := by unfold lenAt; omega
  simp only [if_true]
  rw [Int.mul_add]
  omega
theorem step_blocks {g : GGraph} {caps : List Int} {l : List (Nat × Nat × Int)} {s t : Nat} {r r1 : RigP} (hg : ActsOk g) (hw : Wired g) (hR : ROk g s r) (hC : Cnt g caps r) (hb : BlocksP g l) (h : Below' l r) (hs : stepP g caps r t = .goes r1) : Below' l r1 := by
 obtain ⟨ht, kd⟩ := step_kind.1 hs
 have hT := hR.task t ht
 intro b hbm
 by_cases hbt : b.1 = t
 ·
  cases kd with
  | give x hgv hf hx =>
   subst hx
   show begunN (upd r.tasks t _ b.1) ≤ _
   rw [hbt, upd_same]
   unfold gaveP
   rw [begun_finish (by exact hgv)]
   have := h b hbm
   rw [hbt] at this
   exact this
  | take x v' l' hgv hpo hvv hx =>
   subst hx
   show begunN (upd r.tasks t _ b.1) ≤ _
   rw [hbt, upd_same]
   have := h b hbm
   rw [hbt] at this
   exact this
  | fire x hgv hpo he hx =>
   subst hx
   show begunN (upd r.tasks t _ b.1) ≤ _
   rw [hbt, upd_same]
   unfold firedP
   rw [begun_finish rfl]
   show (((r.tasks t).whole : Int) + if true = true then 1 else 0) ≤ b.2.2
   rw [if_pos rfl]
   obtain ⟨hk, hd, c, hc, hsrc, hlt⟩ := hb.holds b hbm
   obtain ⟨u, p, v, q, e1, e2, e3, e4, hu, hv, hp, hq, w1, w2⟩ := hw.ends _ hk
   have hE : edgeAt g b.2.1 = g.edges[b.2.1] := by unfold edgeAt; rw [List.getElem?_eq_getElem hk]; rfl
   obtain ⟨h1, _⟩ := hC _ hk
   rw [hE] at h1 hd hsrc hlt
   rw [e1, e2, e3, e4] at h1
   rw [e3] at hd
   rw [e1] at hsrc
   rw [e2, e4] at hlt
   simp only [Int.toNat_natCast] at h1 hlt
   obtain rfl : v = t := by omega
   obtain rfl : u = c.1 := by omega
   rw [hbt] at hlt
   obtain ⟨t1, t2, t3, t4, t5⟩ := hT.take hgv
   have hhand : lenAt (r.tasks v).hand q = rI g v q := t3 q (by omega)
   have hgl := given_le hg (hR.task c.1 hu) hp
   have hcf := h c hc
   have hro := rO_pos hg hp
   have hri := rI_pos hg hq
   have h5 : rO g c.1 p * begunN (r.tasks c.1) ≤ rO g c.1 p * c.2.2 := Int.mul_le_mul_of_nonneg_left hcf (by omega)
   have h6 : takenN g v (r.tasks v) q = rI g v q * ((r.tasks v).whole + 1) := by
    unfold takenN
    rw [hhand, Int.mul_add]
    omega
   have h7 : rI g v q * (((r.tasks v).whole : Int) + 1) < rI g v q * (b.2.2 + 1) := by
    have h8 : (0 : Int) ≤ ((r.strs b.2.1).length : Int) := by omega
    omega
   have h9 := Int.lt_of_mul_lt_mul_left h7 (by omega)
   omega
 ·
  have e : r1.tasks b.1 = r.tasks b.1 := by
   cases kd <;> exact upd_other hbt
  rw [e]
  exact h b hbm
theorem run_keeps {g : GGraph} {caps : List Int} {l : List (Nat × Nat × Int)} (hg : ActsOk g) (hw : Wired g) (hcl : caps.length = g.edges.length) (hb : BlocksP g l) {r r1 : RigP} {m : List Nat} (h : KRuns (rigK g caps) r m r1) : ∀ {s : Nat}, ROk g s r → Cnt g caps r → Below' l r → ROk g (s + m.length) r1 ∧ Cnt g caps r1 ∧ Below' l r1 := by
 induction h with
 | nil => exact fun h1 h2 h3 => ⟨h1, h2, h3⟩
 | @cons s0 s1 s2 a l' h _ ih =>
  intro s h1 h2 h3
  have := ih (h1.step hg h) (h2.step hg hw hcl h1 h) (step_blocks hg hw h1 h2 hb h3 h)
  rw [show s + (a :: l').length = s + 1 + l'.length by simp; omega]
  exact this
theorem whole_begun (x : TaskP) : (x.whole : Int) ≤ begunN x := by
 unfold begunN
 split <;> omega
end Go.Proofs.YtaholpfikcdhbaaGreat

/- A run with more, plainly. No function in sight. -/
namespace Go.Proofs.YtaholpfikcdhbaaGreat
open Go.RowKit
def HasMore (w : World) (v : Value) (mc : List Int) (mf : List (List Int)) : Prop := ∃ vc vf, v = .agg #[vc, vf] ∧ Has w vc (ivs mc) ∧ LL w vf mf
theorem HasMore.below {w w' : World} {v : Value} {mc : List Int} {mf : List (List Int)} (h : HasMore w v mc mf) (hb : Below w.heap.size w w') : HasMore w' v mc mf := by
 obtain ⟨vc, vf, rfl, h1, h2⟩ := h
 exact ⟨vc, vf, rfl, h1.below hb, h2.below hb⟩
theorem newE_lens {g : GGraph} {caps : List Int} (h : newE g caps = 0) : checkE g = 0 ∧ caps.length = g.edges.length ∧ ∀ c ∈ caps, 0 ≤ c := by
 unfold newE at h
 split at h
 ·
  rename_i h1; exact absurd h h1
 ·
  rename_i h1
  split at h
  ·
   cases h
  ·
   rename_i h2
   split at h
   ·
    cases h
   ·
    rename_i h3
    refine ⟨Decidable.not_not.1 h1, Decidable.not_not.1 h2, fun c hc => ?_⟩
    have := fun hh => h3 (List.any_eq_true.2 ⟨c, hc, hh⟩)
    simp at this
    omega
end Go.Proofs.YtaholpfikcdhbaaGreat

/- How many tokens an edge has, and how often its ends fired, plainly. No function in sight. -/
namespace Go.Proofs.YtaholpfikcdhbaaGreat
open Go.RowKit
theorem start_cnt {g : GGraph} {caps : List Int} {fed : List (List Int)} : Cnt g caps (feedS g fed (newRig g)) := by
 intro k hk
 have e : (feedS g fed (newRig g)).strs k = (edgeAt g k).start := by
  rw [feed_str_out (by omega)]
  unfold newRig
  simp only [if_pos hk]
 have h0 : ∀ t q, lenAt (newTask g t).hand q = 0 := by
  intro t q
  unfold newTask lenAt
  simp only [List.getElem?_replicate]
  split <;> rfl
 rw [e]
 refine ⟨?_, .inr (Int.le_refl _)⟩
 unfold givenN takenN feedS newRig
 simp only [h0]
 unfold newTask
 simp
structure RoomAt (g : GGraph) (caps : List Int) (r : RunP) (k u v : Nat) (G K A B : Int) : Prop where
 src : (edgeAt g k).src = u
 dst : (edgeAt g k).dst = v
 hu : u < g.actors.length
 hv : v < g.actors.length
 give : rO g u (edgeAt g k).sport.toNat = G
 take : rI g v (edgeAt g k).dport.toNat = K
 gb : 1 ≤ G ∧ G ≤ 64
 kb : 1 ≤ K ∧ K ≤ 64
 ga : G * ((r.rig.tasks u).whole : Int) = A
 kb2 : K * ((r.rig.tasks v).whole : Int) = B
 ab : 0 ≤ A ∧ A ≤ 1728000000000000
 bb : 0 ≤ B ∧ B ≤ 1728000000000000
 room : ((r.rig.strs k).length : Int) ≤ caps[k]?.getD 0 ∨ ((r.rig.strs k).length : Int) ≤ (edgeAt g k).start.length
 low : ((edgeAt g k).start.length : Int) + A - B - K ≤ (r.rig.strs k).length
 high : ((r.rig.strs k).length : Int) ≤ (edgeAt g k).start.length + A - B + G
theorem mul_few {G : Int} {n : Nat} (h1 : 1 ≤ G) (h2 : G ≤ 64) (hn : n ≤ 27000000000000) : 0 ≤ G * (n : Int) ∧ G * (n : Int) ≤ 1728000000000000 := by
 obtain ⟨x, rfl⟩ := Int.eq_ofNat_of_zero_le (show 0 ≤ G by omega)
 have h : x * n ≤ 64 * 27000000000000 := Nat.mul_le_mul (by omega) hn
 have e : (x : Int) * (n : Int) = ((x * n : Nat) : Int) := by simp
 rw [e]
 omega
end Go.Proofs.YtaholpfikcdhbaaGreat

/- net.Of of a graph that is in order. -/
namespace Go.Proofs.YtaholpfikcdhbaaGreat
open Go.RowKit
def arcV (g : GGraph) (k : Nat) : List Value := [.int .i64 (edgeAt g k).src, .int .i64 (edgeAt g k).dst, .int .i64 (rO g (edgeAt g k).src.toNat (edgeAt g k).sport.toNat), .int .i64 (rI g (edgeAt g k).dst.toNat (edgeAt g k).dport.toNat), .int .i64 ((edgeAt g k).start.length : Nat)]
theorem arcV_len (g : GGraph) (k : Nat) : (arcV g k).length = 5 := rfl
def arcsV (g : GGraph) (k : Nat) : List Value := (List.range k).flatMap (arcV g)
theorem arcsV_get (g : GGraph) {n k i : Nat} (hk : k < n) (hi : i < 5) : (arcsV g n)[k * 5 + i]? = (arcV g k)[i]? := xflat_get (arcV_len g) hi hk
theorem arcsV_snoc (g : GGraph) (k : Nat) : arcsV g (k + 1) = arcsV g k ++ arcV g k := xflat_snoc _ _
def OfRet (w : World) (g : GGraph) (e : Ending) (w' : World) : Prop := ∃ va, e = .returned (.tuple #[.agg #[.int .i64 (g.actors.length : Nat), va], .int .i64 0]) ∧ w'.ownsRow w.heap.size 78 5 va g.edges.length (arcsV g g.edges.length) ∧ Below w.heap.size w w'
structure OfAt (w0 wz : World) (q : Col) (b : Nat) (g : GGraph) (gv : List Value) (k : Nat) (va : Value) : Prop where
 kept : Kept w0.heap.size q w0 wz
 box : Blk wz q 31000 w0.heap.size 26 gv.toArray
 res : Blk wz q 31001 (w0.heap.size + 1) 74 #[.int .i64 0, .slice none 0 0]
 net : Blk wz q 31002 b 74 #[.int .i64 (g.actors.length : Nat), va]
 arcs : Own wz q 31003 78 5 va k (arcsV g k)
 base : w0.heap.size ≤ b
theorem OfAt.turn {w0 w w' : World} {q q' : Col} {C : Nat → Prop} {b : Nat} {g : GGraph} {gv : List Value} {k : Nat} {va : Value} (h : OfAt w0 w q b g gv k va) (T : Turn q q' C w w') (hC : ∀ c, C c → 31003 < c) : OfAt w0 w' q' b g gv k va :=
 ⟨h.kept.turn T (fun h => by have := hC _ h; omega), h.box.turn T (fun h => by have := hC _ h; omega), h.res.turn T (fun h => by have := hC _ h; omega), h.net.turn T (fun h => by have := hC _ h; omega), h.arcs.turn T (fun h => by have := hC _ h; omega), h.base⟩
theorem act3_set {w : World} {o : Col} {c Z : Nat} {a0 a1 a2 z0 z1 z2 : Value} (h : Blk w o c Z 96 #[z0, z1, z2]) : Blk (((w.setCell ⟨Z, 0, none⟩ a0).setCell ⟨Z, 1, none⟩ a1).setCell ⟨Z, 2, none⟩ a2) o c Z 96 #[a0, a1, a2] ∧ Turn o o (fun x => x = c) w (((w.setCell ⟨Z, 0, none⟩ a0).setCell ⟨Z, 1, none⟩ a1).setCell ⟨Z, 2, none⟩ a2) := by
 obtain ⟨h1, t1⟩ := h.set 0 a0
 obtain ⟨h2, t2⟩ := h1.set 1 a1
 obtain ⟨h3, t3⟩ := h2.set 2 a2
 exact ⟨h3, (t1.trans t2 (fun _ h => h)).trans t3 (fun _ h => h)⟩
def OfTwo (w0 : World) (b Y : Nat) (g : GGraph) (gv ev : List Value) (k : Nat) (va : Value) (n1 n2 : Value) (t1 t2 : Value) (p1 p2 : Value) (pp ee : Value) (wx : World) : Prop :=
 ∃ q X Z, pp = .pointer (some ⟨X, 0, none⟩) ∧ ee = .pointer (some ⟨Z, 0, none⟩) ∧ OfAt w0 wx q b g gv k va ∧ Blk wx q 31004 Y 107 ev.toArray ∧ Blk wx q 31005 X 96 #[n1, t1, p1] ∧ Blk wx q 31006 Z 96 #[n2, t2, p2]
theorem of_s {w wx : World} {q : Col} {b Y ba oa k i j : Nat} {g : GGraph} {n0 v1 v2 v3 v4 va e1 e3 e4 n1 n2 t1 t2 p1 p2 s d : Value} (h : OfAt w wx q b g [n0, v1, v2, v3, v4] k va) (hY : Blk wx q 31004 Y 107 #[s, e1, d, e3, e4]) (hc : w.cell? ⟨ba, oa + i * 3, none⟩ = some n1 ∧ w.cell? ⟨ba, oa + i * 3 + 1, none⟩ = some t1 ∧ w.cell? ⟨ba, oa + i * 3 + 2, none⟩ = some p1 ∧ w.cell? ⟨ba, oa + j * 3, none⟩ = some n2 ∧ w.cell? ⟨ba, oa + j * 3 + 1, none⟩ = some t2 ∧ w.cell? ⟨ba, oa + j * 3 + 2, none⟩ = some p2) :
  wx.cell? ⟨w.heap.size, 1, none⟩ = some v1 ∧ wx.cell? ⟨Y, 0, none⟩ = some s ∧ wx.cell? ⟨Y, 2, none⟩ = some d ∧ wx.cell? ⟨ba, oa + i * 3, none⟩ = some n1 ∧ wx.cell? ⟨ba, oa + i * 3 + 1, none⟩ = some t1 ∧ wx.cell? ⟨ba, oa + i * 3 + 2, none⟩ = some p1 ∧ wx.cell? ⟨ba, oa + j * 3, none⟩ = some n2 ∧ wx.cell? ⟨ba, oa + j * 3 + 1, none⟩ = some t2 ∧ wx.cell? ⟨ba, oa + j * 3 + 2, none⟩ = some p2 :=
 ⟨h.box.cell 1 _ rfl, hY.cell 0 _ rfl, hY.cell 2 _ rfl, cell_later h.kept.below hc.1, cell_later h.kept.below hc.2.1, cell_later h.kept.below hc.2.2.1, cell_later h.kept.below hc.2.2.2.1, cell_later h.kept.below hc.2.2.2.2.1, cell_later h.kept.below hc.2.2.2.2.2⟩
theorem own_base {B : Nat} {q : Col} {w0 w : World} {c : Nat} {e : TypeId} {size n : Nat} {v : Value} {xs : List Value} (hk : Kept B q w0 w) (h : Own w q c e size v n xs) (hc : c ≠ 0) : w.ownsRow B e size v n xs :=
 owns_base h.1 (fun b hb => Nat.le_of_not_lt fun hlt => hc ((h.2 b hb).symm.trans (hk.old b hlt)))
theorem net_set {w : World} {Z : Nat} {a0 a1 z0 z1 : Value} (h : w.heap[Z]? = some (.cells #[z0, z1] 74 (0, 0))) : ((w.setCell ⟨Z, 0, none⟩ a0).setCell ⟨Z, 1, none⟩ a1).heap[Z]? = some (.cells #[a0, a1] 74 (0, 0)) := by
 have h0 := block_setCell h 0 a0
 simp only [List.setIfInBounds_toArray, List.set_cons_zero] at h0
 have h1 := block_setCell h0 1 a1
 simp only [List.setIfInBounds_toArray, List.set_cons_zero, List.set_cons_succ] at h1
 exact h1
theorem info_arc : (Tryz.prog.info? 78).map (fun i => (i.zero, i.size, i.bytes)) = some (some (.agg #[.int .i64 0, .int .i64 0, .int .i64 0, .int .i64 0, .int .i64 0]), 5, 40) := by kernel_rfl
set_option maxRecDepth 100000 in
set_option maxHeartbeats 4000000 in
theorem netof_any (w : World) (v : Value) (g : GGraph) (hv : HasGraph w v g) (hz : GSized g) (hE : checkE g = 0) : Calls Tryz.prog 32 #[v] w (OfRet w g) := by
 have hS := sound_of hE
 have HF := Lib.hid (head_few hS.head)
 have HS := Lib.hid hS
 obtain ⟨_, _, _, _, e0, ra, re, ri, ro⟩ := hv.shape
 obtain ⟨aa, ac, rfl⟩ := ra.slice
 obtain ⟨ae, ec, rfl⟩ := re.slice
 obtain ⟨ai, ic, rfl⟩ := ri.slice
 obtain ⟨ao, oc, rfl⟩ := ro.slice
 obtain rfl := e0
 have HG := Lib.hid hv
 have HRA := Lib.hid ra
 have HRE := Lib.hid re
 have HZ := Lib.hid hz
 have HE := Lib.hid hE
 clear hv ra re ri ro hz hS hE
 have hb1 := below_alloc w (.cells #[.string g.name, .slice aa g.actors.length ac, .slice ae g.edges.length ec, .slice ai g.ins.length ic, .slice ao g.outs.length oc] 26)
 have T1 := Turn.of_below (fun _ => 0) 31000 hb1
 have hX := blk_new (w := w) (fun _ => 0) 31000 #[.string g.name, .slice aa g.actors.length ac, .slice ae g.edges.length ec, .slice ai g.ins.length ic, .slice ao g.outs.length oc] 26
 have hsz : (w.alloc (.cells #[.string g.name, .slice aa g.actors.length ac, .slice ae g.edges.length ec, .slice ai g.ins.length ic, .slice ao g.outs.length oc] 26)).heap.size = w.heap.size + 1 := by simp
 have hb2 := below_alloc (w.alloc (.cells #[.string g.name, .slice aa g.actors.length ac, .slice ae g.edges.length ec, .slice ai g.ins.length ic, .slice ao g.outs.length oc] 26)) (.cells #[.int .i64 0, .slice none 0 0] 74)
 have T2 := Turn.of_below (ext (fun _ => 0) w.heap.size 31000) 31001 hb2
 have hR := blk_new (w := w.alloc (.cells #[.string g.name, .slice aa g.actors.length ac, .slice ae g.edges.length ec, .slice ai g.ins.length ic, .slice ao g.outs.length oc] 26)) (ext (fun _ => 0) w.heap.size 31000) 31001 #[.int .i64 0, .slice none 0 0] 74
 have HK := Lib.hid (((Kept.start w).turn T1 (fun h => h)).turn T2 (fun h => h))
 have HX := Lib.hid (hX.turn T2 (fun h => h))
 rw [hsz] at hR HK HX
 have HR := Lib.hid hR
 generalize ext (ext (fun _ => 0) w.heap.size 31000) (w.heap.size + 1) 31001 = q1 at *
 obtain ⟨w1, hw1⟩ : ∃ x, (w.alloc (.cells #[.string g.name, .slice aa g.actors.length ac, .slice ae g.edges.length ec, .slice ai g.ins.length ic, .slice ao g.outs.length oc] 26)).alloc (.cells #[.int .i64 0, .slice none 0 0] 74) = x := ⟨_, rfl⟩
 rw [hw1] at HK HX HR
 clear hb1 T1 hX hsz hb2 T2 hR
 have x0 := HX.out.cell 0 _ rfl
 have x1 := HX.out.cell 1 _ rfl
 have x2 := HX.out.cell 2 _ rfl
 have x3 := HX.out.cell 3 _ rfl
 have x4 := HX.out.cell 4 _ rfl
 go_enter Tryz.func32, Tryz.ntmps32
 go_wp2_with fail
 clear hw1
 refine (gcheck_any _ _ g (HG.out.below HK.out.below) HZ.out).mono ?_
 rintro e w2 ⟨rfl, hb2⟩
 rw [HE.out]
 have T2 := Turn.of_below q1 31010 hb2
 replace HK := Lib.hid (HK.out.turn T2 (fun h => h))
 replace HX := Lib.hid (HX.out.turn T2 (fun h => h))
 replace HR := Lib.hid (HR.out.turn T2 (fun h => h))
 generalize ext q1 w1.heap.size 31010 = q2 at *
 clear hb2 T2 x0 x1 x2 x3 x4
 have x1 := HX.out.cell 1 (.slice aa g.actors.length ac) rfl
 have hb3 := below_alloc w2 (.cells #[.int .i64 (g.actors.length : Nat), .slice none 0 0] 74)
 have T3 := Turn.of_below q2 31002 hb3
 have hN := blk_new (w := w2) q2 31002 #[.int .i64 (g.actors.length : Nat), .slice none 0 0] 74
 have HA := Lib.hid (OfAt.mk (g := g) (k := 0) (HK.out.turn T3 (fun h => h)) (HX.out.turn T3 (fun h => h)) (HR.out.turn T3 (fun h => h)) hN (Own.nil _ _ _ _ _) HK.out.size)
 generalize ext q2 w2.heap.size 31002 = q3 at *
 clear hb3 T3 hN
 have x2 := HA.out.box.cell 2 (.slice ae g.edges.length ec) rfl
 go_wp2_with fail
 obtain ⟨w3, hw3⟩ : ∃ x, w2.alloc (.cells #[.int .i64 (g.actors.length : Nat), .slice none 0 0] 74) = x := ⟨_, rfl⟩
 obtain ⟨b, hbb⟩ : ∃ x, w2.heap.size = x := ⟨_, rfl⟩
 rw [hw3] at HA ⊢
 rw [hbb] at HA ⊢
 clear hw3 hbb HK HX HR x1 x2
 go_loopw [29] (fun i wz => ∃ (k : Nat) (q : Col) (va : Value), k ≤ g.edges.length ∧ i = .int .i64 k ∧ OfAt w wz q b g [.string g.name, .slice aa g.actors.length ac, .slice ae g.edges.length ec, .slice ai g.ins.length ic, .slice ao g.outs.length oc] k va) (fun i _ => g.edges.length - (intOf i).toNat)
 case atStart => exact ⟨0, _, _, Nat.zero_le _, rfl, HA.out⟩
 case round =>
  clear HA
  obtain ⟨k, q, va, hk, rfl, hA⟩ := hrel
  have HN := Lib.hid hA
  clear hA
  by_cases hlt : k < g.edges.length
  ·
   have hlti : (k : Int) < g.edges.length := by omega
   obtain ⟨b0, off, rfl, hcap, hb0, hrec⟩ := HRE.out.at (by omega)
   obtain ⟨cs, hcs, hPR, hcl⟩ := hrec k hlt
   obtain ⟨xs, rfl, hst⟩ := hPR
   have c0 := cell_later HN.out.kept.below (hcl 0 (by omega))
   have c1 := cell_later HN.out.kept.below (hcl 1 (by omega))
   have c2 := cell_later HN.out.kept.below (hcl 2 (by omega))
   have c3 := cell_later HN.out.kept.below (hcl 3 (by omega))
   have c4 := cell_later HN.out.kept.below (hcl 4 (by omega))
   simp at c0 c1 c2 c3 c4
   have hcapi : (g.edges.length : Int) ≤ ec := by omega
   obtain ⟨sa, sc, hxs⟩ := Ints.slice hst
   subst hxs
   obtain ⟨ed, hed⟩ : ∃ x, g.edges[k] = x := ⟨_, rfl⟩
   have HED := Lib.hid hed
   have hee : edgeAt g k = ed := by unfold edgeAt; rw [List.getElem?_eq_getElem hlt]; exact hed
   have HEE := Lib.hid hee
   rw [hed] at c0 c1 c2 c3 c4
   have hsnd := HS.out.edge k hlt
   rw [hed] at hsnd
   obtain ⟨⟨a1, a2⟩, ⟨a3, a4⟩, -, ⟨a5, a6⟩, ⟨a7, a8⟩, -, -⟩ := hsnd
   obtain ⟨i, hi⟩ := Int.eq_ofNat_of_zero_le a1
   obtain ⟨p, hp⟩ := Int.eq_ofNat_of_zero_le a3
   obtain ⟨j, hj⟩ := Int.eq_ofNat_of_zero_le a5
   obtain ⟨r, hr⟩ := Int.eq_ofNat_of_zero_le a7
   rw [hi] at c0 a2 a4
   rw [hp] at c1 a4
   rw [hj] at c2 a6 a8
   rw [hr] at c3 a8
   simp only [Int.toNat_natCast] at a4 a8 a2 a6 c0 c1 c2 c3
   have hi2 : i < g.actors.length := by omega
   have hj2 : j < g.actors.length := by omega
   have hi3 : (i : Int) < g.actors.length := a2
   have hj3 : (j : Int) < g.actors.length := a6
   have HP := Lib.hid a4
   have HR := Lib.hid a8
   have HI := Lib.hid hi
   have HJ := Lib.hid hj
   have HPP := Lib.hid hp
   have HRR := Lib.hid hr
   clear hrec hcl hcs hst hb0 hcap hed hee a1 a2 a3 a4 a5 a6 a7 a8 hi hj hp hr
   obtain ⟨ba, oa, rfl, hacap, -, harec⟩ := HRA.out.at (by omega)
   obtain ⟨cs1, -, hPR1, hcl1⟩ := harec i hi2
   obtain ⟨xs1, rfl, hst1⟩ := hPR1
   obtain ⟨cs2, -, hPR2, hcl2⟩ := harec j hj2
   obtain ⟨xs2, rfl, hst2⟩ := hPR2
   obtain ⟨pa1, pc1, hxs1⟩ := Ints.slice hst1
   subst hxs1
   obtain ⟨pa2, pc2, hxs2⟩ := Ints.slice hst2
   subst hxs2
   have hacapi : (g.actors.length : Int) ≤ ac := by omega
   obtain ⟨g1, hg1⟩ : ∃ x, g.actors[i] = x := ⟨_, rfl⟩
   obtain ⟨g2, hg2⟩ : ∃ x, g.actors[j] = x := ⟨_, rfl⟩
   have HG1 : Hid (g.actors[i]? = some g1) := Lib.hid (by rw [List.getElem?_eq_getElem hi2, hg1])
   have HG2 : Hid (g.actors[j]? = some g2) := Lib.hid (by rw [List.getElem?_eq_getElem hj2, hg2])
   have HO1 : Hid (goodP g1.tag g1.params) := Lib.hid (by rw [← hg1]; exact HS.out.good _ (List.getElem_mem hi2))
   have HO2 : Hid (goodP g2.tag g2.params) := Lib.hid (by rw [← hg2]; exact HS.out.good _ (List.getElem_mem hj2))
   have HL1 : Hid (g1.params.length ≤ 17600000000000) := Lib.hid (by rw [← hg1]; exact (HZ.out.2.1 _ (List.getElem_mem hi2)).2)
   have HL2 : Hid (g2.params.length ≤ 17600000000000) := Lib.hid (by rw [← hg2]; exact (HZ.out.2.1 _ (List.getElem_mem hj2)).2)
   rw [hg1] at hst1 hcl1
   rw [hg2] at hst2 hcl2
   have HC := Lib.hid (And.intro (hcl1 0 (by omega)) (And.intro (hcl1 1 (by omega)) (And.intro (hcl1 2 (by omega)) (And.intro (hcl2 0 (by omega)) (And.intro (hcl2 1 (by omega)) (hcl2 2 (by omega)))))))
   simp at HC
   have HT1 := Lib.hid hst1
   have HT2 := Lib.hid hst2
   clear hcl1 hcl2 harec hacap hg1 hg2 hst1 hst2
   have hby := below_alloc wr (.cells #[.int .i64 i, .int .i64 p, .int .i64 j, .int .i64 r, .slice sa ed.start.length sc] 107)
   have Ty := Turn.of_below q 31004 hby
   have hY := blk_new (w := wr) q 31004 #[.int .i64 i, .int .i64 p, .int .i64 j, .int .i64 r, .slice sa ed.start.length sc] 107
   have HY := Lib.hid hY
   replace HN := Lib.hid (HN.out.turn Ty (fun _ h => h.elim))
   generalize ext q wr.heap.size 31004 = qy at *
   clear Ty hY hby
   go_wp2_with fail
   obtain ⟨wy, hwy⟩ : ∃ x, wr.alloc (.cells #[.int .i64 i, .int .i64 p, .int .i64 j, .int .i64 r, .slice sa ed.start.length sc] 107) = x := ⟨_, rfl⟩
   obtain ⟨Y, hYe⟩ : ∃ x, wr.heap.size = x := ⟨_, rfl⟩
   rw [hwy] at HY HN ⊢
   rw [hYe] at HY ⊢
   clear hwy hYe c0 c1 c2 c3 c4
   obtain ⟨n1, hn1⟩ : ∃ x, g1.name = x := ⟨_, rfl⟩
   obtain ⟨n2, hn2⟩ : ∃ x, g2.name = x := ⟨_, rfl⟩
   rw [hn1, hn2] at HC
   clear hn1 hn2
   go_cut [8, 9] from 33 to 45 (fun pp ee wx => OfTwo w b Y g [.string g.name, .slice (some ⟨ba, oa, none⟩) g.actors.length ac, .slice (some ⟨b0, off, none⟩) g.edges.length ec, .slice ai g.ins.length ic, .slice ao g.outs.length oc] [.int .i64 i, .int .i64 p, .int .i64 j, .int .i64 r, .slice sa ed.start.length sc] k va (.string n1) (.string n2) (.int .u8 g1.tag) (.int .u8 g2.tag) (.slice pa1 g1.params.length pc1) (.slice pa2 g2.params.length pc2) pp ee wx)
   case first =>
     refine wp_region_drift (fun w' => (w').cell? ⟨w.heap.size, 1, none⟩ = some (.slice (some ⟨ba, oa, none⟩) g.actors.length ac) ∧ (w').cell? ⟨Y, 0, none⟩ = some (.int .i64 i) ∧ (w').cell? ⟨Y, 2, none⟩ = some (.int .i64 j) ∧ (w').cell? ⟨ba, oa + i * 3, none⟩ = some (.string n1) ∧ (w').cell? ⟨ba, oa + i * 3 + 1, none⟩ = some (.int .u8 g1.tag) ∧ (w').cell? ⟨ba, oa + i * 3 + 2, none⟩ = some (.slice pa1 g1.params.length pc1) ∧ (w').cell? ⟨ba, oa + j * 3, none⟩ = some (.string n2) ∧ (w').cell? ⟨ba, oa + j * 3 + 1, none⟩ = some (.int .u8 g2.tag) ∧ (w').cell? ⟨ba, oa + j * 3 + 2, none⟩ = some (.slice pa2 g2.params.length pc2)) [0, 1, 2, 3, 4, 5, 6, 7, 8, 9, 10, 11] [14] [0, 1, 2, 3, 4, 5, 6, 7, 8, 9, 10, 11] 4 (by kernel_rfl) (by kernel_rfl) rfl (of_s (wx := wy) HN.out HY.out HC.out) ?_
     intro Q' hQ' hQ2
     simp only [pickOps, List.flatMap_cons, List.flatMap_nil, List.drop_succ_cons, List.drop_zero, List.take_succ_cons, List.take_zero, List.cons_append, List.nil_append, List.append_nil]
     repeat (first
      | (refine wpReads_skip (by rfl) ?_; (try simp only [Act.put, List.setIfInBounds_toArray, List.set_cons_zero, List.set_cons_succ]))
      | (refine wpReads_cons ?_ (by rfl) (by rfl) ?_ ?_; rotate_left; (intro wz hz; (try dsimp only at hz); go_simp; try with_reducible rfl); (try simp only [Act.put, List.setIfInBounds_toArray, List.set_cons_zero, List.set_cons_succ]))
      | (refine wpReads_any ?_ (by rfl) ?_ ?_; rotate_left; (intro wz; go_simp; try with_reducible rfl); (try simp only [Act.put, List.setIfInBounds_toArray, List.set_cons_zero, List.set_cons_succ])))
     refine wpReads_nil ?_
     have T0 : Turn qy qy (fun _ => False) wy wy.drew := (Turn.refl qy _ wy).drew
     replace HN := Lib.hid (HN.out.turn T0 (fun _ h => h.elim))
     replace HY := Lib.hid (HY.out.turn T0 (fun h => h))
     obtain ⟨wd, hwd⟩ : ∃ x, wy.drew = x := ⟨_, rfl⟩
     rw [hwd] at HN HY ⊢
     clear T0 hwd
     refine wpAnyT_two (i := 12) (k := 13) (by kernel_rfl) ?_ ?_
     ·
      simp only [pickOps, List.flatMap_cons, List.flatMap_nil, List.drop_succ_cons, List.drop_zero, List.take_succ_cons, List.take_zero, List.append_nil]
      have hbN := below_alloc wd (.cells #[.string { data := #[] }, .int .u8 0, .slice none 0 0] 96)
      have TN := Turn.of_below qy 31005 hbN
      have HA := Lib.hid (blk_new (w := wd) qy 31005 #[.string { data := #[] }, .int .u8 0, .slice none 0 0] 96)
      replace HN := Lib.hid (HN.out.turn TN (fun _ h => h.elim))
      replace HY := Lib.hid (HY.out.turn TN (fun h => h))
      generalize ext qy wd.heap.size 31005 = q1s at *
      clear hbN TN
      go_wp2_with fail
      obtain ⟨w1s, hWN⟩ : ∃ x, wd.alloc (.cells #[.string { data := #[] }, .int .u8 0, .slice none 0 0] 96) = x := ⟨_, rfl⟩
      obtain ⟨XA, hfN⟩ : ∃ x, wd.heap.size = x := ⟨_, rfl⟩
      rw [hWN] at HN HY HA ⊢
      rw [hfN] at HA ⊢
      clear hWN hfN
      refine ⟨by intros; exact of_s HN.out HY.out HC.out, ?_⟩
      refine wpAnyT_one (i := 13) (by kernel_rfl) ?_
      simp only [pickOps, List.flatMap_cons, List.flatMap_nil, List.drop_succ_cons, List.drop_zero, List.take_succ_cons, List.take_zero, List.append_nil]
      have hbN := below_alloc w1s (.cells #[.string { data := #[] }, .int .u8 0, .slice none 0 0] 96)
      have TN := Turn.of_below q1s 31006 hbN
      have HB := Lib.hid (blk_new (w := w1s) q1s 31006 #[.string { data := #[] }, .int .u8 0, .slice none 0 0] 96)
      replace HN := Lib.hid (HN.out.turn TN (fun _ h => h.elim))
      replace HY := Lib.hid (HY.out.turn TN (fun h => h))
      replace HA := Lib.hid (HA.out.turn TN (fun h => h))
      generalize ext q1s w1s.heap.size 31006 = q2s at *
      clear hbN TN
      go_wp2_with fail
      obtain ⟨w2s, hWN⟩ : ∃ x, w1s.alloc (.cells #[.string { data := #[] }, .int .u8 0, .slice none 0 0] 96) = x := ⟨_, rfl⟩
      obtain ⟨XB, hfN⟩ : ∃ x, w1s.heap.size = x := ⟨_, rfl⟩
      rw [hWN] at HN HY HB HA ⊢
      rw [hfN] at HB ⊢
      clear hWN hfN
      refine ⟨by intros; exact of_s HN.out HY.out HC.out, ?_⟩
      refine wpAnyT_one (i := 14) (by kernel_rfl) ?_
      simp only [pickOps, List.flatMap_cons, List.flatMap_nil, List.drop_succ_cons, List.drop_zero, List.take_succ_cons, List.take_zero, List.append_nil]
      have z0 := HA.out.cell 0 _ rfl
      have z1 := HA.out.cell 1 _ rfl
      have z2 := HA.out.cell 2 _ rfl
      have f0 := HA.out.frozen 0
      have f1 := HA.out.frozen 1
      have f2 := HA.out.frozen 2
      obtain ⟨hbS, TS⟩ := act3_set (a0 := (.string n1)) (a1 := (.int .u8 g1.tag)) (a2 := (.slice pa1 g1.params.length pc1)) HA.out
      replace HA := Lib.hid hbS
      replace HN := Lib.hid (HN.out.turn TS (fun _ h => by omega))
      replace HY := Lib.hid (HY.out.turn TS (by omega))
      replace HB := Lib.hid (HB.out.turn TS (by omega))
      clear hbS TS
      go_wp2_with fail
      obtain ⟨w3s, hWN⟩ : ∃ x, (((w2s).setCell ⟨XA, 0, none⟩ (.string n1)).setCell ⟨XA, 1, none⟩ (.int .u8 g1.tag)).setCell ⟨XA, 2, none⟩ (.slice pa1 g1.params.length pc1) = x := ⟨_, rfl⟩
      rw [hWN] at HN HY HA HB ⊢
      clear hWN z0 z1 z2 f0 f1 f2
      refine ⟨by intros; exact of_s HN.out HY.out HC.out, ?_⟩
      refine wpAnyT_list (ks := [15]) (fun _ _ hx h => ⟨hx.cell h.1, hx.cell h.2.1, hx.cell h.2.2.1, hx.cell h.2.2.2.1, hx.cell h.2.2.2.2.1, hx.cell h.2.2.2.2.2.1, hx.cell h.2.2.2.2.2.2.1, hx.cell h.2.2.2.2.2.2.2.1, hx.cell h.2.2.2.2.2.2.2.2⟩) (by kernel_rfl) ?_
      simp only [pickOps, List.flatMap_cons, List.flatMap_nil, List.drop_succ_cons, List.drop_zero, List.take_succ_cons, List.take_zero, List.append_nil]
      have z0 := HB.out.cell 0 _ rfl
      have z1 := HB.out.cell 1 _ rfl
      have z2 := HB.out.cell 2 _ rfl
      have f0 := HB.out.frozen 0
      have f1 := HB.out.frozen 1
      have f2 := HB.out.frozen 2
      obtain ⟨hbS, TS⟩ := act3_set (a0 := (.string n2)) (a1 := (.int .u8 g2.tag)) (a2 := (.slice pa2 g2.params.length pc2)) HB.out
      replace HB := Lib.hid hbS
      replace HN := Lib.hid (HN.out.turn TS (fun _ h => by omega))
      replace HY := Lib.hid (HY.out.turn TS (by omega))
      replace HA := Lib.hid (HA.out.turn TS (by omega))
      clear hbS TS
      clear hQ2
      go_wp2
      go_meet
      case rel => exact ⟨_, XA, XB, rfl, rfl, HN.out, HY.out, HA.out, HB.out⟩
     ·
      simp only [pickOps, List.flatMap_cons, List.flatMap_nil, List.drop_succ_cons, List.drop_zero, List.take_succ_cons, List.take_zero, List.append_nil]
      have hbN := below_alloc wd (.cells #[.string { data := #[] }, .int .u8 0, .slice none 0 0] 96)
      have TN := Turn.of_below qy 31006 hbN
      have HB := Lib.hid (blk_new (w := wd) qy 31006 #[.string { data := #[] }, .int .u8 0, .slice none 0 0] 96)
      replace HN := Lib.hid (HN.out.turn TN (fun _ h => h.elim))
      replace HY := Lib.hid (HY.out.turn TN (fun h => h))
      generalize ext qy wd.heap.size 31006 = q1s at *
      clear hbN TN
      go_wp2_with fail
      obtain ⟨w1s, hWN⟩ : ∃ x, wd.alloc (.cells #[.string { data := #[] }, .int .u8 0, .slice none 0 0] 96) = x := ⟨_, rfl⟩
      obtain ⟨XB, hfN⟩ : ∃ x, wd.heap.size = x := ⟨_, rfl⟩
      rw [hWN] at HN HY HB ⊢
      rw [hfN] at HB ⊢
      clear hWN hfN
      refine ⟨by intros; exact of_s HN.out HY.out HC.out, ?_⟩
      refine wpAnyT_one (i := 12) (by kernel_rfl) ?_
      simp only [pickOps, List.flatMap_cons, List.flatMap_nil, List.drop_succ_cons, List.drop_zero, List.take_succ_cons, List.take_zero, List.append_nil]
      have hbN := below_alloc w1s (.cells #[.string { data := #[] }, .int .u8 0, .slice none 0 0] 96)
      have TN := Turn.of_below q1s 31005 hbN
      have HA := Lib.hid (blk_new (w := w1s) q1s 31005 #[.string { data := #[] }, .int .u8 0, .slice none 0 0] 96)
      replace HN := Lib.hid (HN.out.turn TN (fun _ h => h.elim))
      replace HY := Lib.hid (HY.out.turn TN (fun h => h))
      replace HB := Lib.hid (HB.out.turn TN (fun h => h))
      generalize ext q1s w1s.heap.size 31005 = q2s at *
      clear hbN TN
      go_wp2_with fail
      obtain ⟨w2s, hWN⟩ : ∃ x, w1s.alloc (.cells #[.string { data := #[] }, .int .u8 0, .slice none 0 0] 96) = x := ⟨_, rfl⟩
      obtain ⟨XA, hfN⟩ : ∃ x, w1s.heap.size = x := ⟨_, rfl⟩
      rw [hWN] at HN HY HA HB ⊢
      rw [hfN] at HA ⊢
      clear hWN hfN
      refine ⟨by intros; exact of_s HN.out HY.out HC.out, ?_⟩
      refine wpAnyT_one (i := 14) (by kernel_rfl) ?_
      simp only [pickOps, List.flatMap_cons, List.flatMap_nil, List.drop_succ_cons, List.drop_zero, List.take_succ_cons, List.take_zero, List.append_nil]
      have z0 := HA.out.cell 0 _ rfl
      have z1 := HA.out.cell 1 _ rfl
      have z2 := HA.out.cell 2 _ rfl
      have f0 := HA.out.frozen 0
      have f1 := HA.out.frozen 1
      have f2 := HA.out.frozen 2
      obtain ⟨hbS, TS⟩ := act3_set (a0 := (.string n1)) (a1 := (.int .u8 g1.tag)) (a2 := (.slice pa1 g1.params.length pc1)) HA.out
      replace HA := Lib.hid hbS
      replace HN := Lib.hid (HN.out.turn TS (fun _ h => by omega))
      replace HY := Lib.hid (HY.out.turn TS (by omega))
      replace HB := Lib.hid (HB.out.turn TS (by omega))
      clear hbS TS
      go_wp2_with fail
      obtain ⟨w3s, hWN⟩ : ∃ x, (((w2s).setCell ⟨XA, 0, none⟩ (.string n1)).setCell ⟨XA, 1, none⟩ (.int .u8 g1.tag)).setCell ⟨XA, 2, none⟩ (.slice pa1 g1.params.length pc1) = x := ⟨_, rfl⟩
      rw [hWN] at HN HY HA HB ⊢
      clear hWN z0 z1 z2 f0 f1 f2
      refine ⟨by intros; exact of_s HN.out HY.out HC.out, ?_⟩
      refine wpAnyT_list (ks := [15]) (fun _ _ hx h => ⟨hx.cell h.1, hx.cell h.2.1, hx.cell h.2.2.1, hx.cell h.2.2.2.1, hx.cell h.2.2.2.2.1, hx.cell h.2.2.2.2.2.1, hx.cell h.2.2.2.2.2.2.1, hx.cell h.2.2.2.2.2.2.2.1, hx.cell h.2.2.2.2.2.2.2.2⟩) (by kernel_rfl) ?_
      simp only [pickOps, List.flatMap_cons, List.flatMap_nil, List.drop_succ_cons, List.drop_zero, List.take_succ_cons, List.take_zero, List.append_nil]
      have z0 := HB.out.cell 0 _ rfl
      have z1 := HB.out.cell 1 _ rfl
      have z2 := HB.out.cell 2 _ rfl
      have f0 := HB.out.frozen 0
      have f1 := HB.out.frozen 1
      have f2 := HB.out.frozen 2
      obtain ⟨hbS, TS⟩ := act3_set (a0 := (.string n2)) (a1 := (.int .u8 g2.tag)) (a2 := (.slice pa2 g2.params.length pc2)) HB.out
      replace HB := Lib.hid hbS
      replace HN := Lib.hid (HN.out.turn TS (fun _ h => by omega))
      replace HY := Lib.hid (HY.out.turn TS (by omega))
      replace HA := Lib.hid (HA.out.turn TS (by omega))
      clear hbS TS
      clear hQ2
      go_wp2
      go_meet
      case rel => exact ⟨_, XA, XB, rfl, rfl, HN.out, HY.out, HA.out, HB.out⟩
   case rest =>
    clear HN HY
    obtain ⟨q5, XA, XB, rfl, rfl, hN, hY, hA, hB⟩ := hcut
    have HN := Lib.hid hN
    have HY := Lib.hid hY
    have HB := Lib.hid hB
    have z1 := hA.cell 1 (.int .u8 g1.tag) rfl
    have z2 := hA.cell 2 (.slice pa1 g1.params.length pc1) rfl
    clear hN hY hA hB
    go_wp2_with fail
    refine (of_ok _ g1.tag pa1 g1.params.length pc1 g1.params HO1.out HL1.out (HN.out.kept.vals HT1.out)).mono ?_
    rintro e w5 ⟨vi1, vo1, rfl, oi1, oo1, hb5⟩
    obtain ⟨sx1, cx1, rfl⟩ := owns_slice oi1
    obtain ⟨sv1, cv1, rfl⟩ := owns_slice oo1
    have T5 := Turn.of_below q5 31007 hb5
    have HOO := Lib.hid (Own.made q5 31007 oo1).vals
    replace HN := Lib.hid (HN.out.turn T5 (fun _ h => h.elim))
    replace HY := Lib.hid (HY.out.turn T5 (fun h => h))
    replace HB := Lib.hid (HB.out.turn T5 (fun h => h))
    generalize ext q5 wc.heap.size 31007 = q6 at *
    clear T5 hb5 oi1 oo1 z1 z2
    have z1 := HB.out.cell 1 (.int .u8 g2.tag) rfl
    have z2 := HB.out.cell 2 (.slice pa2 g2.params.length pc2) rfl
    go_wp2_with fail
    refine (of_ok _ g2.tag pa2 g2.params.length pc2 g2.params HO2.out HL2.out (HN.out.kept.vals HT2.out)).mono ?_
    rintro e w6 ⟨vi2, vo2, rfl, oi2, oo2, hb6⟩
    obtain ⟨sx2, cx2, rfl⟩ := owns_slice oi2
    obtain ⟨sv2, cv2, rfl⟩ := owns_slice oo2
    have T6 := Turn.of_below q6 31008 hb6
    have HII := Lib.hid (Own.made q6 31008 oi2).vals
    replace HN := Lib.hid (HN.out.turn T6 (fun _ h => h.elim))
    replace HY := Lib.hid (HY.out.turn T6 (fun h => h))
    replace HOO := Lib.hid (HOO.out.turn T6 (fun h => h))
    generalize ext q6 w5.heap.size 31008 = q7 at *
    clear T6 hb6 oi2 oo2 z1 z2 HB
    have hro : ratesO g i = outsP g1.tag g1.params := by unfold ratesO; rw [HG1.out]
    have hri : ratesI g j = insP g2.tag g2.params := by unfold ratesI; rw [HG2.out]
    have hpl : p < (outsP g1.tag g1.params).length := by rw [← hro]; exact Int.ofNat_lt.1 HP.out
    have hrl : r < (insP g2.tag g2.params).length := by rw [← hri]; exact Int.ofNat_lt.1 HR.out
    obtain ⟨bd, ofd, rfl, -, hcd, -, -, hcelld⟩ := Vals.at HOO.out (by rw [ivs_len]; omega)
    obtain ⟨be, ofe, rfl, -, hce, -, -, hcelle⟩ := Vals.at HII.out (by rw [ivs_len]; omega)
    have d1 := hcelld p (by rw [ivs_len]; exact hpl)
    have d2 := hcelle r (by rw [ivs_len]; exact hrl)
    rw [ivs_get hpl] at d1
    rw [ivs_get hrl] at d2
    obtain ⟨G, hGG⟩ : ∃ x, (outsP g1.tag g1.params)[p]?.getD 0 = x := ⟨_, rfl⟩
    obtain ⟨K, hKK⟩ : ∃ x, (insP g2.tag g2.params)[r]?.getD 0 = x := ⟨_, rfl⟩
    obtain ⟨LO, hLO⟩ : ∃ x, (outsP g1.tag g1.params).length = x := ⟨_, rfl⟩
    obtain ⟨LI, hLI⟩ : ∃ x, (insP g2.tag g2.params).length = x := ⟨_, rfl⟩
    rw [hGG] at d1
    rw [hKK] at d2
    rw [hLO] at hcd hpl ⊢
    rw [hLI] at hce hrl ⊢
    have hpl2 : (p : Int) < LO := by omega
    have hrl2 : (r : Int) < LI := by omega
    have hcd2 : (LO : Int) ≤ cv1 := by omega
    have hce2 : (LI : Int) ≤ cx2 := by omega
    have HGI : Hid (rO g i p = G) := Lib.hid (by unfold rO; rw [hro]; exact hGG)
    have HKI : Hid (rI g j r = K) := Lib.hid (by unfold rI; rw [hri]; exact hKK)
    clear hcelld hcelle hro hri hGG hKK hLO hLI HOO HII hcd hce
    obtain ⟨sp, cp, rfl⟩ := HN.out.arcs.slice
    have e1 := HN.out.net.cell 1 _ rfl
    have y0 := HY.out.cell 0 (.int .i64 i) rfl
    have y1 := HY.out.cell 1 (.int .i64 p) rfl
    have y2 := HY.out.cell 2 (.int .i64 j) rfl
    have y3 := HY.out.cell 3 (.int .i64 r) rfl
    have y4 := HY.out.cell 4 (.slice sa ed.start.length sc) rfl
    obtain ⟨i0, hi, hz0, hz1, hz2⟩ := info_parts info_arc
    have HI0 := Lib.hid hi
    clear hi
    go_wp2_with fail
    refine wp_region_lex (fun w' => w'.cell? ⟨b, 1, none⟩ = some (.slice sp k cp) ∧ w'.cell? ⟨Y, 0, none⟩ = some (.int .i64 i) ∧ w'.cell? ⟨Y, 1, none⟩ = some (.int .i64 p) ∧ w'.cell? ⟨Y, 2, none⟩ = some (.int .i64 j) ∧ w'.cell? ⟨Y, 3, none⟩ = some (.int .i64 r) ∧ w'.cell? ⟨Y, 4, none⟩ = some (.slice sa ed.start.length sc) ∧ w'.cell? ⟨bd, ofd + p, none⟩ = some (.int .i64 G) ∧ w'.cell? ⟨be, ofe + r, none⟩ = some (.int .i64 K)) [0, 1, 2, 3, 4, 5, 6, 7, 8, 9, 10, 11, 12, 13, 14, 15, 16, 17, 18, 19] [20, 21, 22, 23] (by kernel_rfl) (by kernel_rfl) rfl (fun _ _ hx h => ⟨hx.cell h.1, hx.cell h.2.1, hx.cell h.2.2.1, hx.cell h.2.2.2.1, hx.cell h.2.2.2.2.1, hx.cell h.2.2.2.2.2.1, hx.cell h.2.2.2.2.2.2.1, hx.cell h.2.2.2.2.2.2.2⟩) ⟨e1, y0, y1, y2, y3, y4, d1, d2⟩ ?_
    intro Q' hQ'
    simp only [pickOps, List.flatMap_cons, List.flatMap_nil, List.drop_succ_cons, List.drop_zero, List.take_succ_cons, List.take_zero, List.cons_append, List.nil_append, List.append_nil]
    repeat (first
     | (refine wpReads_skip (by rfl) ?_; (try simp only [Act.put, List.setIfInBounds_toArray, List.set_cons_zero, List.set_cons_succ]))
     | (refine wpReads_cons ?_ (by rfl) (by rfl) ?_ ?_; rotate_left; (intro wz hz; (try dsimp only at hz); go_simp; try with_reducible rfl); (try simp only [Act.put, List.setIfInBounds_toArray, List.set_cons_zero, List.set_cons_succ]))
     | (refine wpReads_any ?_ (by rfl) ?_ ?_; rotate_left; (intro wz; go_simp; try with_reducible rfl); (try simp only [Act.put, List.setIfInBounds_toArray, List.set_cons_zero, List.set_cons_succ])))
    refine wpReads_nil ?_
    have hbn := below_alloc w6.drew (.cells #[.int .i64 i, .int .i64 j, .int .i64 G, .int .i64 K, .int .i64 (ed.start.length : Nat)] 78)
    have T0 : Turn q7 q7 (fun _ => False) w6 w6.drew := (Turn.refl q7 _ w6).drew
    have Tn := T0.trans (Turn.of_below q7 31009 hbn) (fun _ h => h)
    have HNn := Lib.hid (HN.out.turn Tn (fun _ h => h.elim))
    have e2 := HNn.out.net.cell 1 (.slice sp k cp) rfl
    generalize ext q7 w6.drew.heap.size 31009 = qn at *
    clear hbn T0 Tn HN HY e1 y0 y1 y2 y3 y4 d1 d2
    go_wp2_with (at_builtin; refine stop_here ?_)
    refine go_on ?_
    refine wpList_app rfl _ _ 72 rfl 0 78 i0 _ 5 40 Tryz.underlying72 HI0.out hz0 hz1 hz2 rfl (.slice sp k cp) k (arcsV g k) rfl HNn.out.arcs.1 (some ⟨w6.drew.heap.size, 0, none⟩) 1 1 [.int .i64 i, .int .i64 j, .int .i64 G, .int .i64 K, .int .i64 (ed.start.length : Nat)] rfl rfl (fun h => by cases h) (news_alloc w6.drew [.int .i64 i, .int .i64 j, .int .i64 G, .int .i64 K, .int .i64 (ed.start.length : Nat)] 78) (by simp [Value.oneCell']) (by have := HF.out.2.1; unfold maxLen; omega) (grow_ok (by have := HF.out.2.1; omega)) (Nat.zero_le _) ?_
    intro v7 w7 k1 k20 _ k4
    change (w6.drew.alloc (.cells #[.int .i64 i, .int .i64 j, .int .i64 G, .int .i64 K, .int .i64 (ed.start.length : Nat)] 78)).grownBy w7 _ at k20
    have hav : arcV g k = [.int .i64 i, .int .i64 j, .int .i64 G, .int .i64 K, .int .i64 (ed.start.length : Nat)] := by
     unfold arcV
     rw [HEE.out, HI.out, HJ.out, HPP.out, HRR.out]
     simp only [Int.toNat_natCast]
     rw [HGI.out, HKI.out]
    obtain ⟨T7, O7⟩ := own_app HNn.out.arcs k1 k20 k4
    obtain ⟨sp7, cp7, rfl⟩ := O7.slice
    have hN7 := HNn.out.net.turn T7 (by omega)
    have e0 := hN7.cell 1 (.slice sp k cp) rfl
    have g0 := hN7.frozen 1
    obtain ⟨hB0, S0⟩ := hN7.set 1 (.slice sp7 (k + 1) cp7)
    have TT := (T7.mono (D := fun c => c = 31002 ∨ c = 31003) (fun c h => .inr h)).trans (S0.mono (D := fun c => c = 31002 ∨ c = 31003) (fun c h => .inl h)) (fun _ h => h)
    have HNEW := Lib.hid (OfAt.mk (g := g) (k := k + 1) (HNn.out.kept.turn TT (by omega)) (HNn.out.box.turn TT (by omega)) (HNn.out.res.turn TT (by omega)) hB0 (by rw [arcsV_snoc, hav]; exact O7.turn S0 (by omega)) HNn.out.base)
    clear k1 k20 k4 hav T7 O7 hN7 hB0 S0 TT HNn e2
    have hf2 := HF.out.2.1
    go_wp2
    go_roundw
    case rel => exact ⟨k + 1, _, _, hlt, by go_num, HNEW.out⟩
    case measure => simp [intOf]; omega
  ·
   obtain rfl : k = g.edges.length := by omega
   have hlti : ¬ (g.edges.length : Int) < g.edges.length := by omega
   obtain ⟨sp, cp, rfl⟩ := HN.out.arcs.slice
   have y0 := HN.out.net.cell 0 (.int .i64 (g.actors.length : Nat)) rfl
   have y1 := HN.out.net.cell 1 (.slice sp g.edges.length cp) rfl
   have z0 := HN.out.res.cell 0 _ rfl
   have z1 := HN.out.res.cell 1 _ rfl
   have f0 := HN.out.res.frozen 0
   have f1 := HN.out.res.frozen 1
   go_wp2
   refine bodyPost_ret_by (results_row_tmp rfl _ _ _ _ _ _ _ rfl (net_set (HN.out.res).1) Tryz.underlying74 rfl (by kernel_rfl)) rfl ?_
   have TZ : Turn q q (fun c => c = 31001) wr ((wr.setCell ⟨w.heap.size + 1, 0, none⟩ (.int .i64 (g.actors.length : Nat))).setCell ⟨w.heap.size + 1, 1, none⟩ (.slice sp g.edges.length cp)) := by
    obtain ⟨h1, t1⟩ := HN.out.res.set 0 (.int .i64 (g.actors.length : Nat))
    obtain ⟨h2, t2⟩ := h1.set 1 (.slice sp g.edges.length cp)
    exact t1.trans t2 (fun _ h => h)
   have hb := (HN.out.kept.turn TZ (by omega))
   refine ⟨_, rfl, ?_, hb.below⟩
   have ho := HN.out.arcs.turn TZ (by omega)
   exact own_base hb ho (by omega)
end Go.Proofs.YtaholpfikcdhbaaGreat

/- net.Check of a graph's net. -/
namespace Go.Proofs.YtaholpfikcdhbaaGreat
open Go.RowKit
/- one arc is looked at -/
def ArcsIn (w : World) (sa : Option Addr) (sc : Nat) (g : GGraph) : Prop := ∀ j, j < g.edges.length → ∃ b, sa = some ⟨b, 0, none⟩ ∧ g.edges.length ≤ sc ∧ ∀ i (u : Value), i < 5 → (arcV g j)[i]? = some u → w.cell? ⟨b, j * 5 + i, none⟩ = some u
theorem ArcsIn.below {w w' : World} {sa : Option Addr} {sc : Nat} {g : GGraph} (h : ArcsIn w sa sc g) (hb : Below w.heap.size w w') : ArcsIn w' sa sc g := fun j hj => by
 obtain ⟨b, e, h1, h2⟩ := h j hj
 exact ⟨b, e, h1, fun i u hi hu => cell_later hb (h2 i u hi hu)⟩
theorem arc_cell {w : World} {o : Col} {c n sc j : Nat} {g : GGraph} {sa : Option Addr} (h : Own w o c 78 5 (.slice sa n sc) n (arcsV g n)) (hj : j < n) : ∃ b, sa = some ⟨b, 0, none⟩ ∧ n ≤ sc ∧ ∀ i (u : Value), i < 5 → (arcV g j)[i]? = some u → w.cell? ⟨b, j * 5 + i, none⟩ = some u := by
 rcases h.1.2 with ⟨_, h0⟩ | ⟨tg, tc, cur, e, _, hg, hc, _⟩
 ·
  omega
 ·
  simp only [Value.slice.injEq, true_and] at e
  obtain ⟨rfl, rfl⟩ := e
  refine ⟨tg, rfl, hc, fun i u hi hu => ?_⟩
  have := h.1.cells (g := tg) rfl (j * 5 + i) u (by rw [arcsV_get g hj hi]; exact hu)
  rw [Addr.add_lit] at this
  simpa using this
structure ArcP (g : GGraph) (j u v : Nat) (G K : Int) (Z : Nat) : Prop where
 src : (edgeAt g j).src = u
 dst : (edgeAt g j).dst = v
 hu : u < g.actors.length
 hv : v < g.actors.length
 give : rO g u (edgeAt g j).sport.toNat = G
 take : rI g v (edgeAt g j).dport.toNat = K
 gb : 1 ≤ G ∧ G ≤ 64
 kb : 1 ≤ K ∧ K ≤ 64
 len : (edgeAt g j).start.length = Z
 zb : Z ≤ 256
 cells : arcV g j = [.int .i64 (u : Int), .int .i64 (v : Int), .int .i64 G, .int .i64 K, .int .i64 (Z : Int)]
theorem arc_of {g : GGraph} (hS : Sound g) (hg : ActsOk g) {j : Nat} (hj : j < g.edges.length) : ∃ u v G K Z, ArcP g j u v G K Z := by
 have hE : edgeAt g j = g.edges[j] := by unfold edgeAt; rw [List.getElem?_eq_getElem hj]; rfl
 obtain ⟨u, p, v, q, f1, f2, f3, f4, hu, hv, hp, hq, -, -⟩ := hS.wired.ends j hj
 have hz := (hS.edge j hj).2.2.2.2.2.2
 rw [← hE] at f1 f2 f3 f4 hz
 have hro := rO_pos hg hp
 have hri := rI_pos hg hq
 refine ⟨u, v, rO g u p, rI g v q, _, f1, f3, hu, hv, by rw [f2, Int.toNat_natCast], by rw [f4, Int.toNat_natCast], hro, hri, rfl, hz, ?_⟩
 unfold arcV
 rw [f1, f2, f3, f4]
 simp only [Int.toNat_natCast]
theorem head_one {g : GGraph} (h : headE g = 0) : 1 ≤ g.actors.length := by
 unfold headE at h
 split at h
 ·
  cases h
 split at h
 ·
  cases h
 ·
  omega
set_option maxRecDepth 100000 in
set_option maxHeartbeats 2000000 in
theorem netcheck_any (w : World) (g : GGraph) (sa : Option Addr) (sc : Nat) (hS : Sound g) (hg : ActsOk g) (h : ArcsIn w sa sc g) : Calls Tryz.prog 62 #[.agg #[.int .i64 (g.actors.length : Nat), .slice sa g.edges.length sc]] w (Tells (.int .i64 0) w) := by
 have hb1 := below_alloc w (.cells #[.int .i64 (g.actors.length : Nat), .slice sa g.edges.length sc] 74)
 have hX := heap_alloc_new w (.cells #[.int .i64 (g.actors.length : Nat), .slice sa g.edges.length sc] 74)
 have x0 := cells_row _ _ hX 0 (.int .i64 (g.actors.length : Nat)) rfl
 have x1 := cells_row _ _ hX 1 (.slice sa g.edges.length sc) rfl
 obtain ⟨hf1, hf2, -, -⟩ := head_few hS.head
 have hpos := head_one hS.head
 have c0 : ¬ (g.actors.length : Int) < 1 := by omega
 have HS := Lib.hid hS
 have HG := Lib.hid hg
 have HA := Lib.hid h
 have HB1 := Lib.hid hb1
 have c1 : ¬ (32 : Int) < g.actors.length := by omega
 have c2 : ¬ (96 : Int) < g.edges.length := by omega
 clear hX hb1 h hS hg hpos
 go_enter Tryz.func62, Tryz.ntmps62
 go_wp2_with fail
 obtain ⟨w1, hw1⟩ : ∃ x, w.alloc (.cells #[.int .i64 (g.actors.length : Nat), .slice sa g.edges.length sc] 74) = x := ⟨_, rfl⟩
 rw [hw1] at x0 HB1 ⊢
 have HX0 := Lib.hid x0
 clear hw1 x0 x1 c0 c1 c2
 go_loopw [20] (fun i wz => ∃ (k : Nat), k ≤ g.edges.length ∧ i = .int .i64 k ∧ Below w.heap.size w wz ∧ wz.cell? ⟨w.heap.size, 0, none⟩ = some (.int .i64 (g.actors.length : Nat))) (fun i _ => g.edges.length - (intOf i).toNat)
 case atStart => exact ⟨0, Nat.zero_le _, rfl, HB1.out, HX0.out⟩
 case round =>
  clear HB1 HX0
  obtain ⟨k, hk, rfl, hb, hx⟩ := hrel
  have HB := Lib.hid hb
  have HX := Lib.hid hx
  clear hb hx
  by_cases hlt : k < g.edges.length
  ·
   have hlti : (k : Int) < g.edges.length := by omega
   obtain ⟨u, v, G, K, Z, hp⟩ := arc_of HS.out HG.out hlt
   obtain ⟨b, rfl, hsc, hcl⟩ := HA.out k hlt
   rw [hp.cells] at hcl
   have a0 := cell_later HB.out (hcl 0 _ (by omega) rfl)
   have a1 := cell_later HB.out (hcl 1 _ (by omega) rfl)
   have a2 := cell_later HB.out (hcl 2 _ (by omega) rfl)
   have a3 := cell_later HB.out (hcl 3 _ (by omega) rfl)
   have a4 := cell_later HB.out (hcl 4 _ (by omega) rfl)
   simp only [Nat.add_zero] at a0
   have hb2 := below_alloc wr (.cells #[.int .i64 (u : Int), .int .i64 (v : Int), .int .i64 G, .int .i64 K, .int .i64 (Z : Int)] 78)
   have hZ := heap_alloc_new wr (.cells #[.int .i64 (u : Int), .int .i64 (v : Int), .int .i64 G, .int .i64 K, .int .i64 (Z : Int)] 78)
   have z0 := cells_row _ _ hZ 0 (.int .i64 (u : Int)) rfl
   have z1 := cells_row _ _ hZ 1 (.int .i64 (v : Int)) rfl
   have z2 := cells_row _ _ hZ 2 (.int .i64 G) rfl
   have z3 := cells_row _ _ hZ 3 (.int .i64 K) rfl
   have z4 := cells_row _ _ hZ 4 (.int .i64 (Z : Int)) rfl
   have x0 := cell_later hb2 HX.out
   have HX2 := Lib.hid x0
   have HB2 := Lib.hid (HB.out.trans (hb2.mono HB.out.size))
   have hscI : (g.edges.length : Int) ≤ sc := by omega
   have g1 := hp.hu
   have g2 := hp.hv
   have g3 := hp.gb
   have g4 := hp.kb
   have g5 := hp.zb
   have hui : (u : Int) < g.actors.length := by omega
   have hvi : (v : Int) < g.actors.length := by omega
   clear hb2 hZ hcl hp HB HX hsc
   have d1 : ¬ K < 1 := by omega
   have d2 : ¬ G < 1 := by omega
   have d3 : ¬ (64 : Int) < K := by omega
   have d4 : ¬ (64 : Int) < G := by omega
   have d5 : ¬ (256 : Int) < Z := by omega
   by_cases h1 : (u : Int) < v
   ·
    by_cases h2 : G < K
    ·
     go_wp2_with fail
     all_goals first
      | (exfalso; omega)
      | (refine ⟨⟨k + 1, hlt, by go_num, HB2.out, HX2.out⟩, ?_⟩; simp [intOf]; omega)
    ·
     go_wp2_with fail
     all_goals first
      | (exfalso; omega)
      | (refine ⟨⟨k + 1, hlt, by go_num, HB2.out, HX2.out⟩, ?_⟩; simp [intOf]; omega)
   ·
    by_cases h2 : G < K
    ·
     go_wp2_with fail
     all_goals first
      | (exfalso; omega)
      | (refine ⟨⟨k + 1, hlt, by go_num, HB2.out, HX2.out⟩, ?_⟩; simp [intOf]; omega)
    ·
     go_wp2_with fail
     all_goals first
      | (exfalso; omega)
      | (refine ⟨⟨k + 1, hlt, by go_num, HB2.out, HX2.out⟩, ?_⟩; simp [intOf]; omega)
  ·
   have hlti : ¬ (k : Int) < g.edges.length := by omega
   go_wp2
   go_ret
   exact ⟨rfl, HB.out⟩
end Go.Proofs.YtaholpfikcdhbaaGreat

/- Blocks, plainly: what the map of their firings holds. No function in sight. -/
namespace Go.Proofs.YtaholpfikcdhbaaGreat
open Go.RowKit
open Go.Maps (Keyed IsMap Tidy)
structure GBlock where
 node : Int
 fired : Int
 arc : Int
def BlockR (_ : World) (b : GBlock) (cs : List Value) : Prop := cs = [.int .i64 b.node, .int .i64 b.fired, .int .i64 b.arc]
def firedOf : List GBlock → Int → Option Int
 | [], _ => none
 | b :: l, x => if b.node = x then some b.fired else firedOf l x
theorem firedOf_snoc (b : GBlock) (x : Int) : ∀ l : List GBlock, firedOf (l ++ [b]) x = match firedOf l x with | some f => some f | none => if b.node = x then some b.fired else none
 | [] => rfl
 | c :: l => by
  simp only [List.cons_append, firedOf]
  by_cases h : c.node = x
  ·
   simp only [if_pos h]
  ·
   simp only [if_neg h]
   exact firedOf_snoc b x l
theorem firedOf_mem {x f : Int} : ∀ {l : List GBlock}, firedOf l x = some f → ∃ b ∈ l, b.node = x ∧ b.fired = f
 | [], h => by cases h
 | c :: l, h => by
  simp only [firedOf] at h
  by_cases e : c.node = x
  ·
   rw [if_pos e] at h
   exact ⟨c, List.mem_cons_self, e, Option.some.inj h⟩
  ·
   rw [if_neg e] at h
   obtain ⟨b, h1, h2⟩ := firedOf_mem h
   exact ⟨b, List.mem_cons_of_mem _ h1, h2⟩
def MapOf (D : DataW Unit) (l : List GBlock) : Prop := IsMap D ∧ ∀ x : Int, match firedOf l x with
 | some f => Maps.has D (.int .i64 x) = true ∧ D.atKey (.int .i64 x) (.lit (.int .i64 0)) = .lit (.int .i64 f)
 | none => Maps.has D (.int .i64 x) = false
theorem mapOf_start : MapOf (.map []) [] := ⟨Maps.isMap_empty, fun _ => rfl⟩
theorem mapOf_next {D : DataW Unit} {l : List GBlock} (h : MapOf D l) (b : GBlock) (hn : firedOf l b.node = none) : MapOf (D.put (.int .i64 b.node) (.lit (.int .i64 b.fired))) (l ++ [b]) := by
 refine ⟨h.1.put _ _, fun x => ?_⟩
 rw [firedOf_snoc]
 by_cases e : b.node = x
 ·
  subst e
  rw [hn]
  simp only [if_true]
  exact ⟨Maps.has_put_same h.1 (by trivial) _, Maps.atKey_put_same h.1 (by trivial) _ _⟩
 ·
  have hne : (Lit.int .i64 x) ≠ Lit.int .i64 b.node := fun e' => e (by injection e' with _ e'; exact e'.symm)
  have hx := h.2 x
  cases hf : firedOf l x with
  | some f =>
   rw [hf] at hx
   simp only at hx ⊢
   rw [Maps.has_put_other hne, Maps.atKey_put_other hne]
   exact hx
  | none =>
   rw [hf] at hx
   simp only [if_neg e] at hx ⊢
   rw [Maps.has_put_other hne]
   exact hx
theorem imap_law : Keyed Tryz.prog 3 := Maps.int_keyed Tryz.underlying3
theorem wf_num {x : Int} (h : Fits x) : (Lit.int .i64 x).wf = true := by
 have e1 : IntKind.i64.min = -9223372036854775808 := by decide
 have e2 : IntKind.i64.max = 9223372036854775807 := by decide
 simp only [Lit.wf, e1, e2, Bool.and_eq_true, decide_eq_true_eq]
 exact h
theorem imap_turn {w w' : World} {o o' : Col} {C : Nat → Prop} {B n : Nat} {D : DataW Unit} (h : w.ownsMap Tryz.prog 3 (plainElem Tryz.prog 3) B n D) (T : Turn o o' C w w') (hc : ¬ C (o B)) : w'.ownsMap Tryz.prog 3 (plainElem Tryz.prog 3) B n D ∧ o' B = o B := by
 obtain ⟨es, clock, hb, r⟩ := h
 obtain ⟨h1, h2⟩ := T.block hb hc
 exact ⟨⟨es, clock, h1, r⟩, h2⟩
def blocksL (l : List GBlock) : List (Nat × Nat × Int) := l.map fun b => (b.node.toNat, b.arc.toNat, b.fired)
def BlkOk (g : GGraph) (b : GBlock) : Prop := (0 ≤ b.node ∧ b.node < g.actors.length) ∧ 0 ≤ b.fired ∧ b.fired ≤ 4096
def BlkArc (g : GGraph) (l : List GBlock) (b : GBlock) : Prop := (0 ≤ b.arc ∧ b.arc < g.edges.length) ∧ (edgeAt g b.arc.toNat).dst = b.node ∧ ∃ f, firedOf l (edgeAt g b.arc.toNat).src = some f
def BlkTight (g : GGraph) (l : List GBlock) (b : GBlock) : Prop := ∀ f, firedOf l (edgeAt g b.arc.toNat).src = some f → ((edgeAt g b.arc.toNat).start.length : Int) + rO g (edgeAt g b.arc.toNat).src.toNat (edgeAt g b.arc.toNat).sport.toNat * f < rI g (edgeAt g b.arc.toNat).dst.toNat (edgeAt g b.arc.toNat).dport.toNat * (b.fired + 1)
theorem blocks_of {g : GGraph} {l : List GBlock} (h1 : ∀ b ∈ l, BlkOk g b) (h2 : ∀ b ∈ l, BlkArc g l b) (h3 : ∀ b ∈ l, BlkTight g l b) : BlocksP g (blocksL l) := by
 refine ⟨fun b hb => ?_, fun b hb => ?_⟩
 ·
  obtain ⟨c, hc, rfl⟩ := List.mem_map.1 hb
  exact (h1 c hc).2.1
 ·
  obtain ⟨c, hc, rfl⟩ := List.mem_map.1 hb
  obtain ⟨⟨a0, a1⟩, hd, f, hf⟩ := h2 c hc
  have ht := h3 c hc f hf
  obtain ⟨s, hs, e1, e2⟩ := firedOf_mem hf
  have n1 := (h1 c hc).1
  have n2 := (h1 s hs).1
  refine ⟨by show c.arc.toNat < _; omega, by show _ = (c.node.toNat : Int); rw [hd]; omega, (s.node.toNat, s.arc.toNat, s.fired), List.mem_map.2 ⟨s, hs, rfl⟩, by show _ = (s.node.toNat : Int); rw [← e1]; omega, ?_⟩
  show _ + rO g s.node.toNat _ * s.fired < rI g c.node.toNat _ * (c.fired + 1)
  rw [e1, e2, ← hd]
  exact ht
end Go.Proofs.YtaholpfikcdhbaaGreat

/- stuck.Confirm: if it confirms, nobody passes the blocks. -/
namespace Go.Proofs.YtaholpfikcdhbaaGreat
open Go.RowKit
open Go.Maps (Keyed IsMap Tidy)
def ConfirmRet (w : World) (g : GGraph) (l : List GBlock) (e : Ending) (w' : World) : Prop := ∃ x : Int, e = .returned (.int .i64 x) ∧ Below w.heap.size w w' ∧ (x = 0 → BlocksP g (blocksL l) ∧ ∀ b ∈ l, BlkOk g b)
structure ConfAt (w0 wz : World) (q : Col) (nv : List Value) (B n : Nat) (D : DataW Unit) (l : List GBlock) (k : Nat) : Prop where
 kept : Kept w0.heap.size q w0 wz
 box : Blk wz q 32000 w0.heap.size 74 nv.toArray
 map : wz.ownsMap Tryz.prog 3 (plainElem Tryz.prog 3) B n D
 col : q B = 32001
 of : MapOf D (l.take k)
 few : n ≤ k
theorem ConfAt.turn {w0 w w' : World} {q q' : Col} {C : Nat → Prop} {nv : List Value} {B n k : Nat} {D : DataW Unit} {l : List GBlock} (h : ConfAt w0 w q nv B n D l k) (T : Turn q q' C w w') (hC : ∀ c, C c → 32001 < c) : ConfAt w0 w' q' nv B n D l k := by
 obtain ⟨m1, m2⟩ := imap_turn h.map T (fun hc => by have := hC _ hc; rw [h.col] at this; omega)
 exact ⟨h.kept.turn T (fun hc => by have := hC _ hc; omega), h.box.turn T (fun hc => by have := hC _ hc; omega), m1, m2.trans h.col, h.of, h.few⟩
/- it is no confirmation -/
set_option maxRecDepth 100000 in
set_option maxHeartbeats 4000000 in
theorem confirm_any (w : World) (g : GGraph) (sa : Option Addr) (sc : Nat) (vb : Value) (l : List GBlock) (hS : Sound g) (hg : ActsOk g) (h : ArcsIn w sa sc g) (hl : Recs w 3 BlockR vb l) (hf : ∀ b ∈ l, Fits b.node ∧ Fits b.fired ∧ Fits b.arc) (hn : l.length ≤ 17600000000000) : Calls Tryz.prog 35 #[.agg #[.int .i64 (g.actors.length : Nat), .slice sa g.edges.length sc], vb] w (ConfirmRet w g l) := by
 obtain ⟨lb, lc, rfl⟩ := hl.slice
 have hb1 := below_alloc w (.cells #[.int .i64 (g.actors.length : Nat), .slice sa g.edges.length sc] 74)
 have T1 := Turn.of_below (fun _ => 0) 32000 hb1
 have hX := blk_new (w := w) (fun _ => 0) 32000 #[.int .i64 (g.actors.length : Nat), .slice sa g.edges.length sc] 74
 have HX := Lib.hid hX
 have HK := Lib.hid ((Kept.start w).turn T1 (fun h => h))
 have HS := Lib.hid hS
 have HG := Lib.hid hg
 have HA := Lib.hid h
 have HL := Lib.hid hl
 have HF := Lib.hid hf
 generalize ext (fun _ => 0) w.heap.size 32000 = o1 at *
 obtain ⟨w1, hw1⟩ : ∃ x, w.alloc (.cells #[.int .i64 (g.actors.length : Nat), .slice sa g.edges.length sc] 74) = x := ⟨_, rfl⟩
 rw [hw1] at HX HK
 have x0 := HX.out.cell 0 (.int .i64 (g.actors.length : Nat)) rfl
 have x1 := HX.out.cell 1 (.slice sa g.edges.length sc) rfl
 clear hb1 T1 hX hS hg h hl hf
 go_enter Tryz.func35, Tryz.ntmps35
 go_wp2_with fail
 clear hw1
 refine (netcheck_any _ g sa sc HS.out HG.out (HA.out.below HK.out.below)).mono ?_
 rintro e w2 ⟨rfl, hb2⟩
 have T2 := Turn.of_below o1 32009 hb2
 replace HK := Lib.hid (HK.out.turn T2 (fun h => h))
 replace HX := Lib.hid (HX.out.turn T2 (fun h => h))
 generalize ext o1 w1.heap.size 32009 = o2 at *
 clear hb2 T2 x0 x1
 by_cases hz : l.length = 0
 ·
  have hzi : ((l.length : Int) == 0) = true := by rw [beq_iff_eq]; omega
  go_wp2
  go_ret
  exact ⟨140, rfl, HK.out.below, fun h => by cases h⟩
 ·
  have hzi : ((l.length : Int) == 0) = false := by rw [beq_eq_false_iff_ne]; omega
  have hmm := @run_makeMap Tryz.prog
  have hm0 := World.ownsMap_made (H := Unit) w2 Tryz.prog 3 (plainElem Tryz.prog 3)
  have hb3 := below_alloc w2 (.map #[] 0)
  have T3 := Turn.of_below o2 32001 hb3
  have HW := Lib.hid (ConfAt.mk (l := l) (k := 0) (HK.out.turn T3 (fun h => h)) (HX.out.turn T3 (fun h => h)) hm0 (ext_new (Nat.le_refl _)) mapOf_start (Nat.le_refl _))
  generalize ext o2 w2.heap.size 32001 = o3 at *
  clear hb3 T3 hm0
  go_wp2_with fail
  obtain ⟨w3, hw3⟩ : ∃ x, w2.alloc (.map #[] 0) = x := ⟨_, rfl⟩
  obtain ⟨B, hB⟩ : ∃ x, w2.heap.size = x := ⟨_, rfl⟩
  rw [hw3] at HW ⊢
  rw [hB] at HW ⊢
  clear hw3 hB HK HX hmm hzi
  go_loopw [28] (fun i wz => ∃ (k : Nat) (q : Col) (D : DataW Unit) (n : Nat), k ≤ l.length ∧ i = .int .i64 k ∧ ConfAt w wz q [.int .i64 (g.actors.length : Nat), .slice sa g.edges.length sc] B n D l k ∧ ∀ b ∈ l.take k, BlkOk g b) (fun i _ => l.length - (intOf i).toNat)
  case atStart => exact ⟨0, o3, _, 0, Nat.zero_le _, rfl, HW.out, fun b hb => by simp at hb⟩
  case round =>
   clear HW
   obtain ⟨k, q, D, n, hk, rfl, hW, hok⟩ := hrel
   have HW := Lib.hid hW
   have HOK := Lib.hid hok
   clear hW hok
   by_cases hlt : k < l.length
   ·
    have hlti : (k : Int) < l.length := by omega
    obtain ⟨b0, off, rfl, hcap, hb0, hrec⟩ := HL.out.at (by omega)
    obtain ⟨cs, hcs, hPR, hcl⟩ := hrec k hlt
    obtain rfl := hPR
    have c0 := cell_later HW.out.kept.below (hcl 0 (by omega))
    have c1 := cell_later HW.out.kept.below (hcl 1 (by omega))
    have c2 := cell_later HW.out.kept.below (hcl 2 (by omega))
    simp at c0 c1 c2
    have hcapi : (l.length : Int) ≤ lc := by omega
    obtain ⟨bl, hbl⟩ : ∃ x, l[k] = x := ⟨_, rfl⟩
    have HBL : Hid (l[k]? = some bl) := Lib.hid (by rw [List.getElem?_eq_getElem hlt, hbl])
    have hff := HF.out bl (by rw [← hbl]; exact List.getElem_mem hlt)
    rw [hbl] at c0 c1 c2
    have HTK : Hid (l.take (k + 1) = l.take k ++ [bl]) := Lib.hid (by rw [List.take_add_one, HBL.out]; rfl)
    obtain ⟨N, F, A⟩ := bl
    have hwN := wf_num hff.1
    have HFN := Lib.hid hff
    clear hrec hcl hcs hcap hb0 hff hbl
    have hbY := below_alloc wr (.cells #[.int .i64 N, .int .i64 F, .int .i64 A] 83)
    have TY := Turn.of_below q 32002 hbY
    have hY := blk_new (w := wr) q 32002 #[.int .i64 N, .int .i64 F, .int .i64 A] 83
    replace HW := Lib.hid (HW.out.turn TY (fun _ h => h.elim))
    have HYB := Lib.hid hY
    generalize ext q wr.heap.size 32002 = qy at *
    have z0 := hY.cell 0 (.int .i64 N) rfl
    have z1 := hY.cell 1 (.int .i64 F) rfl
    have x0 := HW.out.box.cell 0 (.int .i64 (g.actors.length : Nat)) rfl
    have HM := Lib.hid HW.out.map
    clear hbY TY hY
    go_wp2_with (at_lookup; refine stop_here ?_)
    refine go_on ?_
    refine wpList_lookup_own_ok_int _ rfl _ _ 141 rfl 3 3 .i64 imap_law Tryz.underlying141 Tryz.underlying3 (int_zero _) B n D rfl HM.out _ _ rfl (Maps.keyOf_int_mk Tryz.underlying3 hwN) ?_
    intro c hat hwc
    have hmo := HW.out.of.2 N
    cases hfo : firedOf (l.take k) N with
    | some f =>
     rw [hfo] at hmo
     simp only at hmo
     rw [hmo.1]
     clear hmo hat hwc
     go_wp2
     go_ret
     exact ⟨140, rfl, HW.out.kept.below, fun h => by cases h⟩
    | none =>
     rw [hfo] at hmo
     simp only at hmo
     rw [hmo]
     have HFO := Lib.hid hfo
     clear hmo hat hwc hfo
     by_cases b1 : N < 0
     ·
      go_wp2
      go_ret
      exact ⟨140, rfl, HW.out.kept.below, fun h => by cases h⟩
     ·
      by_cases b2 : (g.actors.length : Int) ≤ N
      ·
       go_wp2
       go_ret
       exact ⟨140, rfl, HW.out.kept.below, fun h => by cases h⟩
      ·
       by_cases b3 : F < 0
       ·
        go_wp2
        go_ret
        exact ⟨140, rfl, HW.out.kept.below, fun h => by cases h⟩
       ·
        by_cases b4 : 4096 < F
        ·
         go_wp2
         go_ret
         exact ⟨140, rfl, HW.out.kept.below, fun h => by cases h⟩
        ·
         have HBK : Hid (BlkOk g ⟨N, F, A⟩) := Lib.hid (by unfold BlkOk; show (0 ≤ N ∧ N < _) ∧ 0 ≤ F ∧ F ≤ 4096; omega)
         have hwF := wf_num HFN.out.2.1
         have HWF := Lib.hid hwF
         clear hwF
         go_wp2_with (at_mapUpdate; refine stop_here ?_)
         refine go_on ?_
         refine wpList_mapUpdate_own _ rfl _ _ _ 141 rfl 3 3 imap_law Tryz.underlying141 _ B n D rfl HM.out (by have := HW.out.few; unfold maxLen; omega) _ _ _ rfl rfl (Maps.keyOf_int_mk Tryz.underlying3 hwN) _ [] (plainElem_int Tryz.underlying3 HWF.out) ?_
         intro w5 hown5 hg5
         have T5 := Turn.of_mods qy 32003 ((Mods.refl (fun b => b = B) (wr.alloc (.cells #[.int .i64 N, .int .i64 F, .int .i64 A] 83))).grown hg5 (fun b hb _ => (Option.some.inj hb).symm)) (C := fun x => x = 32001) (fun b _ e => by rw [e]; exact HW.out.col)
         have HNEW := Lib.hid (ConfAt.mk (l := l) (k := k + 1) (HW.out.kept.turn T5 (by omega)) (HW.out.box.turn T5 (by omega)) hown5 ((ext_old (HM.out.lt)).trans HW.out.col) (by rw [HTK.out]; exact mapOf_next HW.out.of ⟨N, F, A⟩ HFO.out) (by have := HW.out.few; omega))
         clear T5 hown5 hg5 HW HM
         go_wp2
         go_roundw
         case rel => exact ⟨k + 1, _, _, _, hlt, by go_num, HNEW.out, fun b hb => by
          rw [HTK.out] at hb
          rcases List.mem_append.1 hb with hb | hb
          ·
           exact HOK.out b hb
          ·
           rw [List.mem_singleton.1 hb]; exact HBK.out⟩
         case measure => simp [intOf]; omega
   ·
    have hlti : ¬ (k : Int) < l.length := by omega
    obtain rfl : k = l.length := by omega
    have hok := HOK.out
    rw [List.take_length] at hok
    have HOA := Lib.hid hok
    clear hok HOK hlt hk
    go_wp2_with fail
    have hmo : MapOf D l := by have := HW.out.of; rwa [List.take_length] at this
    have HMO := Lib.hid hmo
    clear hmo
    go_loopw [11, 70] (fun lo i wz => ∃ (k : Nat) (q : Col) (z : Bool), k ≤ l.length ∧ lo = .bool z ∧ i = .int .i64 k ∧ ConfAt w wz q [.int .i64 (g.actors.length : Nat), .slice sa g.edges.length sc] B n D l l.length ∧ (∀ b ∈ l.take k, BlkArc g l b) ∧ (z = false → ∀ b ∈ l.take k, BlkTight g l b)) (fun _ i _ => l.length - (intOf i).toNat)
    case atStart => exact ⟨0, q, false, Nat.zero_le _, rfl, rfl, HW.out, fun b hb => by simp at hb, fun _ b hb => by simp at hb⟩
    case round =>
     clear HW
     obtain ⟨k, q, z, hk, rfl, rfl, hW, harc, htig⟩ := hrel
     have HW := Lib.hid hW
     have HARC := Lib.hid harc
     have HTIG := Lib.hid htig
     clear hW harc htig
     by_cases hlt : k < l.length
     ·
      have hlti : (k : Int) < l.length := by omega
      obtain ⟨b0, off, rfl, hcap, hb0, hrec⟩ := HL.out.at (by omega)
      obtain ⟨cs, hcs, hPR, hcl⟩ := hrec k hlt
      obtain rfl := hPR
      have c0 := cell_later HW.out.kept.below (hcl 0 (by omega))
      have c1 := cell_later HW.out.kept.below (hcl 1 (by omega))
      have c2 := cell_later HW.out.kept.below (hcl 2 (by omega))
      simp at c0 c1 c2
      have hcapi : (l.length : Int) ≤ lc := by omega
      obtain ⟨bl, hbl⟩ : ∃ x, l[k] = x := ⟨_, rfl⟩
      have HBL : Hid (l[k]? = some bl) := Lib.hid (by rw [List.getElem?_eq_getElem hlt, hbl])
      have hok := HOA.out bl (by rw [← hbl]; exact List.getElem_mem hlt)
      rw [hbl] at c0 c1 c2
      have HTK : Hid (l.take (k + 1) = l.take k ++ [bl]) := Lib.hid (by rw [List.take_add_one, HBL.out]; rfl)
      obtain ⟨N, F, A⟩ := bl
      have hF1 : 0 ≤ F := hok.2.1
      have hF2 : F ≤ 4096 := hok.2.2
      clear hrec hcl hcs hcap hb0 hbl hok
      have hbY := below_alloc wr (.cells #[.int .i64 N, .int .i64 F, .int .i64 A] 83)
      have TY := Turn.of_below q 32004 hbY
      have hY := blk_new (w := wr) q 32004 #[.int .i64 N, .int .i64 F, .int .i64 A] 83
      replace HW := Lib.hid (HW.out.turn TY (fun _ h => h.elim))
      have HYB := Lib.hid hY
      generalize ext q wr.heap.size 32004 = qy at *
      have z2 := hY.cell 2 (.int .i64 A) rfl
      have x1 := HW.out.box.cell 1 (.slice sa g.edges.length sc) rfl
      clear hbY TY hY
      by_cases b1 : A < 0
      ·
       go_wp2
       go_ret
       exact ⟨140, rfl, HW.out.kept.below, fun h => by cases h⟩
      ·
       by_cases b2 : (g.edges.length : Int) ≤ A
       ·
        go_wp2
        go_ret
        exact ⟨140, rfl, HW.out.kept.below, fun h => by cases h⟩
       ·
        obtain ⟨a, ha⟩ := Int.eq_ofNat_of_zero_le (show 0 ≤ A by omega)
        subst ha
        have hae : a < g.edges.length := by omega
        obtain ⟨u, v, G, K, Z, hp⟩ := arc_of HS.out HG.out hae
        obtain ⟨ab, rfl, hsc, hac⟩ := HA.out a hae
        rw [hp.cells] at hac
        have a0 := cell_later HW.out.kept.below (hac 0 _ (by omega) rfl)
        have a1 := cell_later HW.out.kept.below (hac 1 _ (by omega) rfl)
        have a2 := cell_later HW.out.kept.below (hac 2 _ (by omega) rfl)
        have a3 := cell_later HW.out.kept.below (hac 3 _ (by omega) rfl)
        have a4 := cell_later HW.out.kept.below (hac 4 _ (by omega) rfl)
        simp only [Nat.add_zero] at a0
        have HP := Lib.hid hp
        have hscI : (g.edges.length : Int) ≤ sc := by omega
        have haeI : (a : Int) < g.edges.length := by omega
        have hZ := hp.zb
        have hu32 := hp.hu
        have hfew := head_few HS.out.head
        have hwU := wf_num (x := (u : Int)) (by unfold Fits; omega)
        have HWU := Lib.hid hwU
        clear hac hp hsc hwU hfew
        have hbX := below_alloc (wr.alloc (.cells #[.int .i64 N, .int .i64 F, .int .i64 (a : Int)] 83)) (.cells #[.int .i64 (u : Int), .int .i64 (v : Int), .int .i64 G, .int .i64 K, .int .i64 (Z : Int)] 78)
        have TX := Turn.of_below qy 32005 hbX
        have hXB := blk_new (w := wr.alloc (.cells #[.int .i64 N, .int .i64 F, .int .i64 (a : Int)] 83)) qy 32005 #[.int .i64 (u : Int), .int .i64 (v : Int), .int .i64 G, .int .i64 K, .int .i64 (Z : Int)] 78
        have HW2 := Lib.hid (HW.out.turn TX (fun _ h => h.elim))
        have HY2 := Lib.hid (HYB.out.turn TX (fun h => h))
        rw [show (wr.alloc (.cells #[.int .i64 N, .int .i64 F, .int .i64 (a : Int)] 83)).heap.size = wr.heap.size + 1 by simp] at hXB HW2 HY2
        generalize ext qy (wr.heap.size + 1) 32005 = qx at *
        have HXB := Lib.hid hXB
        have e0 := hXB.cell 0 (.int .i64 (u : Int)) rfl
        have HM := Lib.hid HW2.out.map
        clear hbX TX hXB
        go_wp2_with (at_lookup; refine stop_here ?_)
        refine go_on ?_
        refine wpList_lookup_own_ok_int _ rfl _ _ 141 rfl 3 3 .i64 imap_law Tryz.underlying141 Tryz.underlying3 (int_zero _) B n D rfl HM.out _ _ rfl (Maps.keyOf_int_mk Tryz.underlying3 HWU.out) ?_
        intro c hat hwc
        obtain ⟨w7, hw7⟩ : ∃ x, (wr.alloc (.cells #[.int .i64 N, .int .i64 F, .int .i64 (a : Int)] 83)).alloc (.cells #[.int .i64 (u : Int), .int .i64 (v : Int), .int .i64 G, .int .i64 K, .int .i64 (Z : Int)] 78) = x := ⟨_, rfl⟩
        obtain ⟨Y, hY⟩ : ∃ x, wr.heap.size = x := ⟨_, rfl⟩
        rw [hw7] at HW2 HY2 HXB HM ⊢
        rw [hY] at HY2 HXB ⊢
        clear hw7 hY HW HYB z2 x1 a0 a1 a2 a3 a4 c0 c1 c2 e0
        have HW := Lib.hid HW2.out
        clear HW2
        have y0 := HY2.out.cell 0 (.int .i64 N) rfl
        have y1 := HY2.out.cell 1 (.int .i64 F) rfl
        have e1 := HXB.out.cell 1 (.int .i64 (v : Int)) rfl
        have e2 := HXB.out.cell 2 (.int .i64 G) rfl
        have e3 := HXB.out.cell 3 (.int .i64 K) rfl
        have e4 := HXB.out.cell 4 (.int .i64 (Z : Int)) rfl
        have hmo := HMO.out.2 u
        cases hfo : firedOf l u with
        | none =>
         rw [hfo] at hmo
         simp only at hmo
         rw [hmo]
         clear hmo hat hwc hfo
         by_cases hvn : (v : Int) = N
         ·
          have hvb : ((v : Int) != N) = false := by rw [bne_eq_false_iff_eq]; exact hvn
          go_wp2
          go_ret
          exact ⟨140, rfl, HW.out.kept.below, fun h => by cases h⟩
         ·
          have hvb : ((v : Int) != N) = true := by rw [bne_iff_ne]; exact hvn
          go_wp2
          go_ret
          exact ⟨140, rfl, HW.out.kept.below, fun h => by cases h⟩
        | some f =>
         rw [hfo] at hmo
         simp only at hmo
         rw [hmo.2] at hat
         obtain rfl : f = c := by injection hat with h; injection h with _ h
         rw [hmo.1]
         have HFO := Lib.hid hfo
         obtain ⟨bs, hbs, -, hbf⟩ := firedOf_mem hfo
         have hfb := (HOA.out bs hbs).2
         rw [hbf] at hfb
         have hf1 : 0 ≤ f := hfb.1
         have hf2 : f ≤ 4096 := hfb.2
         clear hmo hat hwc hfo hbs hbf hfb
         by_cases hvn : (v : Int) = N
         ·
          have hvb : ((v : Int) != N) = false := by rw [bne_eq_false_iff_eq]; exact hvn
          have hg1 := HP.out.gb
          have hk1 := HP.out.kb
          obtain ⟨P1, hP1⟩ : ∃ x, G * f = x := ⟨_, rfl⟩
          obtain ⟨P2, hP2⟩ : ∃ x, K * (F + 1) = x := ⟨_, rfl⟩
          have hb1 : 0 ≤ P1 ∧ P1 ≤ 1728000000000000 := by
           obtain ⟨y, rfl⟩ := Int.eq_ofNat_of_zero_le hf1
           rw [← hP1]
           exact mul_few hg1.1 hg1.2 (by omega)
          have hb2 : 0 ≤ P2 ∧ P2 ≤ 1728000000000000 := by
           obtain ⟨y, hy⟩ := Int.eq_ofNat_of_zero_le (show 0 ≤ F + 1 by omega)
           rw [← hP2, hy]
           exact mul_few hk1.1 hk1.2 (by omega)
          have hw1 : wrap64 (G * f) = P1 := by rw [hP1]; exact IntWalk.wrap64_in _ (by omega)
          have hw2 : wrap64 (K * (F + 1)) = P2 := by rw [hP2]; exact IntWalk.wrap64_in _ (by omega)
          have hw3 : wrap64 ((Z : Int) + P1) = Z + P1 := IntWalk.wrap64_in _ (by omega)
          have HNA : Hid (BlkArc g l ⟨N, F, (a : Int)⟩) := Lib.hid (by
           refine ⟨by show 0 ≤ (a : Int) ∧ (a : Int) < _; omega, ?_, f, ?_⟩
           ·
            show (edgeAt g (a : Int).toNat).dst = N
            rw [Int.toNat_natCast, HP.out.dst]; exact hvn
           ·
            show firedOf l (edgeAt g (a : Int).toNat).src = some f
            rw [Int.toNat_natCast, HP.out.src]; exact HFO.out)
          have HNT : Hid ((Z : Int) + P1 < P2 → BlkTight g l ⟨N, F, (a : Int)⟩) := Lib.hid (fun h f' hf' => by
           change firedOf l (edgeAt g (a : Int).toNat).src = some f' at hf'
           rw [Int.toNat_natCast, HP.out.src, HFO.out] at hf'
           obtain rfl := Option.some.inj hf'
           show ((edgeAt g (a : Int).toNat).start.length : Int) + rO g (edgeAt g (a : Int).toNat).src.toNat (edgeAt g (a : Int).toNat).sport.toNat * f < rI g (edgeAt g (a : Int).toNat).dst.toNat (edgeAt g (a : Int).toNat).dport.toNat * (F + 1)
           rw [Int.toNat_natCast, HP.out.src, HP.out.dst, Int.toNat_natCast, Int.toNat_natCast, HP.out.give, HP.out.take, HP.out.len, hP1, hP2]
           exact h)
          have HARN : Hid (∀ b ∈ l.take (k + 1), BlkArc g l b) := Lib.hid (fun b hb => by
           rw [HTK.out] at hb
           rcases List.mem_append.1 hb with hb | hb
           ·
            exact HARC.out b hb
           ·
            rw [List.mem_singleton.1 hb]; exact HNA.out)
          have HTIN : Hid (z = false → (Z : Int) + P1 < P2 → ∀ b ∈ l.take (k + 1), BlkTight g l b) := Lib.hid (fun h1 h2 b hb => by
           rw [HTK.out] at hb
           rcases List.mem_append.1 hb with hb | hb
           ·
            exact HTIG.out h1 b hb
           ·
            rw [List.mem_singleton.1 hb]; exact HNT.out h2)
          clear hP1 hP2 hvn
          cases z with
          | true =>
           go_wp2
           go_roundw
           case rel => exact ⟨k + 1, qx, true, hlt, rfl, by go_num, HW.out, HARN.out, fun h => by cases h⟩
           case measure => simp [intOf]; omega
          | false =>
           by_cases htl : (Z : Int) + P1 < P2
           ·
            have htl2 : ¬ P2 ≤ (Z : Int) + P1 := by omega
            have HTL := Lib.hid htl
            clear htl
            go_wp2
            go_roundw
            case rel => exact ⟨k + 1, qx, false, hlt, by go_num, by go_num, HW.out, HARN.out, fun _ => HTIN.out (by trivial) HTL.out⟩
            case measure => simp [intOf]; omega
           ·
            have htl2 : P2 ≤ (Z : Int) + P1 := by omega
            clear htl
            go_wp2
            go_roundw
            case rel => exact ⟨k + 1, qx, true, hlt, by go_num, by go_num, HW.out, HARN.out, fun h => by cases h⟩
            case measure => simp [intOf]; omega
         ·
          have hvb : ((v : Int) != N) = true := by rw [bne_iff_ne]; exact hvn
          go_wp2
          go_ret
          exact ⟨140, rfl, HW.out.kept.below, fun h => by cases h⟩
     ·
      have hlti : ¬ (k : Int) < l.length := by omega
      obtain rfl : k = l.length := by omega
      have ha := HARC.out
      have ht := HTIG.out
      rw [List.take_length] at ha ht
      have HBO : Hid (z = false → BlocksP g (blocksL l)) := Lib.hid (fun h => blocks_of HOA.out ha (ht h))
      clear ha ht hlt hk
      cases z with
      | true =>
       go_wp2
       go_ret
       exact ⟨141, rfl, HW.out.kept.below, fun h => by cases h⟩
      | false =>
       go_wp2
       go_ret
       exact ⟨0, rfl, HW.out.kept.below, fun _ => ⟨HBO.out (by trivial), HOA.out⟩⟩
end Go.Proofs.YtaholpfikcdhbaaGreat

/- Rig.Play. -/
namespace Go.Proofs.YtaholpfikcdhbaaGreat
open Go.RowKit
theorem play_drop {g : GGraph} {caps : List Int} {l : List Int} {r : RunP} {j : Nat} (h : j < l.length) (he : ¬ readyL g caps r = []) : playP g caps (l.drop j) r = ((playP g caps (l.drop (j + 1)) (stepR g caps r ((readyL g caps r)[pickP l[j] (readyL g caps r).length]?.getD 0)).1).1, (playP g caps (l.drop (j + 1)) (stepR g caps r ((readyL g caps r)[pickP l[j] (readyL g caps r).length]?.getD 0)).1).2 + 1) := by
 rw [List.drop_eq_getElem_cons h, playP, if_neg he]
theorem play_none {g : GGraph} {caps : List Int} {l : List Int} {r : RunP} (he : readyL g caps r = []) : playP g caps l r = (r, 0) := by
 cases l with
 | nil => rfl
 | cons p l => rw [playP, if_pos he]
theorem ready_few (g : GGraph) (caps : List Int) (r : RunP) : (readyL g caps r).length ≤ g.actors.length := by
 unfold readyL
 cases r.failed with
 | some t => simp
 | none => exact Nat.le_trans (List.length_filter_le _ _) (by simp)
theorem pick_eq (p : Int) {L : Nat} (hL : 0 < L) : Int.tmod (Int.tmod p L + L) L = ((pickP p L : Nat) : Int) ∧ pickP p L < L ∧ -(L : Int) < Int.tmod p L ∧ Int.tmod p L < L := by
 have h0 : (0 : Int) < L := by omega
 have e1 : 0 ≤ p % (L : Int) := Int.emod_nonneg p (by omega)
 have e2 : p % (L : Int) < L := Int.emod_lt_of_pos p h0
 have hz : (pickP p L : Int) = p % (L : Int) := Int.toNat_of_nonneg e1
 have h1 : -(L : Int) < Int.tmod p L ∧ Int.tmod p L < L := by
  refine ⟨?_, Int.tmod_lt_of_pos p h0⟩
  have := Int.lt_tmod_of_pos p h0
  exact this
 refine ⟨?_, by omega, h1⟩
 rw [hz]
 have h2 : 0 ≤ Int.tmod p L + L := by omega
 rw [Int.tmod_eq_emod_of_nonneg h2, Int.add_emod_right]
 have h3 : Int.tmod p L = p - L * Int.tdiv p L := by have := Int.mul_tdiv_add_tmod p L; omega
 rw [h3, Int.sub_mul_emod_self_left]
set_option maxRecDepth 100000 in
set_option maxHeartbeats 4000000 in
theorem dPlay_ok {w : World} {o : Col} {R b c : Nat} {g : GGraph} {caps : List Int} {M : Nat} {J : Nat → Nat} {qs : Ptrs} {tb : Nat → Nat} {r : RunP} {v : RVals} {ao : Option Addr} {n cap : Nat} {l : List Int} (h : RigOk w o R b g caps M J qs tb r v) (hG : GOk g caps) (hl : Ints w o c (.slice ao n cap) l) (hc : ¬ MineR R c) (hf : ∀ x ∈ l, Fits x) (hM : M + l.length < 27000000000000) :
  Calls Tryz.prog 15 #[.pointer (some ⟨b, 0, none⟩), .slice ao n cap] w (OkRet w o R b g caps (M + l.length) J qs tb (playP g caps l r).1 (.int .i64 (playP g caps l r).2)) := by
 obtain rfl : n = l.length := Ints.len hl
 obtain ⟨F, hF⟩ : ∃ F, playP g caps l r = F := ⟨_, rfl⟩
 rw [hF]
 have HF := Lib.hid (show playP g caps (l.drop 0) r = F from hF)
 have H := Lib.hid h
 have HG := Lib.hid hG
 have HL := Lib.hid hl
 have HC := Lib.hid hc
 have HFI := Lib.hid hf
 have HM := Lib.hid hM
 clear h hG hl hc hF hf hM
 go_enter Tryz.func15, Tryz.ntmps15
 go_wp2_with fail
 go_loopw [10] (fun i wl => ∃ (j : Nat) (r' : RunP) (o' : Col) (v' : RVals), j ≤ l.length ∧ i = .int .i64 j ∧ Turn o o' (MineR R) w wl ∧ RigOk wl o' R b g caps (M + j) J qs tb r' v' ∧ (playP g caps (l.drop j) r').1 = F.1 ∧ (playP g caps (l.drop j) r').2 + j = F.2) (fun i _ => l.length - (intOf i).toNat)
 case atStart => exact ⟨0, r, o, v, Nat.zero_le _, rfl, Turn.refl _ _ _, H.out, by rw [HF.out], by rw [HF.out]; rfl⟩
 case round =>
  obtain ⟨j, r', o', v', hj, rfl, T, hR, e1, e2⟩ := hrel
  have HT := Lib.hid T
  have HR := Lib.hid hR
  have HE := Lib.hid (And.intro e1 e2)
  clear T hR e1 e2
  have hlm : l.length ≤ 27000000000000 := by have := HM.out; omega
  by_cases hlt : j < l.length
  ·
   have hlti : (j : Int) < l.length := by omega
   obtain ⟨lb, lo, rfl, -, hcp, -, -, hcl⟩ := Ints.at (HL.out.turn HT.out HC.out) (by omega)
   have hcpi : (l.length : Int) ≤ cap := by omega
   have cj := hcl j hlt
   rw [List.getElem?_eq_getElem hlt] at cj
   change wr.cell? _ = some (iv l[j]) at cj
   obtain ⟨p, hp⟩ : ∃ p, l[j] = p := ⟨_, rfl⟩
   rw [hp] at cj
   have HP := Lib.hid hp
   have hpf := HFI.out l[j] (List.getElem_mem hlt)
   rw [hp] at hpf
   have HPF := Lib.hid hpf
   have hRd := dReady_any HR.out.mem HG.out.linked HG.out.caps HR.out.ok (fun d => Nat.le_of_lt (HR.out.lt (by have := HM.out; omega) d))
   have hfew := ready_few g caps r'
   have h32 := HR.out.mem.few.1
   obtain ⟨L, hL⟩ : ∃ L, (readyL g caps r').length = L := ⟨_, rfl⟩
   have hLI : (rdyI g caps r').length = L := by unfold rdyI; rw [List.length_map, hL]
   unfold DInts at hRd
   rw [hLI] at hRd
   rw [hL] at hfew
   have hL32 : L ≤ 32 := by omega
   have HRD := Lib.hid hRd
   have HLL := Lib.hid hL
   clear hcl hp hpf hRd hfew h32 hL hLI hcp
   go_wp2_with fail
   refine HRD.out.mono ?_
   rintro e w1 ⟨x, rfl, hO, hB⟩
   obtain ⟨sa, sc, rfl⟩ := owns_slice hO
   have HB := Lib.hid hB
   have HO := Lib.hid hO
   clear hO hB cj
   by_cases hL0 : L = 0
   ·
    subst hL0
    go_wp2_with fail
    go_ret
    have hnil : readyL g caps r' = [] := List.eq_nil_of_length_eq_zero HLL.out
    obtain ⟨e1, e2⟩ := HE.out
    rw [play_none hnil] at e1 e2
    have hb := HR.out.turn (Turn.of_below o' 0 HB.out) (fun _ h => h.elim)
    refine ⟨ext o' wr.heap.size 0, v', ?_, HT.out.trans ((Turn.of_below o' 0 HB.out).mono (fun _ h => h.elim)) (fun _ h => h), ?_⟩
    ·
     rw [← e2]; simp
    ·
     rw [← e1]; exact hb.mono (by omega)
   ·
    have hLz : ((L : Int) == 0) = false := by rw [beq_eq_false_iff_ne]; omega
    obtain ⟨k1, k2, k3, k4⟩ := pick_eq p (L := L) (by omega)
    have hwr : wrap64 (p.tmod L + L) = p.tmod L + L := IntWalk.wrap64_in _ (by omega)
    rw [← hwr] at k1
    obtain ⟨z, hz⟩ : ∃ z, pickP p L = z := ⟨_, rfl⟩
    rw [hz] at k1 k2
    have HZ := Lib.hid hz
    have hzi : (z : Int) < L := by omega
    have hO := (Own.made o' 0 HO.out).vals
    have hI : Ints w1 (ext o' wr.heap.size 0) 0 (.slice sa L sc) (rdyI g caps r') := hO
    have hlr : (rdyI g caps r').length = L := by unfold rdyI; rw [List.length_map, HLL.out]
    obtain ⟨gr, ro, rfl, -, hcp, -, -, hcl⟩ := hI.at (by omega)
    have hcpi2 : (L : Int) ≤ sc := by omega
    have cz := hcl z (by omega)
    obtain ⟨t, ht⟩ : ∃ t, (readyL g caps r')[z]?.getD 0 = t := ⟨_, rfl⟩
    have hzt : (rdyI g caps r')[z]?.getD 0 = (t : Int) := by
     have hzl : z < (readyL g caps r').length := by rw [HLL.out]; exact k2
     rw [← ht]
     unfold rdyI
     rw [List.getElem?_map, List.getElem?_eq_getElem hzl]
     rfl
    rw [hzt] at cz
    change w1.cell? _ = some (.int .i64 (t : Int)) at cz
    have HT9 := Lib.hid ht
    have hR1 := Lib.hid (HR.out.turn (Turn.of_below o' 0 HB.out) (fun _ h => h.elim))
    have hT1 := Lib.hid (HT.out.trans ((Turn.of_below o' 0 HB.out).mono (fun _ h => h.elim)) (fun _ h => h))
    generalize ext o' wr.heap.size 0 = o1 at *
    clear k2 k3 k4 hwr hz hO hI hlr hcp hcl hzt ht
    go_wp2_with fail
    refine (dStep_ok (t : Int) hR1.out HG.out (by have := HM.out; omega)).mono ?_
    rw [stepI_nat]
    rintro e w2 ⟨o2, v2, rfl, T2, hR2⟩
    have HR2 := Lib.hid hR2
    have HT2 := Lib.hid (hT1.out.trans T2 (fun _ h => h))
    have hne : ¬ readyL g caps r' = [] := fun h => hL0 (by have := HLL.out; rw [h] at this; exact this.symm)
    obtain ⟨e1, e2⟩ := HE.out
    rw [play_drop hlt hne, HLL.out, HP.out, HZ.out, HT9.out] at e1 e2
    have HE2 := Lib.hid (And.intro e1 e2)
    clear T2 hR2 e1 e2 hne
    go_wp2
    go_roundw
    case rel => exact ⟨j + 1, _, _, _, hlt, by go_num, HT2.out, HR2.out, HE2.out.1, by have := HE2.out.2; omega⟩
    case measure => simp [intOf]; omega
  ·
   obtain rfl : j = l.length := by omega
   have hlti : ¬ ((l.length : Int) < l.length) := by omega
   go_wp2_with fail
   go_ret
   obtain ⟨e1, e2⟩ := HE.out
   rw [List.drop_length] at e1 e2
   refine ⟨o', v', ?_, HT.out, ?_⟩
   ·
    have : l.length = F.2 := by rw [← e2]; show l.length = 0 + l.length; omega
    rw [← this]
    rfl
   ·
    rw [← e1]; exact HR.out
end Go.Proofs.YtaholpfikcdhbaaGreat

/- DynStuck, walked: nobody passes a confirmed block. -/
namespace Go.Proofs.YtaholpfikcdhbaaGreat
open Go.RowKit
theorem HasRun.graph {w : World} {n va ve vi vo vc vf : Value} {g : GGraph} {caps : List Int} {fed : List (List Int)} (h : HasRun w (.agg #[n, va, ve, vi, vo, vc, vf]) g caps fed) : HasGraph w (.agg #[n, va, ve, vi, vo]) g := by
 obtain ⟨n1, va1, ve1, vi1, vo1, vc1, vf1, e, h1, _, _⟩ := h
 simp only [Value.agg.injEq, Array.mk.injEq, List.cons.injEq, and_true] at e
 obtain ⟨rfl, rfl, rfl, rfl, rfl, rfl, rfl⟩ := e
 exact h1
theorem start_below {g : GGraph} {fed : List (List Int)} {l : List (Nat × Nat × Int)} (h : BlocksP g l) : Below' l (feedS g fed (newRig g)) := fun b hb => by
 have := h.nn b hb
 have e : begunN ((feedS g fed (newRig g)).tasks b.1) = 0 := by
  unfold feedS newRig newTask begunN
  simp
 omega
theorem reach_below {g : GGraph} {caps : List Int} {s : RigP} {r : RunP} {l : List (Nat × Nat × Int)} {M : Nat} (hg : ActsOk g) (hw : Wired g) (hcl : caps.length = g.edges.length) (hb : BlocksP g l) (hr : Reach g caps s r) (hR : ROk g M s) (hC : Cnt g caps s) (hB : Below' l s) : Below' l r.rig := by
 obtain ⟨⟨m, hm⟩, -⟩ := hr
 exact (run_keeps hg hw hcl hb hm hR hC hB).2.2
/- what else turns: $1 not at 0, $2 not at 20000 -/
set_option maxRecDepth 100000 in
set_option maxHeartbeats 4000000 in
theorem dynstuck_all (w : World) (v vb vl : Value) (g : GGraph) (caps : List Int) (fed : List (List Int)) (bs : List GBlock) (script : List Int) (hv : HasRun w v g caps fed) (ok : RunOk g caps fed) (hb : Recs w 3 BlockR vb bs) (hbf : ∀ b ∈ bs, Fits b.node ∧ Fits b.fired ∧ Fits b.arc) (hbn : bs.length ≤ 17600000000000) (hl : Has w vl (ivs script)) (hlf : ∀ x ∈ script, Fits x) (hn : script.length ≤ 1000000000000) : Calls Tryz.prog 11 #[v, vb, vl] w (Tells (.bool true) w) := by
 obtain ⟨la, lc, rfl⟩ := Ints.slice hl
 obtain ⟨ba, bc, rfl⟩ := hb.slice
 have HLE := Lib.hid hl
 have HLF := Lib.hid hlf
 have HBS := Lib.hid hb
 have HBF := Lib.hid hbf
 clear hl hlf hb hbf
 obtain ⟨nm, va, ve, vi, vo, vc, vf, rfl, hg, hc, hf⟩ := hv
 obtain ⟨_, _, _, _, e0, ra, re, ri, ro⟩ := hg.shape
 obtain ⟨aa, ac, rfl⟩ := ra.slice
 obtain ⟨ae, ec, rfl⟩ := re.slice
 obtain ⟨ai, ic, rfl⟩ := ri.slice
 obtain ⟨ao, oc, rfl⟩ := ro.slice
 simp only [Value.agg.injEq, Array.mk.injEq, List.cons.injEq, and_true] at e0
 obtain ⟨rfl, rfl, rfl, rfl, rfl⟩ := e0
 obtain ⟨ca, cc, rfl⟩ := Ints.slice hc
 obtain ⟨fa, fc, rfl⟩ := hf.slice
 have hrun : HasRun w (.agg #[.string g.name, .slice aa g.actors.length ac, .slice ae g.edges.length ec, .slice ai g.ins.length ic, .slice ao g.outs.length oc, .slice ca caps.length cc, .slice fa fed.length fc]) g caps fed := ⟨_, _, _, _, _, _, _, rfl, hg, hc, hf⟩
 have HRUN := Lib.hid hrun
 have OK := Lib.hid ok
 have hb1 := below_alloc w (.cells #[.string g.name, .slice aa g.actors.length ac, .slice ae g.edges.length ec, .slice ai g.ins.length ic, .slice ao g.outs.length oc, .slice ca caps.length cc, .slice fa fed.length fc] 30)
 have T1 := Turn.of_below (fun _ => 0) 20000 hb1
 have hX := blk_new (w := w) (fun _ => 0) 20000 #[.string g.name, .slice aa g.actors.length ac, .slice ae g.edges.length ec, .slice ai g.ins.length ic, .slice ao g.outs.length oc, .slice ca caps.length cc, .slice fa fed.length fc] 30
 have HX := Lib.hid hX
 have HK := Lib.hid ((Kept.start w).turn T1 (fun h => h))
 generalize ext (fun _ => 0) w.heap.size 20000 = o1 at *
 obtain ⟨w1, hw1⟩ : ∃ x, w.alloc (.cells #[.string g.name, .slice aa g.actors.length ac, .slice ae g.edges.length ec, .slice ai g.ins.length ic, .slice ao g.outs.length oc, .slice ca caps.length cc, .slice fa fed.length fc] 30) = x := ⟨_, rfl⟩
 rw [hw1] at HX HK
 clear hb1 T1 hX hg hc hf ok ra re ri ro hrun
 have x0 := HX.out.cell 0 _ rfl
 have x1 := HX.out.cell 1 _ rfl
 have x2 := HX.out.cell 2 _ rfl
 have x3 := HX.out.cell 3 _ rfl
 have x4 := HX.out.cell 4 _ rfl
 have x5 := HX.out.cell 5 _ rfl
 have x6 := HX.out.cell 6 _ rfl
 go_enter Tryz.func11, Tryz.ntmps11
 go_wp2_with fail
 clear hw1
 refine (start_any (R := 1) (Nat.le_refl _) HK.out HRUN.out OK.out).mono ?_
 intro e w2 hret
 by_cases h0 : newE g caps = 0
 case neg =>
  obtain ⟨rfl, o2, T2⟩ := hret.1 h0
  replace HK := Lib.hid (HK.out.turn T2 (fun h => h))
  replace HX := Lib.hid (HX.out.turn T2 (fun h => h))
  have H0 := Lib.hid h0
  clear T2 hret h0
  clear x0 x1 x2 x3 x4 x5 x6
  have x0 := HX.out.cell 0 _ rfl
  have x1 := HX.out.cell 1 _ rfl
  have x2 := HX.out.cell 2 _ rfl
  have x3 := HX.out.cell 3 _ rfl
  have x4 := HX.out.cell 4 _ rfl
  have x5 := HX.out.cell 5 _ rfl
  have x6 := HX.out.cell 6 _ rfl
  go_wp2_with fail
  refine (refused_yes (HRUN.out.below HK.out.below) OK.out H0.out).mono ?_
  rintro e w4 ⟨rfl, hb4⟩
  clear x0 x1 x2 x3 x4 x5 x6
  have HB4 := Lib.hid (HK.out.below.trans (hb4.mono HK.out.size))
  clear hb4
  go_wp2_with fail
  refine (dawake_yes _).mono ?_
  rintro e w5 ⟨rfl, hb5⟩
  have HB5 := Lib.hid (HB4.out.trans (hb5.mono HB4.out.size))
  clear hb5
  go_wp2
  go_ret
  exact ⟨rfl, HB5.out⟩
 case pos =>
  obtain ⟨b1, o2, q1, v1, J1, rfl, T2, hM1, hG, hJ1⟩ := hret.2 h0
  have hz : ¬ MineR 1 20000 := by unfold MineR; omega
  have hz3 : ¬ MineR 1 0 := by unfold MineR; omega
  replace HK := Lib.hid (HK.out.turn T2 hz3)
  replace HX := Lib.hid (HX.out.turn T2 hz)
  have H0 := Lib.hid h0
  have HM1 := Lib.hid hM1
  have HG := Lib.hid hG
  have HJ1 := Lib.hid hJ1
  clear T2 hret h0 hM1 hG hJ1 hz hz3
  clear x0 x1 x2 x3 x4 x5 x6
  have x0 := HX.out.cell 0 _ rfl
  have x1 := HX.out.cell 1 _ rfl
  have x2 := HX.out.cell 2 _ rfl
  have x3 := HX.out.cell 3 _ rfl
  have x4 := HX.out.cell 4 _ rfl
  have x5 := HX.out.cell 5 _ rfl
  have x6 := HX.out.cell 6 _ rfl
  obtain ⟨s, hz⟩ : ∃ x, feedS g fed (newRig g) = x := ⟨_, rfl⟩
  have hcs : Cnt g caps s := by rw [← hz]; exact start_cnt
  have HCS := Lib.hid hcs
  have HSB : Hid (BlocksP g (blocksL bs) → Below' (blocksL bs) s) := Lib.hid (fun h => by rw [← hz]; exact start_below h)
  rw [hz] at HM1
  have HRS := Lib.hid HM1.out.ok
  have hck := (newE_lens H0.out).1
  have HCK := Lib.hid hck
  have HSD := Lib.hid (sound_of hck)
  obtain ⟨hf1, hf2, hf3, hf4⟩ := HM1.out.mem.few
  clear hz HJ1 hcs hck
  go_wp2_with fail
  refine (netof_any _ _ g (HRUN.out.graph.below HK.out.below) OK.out.sized HCK.out).mono ?_
  rintro e w4 ⟨va, rfl, oa, hb4⟩
  obtain ⟨sa, sc, rfl⟩ := owns_slice oa
  clear x0 x1 x2 x3 x4 x5 x6
  have TT := Turn.of_below o2 20003 hb4
  have har := Own.made o2 20003 oa
  have HAR : Hid (ArcsIn w4 sa sc g) := Lib.hid (fun j hj => arc_cell har hj)
  replace HK := Lib.hid (HK.out.turn TT (fun h => h))
  replace HM1 := Lib.hid (HM1.out.turn TT (fun _ h => h.elim))
  generalize ext o2 w2.heap.size 20003 = o4 at *
  clear TT hb4 oa har HX
  have hb5 := below_alloc w4 (.cells #[.int .i64 (g.actors.length : Nat), .slice sa g.edges.length sc] 74)
  have TT := Turn.of_below o4 20002 hb5
  have hNB := blk_new (w := w4) o4 20002 #[.int .i64 (g.actors.length : Nat), .slice sa g.edges.length sc] 74
  replace HK := Lib.hid (HK.out.turn TT (fun h => h))
  replace HAR := Lib.hid (HAR.out.below hb5)
  replace HM1 := Lib.hid (HM1.out.turn TT (fun _ h => h.elim))
  generalize ext o4 w4.heap.size 20002 = o5 at *
  have n0 := hNB.cell 0 (.int .i64 (g.actors.length : Nat)) rfl
  have n1 := hNB.cell 1 (.slice sa g.edges.length sc) rfl
  clear TT hb5 hNB
  go_wp2_with fail
  refine (confirm_any _ g sa sc _ bs HSD.out HG.out.acts HAR.out (HBS.out.below (fun _ _ _ _ _ h => h) HK.out.below) HBF.out hbn).mono ?_
  rintro e w5 ⟨x, rfl, hb6, hx⟩
  have TT := Turn.of_below o5 0 hb6
  replace HK := Lib.hid (HK.out.turn TT (fun h => h))
  replace HM1 := Lib.hid (HM1.out.turn TT (fun _ h => h.elim))
  generalize ext o5 _ 0 = o6 at *
  have HXX := Lib.hid hx
  clear TT hb6 n0 n1 hx HAR
  by_cases h0 : x = 0
  ·
   subst h0
   obtain ⟨hbp, hbo⟩ := HXX.out rfl
   have HBP := Lib.hid hbp
   have HBO := Lib.hid hbo
   have HSB2 := Lib.hid (HSB.out hbp)
   clear hbp hbo HXX HSB
   go_wp2_with fail
   go_loopw [10] (fun i wz => ∃ (k : Nat) (q : Col) (r : RunP) (u : RVals), k ≤ 2 ∧ i = .int .i64 k ∧ Kept w.heap.size q w wz ∧ RigOk wz q 1 b1 g caps (256 + k * (script.length + 131072)) J1 q1 v1.tb r u ∧ Reach g caps s r) (fun i _ => 2 - (intOf i).toNat)
   case atStart => exact ⟨0, o6, _, v1, Nat.zero_le _, rfl, HK.out, by rw [Nat.zero_mul]; exact HM1.out, Reach.start g caps s⟩
   case round =>
    clear HK HM1
    obtain ⟨k, q, r, u, hk, rfl, hK, hM1, hR⟩ := hrel
    have HK := Lib.hid hK
    have HM1 := Lib.hid hM1
    have HR := Lib.hid hR
    clear hK hM1 hR
    by_cases hlt : k < 2
    ·
     have hlti : (k : Int) < 2 := by omega
     have hkm : k * (script.length + 131072) ≤ 1 * (script.length + 131072) := Nat.mul_le_mul_right _ (by omega)
     have HKM := Lib.hid hkm
     have HKS : Hid ((k + 1) * (script.length + 131072) = k * (script.length + 131072) + (script.length + 131072)) := Lib.hid (Nat.succ_mul _ _)
     obtain ⟨km, hkme⟩ : ∃ x, k * (script.length + 131072) = x := ⟨_, rfl⟩
     rw [hkme] at HM1 HKM HKS
     clear hkm hkme
     go_wp2_with fail
     refine (dPlay_ok HM1.out HG.out (HK.out.vals HLE.out) (by unfold MineR; omega) HLF.out (by have := HKM.out; omega)).mono ?_
     rintro e w6 ⟨o6, u6, rfl, TT, hM⟩
     replace HK := Lib.hid (HK.out.turn TT (by unfold MineR; omega))
     replace HM1 := Lib.hid hM
     replace HR := Lib.hid (HR.out.play script)
     clear TT hM
     obtain ⟨r2, hr2⟩ : ∃ x, (playP g caps script r).1 = x := ⟨_, rfl⟩
     rw [hr2] at HM1 HR
     clear hr2
     have HBE := Lib.hid (reach_below HG.out.acts HSD.out.wired HG.out.caps HBP.out HR.out HRS.out HCS.out HSB2.out)
     go_wp2_with fail
     refine (dFired_any HM1.out.mem).mono ?_
     rintro e w8 ⟨lv, rfl, ow, hb⟩
     obtain ⟨ja, jc, rfl⟩ := owns_slice ow
     have TT := Turn.of_below o6 0 hb
     have HFT := Lib.hid (Own.made o6 0 ow).vals
     replace HK := Lib.hid (HK.out.turn TT (fun h => h))
     replace HM1 := Lib.hid (HM1.out.turn TT (fun _ h => h.elim))
     generalize ext o6 _ 0 = o8 at *
     clear TT hb ow
     have hfl1 : (firedI g r2).length = g.actors.length := by simp [firedI]
     have HFL := Lib.hid hfl1
     clear hfl1
     go_wp2_with fail
     go_loopw [12] (fun i wz => ∃ (j : Nat) (q : Col), j ≤ bs.length ∧ i = .int .i64 j ∧ Kept w.heap.size q w wz ∧ RigOk wz q 1 b1 g caps (256 + km + script.length) J1 q1 v1.tb r2 u6 ∧ Ints wz q 0 (.slice ja (firedI g r2).length jc) (firedI g r2)) (fun i _ => bs.length - (intOf i).toNat)
     case atStart => exact ⟨0, o8, Nat.zero_le _, rfl, HK.out, HM1.out, HFT.out⟩
     case round =>
      clear HK HM1 HFT
      obtain ⟨j, q, hj, rfl, hK, hM1, hFT⟩ := hrel
      have HK := Lib.hid hK
      have HM1 := Lib.hid hM1
      have HFT := Lib.hid hFT
      clear hK hM1 hFT
      by_cases hjl : j < bs.length
      ·
       have hjli : (j : Int) < bs.length := by omega
       obtain ⟨b0, off, rfl, hcap, hb0, hrec⟩ := HBS.out.at (by omega)
       obtain ⟨cs, hcs, hPR, hcl⟩ := hrec j hjl
       obtain rfl := hPR
       have c0 := cell_later HK.out.below (hcl 0 (by omega))
       have c1 := cell_later HK.out.below (hcl 1 (by omega))
       simp at c0 c1
       have hcapi : (bs.length : Int) ≤ bc := by omega
       obtain ⟨bl, hbl⟩ : ∃ x, bs[j] = x := ⟨_, rfl⟩
       have hmem : bl ∈ bs := by rw [← hbl]; exact List.getElem_mem hjl
       have hok := HBO.out bl hmem
       have hbel := HBE.out (bl.node.toNat, bl.arc.toNat, bl.fired) (List.mem_map.2 ⟨bl, hmem, rfl⟩)
       have hwb := whole_begun (r2.rig.tasks bl.node.toNat)
       rw [hbl] at c0 c1
       obtain ⟨N, F, A⟩ := bl
       obtain ⟨n, hn2⟩ := Int.eq_ofNat_of_zero_le hok.1.1
       have hn3 := hok.1.2
       change N = (n : Int) at hn2
       subst hn2
       change (n : Int) < g.actors.length at hn3
       change begunN (r2.rig.tasks (n : Int).toNat) ≤ F at hbel
       change ((r2.rig.tasks (n : Int).toNat).whole : Int) ≤ begunN (r2.rig.tasks (n : Int).toNat) at hwb
       rw [Int.toNat_natCast] at hbel hwb
       obtain ⟨fb, ff, rfl, -, hjc, -, -, hfc⟩ := Ints.at HFT.out (by have := HFL.out; omega)
       have k2 := hfc n (by have := HFL.out; omega)
       rw [show (firedI g r2)[n]?.getD 0 = ((r2.rig.tasks n).whole : Int) by unfold firedI; rw [List.getElem?_map, List.getElem?_range (by omega)]; rfl] at k2
       obtain ⟨Fu, hFu⟩ : ∃ x : Int, ((r2.rig.tasks n).whole : Int) = x := ⟨_, rfl⟩
       rw [hFu] at k2 hwb
       change wr.cell? _ = some (.int .i64 Fu) at k2
       have HD1 : Hid (decide ((n : Int) < 0) = false) := Lib.hid (decide_eq_false (by omega))
       have HD2 : Hid (¬ ((firedI g r2).length : Int) ≤ (n : Int)) := Lib.hid (by have := HFL.out; omega)
       have HD3 : Hid (¬ F < Fu) := Lib.hid (by omega)
       have hj1 : (n : Int) < (firedI g r2).length := by have := HFL.out; omega
       have hj5 : ((firedI g r2).length : Int) ≤ jc := by omega
       have TD : Turn q q (fun _ => False) wr wr.drew := (Turn.refl q _ wr).drew
       have HKD := Lib.hid (HK.out.turn TD (fun h => h))
       have HM1D := Lib.hid (HM1.out.turn TD (fun _ h => h.elim))
       have HFTD := Lib.hid (HFT.out.turn TD (fun h => h))
       clear TD hfc hFu hjc hrec hcl hcs hb0 hcap hbl hmem hok hbel hwb hn3
       go_wp2_with fail
       have d1 := HD1.out
       have d2 := HD2.out
       have d3 := HD3.out
       have d4 : decide (F < Fu) = false := decide_eq_false (by omega)
       have d5 : decide ((firedI g r2).length ≤ n) = false := decide_eq_false (by omega)
       refine wp_region_lex (fun w' => w'.cell? ⟨fb, ff + n, none⟩ = some (.int .i64 Fu) ∧ w'.cell? ⟨b0, off + j * 3 + 1, none⟩ = some (.int .i64 F)) [0, 1, 2, 3, 4, 5, 6, 7, 8, 9, 10, 11, 12, 13, 14, 15, 16, 17, 18, 19] [] (by kernel_rfl) (by kernel_rfl) rfl (fun _ _ hx h => ⟨hx.cell h.1, hx.cell h.2⟩) ⟨k2, c1⟩ ?_
       intro Q' hQ'
       simp only [pickOps, List.flatMap_cons, List.flatMap_nil, List.drop_succ_cons, List.drop_zero, List.take_succ_cons, List.take_zero, List.cons_append, List.nil_append, List.append_nil]
       repeat (first
        | (refine wpReads_skip (by rfl) ?_; (try simp only [Act.put, List.setIfInBounds_toArray, List.set_cons_zero, List.set_cons_succ]))
        | (refine wpReads_cons ?_ (by rfl) (by rfl) ?_ ?_; rotate_left; (intro wz hz; (try dsimp only at hz); go_simp; try with_reducible rfl); (try simp only [Act.put, List.setIfInBounds_toArray, List.set_cons_zero, List.set_cons_succ]))
        | (refine wpReads_any ?_ (by rfl) ?_ ?_; rotate_left; (intro wz; go_simp; try with_reducible rfl); (try simp only [Act.put, List.setIfInBounds_toArray, List.set_cons_zero, List.set_cons_succ])))
       refine wpReads_nil ?_
       go_wp2
       go_roundw
       case rel => exact ⟨j + 1, q, hjl, by go_num, HKD.out, HM1D.out, HFTD.out⟩
       case measure => simp [intOf]; omega
      ·
       have hjli : ¬ (j : Int) < bs.length := by omega
       clear hjl hj HFT
       go_wp2_with fail
       refine (dRounds_ok 64 HM1.out HG.out (by have := HKM.out; omega)).mono ?_
       rintro e w9 ⟨o9, u9, rfl, TT, hM⟩
       replace HK := Lib.hid (HK.out.turn TT (by unfold MineR; omega))
       replace HM1 := Lib.hid hM
       replace HR := Lib.hid (HR.out.rounds (min (64 : Int) 4096).toNat)
       clear TT hM
       go_wp2
       go_roundw
       case rel => exact ⟨k + 1, o9, _, u9, by omega, by go_num, HK.out, by rw [HKS.out]; exact HM1.out.mono (by omega), HR.out⟩
       case measure => simp [intOf]; omega
    ·
     have hlti : ¬ (k : Int) < 2 := by omega
     go_wp2_with fail
     refine (dawake_yes _).mono ?_
     rintro e wz ⟨rfl, hbz⟩
     have HBZ := Lib.hid (HK.out.below.trans (hbz.mono HK.out.size))
     clear hbz
     go_wp2
     go_ret
     exact ⟨rfl, HBZ.out⟩
  ·
   have hxb : (x != 0) = true := by rw [bne_iff_ne]; exact h0
   clear h0 HXX HSB
   go_wp2_with fail
   refine (dawake_yes _).mono ?_
   rintro e wz ⟨rfl, hbz⟩
   have HBZ := Lib.hid (HK.out.below.trans (hbz.mono HK.out.size))
   clear hbz
   go_wp2
   go_ret
   exact ⟨rfl, HBZ.out⟩
end Go.Proofs.YtaholpfikcdhbaaGreat

/- What came in, said plainly for a walk: a slice of ints. No program in sight. -/
namespace Go.Proofs.YtaholpfikcdhbaaGreat
open Go.ChangeShapes Go.WideShapes Go.ChangeAt Go.RowKit Go.Deep
def InInts (w : World) (v : Value) (zs : List Int) : Prop :=
 ∃ ao cap, v = .slice ao zs.length cap ∧ zs.length ≤ cap ∧ cap ≤ maxLen ∧ (ao = none → zs.length = 0) ∧ (∀ n ∈ zs, -9223372036854775808 ≤ n ∧ n ≤ 9223372036854775807) ∧
  ∀ ad, ao = some ad → ∀ j u, (zs.map (Value.int .i64))[j]? = some u → w.cell? (ad.add j) = some u
theorem wf_i64 {n : Int} (h : (Lit.int .i64 n).wf = true) : -9223372036854775808 ≤ n ∧ n ≤ 9223372036854775807 := by
 simp [Lit.wf] at h
 have h1 : IntKind.i64.min = -9223372036854775808 := rfl
 have h2 : IntKind.i64.max = 9223372036854775807 := rfl
 omega
def DLen {H : Type} (d : DataW H) (n : Nat) : Prop := (d = .nil ∧ n = 0) ∨ ∃ el sp, d = .slice el sp ∧ el.length = n
theorem DLen.reach {H : Type} {P : Program} {ts : List TypeId} {ds : List (DataW H)} {d : DataW H} {n j : Nat} {t e : TypeId} (h : DLen d n) (hs : (DataW.weightsEach P ts ds).all (· ≤ reachBytes) = true) (ht : ts[j]? = some t) (hd : ds[j]? = some d) (hu : P.underlying t = some (.slice e)) : n * P.bytesOf e ≤ 140737488351232 := by
 rcases h with ⟨rfl, rfl⟩ | ⟨el, sp, rfl, rfl⟩
 ·
  omega
 ·
  have := sized_slice hs ht hd hu
  have h1 : el.length * P.bytesOf e ≤ (el.length + sp.length) * P.bytesOf e := Nat.mul_le_mul_right _ (by omega)
  have h2 : reachBytes = 140737488351232 := rfl
  omega
theorem open_in_ints {P : Program} {H : Type} {enc : TypeId × Value → H} {W : World} {t e : TypeId} {v : Value} {d : DataW H} {p : List MemPlace} (ht : P.underlying t = some (.slice e)) (he : P.underlying e = some (.int .i64)) (hc : P.cellsOf e = 1)
  (hv : ∃ a len cap, v = .slice a len cap) (h : DataW.Trod enc P W 0 (fun _ => true) true t v d p) : ∃ zs, InInts W v zs ∧ DLen d zs.length := by
 obtain ⟨a1, len1, cap1, rfl⟩ := hv
 obtain ⟨fuel, hf⟩ := h
 rcases open_ints ht he hc hf with ⟨hcs, hx⟩ | ⟨x, l, c, zs, hcs, _, hl, hm, hz, hx, hcell, hwz⟩
 ·
  simp [Value.cells] at hcs
  obtain ⟨rfl, rfl, rfl⟩ := hcs
  obtain rfl : d = .nil := congrArg Prod.fst hx
  exact ⟨[], ⟨none, 0, rfl, Nat.le_refl _, Nat.zero_le _, fun _ => rfl, by simp, fun _ h => by cases h⟩, .inl ⟨rfl, rfl⟩⟩
 ·
  simp [Value.cells] at hcs
  obtain ⟨rfl, rfl, rfl⟩ := hcs
  simp at hz
  obtain rfl : d = _ := congrArg Prod.fst hx
  have hlen : (zs.take len1).length = len1 := by rw [List.length_take]; omega
  refine ⟨zs.take len1, ⟨some x, cap1, by rw [hlen], by omega, hm, (fun h => by cases h), fun n hn => ?_, ?_⟩, .inr ⟨_, _, rfl, by simp [lits]⟩⟩
  ·
   exact wf_i64 (hwz n (List.mem_of_mem_take hn))
  ·
   intro ad had j u hu
   obtain rfl := Option.some.inj had
   have hj : j < len1 := by have := (List.getElem?_eq_some_iff.1 hu).1; simp at this; omega
   have hcz := hcell j (by omega)
   rw [hcz]
   have : ((zs.take len1).map (Value.int .i64))[j]? = some (.int .i64 (zs.getD j 0)) := by
    simp [hj, show j < zs.length by omega]
   rw [this] at hu
   exact hu
theorem InInts.has {W : World} {v : Value} {zs : List Int} (h : InInts W v zs) : Has W v (ivs zs) := by
 obtain ⟨ao, cap, rfl, h1, h2, h3, h4, h5⟩ := h
 by_cases hp : 0 < zs.length
 ·
  cases ao with
  | none => have := h3 rfl; omega
  | some a =>
   have hc : ∀ i, i < zs.length → W.cell? (a.add i) = some (.int .i64 (zs.getD i 0)) := fun i hi => h5 a rfl i _ (by simp [hi])
   obtain ⟨b, off, rfl, hcell⟩ := ints_at hc hp
   refine .inr ⟨by simpa using hp, b, off, cap, by simp, by simpa using h1, World.block_lt_of_cell? _ _ (hcell 0 hp), rfl, fun k hk => ?_⟩
   have hk' : k < zs.length := by simpa using hk
   have := hcell k hk'
   simpa [hk'] using this
 ·
  obtain rfl : zs = [] := List.eq_nil_of_length_eq_zero (by omega)
  exact .inl ⟨rfl, ao, cap, rfl⟩
theorem InInts.fits {W : World} {v : Value} {zs : List Int} (h : InInts W v zs) : ∀ n ∈ zs, -9223372036854775808 ≤ n ∧ n ≤ 9223372036854775807 := h.choose_spec.choose_spec.2.2.2.2.1
end Go.Proofs.YtaholpfikcdhbaaGreat

/- What came in, said plainly for a walk: a slice of slices of ints. No program in sight. -/
namespace Go.Proofs.YtaholpfikcdhbaaGreat
open Go.ChangeShapes Go.WideShapes Go.ChangeAt Go.RowKit Go.Deep
theorem open_in_ints_cells {P : Program} {H : Type} {enc : TypeId × Value → H} {W : World} {t e : TypeId} {x : Value} {fuel : Nat} {y : DataW H × List MemPlace} (ht : P.underlying t = some (.slice e)) (he : P.underlying e = some (.int .i64)) (hc : P.cellsOf e = 1)
  (h : DataW.trod enc P W 0 (fun _ => true) true fuel t [x] = some y) : ∃ zs, InInts W x zs ∧ DLen y.1 zs.length := by
 have hx : ∃ a len cap, x = .slice a len cap := by
  rcases open_ints ht he hc h with ⟨hcs, _⟩ | ⟨a, len, cap, zs, hcs, _⟩
  ·
   exact ⟨_, _, _, List.head_eq_of_cons_eq hcs⟩
  ·
   exact ⟨_, _, _, List.head_eq_of_cons_eq hcs⟩
 obtain ⟨a, len, cap, rfl⟩ := hx
 exact open_in_ints (d := y.1) (p := y.2) ht he hc ⟨_, _, _, rfl⟩ ⟨fuel, by simpa [Value.cells] using h⟩
end Go.Proofs.YtaholpfikcdhbaaGreat

/- What came in, said plainly for a walk: slices of slices of ints and their sizes; two of them in a struct. No program in sight. -/
namespace Go.Proofs.YtaholpfikcdhbaaGreat
open Go.ChangeShapes Go.WideShapes Go.ChangeAt Go.RowKit Go.Deep
theorem weights_mem_all {H : Type} {P : Program} {e : TypeId} {d : DataW H} {x : Nat} : ∀ {l : List (DataW H)}, d ∈ l → x ∈ d.weights P e → x ∈ DataW.weightsAll P e l
 | [], h, _ => by cases h
 | a :: l, h, hx => by
  simp only [DataW.weightsAll, List.mem_append]
  rcases List.mem_cons.1 h with rfl | h
  ·
   exact .inl hx
  ·
   exact .inr (weights_mem_all h hx)
def Light {H : Type} (P : Program) (t : TypeId) (d : DataW H) : Prop := ∀ x ∈ d.weights P t, x ≤ reachBytes
theorem weigh_len {H : Type} {P : Program} {t e : TypeId} {d : DataW H} {n B : Nat} (h : ∀ x ∈ d.weights P t, x ≤ B) (hd : DLen d n) (hu : P.underlying t = some (.slice e)) : n * P.bytesOf e ≤ B := by
 rcases hd with ⟨rfl, rfl⟩ | ⟨el, sp, rfl, rfl⟩
 ·
  simp
 ·
  have := h ((el.length + sp.length) * P.bytesOf e) (by simp [DataW.weights, hu])
  exact Nat.le_trans (Nat.mul_le_mul_right _ (by omega)) this
theorem Light.len {H : Type} {P : Program} {t e : TypeId} {d : DataW H} {n : Nat} (h : Light P t d) (hd : DLen d n) (hu : P.underlying t = some (.slice e)) : n * P.bytesOf e ≤ reachBytes := weigh_len h hd hu
theorem open_rows_by {P : Program} {H : Type} {enc : TypeId × Value → H} {W : World} {t s e : TypeId} {v : Value} {d : DataW H} {p : List MemPlace} (ht : P.underlying t = some (.slice s)) (hs : P.underlying s = some (.slice e)) (he : P.underlying e = some (.int .i64)) (hce : P.cellsOf e = 1) (hcs : P.cellsOf s = 1)
  (hv : ∃ a len cap, v = .slice a len cap) (h : DataW.Trod enc P W 0 (fun _ => true) true t v d p) : ∃ xss, LL W v xss ∧ (∀ l ∈ xss, ∀ x ∈ l, -9223372036854775808 ≤ x ∧ x ≤ 9223372036854775807) ∧ (∀ B, (∀ x ∈ d.weights P t, x ≤ B) → xss.length * P.bytesOf s ≤ B ∧ ∀ l ∈ xss, l.length * P.bytesOf e ≤ B) := by
 obtain ⟨a1, len1, cap1, rfl⟩ := hv
 obtain ⟨fuel, hf⟩ := h
 rcases open_slice ht hf with ⟨hc, hx⟩ | ⟨a, len, cap, m, n, D, Pl, hc, _, hl, hm, hmm, hx, hel⟩
 ·
  simp [Value.cells] at hc
  obtain ⟨rfl, rfl, rfl⟩ := hc
  exact ⟨[], ⟨[], rfl, .inl ⟨rfl, none, 0, rfl⟩, fun k hk => by simp at hk⟩, by simp, fun _ _ => ⟨by simp, by simp⟩⟩
 ·
  simp [Value.cells] at hc
  obtain ⟨rfl, rfl, rfl⟩ := hc
  simp at hmm
  have each : ∀ i, i < len1 → ∃ q : Value × List Int, W.cell? (a.add i) = some q.1 ∧ InInts W q.1 q.2 ∧ DLen (D i) q.2.length := by
   intro i hi
   obtain ⟨cs', hcells, htr⟩ := hel i (by omega)
   rw [hcs] at hcells
   simp only [Nat.mul_one] at hcells
   obtain ⟨_, hll, hev⟩ := World.cells?_some hcells
   match cs', hll with
   | [x0], _ =>
    obtain ⟨zs, hz, hdl⟩ := open_in_ints_cells hs he hce htr
    have g0 := hev 0 (by omega)
    have e0 : (a.add i).add 0 = a.add i := by cases a; simp [Addr.add]
    rw [e0] at g0
    exact ⟨(x0, zs), by simpa using g0, hz, hdl⟩
  obtain ⟨Q, hQ⟩ := choose_lt (α := Value × List Int) (p := fun i q => W.cell? (a.add i) = some q.1 ∧ InInts W q.1 q.2 ∧ DLen (D i) q.2.length) each
  have hd : d = _ := congrArg Prod.fst hx
  refine ⟨(List.range len1).map fun i => (Q i).2, ⟨(List.range len1).map fun i => (Q i).1, by simp, ?_, fun k hk => ?_⟩, fun l hl x hx => ?_, fun B hL => ⟨?_, fun l hl => ?_⟩⟩
  ·
   by_cases hp : 0 < len1
   ·
    have hsp : a.spot = none := by
     have := World.cell?_spot (hQ 0 hp).1
     simpa [Addr.add] using this
    obtain ⟨b, off, spot⟩ := a
    simp at hsp
    subst hsp
    refine .inr ⟨by simpa using hp, b, off, cap1, by simp, by simp; omega, ?_, rfl, fun k hk => ?_⟩
    ·
     have := World.block_lt_of_cell? _ _ (hQ 0 hp).1
     simpa [Addr.add] using this
    ·
     have hk' : k < len1 := by simpa using hk
     have := (hQ k hk').1
     simp only [Addr.add_lit] at this
     simpa [hk'] using this
   ·
    obtain rfl : len1 = 0 := by omega
    exact .inl ⟨rfl, some a, cap1, rfl⟩
  ·
   have hk' : k < len1 := by simpa using hk
   have := (hQ k hk').2.1.has
   simpa [hk'] using this
  ·
   simp only [List.mem_map, List.mem_range] at hl
   obtain ⟨i, hi, rfl⟩ := hl
   exact (hQ i hi).2.1.fits x hx
  ·
   exact weigh_len (n := ((List.range len1).map fun i => (Q i).2).length) hL (.inr ⟨_, _, hd, by simp⟩) ht
  ·
   simp only [List.mem_map, List.mem_range] at hl
   obtain ⟨i, hi, rfl⟩ := hl
   have hLi : ∀ x ∈ (D i).weights P s, x ≤ B := fun x hx => hL x (by
    rw [hd]
    simp only [DataW.weights, ht]
    exact List.mem_cons_of_mem _ (List.mem_append_left _ (weights_mem_all (List.mem_map.2 ⟨i, List.mem_range.2 hi, rfl⟩) hx)))
   exact weigh_len hLi (hQ i hi).2.2 hs
end Go.Proofs.YtaholpfikcdhbaaGreat

/- What came in, said plainly for a walk: a slice of records. No function in sight. -/
namespace Go.Proofs.YtaholpfikcdhbaaGreat
open Go.ChangeShapes Go.WideShapes Go.ChangeAt Go.RowKit Go.Deep
section
variable {H : Type} {enc : TypeId × Value → H} {W : World}
abbrev Trods (enc : TypeId × Value → H) (W : World) (fuel : Nat) (t : TypeId) (cs : List Value) (y : DataW H × List MemPlace) : Prop := DataW.trod enc Tryz.prog W 0 (fun _ => true) true fuel t cs = some y
theorem cell_int : Tryz.prog.cellsOf 3 = 1 := by kernel_rfl
theorem cell_ints : Tryz.prog.cellsOf 27 = 1 := by kernel_rfl
theorem byte_int : Tryz.prog.bytesOf 3 = 8 := by kernel_rfl
theorem reach_val : reachBytes = 140737488351232 := rfl
theorem part_by {B : Nat} {t : TypeId} {fs : Array Field} {xs : List (DataW H × List MemPlace)} (ht : Tryz.prog.underlying t = some (.struct fs)) (hL : ∀ x ∈ (DataW.agg (xs.map (·.1))).weights Tryz.prog t, x ≤ B) {i : Nat} {f : Field} {y : DataW H × List MemPlace} (hf : fs[i]? = some f) (hy : xs[i]? = some y) : ∀ x ∈ y.1.weights Tryz.prog f.type, x ≤ B := fun x hx => hL x (by
 simp only [DataW.weights, ht]
 have h1 : (fs.toList.map (·.type))[i]? = some f.type := by simp [hf]
 have h2 : (xs.map (·.1))[i]? = some y.1 := by simp [hy]
 exact DataW.weights_mem_each h1 h2 x hx)
theorem light_part {t : TypeId} {fs : Array Field} {xs : List (DataW H × List MemPlace)} (ht : Tryz.prog.underlying t = some (.struct fs)) (hL : Light Tryz.prog t (.agg (xs.map (·.1)))) {i : Nat} {f : Field} {y : DataW H × List MemPlace} (hf : fs[i]? = some f) (hy : xs[i]? = some y) : Light Tryz.prog f.type y.1 := part_by ht hL hf hy
theorem int_at {fuel : Nat} {x : Value} {y : DataW H × List MemPlace} (h : Trods enc W fuel 3 [x] y) : ∃ n, x = .int .i64 n := by
 obtain ⟨n, h1, _⟩ := DataW.trod_int Tryz.underlying3 h
 exact ⟨n, by simpa using h1⟩
theorem list_get {cs : List Value} {n i : Nat} (hl : cs.length = n) (hi : i < n) : cs[i]? = some (cs[i]?.getD undef) := by
 rw [List.getElem?_eq_getElem (by omega)]; rfl
theorem open_recs {α : Type} {R : World → α → List Value → Prop} {Z : α → Prop} {t e : TypeId} {sz : Nat} {fuel : Nat} {x : Value} {y : DataW H × List MemPlace} (ht : Tryz.prog.underlying t = some (.slice e)) (hc : Tryz.prog.cellsOf e = sz) (hsz : 0 < sz)
  (el : ∀ (fuel : Nat) (cs : List Value) (y : DataW H × List MemPlace), cs.length = sz → Trods enc W fuel e cs y → ∃ a : α, R W a cs ∧ (Light Tryz.prog e y.1 → Z a)) (h : Trods enc W fuel t [x] y) :
  ∃ l : List α, Recs W sz R x l ∧ (Light Tryz.prog t y.1 → l.length * Tryz.prog.bytesOf e ≤ reachBytes ∧ ∀ a ∈ l, Z a) := by
 rcases open_slice ht h with ⟨hcs', hx⟩ | ⟨a, len, cap, m, n, D, Pl, hcs', _, hl, hm, hmm, hx, hel⟩
 ·
  obtain rfl : x = .slice none 0 0 := List.head_eq_of_cons_eq hcs'
  exact ⟨[], .inl ⟨rfl, _, _, rfl⟩, fun _ => ⟨by simp, by simp⟩⟩
 ·
  obtain rfl := List.head_eq_of_cons_eq hcs'
  simp at hmm
  have each : ∀ j, j < len → ∃ q : α × List Value, q.2.length = sz ∧ R W q.1 q.2 ∧ (Light Tryz.prog e (D j) → Z q.1) ∧ ∀ i, i < sz → W.cell? ((a.add (j * sz)).add i) = some (q.2[i]?.getD undef) := by
   intro j hj
   obtain ⟨cs', hcells, htr⟩ := hel j (by omega)
   rw [hc] at hcells
   obtain ⟨_, hll, hev⟩ := World.cells?_some hcells
   obtain ⟨q, h1, h2⟩ := el _ _ _ hll htr
   exact ⟨(q, cs'), hll, h1, h2, fun i hi => (hev i hi).trans (list_get hll hi)⟩
  by_cases hp : 0 < len
  ·
   haveI : Inhabited (α × List Value) := ⟨(each 0 hp).choose⟩
   obtain ⟨Q, hQ⟩ := choose_lt (α := α × List Value) (p := fun j q => q.2.length = sz ∧ R W q.1 q.2 ∧ (Light Tryz.prog e (D j) → Z q.1) ∧ ∀ i, i < sz → W.cell? ((a.add (j * sz)).add i) = some (q.2[i]?.getD undef)) each
   have hd : y.1 = _ := congrArg Prod.fst hx
   refine ⟨(List.range len).map fun j => (Q j).1, .inr ?_, fun hL => ⟨hL.len (n := ((List.range len).map fun j => (Q j).1).length) (.inr ⟨_, _, hd, by simp⟩) ht, fun z hz => ?_⟩⟩
   rotate_left
   ·
    simp only [List.mem_map, List.mem_range] at hz
    obtain ⟨j, hj, rfl⟩ := hz
    exact (hQ j hj).2.2.1 fun x hx => hL x (by
     rw [hd]
     simp only [DataW.weights, ht]
     exact List.mem_cons_of_mem _ (List.mem_append_left _ (weights_mem_all (List.mem_map.2 ⟨j, List.mem_range.2 hj, rfl⟩) hx)))
   have hsp : a.spot = none := by
    have := World.cell?_spot ((hQ 0 hp).2.2.2 0 hsz)
    simpa [Addr.add] using this
   obtain ⟨b, off, spot⟩ := a
   simp at hsp
   subst hsp
   refine ⟨by simpa using hp, b, off, cap, by simp, by simp; omega, ?_, fun k hk => ?_⟩
   ·
    have := World.block_lt_of_cell? _ _ ((hQ 0 hp).2.2.2 0 hsz)
    simpa [Addr.add] using this
   ·
    have hk' : k < len := by simpa using hk
    obtain ⟨e1, e2, _, e4⟩ := hQ k hk'
    refine ⟨(Q k).2, e1, by simpa [hk'] using e2, fun i hi => ?_⟩
    have := e4 i hi
    simp only [Addr.add_lit] at this
    exact this
  ·
   obtain rfl : len = 0 := by omega
   exact ⟨[], .inl ⟨rfl, some a, cap, rfl⟩, fun _ => ⟨by simp, by simp⟩⟩
end
end Go.Proofs.YtaholpfikcdhbaaGreat

/- What is not bulky is light: lists that are short weigh little. No function in sight. -/
namespace Go.Proofs.YtaholpfikcdhbaaGreat
open Go.ChangeShapes Go.WideShapes Go.ChangeAt Go.RowKit Go.Deep
section
variable {H : Type}
theorem bulk_one (d : DataW H) : 1 ≤ Rows.uptoBulk d := by
 cases d with
 | lit l => cases l <;> simp [Rows.uptoBulk]
 | nil => simp [Rows.uptoBulk]
 | ptr d => simp [Rows.uptoBulk]
 | slice elems spare => simp [Rows.uptoBulk]
 | agg parts => simp [Rows.uptoBulk]
 | iface t d => simp [Rows.uptoBulk]
 | map entries => simp [Rows.uptoBulk]
 | held h => simp [Rows.uptoBulk]
theorem bulk_part {d : DataW H} : ∀ {l : List (DataW H)}, d ∈ l → Rows.uptoBulk d ≤ Rows.uptoBulkAll l
 | [], h => by cases h
 | x :: r, h => by
  simp only [Rows.uptoBulkAll]
  rcases List.mem_cons.1 h with rfl | h
  ·
   omega
  ·
   have := bulk_part h; omega
theorem bulk_len : ∀ l : List (DataW H), l.length ≤ Rows.uptoBulkAll l
 | [] => by simp [Rows.uptoBulkAll]
 | x :: r => by have := bulk_one x; have := bulk_len r; simp only [Rows.uptoBulkAll, List.length_cons]; omega
theorem dlen_bulk {d : DataW H} {n : Nat} (h : DLen d n) : n ≤ Rows.uptoBulk d := by
 rcases h with ⟨rfl, h0⟩ | ⟨el, sp, rfl, h0⟩
 ·
  omega
 ·
  have := bulk_len el
  simp only [Rows.uptoBulk]
  omega
def shutB (P : Program) (S : List TypeId) (t : TypeId) : Bool :=
 match P.underlying t with
 | some (.slice e) => S.contains e && decide (P.bytesOf e ≤ 64)
 | some (.struct fs) => fs.toList.all fun f => S.contains f.type
 | some (.int _) => true
 | some .string => true
 | _ => false
theorem weigh_all {P : Program} {e : TypeId} {x : Nat} : ∀ {l : List (DataW H)}, x ∈ DataW.weightsAll P e l → ∃ d ∈ l, x ∈ d.weights P e
 | [], h => by simp [DataW.weightsAll] at h
 | d :: r, h => by
  simp only [DataW.weightsAll, List.mem_append] at h
  rcases h with h | h
  ·
   exact ⟨d, List.mem_cons_self, h⟩
  ·
   obtain ⟨y, h1, h2⟩ := weigh_all h
   exact ⟨y, List.mem_cons_of_mem _ h1, h2⟩
theorem weigh_each {P : Program} {x : Nat} : ∀ {ts : List TypeId} {l : List (DataW H)}, x ∈ DataW.weightsEach P ts l → ∃ d ∈ l, ∃ t ∈ ts, x ∈ d.weights P t
 | [], l, h => by cases l <;> simp [DataW.weightsEach] at h
 | t :: ts, [], h => by simp [DataW.weightsEach] at h
 | t :: ts, d :: r, h => by
  simp only [DataW.weightsEach, List.mem_append] at h
  rcases h with h | h
  ·
   exact ⟨d, List.mem_cons_self, t, List.mem_cons_self, h⟩
  ·
   obtain ⟨y, h1, u, h2, h3⟩ := weigh_each h
   exact ⟨y, List.mem_cons_of_mem _ h1, u, List.mem_cons_of_mem _ h2, h3⟩
theorem weigh {P : Program} {S : List TypeId} (hS : ∀ t ∈ S, shutB P S t = true) : ∀ (n : Nat) (d : DataW H) (t : TypeId), SizeOf.sizeOf d ≤ n → t ∈ S → ∀ x ∈ d.weights P t, x ≤ Rows.uptoBulk d * 64
 | 0, d, _, hn, _, _, _ => by cases d <;> simp at hn
 | n + 1, d, t, hn, ht, x, hx => by
  have hs := hS t ht
  unfold shutB at hs
  cases d with
  | lit l =>
   cases l with
   | string b =>
    simp [DataW.weights] at hx
    simp only [Rows.uptoBulk]
    omega
   | _ => simp [DataW.weights] at hx
  | nil => simp [DataW.weights] at hx
  | ptr d =>
   simp only [DataW.weights] at hx
   split at hx
   ·
    rename_i e he
    rw [he] at hs
    simp at hs
   ·
    cases hx
  | slice el sp =>
   simp only [DataW.weights] at hx
   split at hx
   ·
    rename_i e he
    rw [he] at hs
    simp only [Bool.and_eq_true, List.contains_iff_mem, decide_eq_true_eq] at hs
    simp only [Rows.uptoBulk]
    have l1 := bulk_len el
    have l2 := bulk_len sp
    rcases List.mem_cons.1 hx with rfl | hx
    ·
     have h1 : (el.length + sp.length) * P.bytesOf e ≤ (el.length + sp.length) * 64 := Nat.mul_le_mul_left _ hs.2
     omega
    ·
     rcases List.mem_append.1 hx with hx | hx
     ·
      obtain ⟨y, hy, hxy⟩ := weigh_all hx
      have := List.sizeOf_lt_of_mem hy
      have h1 := weigh hS n y e (by simp at hn; omega) hs.1 x hxy
      have := bulk_part hy
      omega
     ·
      obtain ⟨y, hy, hxy⟩ := weigh_all hx
      have := List.sizeOf_lt_of_mem hy
      have h1 := weigh hS n y e (by simp at hn; omega) hs.1 x hxy
      have := bulk_part hy
      omega
   ·
    cases hx
  | agg ps =>
   simp only [DataW.weights] at hx
   split at hx
   ·
    rename_i fs he
    rw [he] at hs
    simp only [List.all_eq_true, List.contains_iff_mem] at hs
    obtain ⟨y, hy, u, hu, hxy⟩ := weigh_each hx
    obtain ⟨f, hf, rfl⟩ := List.mem_map.1 hu
    have := List.sizeOf_lt_of_mem hy
    have h1 := weigh hS n y f.type (by simp at hn; omega) (hs f hf) x hxy
    have := bulk_part hy
    simp only [Rows.uptoBulk]
    omega
   ·
    rename_i e he
    rw [he] at hs
    simp at hs
   ·
    cases hx
  | iface u d => simp [DataW.weights] at hx
  | map es =>
   simp only [DataW.weights] at hx
   split at hx
   ·
    rename_i k e he
    rw [he] at hs
    simp at hs
   ·
    cases hx
  | held h => simp [DataW.weights] at hx
theorem light_of_bulk {P : Program} {S : List TypeId} (hS : S.all (shutB P S) = true) {d : DataW H} {t : TypeId} (ht : t ∈ S) (hb : Rows.uptoBulk d ≤ 1048576) : Light P t d := fun x hx => by
 have h := weigh (fun t ht => List.all_eq_true.1 hS t ht) _ d t (Nat.le_refl _) ht x hx
 have h2 : reachBytes = 140737488351232 := rfl
 omega
end
end Go.Proofs.YtaholpfikcdhbaaGreat

/- What came in, said plainly for a walk: a run. No function in sight. -/
namespace Go.Proofs.YtaholpfikcdhbaaGreat
open Go.ChangeShapes Go.WideShapes Go.ChangeAt Go.RowKit Go.Deep
section
variable {H : Type} {enc : TypeId × Value → H} {W : World}
theorem cell_string : Tryz.prog.cellsOf 9 = 1 := by kernel_rfl
theorem cell_tag : Tryz.prog.cellsOf 94 = 1 := by kernel_rfl
theorem string_at {fuel : Nat} {x : Value} {y : DataW H × List MemPlace} (h : Trods enc W fuel 9 [x] y) : ∃ s : ByteArray, x = .string s ∧ (Light Tryz.prog 9 y.1 → s.size ≤ 4611686018427387904) := by
 obtain ⟨s, h1, h2, _⟩ := DataW.trod_string Tryz.underlying9 h
 refine ⟨s, by simpa using h1, fun hL => ?_⟩
 have := hL s.data.toList.length (by rw [h2]; simp [DataW.weights])
 have h3 := reach_val
 have h4 : s.data.toList.length = s.size := by simp
 omega
set_option maxRecDepth 100000 in
theorem el_port {fuel : Nat} {cs : List Value} {y : DataW H × List MemPlace} (hl : cs.length = 3) (h : Trods enc W fuel 118 cs y) : ∃ a : GPort, PortR W a cs ∧ (Light Tryz.prog 118 y.1 → a.name.size ≤ 4611686018427387904) := by
 obtain ⟨xs, n, _, rfl, _, hlen, hf⟩ := DataW.trod_struct Tryz.underlying118 h
 match cs, hl, xs, hlen with
 | [x0, x1, x2], _, [y0, y1, y2], _ =>
  have h0 : Trods enc W n 9 [x0] y0 := by simpa [cell_string] using hf 0 _ rfl
  have h1 : Trods enc W n 3 [x1] y1 := by simpa [cell_int] using hf 1 _ rfl
  have h2 : Trods enc W n 3 [x2] y2 := by simpa [cell_int] using hf 2 _ rfl
  obtain ⟨s, rfl, s2⟩ := string_at h0
  obtain ⟨n1, rfl⟩ := int_at h1
  obtain ⟨n2, rfl⟩ := int_at h2
  exact ⟨⟨s, n1, n2⟩, rfl, fun hL => s2 (light_part Tryz.underlying118 (xs := [y0, y1, y2]) hL (i := 0) rfl rfl)⟩
theorem cell_rows : Tryz.prog.cellsOf 22 = 1 ∧ Tryz.prog.cellsOf 23 = 1 ∧ Tryz.prog.cellsOf 24 = 1 := ⟨by kernel_rfl, by kernel_rfl, by kernel_rfl⟩
theorem ints_atR {fuel : Nat} {x : Value} {y : DataW H × List MemPlace} (h : Trods enc W fuel 27 [x] y) : ∃ l, Has W x (ivs l) ∧ (∀ n ∈ l, Fits n) ∧ (Light Tryz.prog 27 y.1 → l.length ≤ 17600000000000) := by
 obtain ⟨l, h1, h2⟩ := open_in_ints_cells Tryz.underlying27 Tryz.underlying3 cell_int h
 refine ⟨l, h1.has, h1.fits, fun hL => ?_⟩
 have := hL.len h2 Tryz.underlying27
 rw [byte_int] at this
 have h3 := reach_val
 omega
set_option maxRecDepth 100000 in
theorem el_actorF {fuel : Nat} {cs : List Value} {y : DataW H × List MemPlace} (hl : cs.length = 3) (h : Trods enc W fuel 96 cs y) : ∃ a : GActor, ActorR W a cs ∧ (Light Tryz.prog 96 y.1 → (a.name.size ≤ 4611686018427387904 ∧ a.params.length ≤ 17600000000000) ∧ ∀ n ∈ a.params, Fits n) := by
 obtain ⟨xs, n, _, rfl, _, hlen, hf⟩ := DataW.trod_struct Tryz.underlying96 h
 match cs, hl, xs, hlen with
 | [x0, x1, x2], _, [y0, y1, y2], _ =>
  have h0 : Trods enc W n 9 [x0] y0 := by simpa [cell_string] using hf 0 _ rfl
  have h1 : Trods enc W n 94 [x1] y1 := by simpa [cell_tag] using hf 1 _ rfl
  have h2 : Trods enc W n 27 [x2] y2 := by simpa [cell_ints] using hf 2 _ rfl
  obtain ⟨s, rfl, s2⟩ := string_at h0
  obtain ⟨tg, t1, _⟩ := DataW.trod_int Tryz.underlying94 h1
  obtain rfl : x1 = .int .u8 tg := by simpa using t1
  obtain ⟨l, l1, l3, l2⟩ := ints_atR h2
  exact ⟨⟨s, tg, l⟩, ⟨x2, rfl, l1⟩, fun hL => ⟨⟨s2 (light_part Tryz.underlying96 (xs := [y0, y1, y2]) hL (i := 0) rfl rfl), l2 (light_part Tryz.underlying96 (xs := [y0, y1, y2]) hL (i := 2) rfl rfl)⟩, l3⟩⟩
set_option maxRecDepth 100000 in
theorem el_edgeF {fuel : Nat} {cs : List Value} {y : DataW H × List MemPlace} (hl : cs.length = 5) (h : Trods enc W fuel 107 cs y) : ∃ a : GEdge, EdgeR W a cs ∧ (Light Tryz.prog 107 y.1 → a.start.length ≤ 17600000000000 ∧ ∀ n ∈ a.start, Fits n) := by
 obtain ⟨xs, n, _, rfl, _, hlen, hf⟩ := DataW.trod_struct Tryz.underlying107 h
 match cs, hl, xs, hlen with
 | [x0, x1, x2, x3, x4], _, [y0, y1, y2, y3, y4], _ =>
  have h0 : Trods enc W n 3 [x0] y0 := by simpa [cell_int] using hf 0 _ rfl
  have h1 : Trods enc W n 3 [x1] y1 := by simpa [cell_int] using hf 1 _ rfl
  have h2 : Trods enc W n 3 [x2] y2 := by simpa [cell_int] using hf 2 _ rfl
  have h3 : Trods enc W n 3 [x3] y3 := by simpa [cell_int] using hf 3 _ rfl
  have h4 : Trods enc W n 27 [x4] y4 := by simpa [cell_ints] using hf 4 _ rfl
  obtain ⟨n0, rfl⟩ := int_at h0
  obtain ⟨n1, rfl⟩ := int_at h1
  obtain ⟨n2, rfl⟩ := int_at h2
  obtain ⟨n3, rfl⟩ := int_at h3
  obtain ⟨l, l1, l3, l2⟩ := ints_atR h4
  exact ⟨⟨n0, n1, n2, n3, l⟩, ⟨x4, rfl, l1⟩, fun hL => ⟨l2 (light_part Tryz.underlying107 (xs := [y0, y1, y2, y3, y4]) hL (i := 4) rfl rfl), l3⟩⟩
set_option maxRecDepth 100000 in
theorem graph_at {fuel : Nat} {x0 x1 x2 x3 x4 : Value} {y : DataW H × List MemPlace} (h : Trods enc W fuel 26 [x0, x1, x2, x3, x4] y) : ∃ g, HasGraph W (.agg #[x0, x1, x2, x3, x4]) g ∧ (Light Tryz.prog 26 y.1 → GSized g ∧ (∀ a ∈ g.actors, ∀ n ∈ a.params, Fits n) ∧ (∀ e ∈ g.edges, ∀ n ∈ e.start, Fits n) ∧ g.ins.length ≤ 5000000000000) := by
 obtain ⟨xs, n, _, hx, _, hlen, hf⟩ := DataW.trod_struct Tryz.underlying26 h
 match xs, hlen with
 | [y0, y1, y2, y3, y4], _ =>
  have h0 : Trods enc W n 9 [x0] y0 := by simpa [cell_string, Value.cells] using hf 0 _ rfl
  have h1 : Trods enc W n 22 [x1] y1 := by simpa [cell_rows.1, Value.cells] using hf 1 _ rfl
  have h2 : Trods enc W n 23 [x2] y2 := by simpa [cell_rows.2.1, Value.cells] using hf 2 _ rfl
  have h3 : Trods enc W n 24 [x3] y3 := by simpa [cell_rows.2.2, Value.cells] using hf 3 _ rfl
  have h4 : Trods enc W n 24 [x4] y4 := by simpa [cell_rows.2.2, Value.cells] using hf 4 _ rfl
  have hd : y.1 = .agg ([y0, y1, y2, y3, y4].map (·.1)) := congrArg Prod.fst hx
  obtain ⟨s, rfl, s2⟩ := string_at h0
  obtain ⟨la, a1, a2⟩ := open_recs (sz := 3) Tryz.underlying22 (by kernel_rfl) (by decide) (fun fuel cs y => el_actorF) h1
  obtain ⟨le, e1, e2⟩ := open_recs (sz := 5) Tryz.underlying23 (by kernel_rfl) (by decide) (fun fuel cs y => el_edgeF) h2
  obtain ⟨li, i1, i2⟩ := open_recs (sz := 3) Tryz.underlying24 (by kernel_rfl) (by decide) (fun fuel cs y => el_port) h3
  obtain ⟨lo, o1, o2⟩ := open_recs (sz := 3) Tryz.underlying24 (by kernel_rfl) (by decide) (fun fuel cs y => el_port) h4
  refine ⟨⟨s, la, le, li, lo⟩, ⟨_, _, _, _, rfl, a1, e1, i1, o1⟩, fun hL => ?_⟩
  rw [hd] at hL
  have s3 := s2 (light_part Tryz.underlying26 hL (i := 0) rfl rfl)
  have a3 := a2 (light_part Tryz.underlying26 hL (i := 1) rfl rfl)
  have e3 := e2 (light_part Tryz.underlying26 hL (i := 2) rfl rfl)
  have i3 := i2 (light_part Tryz.underlying26 hL (i := 3) rfl rfl)
  have o3 := o2 (light_part Tryz.underlying26 hL (i := 4) rfl rfl)
  exact ⟨⟨s3, fun a ha => (a3.2 a ha).1, i3.2, o3.2⟩, fun a ha => (a3.2 a ha).2, fun e he => (e3.2 e he).2, by
   have := i3.1
   rw [show Tryz.prog.bytesOf 118 = 32 by kernel_rfl, reach_val] at this
   show li.length ≤ _
   omega⟩
set_option maxRecDepth 100000 in
theorem open_run_by {v : Value} {d : DataW H} {p : List MemPlace} (hv : ∃ cs, v = .agg cs ∧ cs.size = Tryz.prog.cellsOf 30) (h : DataW.Trod enc Tryz.prog W 0 (fun _ => true) true 30 v d p) : ∃ g caps fed, HasRun W v g caps fed ∧ (Light Tryz.prog 30 d → RunOk g caps fed ∧ g.ins.length ≤ 5000000000000) ∧ ∀ B, (∀ x ∈ d.weights Tryz.prog 30, x ≤ B) → ∀ l ∈ fed, l.length * 8 ≤ B := by
 obtain ⟨cs, rfl, hsz⟩ := hv
 obtain ⟨fuel, hf0⟩ := h
 rw [show Tryz.prog.cellsOf 30 = 7 by kernel_rfl] at hsz
 obtain ⟨xs, n, _, hx, _, hlen, hf⟩ := DataW.trod_struct Tryz.underlying30 hf0
 obtain ⟨l⟩ := cs
 match l, hsz, xs, hlen with
 | [x0, x1, x2, x3, x4, x5, x6], _, [y0, y1, y2], _ =>
  have h0 : Trods enc W n 26 [x0, x1, x2, x3, x4] y0 := by simpa [show Tryz.prog.cellsOf 26 = 5 by kernel_rfl, Value.cells] using hf 0 _ rfl
  have h1 : Trods enc W n 27 [x5] y1 := by simpa [cell_ints, Value.cells] using hf 1 _ rfl
  have h2 : Trods enc W n 28 [x6] y2 := by simpa [show Tryz.prog.cellsOf 28 = 1 by kernel_rfl, Value.cells] using hf 2 _ rfl
  have hd : d = .agg ([y0, y1, y2].map (·.1)) := congrArg Prod.fst hx
  obtain ⟨g, g1, g2⟩ := graph_at h0
  obtain ⟨caps, c1, c2, c3⟩ := ints_atR h1
  have sl : ∃ a len cap, x6 = .slice a len cap := by
   rcases open_slice Tryz.underlying28 h2 with ⟨hc, _⟩ | ⟨a, len, cap, _, _, _, _, hc, _⟩
   ·
    exact ⟨_, _, _, List.head_eq_of_cons_eq hc⟩
   ·
    exact ⟨_, _, _, List.head_eq_of_cons_eq hc⟩
  obtain ⟨ax, lx, cx, rfl⟩ := sl
  obtain ⟨fed, q1, q2, q3⟩ := open_rows_by (d := y2.1) (p := y2.2) Tryz.underlying28 Tryz.underlying27 Tryz.underlying3 (by kernel_rfl) (by kernel_rfl) ⟨_, _, _, rfl⟩ ⟨n, by simpa [Value.cells] using h2⟩
  refine ⟨g, caps, fed, ⟨_, _, _, _, _, _, _, rfl, g1, c1, q1⟩, fun hL => ?_, fun B hL => ?_⟩
  ·
   rw [hd] at hL
   have g3 := g2 (light_part Tryz.underlying30 hL (i := 0) rfl rfl)
   have c4 := c3 (light_part Tryz.underlying30 hL (i := 1) rfl rfl)
   have q4 := q3 reachBytes (light_part Tryz.underlying30 hL (i := 2) rfl rfl)
   rw [byte_int, reach_val] at q4
   exact ⟨⟨g3.1, c4, g3.2.1, g3.2.2.1, c2, q2, fun l hl => by have := q4.2 l hl; omega⟩, g3.2.2.2⟩
  ·
   rw [hd] at hL
   have q4 := q3 B (part_by Tryz.underlying30 hL (i := 2) rfl rfl)
   rw [byte_int] at q4
   exact q4.2
theorem open_run {v : Value} {d : DataW H} {p : List MemPlace} (hv : ∃ cs, v = .agg cs ∧ cs.size = Tryz.prog.cellsOf 30) (h : DataW.Trod enc Tryz.prog W 0 (fun _ => true) true 30 v d p) : ∃ g caps fed, HasRun W v g caps fed ∧ (Light Tryz.prog 30 d → RunOk g caps fed) := by
 obtain ⟨g, caps, fed, h1, h2, _⟩ := open_run_by hv h
 exact ⟨g, caps, fed, h1, fun h => (h2 h).1⟩
theorem run_light {d : DataW H} (hb : Rows.uptoBulk d ≤ 1048576) : Light Tryz.prog 30 d :=
 light_of_bulk (S := [30, 26, 9, 22, 23, 24, 96, 107, 118, 94, 3, 27, 28]) (by kernel_rfl) (by simp) hb
end
end Go.Proofs.YtaholpfikcdhbaaGreat

/- What came in, said plainly for a walk: blocks. No function in sight. -/
namespace Go.Proofs.YtaholpfikcdhbaaGreat
open Go.ChangeShapes Go.WideShapes Go.ChangeAt Go.RowKit Go.Deep
section
variable {H : Type} {enc : TypeId × Value → H} {W : World}
theorem int_atF {fuel : Nat} {x : Value} {y : DataW H × List MemPlace} (h : Trods enc W fuel 3 [x] y) : ∃ n, x = .int .i64 n ∧ Fits n := by
 obtain ⟨n, h1, h2, h3⟩ := DataW.trod_int Tryz.underlying3 h
 exact ⟨n, by simpa using h1, wf_i64 (by assumption)⟩
theorem el_block {fuel : Nat} {cs : List Value} {y : DataW H × List MemPlace} (hl : cs.length = 3) (h : Trods enc W fuel 83 cs y) : ∃ a : GBlock, BlockR W a cs ∧ (Light Tryz.prog 83 y.1 → Fits a.node ∧ Fits a.fired ∧ Fits a.arc) := by
 match cs, hl with
 | [x0, x1, x2], _ =>
 obtain ⟨xs, n, _, hx, _, hlen, hf⟩ := DataW.trod_struct Tryz.underlying83 h
 match xs, hlen with
 | [y0, y1, y2], _ =>
  have h0 : Trods enc W n 3 [x0] y0 := by simpa [cell_int, Value.cells] using hf 0 _ rfl
  have h1 : Trods enc W n 3 [x1] y1 := by simpa [cell_int, Value.cells] using hf 1 _ rfl
  have h2 : Trods enc W n 3 [x2] y2 := by simpa [cell_int, Value.cells] using hf 2 _ rfl
  obtain ⟨n0, rfl, f0⟩ := int_atF h0
  obtain ⟨n1, rfl, f1⟩ := int_atF h1
  obtain ⟨n2, rfl, f2⟩ := int_atF h2
  exact ⟨⟨n0, n1, n2⟩, rfl, fun _ => ⟨f0, f1, f2⟩⟩
theorem open_blocks {v : Value} {d : DataW H} {p : List MemPlace} (hv : ∃ a len cap, v = .slice a len cap) (h : DataW.Trod enc Tryz.prog W 0 (fun _ => true) true 80 v d p) (hb : Rows.uptoBulk d ≤ 1048576) : ∃ l, Recs W 3 BlockR v l ∧ (∀ b ∈ l, Fits b.node ∧ Fits b.fired ∧ Fits b.arc) ∧ l.length ≤ 17600000000000 := by
 obtain ⟨a, len, cap, rfl⟩ := hv
 obtain ⟨fuel, hf⟩ := h
 obtain ⟨l, h1, h2⟩ := open_recs (y := (d, p)) (sz := 3) Tryz.underlying80 (by kernel_rfl) (by decide) (fun fuel cs y => el_block) (by simpa [Value.cells] using hf)
 have hL : Light Tryz.prog 80 d := light_of_bulk (S := [80, 83, 3]) (by kernel_rfl) (by simp) hb
 have h3 := h2 hL
 refine ⟨l, h1, h3.2, ?_⟩
 have h4 := h3.1
 rw [show Tryz.prog.bytesOf 83 = 24 by kernel_rfl, reach_val] at h4
 omega
end
end Go.Proofs.YtaholpfikcdhbaaGreat
