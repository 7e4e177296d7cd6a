/- The law 'pianola DynRoom' (said): for every input it returns true, and what it was handed reads as before. The frame: arguments opened, the walk called, arguments shut. -/
import Derived.Test.YtaholpfikcdhbaaGreatDynRoomZ5
import Derived.Test.YtaholpfikcdhbaaGreatDynRoomZ8
import Derived.Test.YtaholpfikcdhbaaGreatDynRoomZ9
import Derived.Test.YtaholpfikcdhbaaGreatDynRoomZ3
import Derived.Test.YtaholpfikcdhbaaGreatDynRoomZ4
import Derived.Test.YtaholpfikcdhbaaGreatDynRoomZ7
import Derived.Test.YtaholpfikcdhbaaGreatDynRoomZ10
import Derived.Test.YtaholpfikcdhbaaGreatDynRoomZ2
import Derived.Test.YtaholpfikcdhbaaGreatDynRoomZ1
import Derived.Deep.Slices
import Derived.SizedLaws
import Derived.WalkKit
import Derived.ProofKit
import Derived.OpenShut
import Derived.ChangeOld
import Derived.Below
import Derived.Test.YtaholpfikcdhbaaGreatRows
import Derived.ShutString
/- A rig that is not there. -/
namespace Go.Proofs.YtaholpfikcdhbaaGreat
open Go.RowKit
end Go.Proofs.YtaholpfikcdhbaaGreat

/- The chapter's small graph is run: awake answers true. -/
namespace Go.Proofs.YtaholpfikcdhbaaGreat
open Go.RowKit
def LineRet (w : World) (e : Ending) (w' : World) : Prop := ∃ v, e = .returned v ∧ HasGraph w' v lineG ∧ Below w.heap.size w w'
def lineO (w : World) : List Obj :=
 [.cells #[.string { data := #[103] }, .slice (some ⟨w.heap.size + 3, 0, none⟩) 3 3, .slice (some ⟨w.heap.size + 4, 0, none⟩) 2 2, .slice none 0 0, .slice (some ⟨w.heap.size + 5, 0, none⟩) 1 1] 26, .cells #[.int .i64 1, .int .i64 1] 3, .cells #[.int .i64 1] 3, .cells #[.string { data := #[97] }, .int .u8 10, .slice (some ⟨w.heap.size + 1, 0, none⟩) 2 2, .string { data := #[98] }, .int .u8 6, .slice (some ⟨w.heap.size + 2, 0, none⟩) 1 1, .string { data := #[99] }, .int .u8 8, .slice none 0 0] 96, .cells #[.int .i64 0, .int .i64 0, .int .i64 1, .int .i64 0, .slice none 0 0, .int .i64 1, .int .i64 0, .int .i64 2, .int .i64 0, .slice none 0 0] 107, .cells #[.string { data := #[121] }, .int .i64 2, .int .i64 0] 118]
set_option maxRecDepth 100000 in
theorem line_has (w : World) : HasGraph (allocs w (lineO w)) (.agg #[.string { data := #[103] }, .slice (some ⟨w.heap.size + 3, 0, none⟩) 3 3, .slice (some ⟨w.heap.size + 4, 0, none⟩) 2 2, .slice none 0 0, .slice (some ⟨w.heap.size + 5, 0, none⟩) 1 1]) lineG := by
 refine ⟨_, _, _, _, rfl, ?_, ?_, .inl ⟨rfl, _, _, rfl⟩, ?_⟩
 ·
  refine .inr ⟨by decide, w.heap.size + 3, 0, 3, rfl, Nat.le_refl _, block_lt (allocs_get (lineO w) w 3 _ rfl), fun k hk => ?_⟩
  match k, (show k < 3 from hk) with
  | 0, _ => exact ⟨[.string { data := #[97] }, .int .u8 10, .slice (some ⟨w.heap.size + 1, 0, none⟩) 2 2], rfl, ⟨_, rfl, .inr ⟨Nat.succ_pos 1, _, 0, 2, rfl, Nat.le_refl _, block_lt (allocs_get (lineO w) w 1 _ rfl), rfl, fun j hj => by
    match j, hj with
    | 0, _ => exact allocs_cell w (lineO w) 1 0 rfl rfl
    | 1, _ => exact allocs_cell w (lineO w) 1 1 rfl rfl⟩⟩, fun i hi => by
   match i, hi with
   | 0, _ => exact allocs_cell w (lineO w) 3 0 rfl rfl
   | 1, _ => exact allocs_cell w (lineO w) 3 1 rfl rfl
   | 2, _ => exact allocs_cell w (lineO w) 3 2 rfl rfl⟩
  | 1, _ => exact ⟨[.string { data := #[98] }, .int .u8 6, .slice (some ⟨w.heap.size + 2, 0, none⟩) 1 1], rfl, ⟨_, rfl, allocs_one w (lineO w) 2 rfl⟩, fun i hi => by
   match i, hi with
   | 0, _ => exact allocs_cell w (lineO w) 3 3 rfl rfl
   | 1, _ => exact allocs_cell w (lineO w) 3 4 rfl rfl
   | 2, _ => exact allocs_cell w (lineO w) 3 5 rfl rfl⟩
  | 2, _ => exact ⟨[.string { data := #[99] }, .int .u8 8, .slice none 0 0], rfl, ⟨_, rfl, .inl ⟨rfl, _, _, rfl⟩⟩, fun i hi => by
   match i, hi with
   | 0, _ => exact allocs_cell w (lineO w) 3 6 rfl rfl
   | 1, _ => exact allocs_cell w (lineO w) 3 7 rfl rfl
   | 2, _ => exact allocs_cell w (lineO w) 3 8 rfl rfl⟩
 ·
  refine .inr ⟨by decide, w.heap.size + 4, 0, 2, rfl, Nat.le_refl _, block_lt (allocs_get (lineO w) w 4 _ rfl), fun k hk => ?_⟩
  match k, (show k < 2 from hk) with
  | 0, _ => exact ⟨[.int .i64 0, .int .i64 0, .int .i64 1, .int .i64 0, .slice none 0 0], rfl, ⟨_, rfl, .inl ⟨rfl, _, _, rfl⟩⟩, fun i hi => by
   match i, hi with
   | 0, _ => exact allocs_cell w (lineO w) 4 0 rfl rfl
   | 1, _ => exact allocs_cell w (lineO w) 4 1 rfl rfl
   | 2, _ => exact allocs_cell w (lineO w) 4 2 rfl rfl
   | 3, _ => exact allocs_cell w (lineO w) 4 3 rfl rfl
   | 4, _ => exact allocs_cell w (lineO w) 4 4 rfl rfl⟩
  | 1, _ => exact ⟨[.int .i64 1, .int .i64 0, .int .i64 2, .int .i64 0, .slice none 0 0], rfl, ⟨_, rfl, .inl ⟨rfl, _, _, rfl⟩⟩, fun i hi => by
   match i, hi with
   | 0, _ => exact allocs_cell w (lineO w) 4 5 rfl rfl
   | 1, _ => exact allocs_cell w (lineO w) 4 6 rfl rfl
   | 2, _ => exact allocs_cell w (lineO w) 4 7 rfl rfl
   | 3, _ => exact allocs_cell w (lineO w) 4 8 rfl rfl
   | 4, _ => exact allocs_cell w (lineO w) 4 9 rfl rfl⟩
 ·
  refine .inr ⟨by decide, w.heap.size + 5, 0, 1, rfl, Nat.le_refl _, block_lt (allocs_get (lineO w) w 5 _ rfl), fun k hk => ?_⟩
  match k, (show k < 1 from hk) with
  | 0, _ => exact ⟨_, rfl, rfl, fun i hi => by
   match i, hi with
   | 0, _ => exact allocs_cell w (lineO w) 5 0 rfl rfl
   | 1, _ => exact allocs_cell w (lineO w) 5 1 rfl rfl
   | 2, _ => exact allocs_cell w (lineO w) 5 2 rfl rfl⟩
set_option maxRecDepth 100000 in
theorem line_ret (w : World) : Calls Tryz.prog 36 #[] w (LineRet w) := by
 go_enter Tryz.func36, Tryz.ntmps36
 go_wp2
 refine bodyPost_ret_by (results_cell_row rfl _ _ _ _ _ _ _ rfl (allocs_get (lineO w) w 0 _ rfl) Tryz.underlying26 rfl (by kernel_rfl)) rfl ?_
 exact ⟨_, rfl, line_has w, (allocs_below (lineO w) w).1⟩
theorem line_sized : GSized lineG := ⟨by decide, by decide, by decide, by decide⟩
theorem line_fitp : ∀ a ∈ lineG.actors, ∀ x ∈ a.params, Fits x := by
 intro a ha x hx
 unfold lineG at ha
 simp only [List.mem_cons, List.not_mem_nil, or_false] at ha
 rcases ha with rfl | rfl | rfl <;> simp at hx <;> subst hx <;> unfold Fits <;> omega
theorem line_fits : ∀ e ∈ lineG.edges, ∀ x ∈ e.start, Fits x := by
 intro e he x hx
 unfold lineG at he
 simp only [List.mem_cons, List.not_mem_nil, or_false] at he
 rcases he with rfl | rfl <;> simp at hx
def lineEnd : RunP × Nat := roundsP lineG [1, 1] 10 ⟨newRig lineG, none⟩
theorem line_halt : haltI lineG [1, 1] lineEnd.1 = 0 := by
 have h1 : lineEnd.1.failed = none := line_fail
 have h2 : (readyL lineG [1, 1] lineEnd.1).length = 2 := line_ready
 unfold haltI
 rw [if_neg (by rw [h1]; simp), if_neg (fun h => by rw [h] at h2; cases h2)]
theorem line_out : outI lineG lineEnd.1 0 = [1, 3] := by
 unfold outI
 rw [if_pos (by decide)]
 exact line_run.2
theorem ints_two {w : World} (a b : Int) : Has (w.alloc (.cells #[.int .i64 a, .int .i64 b] 3)) (.slice (some ⟨w.heap.size, 0, none⟩) 2 2) (ivs [a, b]) := by
 have h := heap_alloc_new w (.cells #[.int .i64 a, .int .i64 b] 3)
 exact .inr ⟨by simp, _, 0, 2, rfl, Nat.le_refl _, block_lt h, rfl, fun k hk => by
  match k, hk with
  | 0, _ => exact cells_row _ _ h 0 _ rfl
  | 1, _ => exact cells_row _ _ h 1 _ rfl⟩
set_option maxRecDepth 100000 in
set_option maxHeartbeats 2000000 in
theorem dawake_yes (w : World) : Calls Tryz.prog 14 #[] w (Tells (.bool true) w) := by
 go_enter Tryz.func14, Tryz.ntmps14
 go_wp2_with fail
 refine (line_ret w).mono ?_
 rintro e w1 ⟨v, rfl, hG, hb1⟩
 have hb2 := below_alloc w1 (.cells #[.int .i64 1, .int .i64 1] 3)
 have HC := Lib.hid (ints_two (w := w1) 1 1)
 have HG := Lib.hid (hG.below hb2)
 have HB := Lib.hid (hb1.trans (hb2.mono hb1.size))
 clear hG hb1 hb2
 go_wp2_with fail
 obtain ⟨w2, hw2⟩ : ∃ x, w1.alloc (.cells #[.int .i64 1, .int .i64 1] 3) = x := ⟨_, rfl⟩
 rw [hw2] at HC HG HB ⊢
 clear hw2
 refine (dnew_any w2 (fun _ => 0) 1 (Nat.le_refl _) v lineG [1, 1] HG.out line_sized HC.out (by decide) line_fitp line_fits (by intro c hc; simp at hc; subst hc; unfold Fits; omega)).mono ?_
 rintro e w3 hret
 obtain ⟨b, q, qs, rv, rfl, T, hR, hGO, -⟩ := hret.2 line_check
 have K3 := (Kept.start w2).turn T (fun h => h)
 have HR := Lib.hid hR
 have HGO := Lib.hid hGO
 clear hret T hR hGO HC HG
 go_wp2_with fail
 refine (dRounds_ok 10 HR.out HGO.out (by decide)).mono ?_
 rintro e w4 ⟨q4, v4, rfl, T4, hR4⟩
 have e10 : (min (10 : Int) 4096).toNat = 10 := by decide
 rw [e10] at hR4 ⊢
 have K4 := K3.turn T4 (by unfold MineR; omega)
 have hR5 : RigOk w4 q4 1 b lineG [1, 1] (256 + 4096 * 32) (fun _ => 256) qs rv.tb lineEnd.1 v4 := hR4
 have h10 : 10 < lineEnd.2 := of_decide_eq_true line_run.1
 change _ at hR4
 obtain ⟨n, hn⟩ : ∃ n, (roundsP lineG [1, 1] 10 ⟨newRig lineG, none⟩).2 = n := ⟨_, rfl⟩
 have hn2 : lineEnd.2 = n := hn
 rw [hn]
 rw [hn2] at h10
 have h10i : (10 : Int) < n := by omega
 have HR5 := Lib.hid hR5
 have HB4 := Lib.hid (HB.out.trans (K4.below.mono HB.out.size))
 clear hR4 hR5 hn hn2 h10 T4 K3 K4 HR HB
 go_wp2_with fail
 refine (dHalt_any HR5.out.mem HGO.out.linked rfl HR5.out.ok (fun d => Nat.le_of_lt (HR5.out.lt (by decide) d))).mono ?_
 rintro e w5 ⟨rfl, hb5⟩
 rw [line_halt]
 have HR6 := Lib.hid (HR5.out.turn (Turn.of_below q4 0 hb5) (fun _ h => h.elim))
 have HB5 := Lib.hid (HB4.out.trans (hb5.mono HB4.out.size))
 generalize ext q4 w4.heap.size 0 = q5 at *
 clear hb5 HB4 HR5
 go_wp2_with fail
 refine (dFailed_any HR6.out.mem).mono ?_
 rintro e w6 ⟨rfl, rfl⟩
 have hfl : failI lineEnd.1 = -1 := by
  unfold failI
  rw [show lineEnd.1.failed = none from line_fail]
 rw [hfl]
 clear hfl
 go_wp2_with fail
 refine (dOut_any 0 HR6.out.mem (fun d hd => Nat.le_of_lt (HR6.out.tape (by decide) d hd))).mono ?_
 rw [line_out]
 rintro e w7 ⟨ov, rfl, ho, hb7⟩
 obtain ⟨oa, oc, rfl⟩ := owns_slice ho
 have hO := (Own.made q5 7 ho).vals
 have hb8 := below_alloc w7 (.cells #[.int .i64 1, .int .i64 3] 3)
 have HO := Lib.hid (hO.turn (Turn.of_below _ 0 hb8) (fun h => h))
 have HI := Lib.hid (ints_two (w := w7) 1 3)
 have HB7 := Lib.hid (HB5.out.trans ((hb7.trans (hb8.mono hb7.size)).mono HB5.out.size))
 clear ho hO hb7 hb8 HB5
 go_wp2_with fail
 refine (sameints_yes HO.out HI.out (by decide)).mono ?_
 rintro e w8 ⟨rfl, m, rfl⟩
 go_wp2
 go_ret
 exact ⟨rfl, below_dr HB7.out⟩
end Go.Proofs.YtaholpfikcdhbaaGreat

/- Blocks that nobody passes, plainly. No function in sight. -/
namespace Go.Proofs.YtaholpfikcdhbaaGreat
def begunN (x : TaskP) : Int := x.whole + if x.gives then 1 else 0
structure BlocksP (g : GGraph) (l : List (Nat × Nat × Int)) : Prop where
 nn : ∀ b ∈ l, 0 ≤ b.2.2
 holds : ∀ b ∈ l, b.2.1 < g.edges.length ∧ (edgeAt g b.2.1).dst = (b.1 : Int) ∧ ∃ c ∈ l, (edgeAt g b.2.1).src = (c.1 : Int) ∧ ((edgeAt g b.2.1).start.length : Int) + rO g c.1 (edgeAt g b.2.1).sport.toNat * c.2.2 < rI g b.1 (edgeAt g b.2.1).dport.toNat * (b.2.2 + 1)
def Below' (l : List (Nat × Nat × Int)) (r : RigP) : Prop := ∀ b ∈ l, begunN (r.tasks b.1) ≤ b.2.2
theorem begun_finish {k o : Nat} {x : TaskP} (h : x.gives = true) : begunN (finishP k o x) = begunN x := by
 unfold finishP
 split
 ·
  show (((x.whole + 1 : Nat) : Int) + if false = true then 1 else 0) = (x.whole : Int) + if x.gives then 1 else 0
  rw [h]
  simp
 ·
  rfl
theorem given_le {g : GGraph} {t s : Nat} {x : TaskP} (hg : ActsOk g) (_h : TOk g t s x) {p : Nat} (hp : p < (ratesO g t).length) : givenN g t x p ≤ rO g t p * begunN x := by
 have hr := rO_pos hg hp
 unfold givenN begunN
 cases hgv : x.gives with
 | false => simp
 | true =>
  have h0 : 0 ≤ lenAt x.gift p := by unfold lenAt; omega
  simp only [if_true]
  rw [Int.mul_add]
  omega
theorem step_blocks {g : GGraph} {caps : List Int} {l : List (Nat × Nat × Int)} {s t : Nat} {r r1 : RigP} (hg : ActsOk g) (hw : Wired g) (hR : ROk g s r) (hC : Cnt g caps r) (hb : BlocksP g l) (h : Below' l r) (hs : stepP g caps r t = .goes r1) : Below' l r1 := by
 obtain ⟨ht, kd⟩ := step_kind.1 hs
 have hT := hR.task t ht
 intro b hbm
 by_cases hbt : b.1 = t
 ·
  cases kd with
  | give x hgv hf hx =>
   subst hx
   show begunN (upd r.tasks t _ b.1) ≤ _
   rw [hbt, upd_same]
   unfold gaveP
   rw [begun_finish (by exact hgv)]
   have := h b hbm
   rw [hbt] at this
   exact this
  | take x v' l' hgv hpo hvv hx =>
   subst hx
   show begunN (upd r.tasks t _ b.1) ≤ _
   rw [hbt, upd_same]
   have := h b hbm
   rw [hbt] at this
   exact this
  | fire x hgv hpo he hx =>
   subst hx
   show begunN (upd r.tasks t _ b.1) ≤ _
   rw [hbt, upd_same]
   unfold firedP
   rw [begun_finish rfl]
   show (((r.tasks t).whole : Int) + if true = true then 1 else 0) ≤ b.2.2
   rw [if_pos rfl]
   obtain ⟨hk, hd, c, hc, hsrc, hlt⟩ := hb.holds b hbm
   obtain ⟨u, p, v, q, e1, e2, e3, e4, hu, hv, hp, hq, w1, w2⟩ := hw.ends _ hk
   have hE : edgeAt g b.2.1 = g.edges[b.2.1] := by unfold edgeAt; rw [List.getElem?_eq_getElem hk]; rfl
   obtain ⟨h1, _⟩ := hC _ hk
   rw [hE] at h1 hd hsrc hlt
   rw [e1, e2, e3, e4] at h1
   rw [e3] at hd
   rw [e1] at hsrc
   rw [e2, e4] at hlt
   simp only [Int.toNat_natCast] at h1 hlt
   obtain rfl : v = t := by omega
   obtain rfl : u = c.1 := by omega
   rw [hbt] at hlt
   obtain ⟨t1, t2, t3, t4, t5⟩ := hT.take hgv
   have hhand : lenAt (r.tasks v).hand q = rI g v q := t3 q (by omega)
   have hgl := given_le hg (hR.task c.1 hu) hp
   have hcf := h c hc
   have hro := rO_pos hg hp
   have hri := rI_pos hg hq
   have h5 : rO g c.1 p * begunN (r.tasks c.1) ≤ rO g c.1 p * c.2.2 := Int.mul_le_mul_of_nonneg_left hcf (by omega)
   have h6 : takenN g v (r.tasks v) q = rI g v q * ((r.tasks v).whole + 1) := by
    unfold takenN
    rw [hhand, Int.mul_add]
    omega
   have h7 : rI g v q * (((r.tasks v).whole : Int) + 1) < rI g v q * (b.2.2 + 1) := by
    have h8 : (0 : Int) ≤ ((r.strs b.2.1).length : Int) := by omega
    omega
   have h9 := Int.lt_of_mul_lt_mul_left h7 (by omega)
   omega
 ·
  have e : r1.tasks b.1 = r.tasks b.1 := by
   cases kd <;> exact upd_other hbt
  rw [e]
  exact h b hbm
theorem run_keeps {g : GGraph} {caps : List Int} {l : List (Nat × Nat × Int)} (hg : ActsOk g) (hw : Wired g) (hcl : caps.length = g.edges.length) (hb : BlocksP g l) {r r1 : RigP} {m : List Nat} (h : KRuns (rigK g caps) r m r1) : ∀ {s : Nat}, ROk g s r → Cnt g caps r → Below' l r → ROk g (s + m.length) r1 ∧ Cnt g caps r1 ∧ Below' l r1 := by
 induction h with
 | nil => exact fun h1 h2 h3 => ⟨h1, h2, h3⟩
 | @cons s0 s1 s2 a l' h _ ih =>
  intro s h1 h2 h3
  have := ih (h1.step hg h) (h2.step hg hw hcl h1 h) (step_blocks hg hw h1 h2 hb h3 h)
  rw [show s + (a :: l').length = s + 1 + l'.length by simp; omega]
  exact this
theorem whole_begun (x : TaskP) : (x.whole : Int) ≤ begunN x := by
 unfold begunN
 split <;> omega
theorem cnt_even {g : GGraph} {caps : List Int} {s : Nat} {r : RigP} (hg : ActsOk g) (hw : Wired g) (hR : ROk g s r) (hC : Cnt g caps r) {k : Nat} (hk : k < g.edges.length) : ∃ u p v q : Nat, g.edges[k].src = u ∧ g.edges[k].sport = p ∧ g.edges[k].dst = v ∧ g.edges[k].dport = q ∧ u < g.actors.length ∧ v < g.actors.length ∧
  (g.edges[k].start.length : Int) + rO g u p * (r.tasks u).whole - rI g v q * (r.tasks v).whole - rI g v q ≤ (r.strs k).length ∧ ((r.strs k).length : Int) ≤ g.edges[k].start.length + rO g u p * (r.tasks u).whole - rI g v q * (r.tasks v).whole + rO g u p := by
 obtain ⟨u, p, v, q, e1, e2, e3, e4, hu, hv, hp, hq, w1, w2⟩ := hw.ends k hk
 obtain ⟨h1, _⟩ := hC k hk
 have hE : edgeAt g k = g.edges[k] := by unfold edgeAt; rw [List.getElem?_eq_getElem hk]; rfl
 rw [hE, e1, e2, e3, e4] at h1
 simp only [Int.toNat_natCast] at h1
 refine ⟨u, p, v, q, e1, e2, e3, e4, hu, hv, ?_⟩
 have hro := rO_pos hg hp
 have hri := rI_pos hg hq
 have ht : 0 ≤ lenAt (r.tasks v).hand q ∧ lenAt (r.tasks v).hand q ≤ rI g v q := by
  refine ⟨by unfold lenAt; omega, ?_⟩
  have hT := hR.task v hv
  cases hgv : (r.tasks v).gives with
  | true => rw [(hT.give hgv).2.2.1 q hq]; exact Int.le_refl _
  | false =>
   obtain ⟨_, t2, t3, t4, t5⟩ := hT.take hgv
   rcases Nat.lt_trichotomy q (r.tasks v).port with h | h | h
   ·
    rw [t3 q h]; exact Int.le_refl _
   ·
    have := t5 (by omega); rw [← h] at this; omega
   ·
    rw [t4 q h]; omega
 have hgn : 0 ≤ (if (r.tasks u).gives then rO g u p - lenAt (r.tasks u).gift p else 0) ∧ (if (r.tasks u).gives then rO g u p - lenAt (r.tasks u).gift p else 0) ≤ rO g u p := by
  have hT := hR.task u hu
  cases hgv : (r.tasks u).gives with
  | false => simp; omega
  | true =>
   simp only [if_true]
   obtain ⟨_, _, _, g4, g5, g6, g7⟩ := hT.give hgv
   have h0 : 0 ≤ lenAt (r.tasks u).gift p := by unfold lenAt; omega
   rcases Nat.lt_trichotomy p (r.tasks u).port with h | h | h
   ·
    rw [g4 p h]; omega
   ·
    rw [← h] at g7; omega
   ·
    rw [g5 p h hp]; omega
 unfold givenN takenN at h1
 omega
end Go.Proofs.YtaholpfikcdhbaaGreat

/- A run with more, plainly. No function in sight. -/
namespace Go.Proofs.YtaholpfikcdhbaaGreat
open Go.RowKit
def HasMore (w : World) (v : Value) (mc : List Int) (mf : List (List Int)) : Prop := ∃ vc vf, v = .agg #[vc, vf] ∧ Has w vc (ivs mc) ∧ LL w vf mf
theorem HasMore.below {w w' : World} {v : Value} {mc : List Int} {mf : List (List Int)} (h : HasMore w v mc mf) (hb : Below w.heap.size w w') : HasMore w' v mc mf := by
 obtain ⟨vc, vf, rfl, h1, h2⟩ := h
 exact ⟨vc, vf, rfl, h1.below hb, h2.below hb⟩
def goodM (caps mc : List Int) (k : Nat) : Prop := ∀ i, i < k → i < mc.length → 0 ≤ mc[i]?.getD 0 ∧ mc[i]?.getD 0 ≤ 1024 ∧ caps[i]?.getD 0 ≤ 1024
def capsM (caps mc : List Int) (k : Nat) : List Int := (List.range k).map fun i => caps[i]?.getD 0 + mc[i]?.getD 0
def fedM (fed mf : List (List Int)) (k : Nat) : List (List Int) := (List.range k).map fun i => fed[i]?.getD [] ++ mf[i]?.getD []
theorem newE_lens {g : GGraph} {caps : List Int} (h : newE g caps = 0) : checkE g = 0 ∧ caps.length = g.edges.length ∧ ∀ c ∈ caps, 0 ≤ c := by
 unfold newE at h
 split at h
 ·
  rename_i h1; exact absurd h h1
 ·
  rename_i h1
  split at h
  ·
   cases h
  ·
   rename_i h2
   split at h
   ·
    cases h
   ·
    rename_i h3
    refine ⟨Decidable.not_not.1 h1, Decidable.not_not.1 h2, fun c hc => ?_⟩
    have := fun hh => h3 (List.any_eq_true.2 ⟨c, hc, hh⟩)
    simp at this
    omega
end Go.Proofs.YtaholpfikcdhbaaGreat

/- How many tokens an edge has, and how often its ends fired, plainly. No function in sight. -/
namespace Go.Proofs.YtaholpfikcdhbaaGreat
open Go.RowKit
theorem start_cnt {g : GGraph} {caps : List Int} {fed : List (List Int)} : Cnt g caps (feedS g fed (newRig g)) := by
 intro k hk
 have e : (feedS g fed (newRig g)).strs k = (edgeAt g k).start := by
  rw [feed_str_out (by omega)]
  unfold newRig
  simp only [if_pos hk]
 have h0 : ∀ t q, lenAt (newTask g t).hand q = 0 := by
  intro t q
  unfold newTask lenAt
  simp only [List.getElem?_replicate]
  split <;> rfl
 rw [e]
 refine ⟨?_, .inr (Int.le_refl _)⟩
 unfold givenN takenN feedS newRig
 simp only [h0]
 unfold newTask
 simp
theorem reach_cnt {g : GGraph} {caps : List Int} {s : RigP} {r : RunP} {M : Nat} (hg : ActsOk g) (hw : Wired g) (hcl : caps.length = g.edges.length) (hr : Reach g caps s r) (hR : ROk g M s) (hC : Cnt g caps s) : Cnt g caps r.rig := by
 obtain ⟨⟨l, hl⟩, -⟩ := hr
 exact (run_keeps (l := []) hg hw hcl ⟨(fun b h => by cases h), (fun b h => by cases h)⟩ hl hR hC (fun b h => by cases h)).2.1
structure RoomAt (g : GGraph) (caps : List Int) (r : RunP) (k u v : Nat) (G K A B : Int) : Prop where
 src : (edgeAt g k).src = u
 dst : (edgeAt g k).dst = v
 hu : u < g.actors.length
 hv : v < g.actors.length
 give : rO g u (edgeAt g k).sport.toNat = G
 take : rI g v (edgeAt g k).dport.toNat = K
 gb : 1 ≤ G ∧ G ≤ 64
 kb : 1 ≤ K ∧ K ≤ 64
 ga : G * ((r.rig.tasks u).whole : Int) = A
 kb2 : K * ((r.rig.tasks v).whole : Int) = B
 ab : 0 ≤ A ∧ A ≤ 1728000000000000
 bb : 0 ≤ B ∧ B ≤ 1728000000000000
 room : ((r.rig.strs k).length : Int) ≤ caps[k]?.getD 0 ∨ ((r.rig.strs k).length : Int) ≤ (edgeAt g k).start.length
 low : ((edgeAt g k).start.length : Int) + A - B - K ≤ (r.rig.strs k).length
 high : ((r.rig.strs k).length : Int) ≤ (edgeAt g k).start.length + A - B + G
theorem mul_few {G : Int} {n : Nat} (h1 : 1 ≤ G) (h2 : G ≤ 64) (hn : n ≤ 27000000000000) : 0 ≤ G * (n : Int) ∧ G * (n : Int) ≤ 1728000000000000 := by
 obtain ⟨x, rfl⟩ := Int.eq_ofNat_of_zero_le (show 0 ≤ G by omega)
 have h : x * n ≤ 64 * 27000000000000 := Nat.mul_le_mul (by omega) hn
 have e : (x : Int) * (n : Int) = ((x * n : Nat) : Int) := by simp
 rw [e]
 omega
theorem room_of {g : GGraph} {caps : List Int} {r : RunP} {M : Nat} (hg : ActsOk g) (hw : Wired g) (hR : ROk g M r.rig) (hM : M ≤ 27000000000000) (hC : Cnt g caps r.rig) {k : Nat} (hk : k < g.edges.length) : ∃ u v G K A B, RoomAt g caps r k u v G K A B := by
 obtain ⟨u, p, v, q, e1, e2, e3, e4, hu, hv, l1, l2⟩ := cnt_even hg hw hR hC hk
 have hE : edgeAt g k = g.edges[k] := by unfold edgeAt; rw [List.getElem?_eq_getElem hk]; rfl
 obtain ⟨u', p', v', q', f1, f2, f3, f4, -, -, hp, hq, -, -⟩ := hw.ends k hk
 obtain rfl : u' = u := by omega
 obtain rfl : p' = p := by omega
 obtain rfl : v' = v := by omega
 obtain rfl : q' = q := by omega
 have hro := rO_pos hg hp
 have hri := rI_pos hg hq
 have wu := (hR.task u' hu).whole
 have wv := (hR.task v' hv).whole
 have a := mul_few hro.1 hro.2 (show (r.rig.tasks u').whole ≤ 27000000000000 by omega)
 have b := mul_few hri.1 hri.2 (show (r.rig.tasks v').whole ≤ 27000000000000 by omega)
 refine ⟨u', v', rO g u' p', rI g v' q', _, _, by rw [hE, e1], by rw [hE, e3], hu, hv, by rw [hE, e2, Int.toNat_natCast], by rw [hE, e4, Int.toNat_natCast], hro, hri, rfl, rfl, a, b, (hC k hk).2, ?_, ?_⟩
 ·
  rw [hE]; omega
 ·
  rw [hE]; omega
end Go.Proofs.YtaholpfikcdhbaaGreat

/- net.Of of a graph that is in order. -/
namespace Go.Proofs.YtaholpfikcdhbaaGreat
open Go.RowKit
def arcV (g : GGraph) (k : Nat) : List Value := [.int .i64 (edgeAt g k).src, .int .i64 (edgeAt g k).dst, .int .i64 (rO g (edgeAt g k).src.toNat (edgeAt g k).sport.toNat), .int .i64 (rI g (edgeAt g k).dst.toNat (edgeAt g k).dport.toNat), .int .i64 ((edgeAt g k).start.length : Nat)]
theorem arcV_len (g : GGraph) (k : Nat) : (arcV g k).length = 5 := rfl
def arcsV (g : GGraph) (k : Nat) : List Value := (List.range k).flatMap (arcV g)
theorem arcsV_get (g : GGraph) {n k i : Nat} (hk : k < n) (hi : i < 5) : (arcsV g n)[k * 5 + i]? = (arcV g k)[i]? := xflat_get (arcV_len g) hi hk
theorem arcsV_snoc (g : GGraph) (k : Nat) : arcsV g (k + 1) = arcsV g k ++ arcV g k := xflat_snoc _ _
def OfRet (w : World) (g : GGraph) (e : Ending) (w' : World) : Prop := ∃ va, e = .returned (.tuple #[.agg #[.int .i64 (g.actors.length : Nat), va], .int .i64 0]) ∧ w'.ownsRow w.heap.size 78 5 va g.edges.length (arcsV g g.edges.length) ∧ Below w.heap.size w w'
structure OfAt (w0 wz : World) (q : Col) (b : Nat) (g : GGraph) (gv : List Value) (k : Nat) (va : Value) : Prop where
 kept : Kept w0.heap.size q w0 wz
 box : Blk wz q 31000 w0.heap.size 26 gv.toArray
 res : Blk wz q 31001 (w0.heap.size + 1) 74 #[.int .i64 0, .slice none 0 0]
 net : Blk wz q 31002 b 74 #[.int .i64 (g.actors.length : Nat), va]
 arcs : Own wz q 31003 78 5 va k (arcsV g k)
 base : w0.heap.size ≤ b
theorem OfAt.turn {w0 w w' : World} {q q' : Col} {C : Nat → Prop} {b : Nat} {g : GGraph} {gv : List Value} {k : Nat} {va : Value} (h : OfAt w0 w q b g gv k va) (T : Turn q q' C w w') (hC : ∀ c, C c → 31003 < c) : OfAt w0 w' q' b g gv k va :=
 ⟨h.kept.turn T (fun h => by have := hC _ h; omega), h.box.turn T (fun h => by have := hC _ h; omega), h.res.turn T (fun h => by have := hC _ h; omega), h.net.turn T (fun h => by have := hC _ h; omega), h.arcs.turn T (fun h => by have := hC _ h; omega), h.base⟩
theorem act3_set {w : World} {o : Col} {c Z : Nat} {a0 a1 a2 z0 z1 z2 : Value} (h : Blk w o c Z 96 #[z0, z1, z2]) : Blk (((w.setCell ⟨Z, 0, none⟩ a0).setCell ⟨Z, 1, none⟩ a1).setCell ⟨Z, 2, none⟩ a2) o c Z 96 #[a0, a1, a2] ∧ Turn o o (fun x => x = c) w (((w.setCell ⟨Z, 0, none⟩ a0).setCell ⟨Z, 1, none⟩ a1).setCell ⟨Z, 2, none⟩ a2) := by
 obtain ⟨h1, t1⟩ := h.set 0 a0
 obtain ⟨h2, t2⟩ := h1.set 1 a1
 obtain ⟨h3, t3⟩ := h2.set 2 a2
 exact ⟨h3, (t1.trans t2 (fun _ h => h)).trans t3 (fun _ h => h)⟩
def OfTwo (w0 : World) (b Y : Nat) (g : GGraph) (gv ev : List Value) (k : Nat) (va : Value) (n1 n2 : Value) (t1 t2 : Value) (p1 p2 : Value) (pp ee : Value) (wx : World) : Prop :=
 ∃ q X Z, pp = .pointer (some ⟨X, 0, none⟩) ∧ ee = .pointer (some ⟨Z, 0, none⟩) ∧ OfAt w0 wx q b g gv k va ∧ Blk wx q 31004 Y 107 ev.toArray ∧ Blk wx q 31005 X 96 #[n1, t1, p1] ∧ Blk wx q 31006 Z 96 #[n2, t2, p2]
theorem of_s {w wx : World} {q : Col} {b Y ba oa k i j : Nat} {g : GGraph} {n0 v1 v2 v3 v4 va e1 e3 e4 n1 n2 t1 t2 p1 p2 s d : Value} (h : OfAt w wx q b g [n0, v1, v2, v3, v4] k va) (hY : Blk wx q 31004 Y 107 #[s, e1, d, e3, e4]) (hc : w.cell? ⟨ba, oa + i * 3, none⟩ = some n1 ∧ w.cell? ⟨ba, oa + i * 3 + 1, none⟩ = some t1 ∧ w.cell? ⟨ba, oa + i * 3 + 2, none⟩ = some p1 ∧ w.cell? ⟨ba, oa + j * 3, none⟩ = some n2 ∧ w.cell? ⟨ba, oa + j * 3 + 1, none⟩ = some t2 ∧ w.cell? ⟨ba, oa + j * 3 + 2, none⟩ = some p2) :
  wx.cell? ⟨w.heap.size, 1, none⟩ = some v1 ∧ wx.cell? ⟨Y, 0, none⟩ = some s ∧ wx.cell? ⟨Y, 2, none⟩ = some d ∧ wx.cell? ⟨ba, oa + i * 3, none⟩ = some n1 ∧ wx.cell? ⟨ba, oa + i * 3 + 1, none⟩ = some t1 ∧ wx.cell? ⟨ba, oa + i * 3 + 2, none⟩ = some p1 ∧ wx.cell? ⟨ba, oa + j * 3, none⟩ = some n2 ∧ wx.cell? ⟨ba, oa + j * 3 + 1, none⟩ = some t2 ∧ wx.cell? ⟨ba, oa + j * 3 + 2, none⟩ = some p2 :=
 ⟨h.box.cell 1 _ rfl, hY.cell 0 _ rfl, hY.cell 2 _ rfl, cell_later h.kept.below hc.1, cell_later h.kept.below hc.2.1, cell_later h.kept.below hc.2.2.1, cell_later h.kept.below hc.2.2.2.1, cell_later h.kept.below hc.2.2.2.2.1, cell_later h.kept.below hc.2.2.2.2.2⟩
theorem own_base {B : Nat} {q : Col} {w0 w : World} {c : Nat} {e : TypeId} {size n : Nat} {v : Value} {xs : List Value} (hk : Kept B q w0 w) (h : Own w q c e size v n xs) (hc : c ≠ 0) : w.ownsRow B e size v n xs :=
 owns_base h.1 (fun b hb => Nat.le_of_not_lt fun hlt => hc ((h.2 b hb).symm.trans (hk.old b hlt)))
theorem net_set {w : World} {Z : Nat} {a0 a1 z0 z1 : Value} (h : w.heap[Z]? = some (.cells #[z0, z1] 74 (0, 0))) : ((w.setCell ⟨Z, 0, none⟩ a0).setCell ⟨Z, 1, none⟩ a1).heap[Z]? = some (.cells #[a0, a1] 74 (0, 0)) := by
 have h0 := block_setCell h 0 a0
 simp only [List.setIfInBounds_toArray, List.set_cons_zero] at h0
 have h1 := block_setCell h0 1 a1
 simp only [List.setIfInBounds_toArray, List.set_cons_zero, List.set_cons_succ] at h1
 exact h1
theorem info_arc : (Tryz.prog.info? 78).map (fun i => (i.zero, i.size, i.bytes)) = some (some (.agg #[.int .i64 0, .int .i64 0, .int .i64 0, .int .i64 0, .int .i64 0]), 5, 40) := by kernel_rfl
set_option maxRecDepth 100000 in
set_option maxHeartbeats 4000000 in
theorem netof_any (w : World) (v : Value) (g : GGraph) (hv : HasGraph w v g) (hz : GSized g) (hE : checkE g = 0) : Calls Tryz.prog 32 #[v] w (OfRet w g) := by
 have hS := sound_of hE
 have HF := Lib.hid (head_few hS.head)
 have HS := Lib.hid hS
 obtain ⟨_, _, _, _, e0, ra, re, ri, ro⟩ := hv.shape
 obtain ⟨aa, ac, rfl⟩ := ra.slice
 obtain ⟨ae, ec, rfl⟩ := re.slice
 obtain ⟨ai, ic, rfl⟩ := ri.slice
 obtain ⟨ao, oc, rfl⟩ := ro.slice
 obtain rfl := e0
 have HG := Lib.hid hv
 have HRA := Lib.hid ra
 have HRE := Lib.hid re
 have HZ := Lib.hid hz
 have HE := Lib.hid hE
 clear hv ra re ri ro hz hS hE
 have hb1 := below_alloc w (.cells #[.string g.name, .slice aa g.actors.length ac, .slice ae g.edges.length ec, .slice ai g.ins.length ic, .slice ao g.outs.length oc] 26)
 have T1 := Turn.of_below (fun _ => 0) 31000 hb1
 have hX := blk_new (w := w) (fun _ => 0) 31000 #[.string g.name, .slice aa g.actors.length ac, .slice ae g.edges.length ec, .slice ai g.ins.length ic, .slice ao g.outs.length oc] 26
 have hsz : (w.alloc (.cells #[.string g.name, .slice aa g.actors.length ac, .slice ae g.edges.length ec, .slice ai g.ins.length ic, .slice ao g.outs.length oc] 26)).heap.size = w.heap.size + 1 := by simp
 have hb2 := below_alloc (w.alloc (.cells #[.string g.name, .slice aa g.actors.length ac, .slice ae g.edges.length ec, .slice ai g.ins.length ic, .slice ao g.outs.length oc] 26)) (.cells #[.int .i64 0, .slice none 0 0] 74)
 have T2 := Turn.of_below (ext (fun _ => 0) w.heap.size 31000) 31001 hb2
 have hR := blk_new (w := w.alloc (.cells #[.string g.name, .slice aa g.actors.length ac, .slice ae g.edges.length ec, .slice ai g.ins.length ic, .slice ao g.outs.length oc] 26)) (ext (fun _ => 0) w.heap.size 31000) 31001 #[.int .i64 0, .slice none 0 0] 74
 have HK := Lib.hid (((Kept.start w).turn T1 (fun h => h)).turn T2 (fun h => h))
 have HX := Lib.hid (hX.turn T2 (fun h => h))
 rw [hsz] at hR HK HX
 have HR := Lib.hid hR
 generalize ext (ext (fun _ => 0) w.heap.size 31000) (w.heap.size + 1) 31001 = q1 at *
 obtain ⟨w1, hw1⟩ : ∃ x, (w.alloc (.cells #[.string g.name, .slice aa g.actors.length ac, .slice ae g.edges.length ec, .slice ai g.ins.length ic, .slice ao g.outs.length oc] 26)).alloc (.cells #[.int .i64 0, .slice none 0 0] 74) = x := ⟨_, rfl⟩
 rw [hw1] at HK HX HR
 clear hb1 T1 hX hsz hb2 T2 hR
 have x0 := HX.out.cell 0 _ rfl
 have x1 := HX.out.cell 1 _ rfl
 have x2 := HX.out.cell 2 _ rfl
 have x3 := HX.out.cell 3 _ rfl
 have x4 := HX.out.cell 4 _ rfl
 go_enter Tryz.func32, Tryz.ntmps32
 go_wp2_with fail
 clear hw1
 refine (gcheck_any _ _ g (HG.out.below HK.out.below) HZ.out).mono ?_
 rintro e w2 ⟨rfl, hb2⟩
 rw [HE.out]
 have T2 := Turn.of_below q1 31010 hb2
 replace HK := Lib.hid (HK.out.turn T2 (fun h => h))
 replace HX := Lib.hid (HX.out.turn T2 (fun h => h))
 replace HR := Lib.hid (HR.out.turn T2 (fun h => h))
 generalize ext q1 w1.heap.size 31010 = q2 at *
 clear hb2 T2 x0 x1 x2 x3 x4
 have x1 := HX.out.cell 1 (.slice aa g.actors.length ac) rfl
 have hb3 := below_alloc w2 (.cells #[.int .i64 (g.actors.length : Nat), .slice none 0 0] 74)
 have T3 := Turn.of_below q2 31002 hb3
 have hN := blk_new (w := w2) q2 31002 #[.int .i64 (g.actors.length : Nat), .slice none 0 0] 74
 have HA := Lib.hid (OfAt.mk (g := g) (k := 0) (HK.out.turn T3 (fun h => h)) (HX.out.turn T3 (fun h => h)) (HR.out.turn T3 (fun h => h)) hN (Own.nil _ _ _ _ _) HK.out.size)
 generalize ext q2 w2.heap.size 31002 = q3 at *
 clear hb3 T3 hN
 have x2 := HA.out.box.cell 2 (.slice ae g.edges.length ec) rfl
 go_wp2_with fail
 obtain ⟨w3, hw3⟩ : ∃ x, w2.alloc (.cells #[.int .i64 (g.actors.length : Nat), .slice none 0 0] 74) = x := ⟨_, rfl⟩
 obtain ⟨b, hbb⟩ : ∃ x, w2.heap.size = x := ⟨_, rfl⟩
 rw [hw3] at HA ⊢
 rw [hbb] at HA ⊢
 clear hw3 hbb HK HX HR x1 x2
 go_loopw [29] (fun i wz => ∃ (k : Nat) (q : Col) (va : Value), k ≤ g.edges.length ∧ i = .int .i64 k ∧ OfAt w wz q b g [.string g.name, .slice aa g.actors.length ac, .slice ae g.edges.length ec, .slice ai g.ins.length ic, .slice ao g.outs.length oc] k va) (fun i _ => g.edges.length - (intOf i).toNat)
 case atStart => exact ⟨0, _, _, Nat.zero_le _, rfl, HA.out⟩
 case round =>
  clear HA
  obtain ⟨k, q, va, hk, rfl, hA⟩ := hrel
  have HN := Lib.hid hA
  clear hA
  by_cases hlt : k < g.edges.length
  ·
   have hlti : (k : Int) < g.edges.length := by omega
   obtain ⟨b0, off, rfl, hcap, hb0, hrec⟩ := HRE.out.at (by omega)
   obtain ⟨cs, hcs, hPR, hcl⟩ := hrec k hlt
   obtain ⟨xs, rfl, hst⟩ := hPR
   have c0 := cell_later HN.out.kept.below (hcl 0 (by omega))
   have c1 := cell_later HN.out.kept.below (hcl 1 (by omega))
   have c2 := cell_later HN.out.kept.below (hcl 2 (by omega))
   have c3 := cell_later HN.out.kept.below (hcl 3 (by omega))
   have c4 := cell_later HN.out.kept.below (hcl 4 (by omega))
   simp at c0 c1 c2 c3 c4
   have hcapi : (g.edges.length : Int) ≤ ec := by omega
   obtain ⟨sa, sc, hxs⟩ := Ints.slice hst
   subst hxs
   obtain ⟨ed, hed⟩ : ∃ x, g.edges[k] = x := ⟨_, rfl⟩
   have HED := Lib.hid hed
   have hee : edgeAt g k = ed := by unfold edgeAt; rw [List.getElem?_eq_getElem hlt]; exact hed
   have HEE := Lib.hid hee
   rw [hed] at c0 c1 c2 c3 c4
   have hsnd := HS.out.edge k hlt
   rw [hed] at hsnd
   obtain ⟨⟨a1, a2⟩, ⟨a3, a4⟩, -, ⟨a5, a6⟩, ⟨a7, a8⟩, -, -⟩ := hsnd
   obtain ⟨i, hi⟩ := Int.eq_ofNat_of_zero_le a1
   obtain ⟨p, hp⟩ := Int.eq_ofNat_of_zero_le a3
   obtain ⟨j, hj⟩ := Int.eq_ofNat_of_zero_le a5
   obtain ⟨r, hr⟩ := Int.eq_ofNat_of_zero_le a7
   rw [hi] at c0 a2 a4
   rw [hp] at c1 a4
   rw [hj] at c2 a6 a8
   rw [hr] at c3 a8
   simp only [Int.toNat_natCast] at a4 a8 a2 a6 c0 c1 c2 c3
   have hi2 : i < g.actors.length := by omega
   have hj2 : j < g.actors.length := by omega
   have hi3 : (i : Int) < g.actors.length := a2
   have hj3 : (j : Int) < g.actors.length := a6
   have HP := Lib.hid a4
   have HR := Lib.hid a8
   have HI := Lib.hid hi
   have HJ := Lib.hid hj
   have HPP := Lib.hid hp
   have HRR := Lib.hid hr
   clear hrec hcl hcs hst hb0 hcap hed hee a1 a2 a3 a4 a5 a6 a7 a8 hi hj hp hr
   obtain ⟨ba, oa, rfl, hacap, -, harec⟩ := HRA.out.at (by omega)
   obtain ⟨cs1, -, hPR1, hcl1⟩ := harec i hi2
   obtain ⟨xs1, rfl, hst1⟩ := hPR1
   obtain ⟨cs2, -, hPR2, hcl2⟩ := harec j hj2
   obtain ⟨xs2, rfl, hst2⟩ := hPR2
   obtain ⟨pa1, pc1, hxs1⟩ := Ints.slice hst1
   subst hxs1
   obtain ⟨pa2, pc2, hxs2⟩ := Ints.slice hst2
   subst hxs2
   have hacapi : (g.actors.length : Int) ≤ ac := by omega
   obtain ⟨g1, hg1⟩ : ∃ x, g.actors[i] = x := ⟨_, rfl⟩
   obtain ⟨g2, hg2⟩ : ∃ x, g.actors[j] = x := ⟨_, rfl⟩
   have HG1 : Hid (g.actors[i]? = some g1) := Lib.hid (by rw [List.getElem?_eq_getElem hi2, hg1])
   have HG2 : Hid (g.actors[j]? = some g2) := Lib.hid (by rw [List.getElem?_eq_getElem hj2, hg2])
   have HO1 : Hid (goodP g1.tag g1.params) := Lib.hid (by rw [← hg1]; exact HS.out.good _ (List.getElem_mem hi2))
   have HO2 : Hid (goodP g2.tag g2.params) := Lib.hid (by rw [← hg2]; exact HS.out.good _ (List.getElem_mem hj2))
   have HL1 : Hid (g1.params.length ≤ 17600000000000) := Lib.hid (by rw [← hg1]; exact (HZ.out.2.1 _ (List.getElem_mem hi2)).2)
   have HL2 : Hid (g2.params.length ≤ 17600000000000) := Lib.hid (by rw [← hg2]; exact (HZ.out.2.1 _ (List.getElem_mem hj2)).2)
   rw [hg1] at hst1 hcl1
   rw [hg2] at hst2 hcl2
   have HC := Lib.hid (And.intro (hcl1 0 (by omega)) (And.intro (hcl1 1 (by omega)) (And.intro (hcl1 2 (by omega)) (And.intro (hcl2 0 (by omega)) (And.intro (hcl2 1 (by omega)) (hcl2 2 (by omega)))))))
   simp at HC
   have HT1 := Lib.hid hst1
   have HT2 := Lib.hid hst2
   clear hcl1 hcl2 harec hacap hg1 hg2 hst1 hst2
   have hby := below_alloc wr (.cells #[.int .i64 i, .int .i64 p, .int .i64 j, .int .i64 r, .slice sa ed.start.length sc] 107)
   have Ty := Turn.of_below q 31004 hby
   have hY := blk_new (w := wr) q 31004 #[.int .i64 i, .int .i64 p, .int .i64 j, .int .i64 r, .slice sa ed.start.length sc] 107
   have HY := Lib.hid hY
   replace HN := Lib.hid (HN.out.turn Ty (fun _ h => h.elim))
   generalize ext q wr.heap.size 31004 = qy at *
   clear Ty hY hby
   go_wp2_with fail
   obtain ⟨wy, hwy⟩ : ∃ x, wr.alloc (.cells #[.int .i64 i, .int .i64 p, .int .i64 j, .int .i64 r, .slice sa ed.start.length sc] 107) = x := ⟨_, rfl⟩
   obtain ⟨Y, hYe⟩ : ∃ x, wr.heap.size = x := ⟨_, rfl⟩
   rw [hwy] at HY HN ⊢
   rw [hYe] at HY ⊢
   clear hwy hYe c0 c1 c2 c3 c4
   obtain ⟨n1, hn1⟩ : ∃ x, g1.name = x := ⟨_, rfl⟩
   obtain ⟨n2, hn2⟩ : ∃ x, g2.name = x := ⟨_, rfl⟩
   rw [hn1, hn2] at HC
   clear hn1 hn2
   go_cut [8, 9] from 33 to 45 (fun pp ee wx => OfTwo w b Y g [.string g.name, .slice (some ⟨ba, oa, none⟩) g.actors.length ac, .slice (some ⟨b0, off, none⟩) g.edges.length ec, .slice ai g.ins.length ic, .slice ao g.outs.length oc] [.int .i64 i, .int .i64 p, .int .i64 j, .int .i64 r, .slice sa ed.start.length sc] k va (.string n1) (.string n2) (.int .u8 g1.tag) (.int .u8 g2.tag) (.slice pa1 g1.params.length pc1) (.slice pa2 g2.params.length pc2) pp ee wx)
   case first =>
     refine wp_region_drift (fun w' => (w').cell? ⟨w.heap.size, 1, none⟩ = some (.slice (some ⟨ba, oa, none⟩) g.actors.length ac) ∧ (w').cell? ⟨Y, 0, none⟩ = some (.int .i64 i) ∧ (w').cell? ⟨Y, 2, none⟩ = some (.int .i64 j) ∧ (w').cell? ⟨ba, oa + i * 3, none⟩ = some (.string n1) ∧ (w').cell? ⟨ba, oa + i * 3 + 1, none⟩ = some (.int .u8 g1.tag) ∧ (w').cell? ⟨ba, oa + i * 3 + 2, none⟩ = some (.slice pa1 g1.params.length pc1) ∧ (w').cell? ⟨ba, oa + j * 3, none⟩ = some (.string n2) ∧ (w').cell? ⟨ba, oa + j * 3 + 1, none⟩ = some (.int .u8 g2.tag) ∧ (w').cell? ⟨ba, oa + j * 3 + 2, none⟩ = some (.slice pa2 g2.params.length pc2)) [0, 1, 2, 3, 4, 5, 6, 7, 8, 9, 10, 11] [14] [0, 1, 2, 3, 4, 5, 6, 7, 8, 9, 10, 11] 4 (by kernel_rfl) (by kernel_rfl) rfl (of_s (wx := wy) HN.out HY.out HC.out) ?_
     intro Q' hQ' hQ2
     simp only [pickOps, List.flatMap_cons, List.flatMap_nil, List.drop_succ_cons, List.drop_zero, List.take_succ_cons, List.take_zero, List.cons_append, List.nil_append, List.append_nil]
     repeat (first
      | (refine wpReads_skip (by rfl) ?_; (try simp only [Act.put, List.setIfInBounds_toArray, List.set_cons_zero, List.set_cons_succ]))
      | (refine wpReads_cons ?_ (by rfl) (by rfl) ?_ ?_; rotate_left; (intro wz hz; (try dsimp only at hz); go_simp; try with_reducible rfl); (try simp only [Act.put, List.setIfInBounds_toArray, List.set_cons_zero, List.set_cons_succ]))
      | (refine wpReads_any ?_ (by rfl) ?_ ?_; rotate_left; (intro wz; go_simp; try with_reducible rfl); (try simp only [Act.put, List.setIfInBounds_toArray, List.set_cons_zero, List.set_cons_succ])))
     refine wpReads_nil ?_
     have T0 : Turn qy qy (fun _ => False) wy wy.drew := (Turn.refl qy _ wy).drew
     replace HN := Lib.hid (HN.out.turn T0 (fun _ h => h.elim))
     replace HY := Lib.hid (HY.out.turn T0 (fun h => h))
     obtain ⟨wd, hwd⟩ : ∃ x, wy.drew = x := ⟨_, rfl⟩
     rw [hwd] at HN HY ⊢
     clear T0 hwd
     refine wpAnyT_two (i := 12) (k := 13) (by kernel_rfl) ?_ ?_
     ·
      simp only [pickOps, List.flatMap_cons, List.flatMap_nil, List.drop_succ_cons, List.drop_zero, List.take_succ_cons, List.take_zero, List.append_nil]
      have hbN := below_alloc wd (.cells #[.string { data := #[] }, .int .u8 0, .slice none 0 0] 96)
      have TN := Turn.of_below qy 31005 hbN
      have HA := Lib.hid (blk_new (w := wd) qy 31005 #[.string { data := #[] }, .int .u8 0, .slice none 0 0] 96)
      replace HN := Lib.hid (HN.out.turn TN (fun _ h => h.elim))
      replace HY := Lib.hid (HY.out.turn TN (fun h => h))
      generalize ext qy wd.heap.size 31005 = q1s at *
      clear hbN TN
      go_wp2_with fail
      obtain ⟨w1s, hWN⟩ : ∃ x, wd.alloc (.cells #[.string { data := #[] }, .int .u8 0, .slice none 0 0] 96) = x := ⟨_, rfl⟩
      obtain ⟨XA, hfN⟩ : ∃ x, wd.heap.size = x := ⟨_, rfl⟩
      rw [hWN] at HN HY HA ⊢
      rw [hfN] at HA ⊢
      clear hWN hfN
      refine ⟨by intros; exact of_s HN.out HY.out HC.out, ?_⟩
      refine wpAnyT_one (i := 13) (by kernel_rfl) ?_
      simp only [pickOps, List.flatMap_cons, List.flatMap_nil, List.drop_succ_cons, List.drop_zero, List.take_succ_cons, List.take_zero, List.append_nil]
      have hbN := below_alloc w1s (.cells #[.string { data := #[] }, .int .u8 0, .slice none 0 0] 96)
      have TN := Turn.of_below q1s 31006 hbN
      have HB := Lib.hid (blk_new (w := w1s) q1s 31006 #[.string { data := #[] }, .int .u8 0, .slice none 0 0] 96)
      replace HN := Lib.hid (HN.out.turn TN (fun _ h => h.elim))
      replace HY := Lib.hid (HY.out.turn TN (fun h => h))
      replace HA := Lib.hid (HA.out.turn TN (fun h => h))
      generalize ext q1s w1s.heap.size 31006 = q2s at *
      clear hbN TN
      go_wp2_with fail
      obtain ⟨w2s, hWN⟩ : ∃ x, w1s.alloc (.cells #[.string { data := #[] }, .int .u8 0, .slice none 0 0] 96) = x := ⟨_, rfl⟩
      obtain ⟨XB, hfN⟩ : ∃ x, w1s.heap.size = x := ⟨_, rfl⟩
      rw [hWN] at HN HY HB HA ⊢
      rw [hfN] at HB ⊢
      clear hWN hfN
      refine ⟨by intros; exact of_s HN.out HY.out HC.out, ?_⟩
      refine wpAnyT_one (i := 14) (by kernel_rfl) ?_
      simp only [pickOps, List.flatMap_cons, List.flatMap_nil, List.drop_succ_cons, List.drop_zero, List.take_succ_cons, List.take_zero, List.append_nil]
      have z0 := HA.out.cell 0 _ rfl
      have z1 := HA.out.cell 1 _ rfl
      have z2 := HA.out.cell 2 _ rfl
      have f0 := HA.out.frozen 0
      have f1 := HA.out.frozen 1
      have f2 := HA.out.frozen 2
      obtain ⟨hbS, TS⟩ := act3_set (a0 := (.string n1)) (a1 := (.int .u8 g1.tag)) (a2 := (.slice pa1 g1.params.length pc1)) HA.out
      replace HA := Lib.hid hbS
      replace HN := Lib.hid (HN.out.turn TS (fun _ h => by omega))
      replace HY := Lib.hid (HY.out.turn TS (by omega))
      replace HB := Lib.hid (HB.out.turn TS (by omega))
      clear hbS TS
      go_wp2_with fail
      obtain ⟨w3s, hWN⟩ : ∃ x, (((w2s).setCell ⟨XA, 0, none⟩ (.string n1)).setCell ⟨XA, 1, none⟩ (.int .u8 g1.tag)).setCell ⟨XA, 2, none⟩ (.slice pa1 g1.params.length pc1) = x := ⟨_, rfl⟩
      rw [hWN] at HN HY HA HB ⊢
      clear hWN z0 z1 z2 f0 f1 f2
      refine ⟨by intros; exact of_s HN.out HY.out HC.out, ?_⟩
      refine wpAnyT_list (ks := [15]) (fun _ _ hx h => ⟨hx.cell h.1, hx.cell h.2.1, hx.cell h.2.2.1, hx.cell h.2.2.2.1, hx.cell h.2.2.2.2.1, hx.cell h.2.2.2.2.2.1, hx.cell h.2.2.2.2.2.2.1, hx.cell h.2.2.2.2.2.2.2.1, hx.cell h.2.2.2.2.2.2.2.2⟩) (by kernel_rfl) ?_
      simp only [pickOps, List.flatMap_cons, List.flatMap_nil, List.drop_succ_cons, List.drop_zero, List.take_succ_cons, List.take_zero, List.append_nil]
      have z0 := HB.out.cell 0 _ rfl
      have z1 := HB.out.cell 1 _ rfl
      have z2 := HB.out.cell 2 _ rfl
      have f0 := HB.out.frozen 0
      have f1 := HB.out.frozen 1
      have f2 := HB.out.frozen 2
      obtain ⟨hbS, TS⟩ := act3_set (a0 := (.string n2)) (a1 := (.int .u8 g2.tag)) (a2 := (.slice pa2 g2.params.length pc2)) HB.out
      replace HB := Lib.hid hbS
      replace HN := Lib.hid (HN.out.turn TS (fun _ h => by omega))
      replace HY := Lib.hid (HY.out.turn TS (by omega))
      replace HA := Lib.hid (HA.out.turn TS (by omega))
      clear hbS TS
      clear hQ2
      go_wp2
      go_meet
      case rel => exact ⟨_, XA, XB, rfl, rfl, HN.out, HY.out, HA.out, HB.out⟩
     ·
      simp only [pickOps, List.flatMap_cons, List.flatMap_nil, List.drop_succ_cons, List.drop_zero, List.take_succ_cons, List.take_zero, List.append_nil]
      have hbN := below_alloc wd (.cells #[.string { data := #[] }, .int .u8 0, .slice none 0 0] 96)
      have TN := Turn.of_below qy 31006 hbN
      have HB := Lib.hid (blk_new (w := wd) qy 31006 #[.string { data := #[] }, .int .u8 0, .slice none 0 0] 96)
      replace HN := Lib.hid (HN.out.turn TN (fun _ h => h.elim))
      replace HY := Lib.hid (HY.out.turn TN (fun h => h))
      generalize ext qy wd.heap.size 31006 = q1s at *
      clear hbN TN
      go_wp2_with fail
      obtain ⟨w1s, hWN⟩ : ∃ x, wd.alloc (.cells #[.string { data := #[] }, .int .u8 0, .slice none 0 0] 96) = x := ⟨_, rfl⟩
      obtain ⟨XB, hfN⟩ : ∃ x, wd.heap.size = x := ⟨_, rfl⟩
      rw [hWN] at HN HY HB ⊢
      rw [hfN] at HB ⊢
      clear hWN hfN
      refine ⟨by intros; exact of_s HN.out HY.out HC.out, ?_⟩
      refine wpAnyT_one (i := 12) (by kernel_rfl) ?_
      simp only [pickOps, List.flatMap_cons, List.flatMap_nil, List.drop_succ_cons, List.drop_zero, List.take_succ_cons, List.take_zero, List.append_nil]
      have hbN := below_alloc w1s (.cells #[.string { data := #[] }, .int .u8 0, .slice none 0 0] 96)
      have TN := Turn.of_below q1s 31005 hbN
      have HA := Lib.hid (blk_new (w := w1s) q1s 31005 #[.string { data := #[] }, .int .u8 0, .slice none 0 0] 96)
      replace HN := Lib.hid (HN.out.turn TN (fun _ h => h.elim))
      replace HY := Lib.hid (HY.out.turn TN (fun h => h))
      replace HB := Lib.hid (HB.out.turn TN (fun h => h))
      generalize ext q1s w1s.heap.size 31005 = q2s at *
      clear hbN TN
      go_wp2_with fail
      obtain ⟨w2s, hWN⟩ : ∃ x, w1s.alloc (.cells #[.string { data := #[] }, .int .u8 0, .slice none 0 0] 96) = x := ⟨_, rfl⟩
      obtain ⟨XA, hfN⟩ : ∃ x, w1s.heap.size = x := ⟨_, rfl⟩
      rw [hWN] at HN HY HA HB ⊢
      rw [hfN] at HA ⊢
      clear hWN hfN
      refine ⟨by intros; exact of_s HN.out HY.out HC.out, ?_⟩
      refine wpAnyT_one (i := 14) (by kernel_rfl) ?_
      simp only [pickOps, List.flatMap_cons, List.flatMap_nil, List.drop_succ_cons, List.drop_zero, List.take_succ_cons, List.take_zero, List.append_nil]
      have z0 := HA.out.cell 0 _ rfl
      have z1 := HA.out.cell 1 _ rfl
      have z2 := HA.out.cell 2 _ rfl
      have f0 := HA.out.frozen 0
      have f1 := HA.out.frozen 1
      have f2 := HA.out.frozen 2
      obtain ⟨hbS, TS⟩ := act3_set (a0 := (.string n1)) (a1 := (.int .u8 g1.tag)) (a2 := (.slice pa1 g1.params.length pc1)) HA.out
      replace HA := Lib.hid hbS
      replace HN := Lib.hid (HN.out.turn TS (fun _ h => by omega))
      replace HY := Lib.hid (HY.out.turn TS (by omega))
      replace HB := Lib.hid (HB.out.turn TS (by omega))
      clear hbS TS
      go_wp2_with fail
      obtain ⟨w3s, hWN⟩ : ∃ x, (((w2s).setCell ⟨XA, 0, none⟩ (.string n1)).setCell ⟨XA, 1, none⟩ (.int .u8 g1.tag)).setCell ⟨XA, 2, none⟩ (.slice pa1 g1.params.length pc1) = x := ⟨_, rfl⟩
      rw [hWN] at HN HY HA HB ⊢
      clear hWN z0 z1 z2 f0 f1 f2
      refine ⟨by intros; exact of_s HN.out HY.out HC.out, ?_⟩
      refine wpAnyT_list (ks := [15]) (fun _ _ hx h => ⟨hx.cell h.1, hx.cell h.2.1, hx.cell h.2.2.1, hx.cell h.2.2.2.1, hx.cell h.2.2.2.2.1, hx.cell h.2.2.2.2.2.1, hx.cell h.2.2.2.2.2.2.1, hx.cell h.2.2.2.2.2.2.2.1, hx.cell h.2.2.2.2.2.2.2.2⟩) (by kernel_rfl) ?_
      simp only [pickOps, List.flatMap_cons, List.flatMap_nil, List.drop_succ_cons, List.drop_zero, List.take_succ_cons, List.take_zero, List.append_nil]
      have z0 := HB.out.cell 0 _ rfl
      have z1 := HB.out.cell 1 _ rfl
      have z2 := HB.out.cell 2 _ rfl
      have f0 := HB.out.frozen 0
      have f1 := HB.out.frozen 1
      have f2 := HB.out.frozen 2
      obtain ⟨hbS, TS⟩ := act3_set (a0 := (.string n2)) (a1 := (.int .u8 g2.tag)) (a2 := (.slice pa2 g2.params.length pc2)) HB.out
      replace HB := Lib.hid hbS
      replace HN := Lib.hid (HN.out.turn TS (fun _ h => by omega))
      replace HY := Lib.hid (HY.out.turn TS (by omega))
      replace HA := Lib.hid (HA.out.turn TS (by omega))
      clear hbS TS
      clear hQ2
      go_wp2
      go_meet
      case rel => exact ⟨_, XA, XB, rfl, rfl, HN.out, HY.out, HA.out, HB.out⟩
   case rest =>
    clear HN HY
    obtain ⟨q5, XA, XB, rfl, rfl, hN, hY, hA, hB⟩ := hcut
    have HN := Lib.hid hN
    have HY := Lib.hid hY
    have HB := Lib.hid hB
    have z1 := hA.cell 1 (.int .u8 g1.tag) rfl
    have z2 := hA.cell 2 (.slice pa1 g1.params.length pc1) rfl
    clear hN hY hA hB
    go_wp2_with fail
    refine (of_ok _ g1.tag pa1 g1.params.length pc1 g1.params HO1.out HL1.out (HN.out.kept.vals HT1.out)).mono ?_
    rintro e w5 ⟨vi1, vo1, rfl, oi1, oo1, hb5⟩
    obtain ⟨sx1, cx1, rfl⟩ := owns_slice oi1
    obtain ⟨sv1, cv1, rfl⟩ := owns_slice oo1
    have T5 := Turn.of_below q5 31007 hb5
    have HOO := Lib.hid (Own.made q5 31007 oo1).vals
    replace HN := Lib.hid (HN.out.turn T5 (fun _ h => h.elim))
    replace HY := Lib.hid (HY.out.turn T5 (fun h => h))
    replace HB := Lib.hid (HB.out.turn T5 (fun h => h))
    generalize ext q5 wc.heap.size 31007 = q6 at *
    clear T5 hb5 oi1 oo1 z1 z2
    have z1 := HB.out.cell 1 (.int .u8 g2.tag) rfl
    have z2 := HB.out.cell 2 (.slice pa2 g2.params.length pc2) rfl
    go_wp2_with fail
    refine (of_ok _ g2.tag pa2 g2.params.length pc2 g2.params HO2.out HL2.out (HN.out.kept.vals HT2.out)).mono ?_
    rintro e w6 ⟨vi2, vo2, rfl, oi2, oo2, hb6⟩
    obtain ⟨sx2, cx2, rfl⟩ := owns_slice oi2
    obtain ⟨sv2, cv2, rfl⟩ := owns_slice oo2
    have T6 := Turn.of_below q6 31008 hb6
    have HII := Lib.hid (Own.made q6 31008 oi2).vals
    replace HN := Lib.hid (HN.out.turn T6 (fun _ h => h.elim))
    replace HY := Lib.hid (HY.out.turn T6 (fun h => h))
    replace HOO := Lib.hid (HOO.out.turn T6 (fun h => h))
    generalize ext q6 w5.heap.size 31008 = q7 at *
    clear T6 hb6 oi2 oo2 z1 z2 HB
    have hro : ratesO g i = outsP g1.tag g1.params := by unfold ratesO; rw [HG1.out]
    have hri : ratesI g j = insP g2.tag g2.params := by unfold ratesI; rw [HG2.out]
    have hpl : p < (outsP g1.tag g1.params).length := by rw [← hro]; exact Int.ofNat_lt.1 HP.out
    have hrl : r < (insP g2.tag g2.params).length := by rw [← hri]; exact Int.ofNat_lt.1 HR.out
    obtain ⟨bd, ofd, rfl, -, hcd, -, -, hcelld⟩ := Vals.at HOO.out (by rw [ivs_len]; omega)
    obtain ⟨be, ofe, rfl, -, hce, -, -, hcelle⟩ := Vals.at HII.out (by rw [ivs_len]; omega)
    have d1 := hcelld p (by rw [ivs_len]; exact hpl)
    have d2 := hcelle r (by rw [ivs_len]; exact hrl)
    rw [ivs_get hpl] at d1
    rw [ivs_get hrl] at d2
    obtain ⟨G, hGG⟩ : ∃ x, (outsP g1.tag g1.params)[p]?.getD 0 = x := ⟨_, rfl⟩
    obtain ⟨K, hKK⟩ : ∃ x, (insP g2.tag g2.params)[r]?.getD 0 = x := ⟨_, rfl⟩
    obtain ⟨LO, hLO⟩ : ∃ x, (outsP g1.tag g1.params).length = x := ⟨_, rfl⟩
    obtain ⟨LI, hLI⟩ : ∃ x, (insP g2.tag g2.params).length = x := ⟨_, rfl⟩
    rw [hGG] at d1
    rw [hKK] at d2
    rw [hLO] at hcd hpl ⊢
    rw [hLI] at hce hrl ⊢
    have hpl2 : (p : Int) < LO := by omega
    have hrl2 : (r : Int) < LI := by omega
    have hcd2 : (LO : Int) ≤ cv1 := by omega
    have hce2 : (LI : Int) ≤ cx2 := by omega
    have HGI : Hid (rO g i p = G) := Lib.hid (by unfold rO; rw [hro]; exact hGG)
    have HKI : Hid (rI g j r = K) := Lib.hid (by unfold rI; rw [hri]; exact hKK)
    clear hcelld hcelle hro hri hGG hKK hLO hLI HOO HII hcd hce
    obtain ⟨sp, cp, rfl⟩ := HN.out.arcs.slice
    have e1 := HN.out.net.cell 1 _ rfl
    have y0 := HY.out.cell 0 (.int .i64 i) rfl
    have y1 := HY.out.cell 1 (.int .i64 p) rfl
    have y2 := HY.out.cell 2 (.int .i64 j) rfl
    have y3 := HY.out.cell 3 (.int .i64 r) rfl
    have y4 := HY.out.cell 4 (.slice sa ed.start.length sc) rfl
    obtain ⟨i0, hi, hz0, hz1, hz2⟩ := info_parts info_arc
    have HI0 := Lib.hid hi
    clear hi
    go_wp2_with fail
    refine wp_region_lex (fun w' => w'.cell? ⟨b, 1, none⟩ = some (.slice sp k cp) ∧ w'.cell? ⟨Y, 0, none⟩ = some (.int .i64 i) ∧ w'.cell? ⟨Y, 1, none⟩ = some (.int .i64 p) ∧ w'.cell? ⟨Y, 2, none⟩ = some (.int .i64 j) ∧ w'.cell? ⟨Y, 3, none⟩ = some (.int .i64 r) ∧ w'.cell? ⟨Y, 4, none⟩ = some (.slice sa ed.start.length sc) ∧ w'.cell? ⟨bd, ofd + p, none⟩ = some (.int .i64 G) ∧ w'.cell? ⟨be, ofe + r, none⟩ = some (.int .i64 K)) [0, 1, 2, 3, 4, 5, 6, 7, 8, 9, 10, 11, 12, 13, 14, 15, 16, 17, 18, 19] [20, 21, 22, 23] (by kernel_rfl) (by kernel_rfl) rfl (fun _ _ hx h => ⟨hx.cell h.1, hx.cell h.2.1, hx.cell h.2.2.1, hx.cell h.2.2.2.1, hx.cell h.2.2.2.2.1, hx.cell h.2.2.2.2.2.1, hx.cell h.2.2.2.2.2.2.1, hx.cell h.2.2.2.2.2.2.2⟩) ⟨e1, y0, y1, y2, y3, y4, d1, d2⟩ ?_
    intro Q' hQ'
    simp only [pickOps, List.flatMap_cons, List.flatMap_nil, List.drop_succ_cons, List.drop_zero, List.take_succ_cons, List.take_zero, List.cons_append, List.nil_append, List.append_nil]
    repeat (first
     | (refine wpReads_skip (by rfl) ?_; (try simp only [Act.put, List.setIfInBounds_toArray, List.set_cons_zero, List.set_cons_succ]))
     | (refine wpReads_cons ?_ (by rfl) (by rfl) ?_ ?_; rotate_left; (intro wz hz; (try dsimp only at hz); go_simp; try with_reducible rfl); (try simp only [Act.put, List.setIfInBounds_toArray, List.set_cons_zero, List.set_cons_succ]))
     | (refine wpReads_any ?_ (by rfl) ?_ ?_; rotate_left; (intro wz; go_simp; try with_reducible rfl); (try simp only [Act.put, List.setIfInBounds_toArray, List.set_cons_zero, List.set_cons_succ])))
    refine wpReads_nil ?_
    have hbn := below_alloc w6.drew (.cells #[.int .i64 i, .int .i64 j, .int .i64 G, .int .i64 K, .int .i64 (ed.start.length : Nat)] 78)
    have T0 : Turn q7 q7 (fun _ => False) w6 w6.drew := (Turn.refl q7 _ w6).drew
    have Tn := T0.trans (Turn.of_below q7 31009 hbn) (fun _ h => h)
    have HNn := Lib.hid (HN.out.turn Tn (fun _ h => h.elim))
    have e2 := HNn.out.net.cell 1 (.slice sp k cp) rfl
    generalize ext q7 w6.drew.heap.size 31009 = qn at *
    clear hbn T0 Tn HN HY e1 y0 y1 y2 y3 y4 d1 d2
    go_wp2_with (at_builtin; refine stop_here ?_)
    refine go_on ?_
    refine wpList_app rfl _ _ 72 rfl 0 78 i0 _ 5 40 Tryz.underlying72 HI0.out hz0 hz1 hz2 rfl (.slice sp k cp) k (arcsV g k) rfl HNn.out.arcs.1 (some ⟨w6.drew.heap.size, 0, none⟩) 1 1 [.int .i64 i, .int .i64 j, .int .i64 G, .int .i64 K, .int .i64 (ed.start.length : Nat)] rfl rfl (fun h => by cases h) (news_alloc w6.drew [.int .i64 i, .int .i64 j, .int .i64 G, .int .i64 K, .int .i64 (ed.start.length : Nat)] 78) (by simp [Value.oneCell']) (by have := HF.out.2.1; unfold maxLen; omega) (grow_ok (by have := HF.out.2.1; omega)) (Nat.zero_le _) ?_
    intro v7 w7 k1 k20 _ k4
    change (w6.drew.alloc (.cells #[.int .i64 i, .int .i64 j, .int .i64 G, .int .i64 K, .int .i64 (ed.start.length : Nat)] 78)).grownBy w7 _ at k20
    have hav : arcV g k = [.int .i64 i, .int .i64 j, .int .i64 G, .int .i64 K, .int .i64 (ed.start.length : Nat)] := by
     unfold arcV
     rw [HEE.out, HI.out, HJ.out, HPP.out, HRR.out]
     simp only [Int.toNat_natCast]
     rw [HGI.out, HKI.out]
    obtain ⟨T7, O7⟩ := own_app HNn.out.arcs k1 k20 k4
    obtain ⟨sp7, cp7, rfl⟩ := O7.slice
    have hN7 := HNn.out.net.turn T7 (by omega)
    have e0 := hN7.cell 1 (.slice sp k cp) rfl
    have g0 := hN7.frozen 1
    obtain ⟨hB0, S0⟩ := hN7.set 1 (.slice sp7 (k + 1) cp7)
    have TT := (T7.mono (D := fun c => c = 31002 ∨ c = 31003) (fun c h => .inr h)).trans (S0.mono (D := fun c => c = 31002 ∨ c = 31003) (fun c h => .inl h)) (fun _ h => h)
    have HNEW := Lib.hid (OfAt.mk (g := g) (k := k + 1) (HNn.out.kept.turn TT (by omega)) (HNn.out.box.turn TT (by omega)) (HNn.out.res.turn TT (by omega)) hB0 (by rw [arcsV_snoc, hav]; exact O7.turn S0 (by omega)) HNn.out.base)
    clear k1 k20 k4 hav T7 O7 hN7 hB0 S0 TT HNn e2
    have hf2 := HF.out.2.1
    go_wp2
    go_roundw
    case rel => exact ⟨k + 1, _, _, hlt, by go_num, HNEW.out⟩
    case measure => simp [intOf]; omega
  ·
   obtain rfl : k = g.edges.length := by omega
   have hlti : ¬ (g.edges.length : Int) < g.edges.length := by omega
   obtain ⟨sp, cp, rfl⟩ := HN.out.arcs.slice
   have y0 := HN.out.net.cell 0 (.int .i64 (g.actors.length : Nat)) rfl
   have y1 := HN.out.net.cell 1 (.slice sp g.edges.length cp) rfl
   have z0 := HN.out.res.cell 0 _ rfl
   have z1 := HN.out.res.cell 1 _ rfl
   have f0 := HN.out.res.frozen 0
   have f1 := HN.out.res.frozen 1
   go_wp2
   refine bodyPost_ret_by (results_row_tmp rfl _ _ _ _ _ _ _ rfl (net_set (HN.out.res).1) Tryz.underlying74 rfl (by kernel_rfl)) rfl ?_
   have TZ : Turn q q (fun c => c = 31001) wr ((wr.setCell ⟨w.heap.size + 1, 0, none⟩ (.int .i64 (g.actors.length : Nat))).setCell ⟨w.heap.size + 1, 1, none⟩ (.slice sp g.edges.length cp)) := by
    obtain ⟨h1, t1⟩ := HN.out.res.set 0 (.int .i64 (g.actors.length : Nat))
    obtain ⟨h2, t2⟩ := h1.set 1 (.slice sp g.edges.length cp)
    exact t1.trans t2 (fun _ h => h)
   have hb := (HN.out.kept.turn TZ (by omega))
   refine ⟨_, rfl, ?_, hb.below⟩
   have ho := HN.out.arcs.turn TZ (by omega)
   exact own_base hb ho (by omega)
end Go.Proofs.YtaholpfikcdhbaaGreat

/- Rig.Play. -/
namespace Go.Proofs.YtaholpfikcdhbaaGreat
open Go.RowKit
theorem play_drop {g : GGraph} {caps : List Int} {l : List Int} {r : RunP} {j : Nat} (h : j < l.length) (he : ¬ readyL g caps r = []) : playP g caps (l.drop j) r = ((playP g caps (l.drop (j + 1)) (stepR g caps r ((readyL g caps r)[pickP l[j] (readyL g caps r).length]?.getD 0)).1).1, (playP g caps (l.drop (j + 1)) (stepR g caps r ((readyL g caps r)[pickP l[j] (readyL g caps r).length]?.getD 0)).1).2 + 1) := by
 rw [List.drop_eq_getElem_cons h, playP, if_neg he]
theorem play_none {g : GGraph} {caps : List Int} {l : List Int} {r : RunP} (he : readyL g caps r = []) : playP g caps l r = (r, 0) := by
 cases l with
 | nil => rfl
 | cons p l => rw [playP, if_pos he]
theorem ready_few (g : GGraph) (caps : List Int) (r : RunP) : (readyL g caps r).length ≤ g.actors.length := by
 unfold readyL
 cases r.failed with
 | some t => simp
 | none => exact Nat.le_trans (List.length_filter_le _ _) (by simp)
theorem pick_eq (p : Int) {L : Nat} (hL : 0 < L) : Int.tmod (Int.tmod p L + L) L = ((pickP p L : Nat) : Int) ∧ pickP p L < L ∧ -(L : Int) < Int.tmod p L ∧ Int.tmod p L < L := by
 have h0 : (0 : Int) < L := by omega
 have e1 : 0 ≤ p % (L : Int) := Int.emod_nonneg p (by omega)
 have e2 : p % (L : Int) < L := Int.emod_lt_of_pos p h0
 have hz : (pickP p L : Int) = p % (L : Int) := Int.toNat_of_nonneg e1
 have h1 : -(L : Int) < Int.tmod p L ∧ Int.tmod p L < L := by
  refine ⟨?_, Int.tmod_lt_of_pos p h0⟩
  have := Int.lt_tmod_of_pos p h0
  exact this
 refine ⟨?_, by omega, h1⟩
 rw [hz]
 have h2 : 0 ≤ Int.tmod p L + L := by omega
 rw [Int.tmod_eq_emod_of_nonneg h2, Int.add_emod_right]
 have h3 : Int.tmod p L = p - L * Int.tdiv p L := by have := Int.mul_tdiv_add_tmod p L; omega
 rw [h3, Int.sub_mul_emod_self_left]
set_option maxRecDepth 100000 in
set_option maxHeartbeats 4000000 in
theorem dPlay_ok {w : World} {o : Col} {R b c : Nat} {g : GGraph} {caps : List Int} {M : Nat} {J : Nat → Nat} {qs : Ptrs} {tb : Nat → Nat} {r : RunP} {v : RVals} {ao : Option Addr} {n cap : Nat} {l : List Int} (h : RigOk w o R b g caps M J qs tb r v) (hG : GOk g caps) (hl : Ints w o c (.slice ao n cap) l) (hc : ¬ MineR R c) (hf : ∀ x ∈ l, Fits x) (hM : M + l.length < 27000000000000) :
  Calls Tryz.prog 15 #[.pointer (some ⟨b, 0, none⟩), .slice ao n cap] w (OkRet w o R b g caps (M + l.length) J qs tb (playP g caps l r).1 (.int .i64 (playP g caps l r).2)) := by
 obtain rfl : n = l.length := Ints.len hl
 obtain ⟨F, hF⟩ : ∃ F, playP g caps l r = F := ⟨_, rfl⟩
 rw [hF]
 have HF := Lib.hid (show playP g caps (l.drop 0) r = F from hF)
 have H := Lib.hid h
 have HG := Lib.hid hG
 have HL := Lib.hid hl
 have HC := Lib.hid hc
 have HFI := Lib.hid hf
 have HM := Lib.hid hM
 clear h hG hl hc hF hf hM
 go_enter Tryz.func15, Tryz.ntmps15
 go_wp2_with fail
 go_loopw [10] (fun i wl => ∃ (j : Nat) (r' : RunP) (o' : Col) (v' : RVals), j ≤ l.length ∧ i = .int .i64 j ∧ Turn o o' (MineR R) w wl ∧ RigOk wl o' R b g caps (M + j) J qs tb r' v' ∧ (playP g caps (l.drop j) r').1 = F.1 ∧ (playP g caps (l.drop j) r').2 + j = F.2) (fun i _ => l.length - (intOf i).toNat)
 case atStart => exact ⟨0, r, o, v, Nat.zero_le _, rfl, Turn.refl _ _ _, H.out, by rw [HF.out], by rw [HF.out]; rfl⟩
 case round =>
  obtain ⟨j, r', o', v', hj, rfl, T, hR, e1, e2⟩ := hrel
  have HT := Lib.hid T
  have HR := Lib.hid hR
  have HE := Lib.hid (And.intro e1 e2)
  clear T hR e1 e2
  have hlm : l.length ≤ 27000000000000 := by have := HM.out; omega
  by_cases hlt : j < l.length
  ·
   have hlti : (j : Int) < l.length := by omega
   obtain ⟨lb, lo, rfl, -, hcp, -, -, hcl⟩ := Ints.at (HL.out.turn HT.out HC.out) (by omega)
   have hcpi : (l.length : Int) ≤ cap := by omega
   have cj := hcl j hlt
   rw [List.getElem?_eq_getElem hlt] at cj
   change wr.cell? _ = some (iv l[j]) at cj
   obtain ⟨p, hp⟩ : ∃ p, l[j] = p := ⟨_, rfl⟩
   rw [hp] at cj
   have HP := Lib.hid hp
   have hpf := HFI.out l[j] (List.getElem_mem hlt)
   rw [hp] at hpf
   have HPF := Lib.hid hpf
   have hRd := dReady_any HR.out.mem HG.out.linked HG.out.caps HR.out.ok (fun d => Nat.le_of_lt (HR.out.lt (by have := HM.out; omega) d))
   have hfew := ready_few g caps r'
   have h32 := HR.out.mem.few.1
   obtain ⟨L, hL⟩ : ∃ L, (readyL g caps r').length = L := ⟨_, rfl⟩
   have hLI : (rdyI g caps r').length = L := by unfold rdyI; rw [List.length_map, hL]
   unfold DInts at hRd
   rw [hLI] at hRd
   rw [hL] at hfew
   have hL32 : L ≤ 32 := by omega
   have HRD := Lib.hid hRd
   have HLL := Lib.hid hL
   clear hcl hp hpf hRd hfew h32 hL hLI hcp
   go_wp2_with fail
   refine HRD.out.mono ?_
   rintro e w1 ⟨x, rfl, hO, hB⟩
   obtain ⟨sa, sc, rfl⟩ := owns_slice hO
   have HB := Lib.hid hB
   have HO := Lib.hid hO
   clear hO hB cj
   by_cases hL0 : L = 0
   ·
    subst hL0
    go_wp2_with fail
    go_ret
    have hnil : readyL g caps r' = [] := List.eq_nil_of_length_eq_zero HLL.out
    obtain ⟨e1, e2⟩ := HE.out
    rw [play_none hnil] at e1 e2
    have hb := HR.out.turn (Turn.of_below o' 0 HB.out) (fun _ h => h.elim)
    refine ⟨ext o' wr.heap.size 0, v', ?_, HT.out.trans ((Turn.of_below o' 0 HB.out).mono (fun _ h => h.elim)) (fun _ h => h), ?_⟩
    ·
     rw [← e2]; simp
    ·
     rw [← e1]; exact hb.mono (by omega)
   ·
    have hLz : ((L : Int) == 0) = false := by rw [beq_eq_false_iff_ne]; omega
    obtain ⟨k1, k2, k3, k4⟩ := pick_eq p (L := L) (by omega)
    have hwr : wrap64 (p.tmod L + L) = p.tmod L + L := IntWalk.wrap64_in _ (by omega)
    rw [← hwr] at k1
    obtain ⟨z, hz⟩ : ∃ z, pickP p L = z := ⟨_, rfl⟩
    rw [hz] at k1 k2
    have HZ := Lib.hid hz
    have hzi : (z : Int) < L := by omega
    have hO := (Own.made o' 0 HO.out).vals
    have hI : Ints w1 (ext o' wr.heap.size 0) 0 (.slice sa L sc) (rdyI g caps r') := hO
    have hlr : (rdyI g caps r').length = L := by unfold rdyI; rw [List.length_map, HLL.out]
    obtain ⟨gr, ro, rfl, -, hcp, -, -, hcl⟩ := hI.at (by omega)
    have hcpi2 : (L : Int) ≤ sc := by omega
    have cz := hcl z (by omega)
    obtain ⟨t, ht⟩ : ∃ t, (readyL g caps r')[z]?.getD 0 = t := ⟨_, rfl⟩
    have hzt : (rdyI g caps r')[z]?.getD 0 = (t : Int) := by
     have hzl : z < (readyL g caps r').length := by rw [HLL.out]; exact k2
     rw [← ht]
     unfold rdyI
     rw [List.getElem?_map, List.getElem?_eq_getElem hzl]
     rfl
    rw [hzt] at cz
    change w1.cell? _ = some (.int .i64 (t : Int)) at cz
    have HT9 := Lib.hid ht
    have hR1 := Lib.hid (HR.out.turn (Turn.of_below o' 0 HB.out) (fun _ h => h.elim))
    have hT1 := Lib.hid (HT.out.trans ((Turn.of_below o' 0 HB.out).mono (fun _ h => h.elim)) (fun _ h => h))
    generalize ext o' wr.heap.size 0 = o1 at *
    clear k2 k3 k4 hwr hz hO hI hlr hcp hcl hzt ht
    go_wp2_with fail
    refine (dStep_ok (t : Int) hR1.out HG.out (by have := HM.out; omega)).mono ?_
    rw [stepI_nat]
    rintro e w2 ⟨o2, v2, rfl, T2, hR2⟩
    have HR2 := Lib.hid hR2
    have HT2 := Lib.hid (hT1.out.trans T2 (fun _ h => h))
    have hne : ¬ readyL g caps r' = [] := fun h => hL0 (by have := HLL.out; rw [h] at this; exact this.symm)
    obtain ⟨e1, e2⟩ := HE.out
    rw [play_drop hlt hne, HLL.out, HP.out, HZ.out, HT9.out] at e1 e2
    have HE2 := Lib.hid (And.intro e1 e2)
    clear T2 hR2 e1 e2 hne
    go_wp2
    go_roundw
    case rel => exact ⟨j + 1, _, _, _, hlt, by go_num, HT2.out, HR2.out, HE2.out.1, by have := HE2.out.2; omega⟩
    case measure => simp [intOf]; omega
  ·
   obtain rfl : j = l.length := by omega
   have hlti : ¬ ((l.length : Int) < l.length) := by omega
   go_wp2_with fail
   go_ret
   obtain ⟨e1, e2⟩ := HE.out
   rw [List.drop_length] at e1 e2
   refine ⟨o', v', ?_, HT.out, ?_⟩
   ·
    have : l.length = F.2 := by rw [← e2]; show l.length = 0 + l.length; omega
    rw [← this]
    rfl
   ·
    rw [← e1]; exact HR.out
end Go.Proofs.YtaholpfikcdhbaaGreat

/- DynRoom, walked: what an edge has. -/
namespace Go.Proofs.YtaholpfikcdhbaaGreat
open Go.RowKit
theorem HasRun.graph {w : World} {n va ve vi vo vc vf : Value} {g : GGraph} {caps : List Int} {fed : List (List Int)} (h : HasRun w (.agg #[n, va, ve, vi, vo, vc, vf]) g caps fed) : HasGraph w (.agg #[n, va, ve, vi, vo]) g := by
 obtain ⟨n1, va1, ve1, vi1, vo1, vc1, vf1, e, h1, _, _⟩ := h
 simp only [Value.agg.injEq, Array.mk.injEq, List.cons.injEq, and_true] at e
 obtain ⟨rfl, rfl, rfl, rfl, rfl, rfl, rfl⟩ := e
 exact h1
theorem HasRun.caps {w : World} {n va ve vi vo vc vf : Value} {g : GGraph} {caps : List Int} {fed : List (List Int)} (h : HasRun w (.agg #[n, va, ve, vi, vo, vc, vf]) g caps fed) : Has w vc (ivs caps) := by
 obtain ⟨n1, va1, ve1, vi1, vo1, vc1, vf1, e, _, h1, _⟩ := h
 simp only [Value.agg.injEq, Array.mk.injEq, List.cons.injEq, and_true] at e
 obtain ⟨rfl, rfl, rfl, rfl, rfl, rfl, rfl⟩ := e
 exact h1
theorem arc_cell {w : World} {o : Col} {c n sc j : Nat} {g : GGraph} {sa : Option Addr} (h : Own w o c 78 5 (.slice sa n sc) n (arcsV g n)) (hj : j < n) : ∃ b, sa = some ⟨b, 0, none⟩ ∧ n ≤ sc ∧ ∀ i (u : Value), i < 5 → (arcV g j)[i]? = some u → w.cell? ⟨b, j * 5 + i, none⟩ = some u := by
 rcases h.1.2 with ⟨_, h0⟩ | ⟨tg, tc, cur, e, _, hg, hc, _⟩
 ·
  omega
 ·
  simp only [Value.slice.injEq, true_and] at e
  obtain ⟨rfl, rfl⟩ := e
  refine ⟨tg, rfl, hc, fun i u hi hu => ?_⟩
  have := h.1.cells (g := tg) rfl (j * 5 + i) u (by rw [arcsV_get g hj hi]; exact hu)
  rw [Addr.add_lit] at this
  simpa using this
/- what else turns: $1 not at 0, $2 not at 20002 or 20003 -/
set_option maxRecDepth 100000 in
set_option maxHeartbeats 4000000 in
theorem dynroom_all (w : World) (v vl : Value) (g : GGraph) (caps : List Int) (fed : List (List Int)) (script : List Int) (hv : HasRun w v g caps fed) (ok : RunOk g caps fed) (hl : Has w vl (ivs script)) (hlf : ∀ x ∈ script, Fits x) (hn : script.length ≤ 17600000000000) : Calls Tryz.prog 10 #[v, vl] w (Tells (.bool true) w) := by
 obtain ⟨la, lc, rfl⟩ := Ints.slice hl
 have HLE := Lib.hid hl
 have HLF := Lib.hid hlf
 clear hl hlf
 obtain ⟨nm, va, ve, vi, vo, vc, vf, rfl, hg, hc, hf⟩ := hv
 obtain ⟨_, _, _, _, e0, ra, re, ri, ro⟩ := hg.shape
 obtain ⟨aa, ac, rfl⟩ := ra.slice
 obtain ⟨ae, ec, rfl⟩ := re.slice
 obtain ⟨ai, ic, rfl⟩ := ri.slice
 obtain ⟨ao, oc, rfl⟩ := ro.slice
 simp only [Value.agg.injEq, Array.mk.injEq, List.cons.injEq, and_true] at e0
 obtain ⟨rfl, rfl, rfl, rfl, rfl⟩ := e0
 obtain ⟨ca, cc, rfl⟩ := Ints.slice hc
 obtain ⟨fa, fc, rfl⟩ := hf.slice
 have hrun : HasRun w (.agg #[.string g.name, .slice aa g.actors.length ac, .slice ae g.edges.length ec, .slice ai g.ins.length ic, .slice ao g.outs.length oc, .slice ca caps.length cc, .slice fa fed.length fc]) g caps fed := ⟨_, _, _, _, _, _, _, rfl, hg, hc, hf⟩
 have HRUN := Lib.hid hrun
 have OK := Lib.hid ok
 have hb1 := below_alloc w (.cells #[.string g.name, .slice aa g.actors.length ac, .slice ae g.edges.length ec, .slice ai g.ins.length ic, .slice ao g.outs.length oc, .slice ca caps.length cc, .slice fa fed.length fc] 30)
 have T1 := Turn.of_below (fun _ => 0) 20000 hb1
 have hX := blk_new (w := w) (fun _ => 0) 20000 #[.string g.name, .slice aa g.actors.length ac, .slice ae g.edges.length ec, .slice ai g.ins.length ic, .slice ao g.outs.length oc, .slice ca caps.length cc, .slice fa fed.length fc] 30
 have HX := Lib.hid hX
 have HK := Lib.hid ((Kept.start w).turn T1 (fun h => h))
 generalize ext (fun _ => 0) w.heap.size 20000 = o1 at *
 obtain ⟨w1, hw1⟩ : ∃ x, w.alloc (.cells #[.string g.name, .slice aa g.actors.length ac, .slice ae g.edges.length ec, .slice ai g.ins.length ic, .slice ao g.outs.length oc, .slice ca caps.length cc, .slice fa fed.length fc] 30) = x := ⟨_, rfl⟩
 rw [hw1] at HX HK
 clear hb1 T1 hX hg hc hf ok ra re ri ro hrun
 have x0 := HX.out.cell 0 _ rfl
 have x1 := HX.out.cell 1 _ rfl
 have x2 := HX.out.cell 2 _ rfl
 have x3 := HX.out.cell 3 _ rfl
 have x4 := HX.out.cell 4 _ rfl
 have x5 := HX.out.cell 5 _ rfl
 have x6 := HX.out.cell 6 _ rfl
 go_enter Tryz.func10, Tryz.ntmps10
 go_wp2_with fail
 clear hw1
 refine (start_any (R := 1) (Nat.le_refl _) HK.out HRUN.out OK.out).mono ?_
 intro e w2 hret
 by_cases h0 : newE g caps = 0
 case neg =>
  obtain ⟨rfl, o2, T2⟩ := hret.1 h0
  replace HK := Lib.hid (HK.out.turn T2 (fun h => h))
  replace HX := Lib.hid (HX.out.turn T2 (fun h => h))
  have H0 := Lib.hid h0
  clear T2 hret h0
  clear x0 x1 x2 x3 x4 x5 x6
  have x0 := HX.out.cell 0 _ rfl
  have x1 := HX.out.cell 1 _ rfl
  have x2 := HX.out.cell 2 _ rfl
  have x3 := HX.out.cell 3 _ rfl
  have x4 := HX.out.cell 4 _ rfl
  have x5 := HX.out.cell 5 _ rfl
  have x6 := HX.out.cell 6 _ rfl
  go_wp2_with fail
  refine (refused_yes (HRUN.out.below HK.out.below) OK.out H0.out).mono ?_
  rintro e w4 ⟨rfl, hb4⟩
  clear x0 x1 x2 x3 x4 x5 x6
  have HB4 := Lib.hid (HK.out.below.trans (hb4.mono HK.out.size))
  clear hb4
  go_wp2_with fail
  refine (dawake_yes _).mono ?_
  rintro e w5 ⟨rfl, hb5⟩
  have HB5 := Lib.hid (HB4.out.trans (hb5.mono HB4.out.size))
  clear hb5
  go_wp2
  go_ret
  exact ⟨rfl, HB5.out⟩
 case pos =>
  obtain ⟨b1, o2, q1, v1, J1, rfl, T2, hM1, hG, hJ1⟩ := hret.2 h0
  have hz : ¬ MineR 1 20000 := by unfold MineR; omega
  have hz3 : ¬ MineR 1 0 := by unfold MineR; omega
  replace HK := Lib.hid (HK.out.turn T2 hz3)
  replace HX := Lib.hid (HX.out.turn T2 hz)
  have H0 := Lib.hid h0
  have HM1 := Lib.hid hM1
  have HG := Lib.hid hG
  have HJ1 := Lib.hid hJ1
  clear T2 hret h0 hM1 hG hJ1 hz hz3
  clear x0 x1 x2 x3 x4 x5 x6
  have x0 := HX.out.cell 0 _ rfl
  have x1 := HX.out.cell 1 _ rfl
  have x2 := HX.out.cell 2 _ rfl
  have x3 := HX.out.cell 3 _ rfl
  have x4 := HX.out.cell 4 _ rfl
  have x5 := HX.out.cell 5 _ rfl
  have x6 := HX.out.cell 6 _ rfl
  obtain ⟨s, hz⟩ : ∃ x, feedS g fed (newRig g) = x := ⟨_, rfl⟩
  have hcs : Cnt g caps s := by rw [← hz]; exact start_cnt
  have HCS := Lib.hid hcs
  rw [hz] at HM1
  have HRS := Lib.hid HM1.out.ok
  have hck := (newE_lens H0.out).1
  have HCK := Lib.hid hck
  have HSD := Lib.hid (sound_of hck)
  obtain ⟨hf1, hf2, hf3, hf4⟩ := HM1.out.mem.few
  clear hz HJ1 hcs hck
  go_wp2_with fail
  refine (netof_any _ _ g (HRUN.out.graph.below HK.out.below) OK.out.sized HCK.out).mono ?_
  rintro e w4 ⟨va, rfl, oa, hb4⟩
  obtain ⟨sa, sc, rfl⟩ := owns_slice oa
  clear x0 x1 x2 x3 x4 x5 x6
  have TT := Turn.of_below o2 20003 hb4
  have HAR := Lib.hid (Own.made o2 20003 oa)
  replace HK := Lib.hid (HK.out.turn TT (fun h => h))
  replace HX := Lib.hid (HX.out.turn TT (fun h => h))
  replace HM1 := Lib.hid (HM1.out.turn TT (fun _ h => h.elim))
  generalize ext o2 w2.heap.size 20003 = o4 at *
  clear TT hb4 oa
  have hb5 := below_alloc w4 (.cells #[.int .i64 (g.actors.length : Nat), .slice sa g.edges.length sc] 74)
  have TT := Turn.of_below o4 20002 hb5
  have HNB := Lib.hid (blk_new (w := w4) o4 20002 #[.int .i64 (g.actors.length : Nat), .slice sa g.edges.length sc] 74)
  replace HK := Lib.hid (HK.out.turn TT (fun h => h))
  replace HX := Lib.hid (HX.out.turn TT (fun h => h))
  replace HAR := Lib.hid (HAR.out.turn TT (fun h => h))
  replace HM1 := Lib.hid (HM1.out.turn TT (fun _ h => h.elim))
  generalize ext o4 w4.heap.size 20002 = o5 at *
  have n1 := HNB.out.cell 1 (.slice sa g.edges.length sc) rfl
  have x5 := HX.out.cell 5 (.slice ca caps.length cc) rfl
  have hcl := HG.out.caps
  have hne : ((g.edges.length : Int) != (caps.length : Int)) = false := by rw [hcl]; simp
  clear TT hb5
  go_wp2_with fail
  obtain ⟨w5, hw5⟩ : ∃ x, w4.alloc (.cells #[.int .i64 (g.actors.length : Nat), .slice sa g.edges.length sc] 74) = x := ⟨_, rfl⟩
  obtain ⟨nb, hnb⟩ : ∃ x, w4.heap.size = x := ⟨_, rfl⟩
  rw [hw5] at HK HX HNB HAR HM1 ⊢
  rw [hnb] at HNB ⊢
  clear hw5 hnb n1 x5 hne
  go_loopw [8] (fun i wz => ∃ (k : Nat) (q : Col) (r : RunP) (u : RVals), k ≤ script.length ∧ i = .int .i64 k ∧ Kept w.heap.size q w wz ∧ Blk wz q 20000 w.heap.size 30 #[.string g.name, .slice aa g.actors.length ac, .slice ae g.edges.length ec, .slice ai g.ins.length ic, .slice ao g.outs.length oc, .slice ca caps.length cc, .slice fa fed.length fc] ∧ Blk wz q 20002 nb 74 #[.int .i64 (g.actors.length : Nat), .slice sa g.edges.length sc] ∧ Own wz q 20003 78 5 (.slice sa g.edges.length sc) g.edges.length (arcsV g g.edges.length) ∧ RigOk wz q 1 b1 g caps (256 + k) J1 q1 v1.tb r u ∧ Reach g caps s r) (fun i _ => script.length - (intOf i).toNat)
  case atStart => exact ⟨0, o5, _, v1, Nat.zero_le _, rfl, HK.out, HX.out, HNB.out, HAR.out, HM1.out, Reach.start g caps s⟩
  case round =>
   clear HK HX HNB HAR HM1
   obtain ⟨k, q, r, u, hk, rfl, hK, hX, hNB, hAR, hM1, hR⟩ := hrel
   have HK := Lib.hid hK
   have HX := Lib.hid hX
   have HNB := Lib.hid hNB
   have HAR := Lib.hid hAR
   have HM1 := Lib.hid hM1
   have HR := Lib.hid hR
   clear hK hX hNB hAR hM1 hR
   by_cases hlt : k < script.length
   ·
    have hlti : (k : Int) < script.length := by omega
    obtain ⟨gt, gto, hta, -, htc, -, -, hcl2⟩ := Ints.at HLE.out (by omega)
    obtain ⟨T, hT⟩ : ∃ x, script[k]?.getD 0 = x := ⟨_, rfl⟩
    have ct0 := cell_later HK.out.below (hcl2 k hlt)
    rw [hT] at ct0
    change wr.cell? _ = some (.int .i64 T) at ct0
    have HTF : Hid (∀ x ∈ [T], Fits x) := Lib.hid (by rw [← hT]; intro x hx; rw [List.mem_singleton.1 hx, List.getElem?_eq_getElem hlt]; exact HLF.out _ (List.getElem_mem hlt))
    have htci : (script.length : Int) ≤ lc := by omega
    subst hta
    clear hcl2 hT htc
    have hbn := below_alloc wr (.cells #[.int .i64 T] 3)
    have TT := Turn.of_below q 20004 hbn
    have hTL := blk_new (w := wr) q 20004 #[.int .i64 T] 3
    replace HK := Lib.hid (HK.out.turn TT (fun h => h))
    replace HX := Lib.hid (HX.out.turn TT (fun h => h))
    replace HNB := Lib.hid (HNB.out.turn TT (fun h => h))
    replace HAR := Lib.hid (HAR.out.turn TT (fun h => h))
    replace HM1 := Lib.hid (HM1.out.turn TT (fun _ h => h.elim))
    have HTL : Hid (Ints (wr.alloc (.cells #[.int .i64 T] 3)) (ext q wr.heap.size 20004) 20004 (.slice (some ⟨wr.heap.size, 0, none⟩) 1 1) [T]) := Lib.hid (Blk.vals (vs := ivs [T]) hTL rfl (Nat.le_refl _))
    generalize ext q wr.heap.size 20004 = qn at *
    clear hbn TT hTL
    go_wp2_with fail
    refine (dPlay_ok HM1.out HG.out HTL.out (by unfold MineR; omega) HTF.out (by have e : [T].length = 1 := rfl; omega)).mono ?_
    rintro e w6 ⟨o6, u6, rfl, TT, hM⟩
    replace HK := Lib.hid (HK.out.turn TT (by unfold MineR; omega))
    replace HX := Lib.hid (HX.out.turn TT (by unfold MineR; omega))
    replace HNB := Lib.hid (HNB.out.turn TT (by unfold MineR; omega))
    replace HAR := Lib.hid (HAR.out.turn TT (by unfold MineR; omega))
    replace HM1 := Lib.hid hM
    replace HR := Lib.hid (HR.out.play [T])
    clear TT hM HTL ct0
    obtain ⟨r2, hr2⟩ : ∃ x, (playP g caps [T] r).1 = x := ⟨_, rfl⟩
    rw [hr2] at HM1 HR
    clear hr2
    rw [show 256 + k + [T].length = 256 + (k + 1) from rfl] at HM1
    have HRM := Lib.hid (reach_cnt HG.out.acts HSD.out.wired HG.out.caps HR.out HRS.out HCS.out)
    go_wp2_with fail
    refine (dCount_any HM1.out.mem (fun d => Nat.le_of_lt (HM1.out.lt (by omega) d))).mono ?_
    rintro e w7 ⟨lv, rfl, ow, hb⟩
    obtain ⟨ka, kc, rfl⟩ := owns_slice ow
    have TT := Turn.of_below o6 0 hb
    have HCT := Lib.hid (Own.made o6 0 ow).vals
    replace HK := Lib.hid (HK.out.turn TT (fun h => h))
    replace HX := Lib.hid (HX.out.turn TT (fun h => h))
    replace HNB := Lib.hid (HNB.out.turn TT (fun h => h))
    replace HAR := Lib.hid (HAR.out.turn TT (fun h => h))
    replace HM1 := Lib.hid (HM1.out.turn TT (fun _ h => h.elim))
    generalize ext o6 _ 0 = o7 at *
    clear TT hb ow
    go_wp2_with fail
    refine (dFired_any HM1.out.mem).mono ?_
    rintro e w8 ⟨lv, rfl, ow, hb⟩
    obtain ⟨ja, jc, rfl⟩ := owns_slice ow
    have TT := Turn.of_below o7 0 hb
    have HFT := Lib.hid (Own.made o7 0 ow).vals
    replace HK := Lib.hid (HK.out.turn TT (fun h => h))
    replace HX := Lib.hid (HX.out.turn TT (fun h => h))
    replace HNB := Lib.hid (HNB.out.turn TT (fun h => h))
    replace HAR := Lib.hid (HAR.out.turn TT (fun h => h))
    replace HM1 := Lib.hid (HM1.out.turn TT (fun _ h => h.elim))
    replace HCT := Lib.hid (HCT.out.turn TT (fun h => h))
    generalize ext o7 _ 0 = o8 at *
    clear TT hb ow
    have hcl1 : (countI g r2).length = g.edges.length := by simp [countI]
    have hfl1 : (firedI g r2).length = g.actors.length := by simp [firedI]
    rw [hcl1, hfl1]
    have HCL := Lib.hid hcl1
    have HFL := Lib.hid hfl1
    have x5 := HX.out.cell 5 (.slice ca caps.length cc) rfl
    have n0 := HNB.out.cell 0 (.int .i64 (g.actors.length : Nat)) rfl
    have hne : ((g.edges.length : Int) != (caps.length : Int)) = false := by rw [hcl]; simp
    have hne2 : ((g.actors.length : Int) != (g.actors.length : Int)) = false := by simp
    clear hcl1 hfl1
    go_wp2_with fail
    clear x5 n0 hne hne2
    go_loopw [11] (fun i wz => ∃ (j : Nat) (q : Col), j ≤ g.edges.length ∧ i = .int .i64 j ∧ Kept w.heap.size q w wz ∧ Blk wz q 20000 w.heap.size 30 #[.string g.name, .slice aa g.actors.length ac, .slice ae g.edges.length ec, .slice ai g.ins.length ic, .slice ao g.outs.length oc, .slice ca caps.length cc, .slice fa fed.length fc] ∧ Blk wz q 20002 nb 74 #[.int .i64 (g.actors.length : Nat), .slice sa g.edges.length sc] ∧ Own wz q 20003 78 5 (.slice sa g.edges.length sc) g.edges.length (arcsV g g.edges.length) ∧ RigOk wz q 1 b1 g caps (256 + (k + 1)) J1 q1 v1.tb r2 u6 ∧ Ints wz q 0 (.slice ka (countI g r2).length kc) (countI g r2) ∧ Ints wz q 0 (.slice ja (firedI g r2).length jc) (firedI g r2)) (fun i _ => g.edges.length - (intOf i).toNat)
    case atStart => exact ⟨0, o8, Nat.zero_le _, rfl, HK.out, HX.out, HNB.out, HAR.out, HM1.out, HCT.out, HFT.out⟩
    case round =>
     clear HK HX HNB HAR HM1 HCT HFT
     obtain ⟨j, q, hj, rfl, hK, hX, hNB, hAR, hM1, hCT, hFT⟩ := hrel
     have HK := Lib.hid hK
     have HX := Lib.hid hX
     have HNB := Lib.hid hNB
     have HAR := Lib.hid hAR
     have HM1 := Lib.hid hM1
     have HCT := Lib.hid hCT
     have HFT := Lib.hid hFT
     clear hK hX hNB hAR hM1 hCT hFT
     by_cases hjl : j < g.edges.length
     ·
      have hjli : (j : Int) < g.edges.length := by omega
      obtain ⟨ab, rfl, hcsc, hac⟩ := arc_cell HAR.out hjl
      obtain ⟨u', v', G, K, A, B, hro⟩ := room_of HG.out.acts HSD.out.wired HM1.out.ok (by omega) HRM.out hjl
      have hav : arcV g j = [.int .i64 (u' : Int), .int .i64 (v' : Int), .int .i64 G, .int .i64 K, .int .i64 ((edgeAt g j).start.length : Nat)] := by
       unfold arcV
       rw [hro.src, hro.dst, Int.toNat_natCast, Int.toNat_natCast, hro.give, hro.take]
      rw [hav] at hac
      obtain ⟨Z, hZ⟩ : ∃ x, (edgeAt g j).start.length = x := ⟨_, rfl⟩
      have a0 := hac 0 _ (by omega) rfl
      have a1 := hac 1 _ (by omega) rfl
      have a2 := hac 2 _ (by omega) rfl
      have a3 := hac 3 _ (by omega) rfl
      have a4 := hac 4 _ (by omega) rfl
      simp only [Nat.add_zero] at a0
      rw [hZ] at a4
      have hcn : (countI g r2).length = g.edges.length := HCL.out
      have hfn : (firedI g r2).length = g.actors.length := HFL.out
      have hu2 := hro.hu
      have hv2 := hro.hv
      obtain ⟨cb, cf, rfl, -, hkc, -, -, hcc⟩ := Ints.at HCT.out (by omega)
      obtain ⟨fb, ff, rfl, -, hjc, -, -, hfc⟩ := Ints.at HFT.out (by omega)
      have k1 := hcc j (by omega)
      have k2 := hfc u' (by have := hro.hu; omega)
      have k3 := hfc v' (by have := hro.hv; omega)
      rw [show (countI g r2)[j]?.getD 0 = ((r2.rig.strs j).length : Int) by unfold countI; rw [List.getElem?_map, List.getElem?_range hjl]; rfl] at k1
      rw [show (firedI g r2)[u']?.getD 0 = ((r2.rig.tasks u').whole : Int) by unfold firedI; rw [List.getElem?_map, List.getElem?_range hro.hu]; rfl] at k2
      rw [show (firedI g r2)[v']?.getD 0 = ((r2.rig.tasks v').whole : Int) by unfold firedI; rw [List.getElem?_map, List.getElem?_range hro.hv]; rfl] at k3
      obtain ⟨C, hC⟩ : ∃ x, (r2.rig.strs j).length = x := ⟨_, rfl⟩
      obtain ⟨Fu, hFu⟩ : ∃ x : Int, ((r2.rig.tasks u').whole : Int) = x := ⟨_, rfl⟩
      obtain ⟨Fv, hFv⟩ : ∃ x : Int, ((r2.rig.tasks v').whole : Int) = x := ⟨_, rfl⟩
      obtain ⟨cpb, cpo, rfl, -, hccap, -, -, hcpc⟩ := Ints.at (HRUN.out.below HK.out.below).caps (by omega)
      have k4 := hcpc j (by omega)
      obtain ⟨Q, hQ⟩ : ∃ x, caps[j]?.getD 0 = x := ⟨_, rfl⟩
      have g1 := hro.ga
      have g2 := hro.kb2
      have g3 := hro.room
      have g4 := hro.low
      have g5 := hro.high
      have g6 := hro.ab
      have g7 := hro.bb
      have g8 := hro.gb
      have g9 := hro.kb
      have g10 := hro.hu
      have g11 := hro.hv
      have hC3 : C ≤ 27000000000000 := by rw [← hC]; exact Nat.le_trans (HM1.out.len j) (Nat.le_of_lt (HM1.out.lt (by omega) j))
      rw [hFu] at g1 k2
      rw [hFv] at g2 k3
      rw [hC] at k1 g3 g4 g5
      rw [hZ] at g3 g4 g5
      rw [hQ] at k4 g3
      have hw1 : wrap64 (G * Fu) = A := by rw [g1]; exact IntWalk.wrap64_in _ (by omega)
      have hw2 : wrap64 (K * Fv) = B := by rw [g2]; exact IntWalk.wrap64_in _ (by omega)
      have hw3 : wrap64 ((Z : Int) + A) = Z + A := IntWalk.wrap64_in _ (by omega)
      obtain ⟨E, hE⟩ : ∃ x : Int, (Z : Int) + A - B = x := ⟨_, rfl⟩
      have hw4 : wrap64 ((Z : Int) + A - B) = E := by rw [hE]; exact IntWalk.wrap64_in _ (by omega)
      obtain ⟨EK, hEK⟩ : ∃ x : Int, E - K = x := ⟨_, rfl⟩
      obtain ⟨EG, hEG⟩ : ∃ x : Int, E + G = x := ⟨_, rfl⟩
      have hw5 : wrap64 (E - K) = EK := by rw [hEK]; exact IntWalk.wrap64_in _ (by omega)
      have hw6 : wrap64 (E + G) = EG := by rw [hEG]; exact IntWalk.wrap64_in _ (by omega)
      have hv1 : IntKind.i64.wrap (G * Fu) = A := (IntWalk.i64_left _).trans hw1
      have hv2 : IntKind.i64.wrap (K * Fv) = B := (IntWalk.i64_left _).trans hw2
      have hv3 : IntKind.i64.wrap ((Z : Int) + A) = Z + A := (IntWalk.i64_left _).trans hw3
      have hv4 : IntKind.i64.wrap ((Z : Int) + A - B) = E := (IntWalk.i64_left _).trans hw4
      have hv5 : IntKind.i64.wrap (E - K) = EK := (IntWalk.i64_left _).trans hw5
      have hv6 : IntKind.i64.wrap (E + G) = EG := (IntWalk.i64_left _).trans hw6
      have c1 : ¬ (C : Int) < 0 := by omega
      have c2 : ¬ (C : Int) < EK := by omega
      have c3 : ¬ EG < (C : Int) := by omega
      have HD1 := Lib.hid (decide_eq_false c1)
      have HD2 := Lib.hid (decide_eq_false c2)
      have HD3 := Lib.hid (decide_eq_false c3)
      have hj1 : (u' : Int) < (firedI g r2).length := by omega
      have hj2 : (v' : Int) < (firedI g r2).length := by omega
      have hj3 : (j : Int) < (countI g r2).length := by omega
      have hj4 : ((countI g r2).length : Int) ≤ kc := by omega
      have hj5 : ((firedI g r2).length : Int) ≤ jc := by omega
      have hj6 : ((g.edges.length : Nat) : Int) ≤ sc := by omega
      have hj7 : (caps.length : Int) ≤ cc := by omega
      have hj8 : (j : Int) < caps.length := by omega
      have hHZ : Hid (Z ≤ 256) := Lib.hid (by
       have := (HSD.out.edge j hjl).2.2.2.2.2.2
       rw [← hZ]
       unfold edgeAt
       rw [List.getElem?_eq_getElem hjl]
       exact this)
      clear hav hac hcc hfc hcpc hZ hC hFu hFv hQ g1 g2 g4 g5 hE hEK hEG hro hcsc hccap hkc hjc
      change wr.cell? _ = some (.int .i64 C) at k1
      change wr.cell? _ = some (.int .i64 Fu) at k2
      change wr.cell? _ = some (.int .i64 Fv) at k3
      change wr.cell? _ = some (.int .i64 Q) at k4
      have n1 := HNB.out.cell 1 (.slice (some ⟨ab, 0, none⟩) g.edges.length sc) rfl
      have x5 := HX.out.cell 5 (.slice (some ⟨cpb, cpo, none⟩) caps.length cc) rfl
      have hbn := below_alloc wr (.cells #[.int .i64 (u' : Int), .int .i64 (v' : Int), .int .i64 G, .int .i64 K, .int .i64 (Z : Int)] 78)
      have TT := Turn.of_below q 20005 hbn
      have HZB := Lib.hid (blk_new (w := wr) q 20005 #[.int .i64 (u' : Int), .int .i64 (v' : Int), .int .i64 G, .int .i64 K, .int .i64 (Z : Int)] 78)
      replace HK := Lib.hid (HK.out.turn TT (fun h => h))
      replace HX := Lib.hid (HX.out.turn TT (fun h => h))
      replace HNB := Lib.hid (HNB.out.turn TT (fun h => h))
      replace HAR := Lib.hid (HAR.out.turn TT (fun h => h))
      replace HM1 := Lib.hid (HM1.out.turn TT (fun _ h => h.elim))
      replace HCT := Lib.hid (HCT.out.turn TT (fun h => h))
      replace HFT := Lib.hid (HFT.out.turn TT (fun h => h))
      replace k1 := cell_later hbn k1
      replace k2 := cell_later hbn k2
      replace k3 := cell_later hbn k3
      replace k4 := cell_later hbn k4
      replace x5 := cell_later hbn x5
      generalize ext q wr.heap.size 20005 = qz at *
      clear TT hbn
      go_wp2_with fail
      obtain ⟨wx, hwx⟩ : ∃ x, wr.alloc (.cells #[.int .i64 (u' : Int), .int .i64 (v' : Int), .int .i64 G, .int .i64 K, .int .i64 (Z : Int)] 78) = x := ⟨_, rfl⟩
      obtain ⟨X, hX⟩ : ∃ x, wr.heap.size = x := ⟨_, rfl⟩
      rw [hwx] at HZB HK HX HNB HAR HM1 HCT HFT k1 k2 k3 k4 x5 ⊢
      rw [hX] at HZB ⊢
      have z0 := HZB.out.cell 0 (.int .i64 (u' : Int)) rfl
      have z1 := HZB.out.cell 1 (.int .i64 (v' : Int)) rfl
      have z2 := HZB.out.cell 2 (.int .i64 G) rfl
      have z3 := HZB.out.cell 3 (.int .i64 K) rfl
      have z4 := HZB.out.cell 4 (.int .i64 (Z : Int)) rfl
      clear hwx hX a0 a1 a2 a3 a4 n1
      refine wp_region_lex (fun w' => w'.cell? ⟨X, 0, none⟩ = some (.int .i64 (u' : Int)) ∧ w'.cell? ⟨X, 1, none⟩ = some (.int .i64 (v' : Int)) ∧ w'.cell? ⟨X, 2, none⟩ = some (.int .i64 G) ∧ w'.cell? ⟨X, 3, none⟩ = some (.int .i64 K) ∧ w'.cell? ⟨X, 4, none⟩ = some (.int .i64 (Z : Int)) ∧ w'.cell? ⟨fb, ff + u', none⟩ = some (.int .i64 Fu) ∧ w'.cell? ⟨fb, ff + v', none⟩ = some (.int .i64 Fv)) [0, 1, 2, 3, 4, 5, 6, 7, 8, 9, 10, 11, 12, 13, 14, 15, 16, 17, 18, 19, 20] [] (by kernel_rfl) (by kernel_rfl) rfl (fun _ _ hx h => ⟨hx.cell h.1, hx.cell h.2.1, hx.cell h.2.2.1, hx.cell h.2.2.2.1, hx.cell h.2.2.2.2.1, hx.cell h.2.2.2.2.2.1, hx.cell h.2.2.2.2.2.2⟩) ⟨z0, z1, z2, z3, z4, k2, k3⟩ ?_
      intro Q' hQ'
      simp only [pickOps, List.flatMap_cons, List.flatMap_nil, List.drop_succ_cons, List.drop_zero, List.take_succ_cons, List.take_zero, List.cons_append, List.nil_append, List.append_nil]
      repeat (first
       | (refine wpReads_skip (by rfl) ?_; (try simp only [Act.put, List.setIfInBounds_toArray, List.set_cons_zero, List.set_cons_succ]))
       | (refine wpReads_cons ?_ (by rfl) (by rfl) ?_ ?_; rotate_left; (intro wz hz; (try dsimp only at hz); go_simp; try with_reducible rfl); (try simp only [Act.put, List.setIfInBounds_toArray, List.set_cons_zero, List.set_cons_succ]))
       | (refine wpReads_any ?_ (by rfl) ?_ ?_; rotate_left; (intro wz; go_simp; try with_reducible rfl); (try simp only [Act.put, List.setIfInBounds_toArray, List.set_cons_zero, List.set_cons_succ])))
      refine wpReads_nil ?_
      have TD : Turn qz qz (fun _ => False) wx wx.drew.drew := ((Turn.refl qz _ wx).drew).drew
      have HKD := Lib.hid (HK.out.turn TD (fun h => h))
      have HXD := Lib.hid (HX.out.turn TD (fun h => h))
      have HNBD := Lib.hid (HNB.out.turn TD (fun h => h))
      have HARD := Lib.hid (HAR.out.turn TD (fun h => h))
      have HM1D := Lib.hid (HM1.out.turn TD (fun _ h => h.elim))
      have HCTD := Lib.hid (HCT.out.turn TD (fun h => h))
      have HFTD := Lib.hid (HFT.out.turn TD (fun h => h))
      clear TD
      go_wp2_with fail
      have d1 := HD1.out
      have d2 := HD2.out
      have d3 := HD3.out
      by_cases hq : Q < (C : Int)
      ·
       have hzc : ¬ (Z : Int) < C := by omega
       refine wp_region_lex (fun w' => w'.cell? ⟨cb, cf + j, none⟩ = some (.int .i64 C) ∧ w'.cell? ⟨w.heap.size, 5, none⟩ = some (.slice (some ⟨cpb, cpo, none⟩) caps.length cc) ∧ w'.cell? ⟨cpb, cpo + j, none⟩ = some (.int .i64 Q) ∧ w'.cell? ⟨X, 2, none⟩ = some (.int .i64 G) ∧ w'.cell? ⟨X, 3, none⟩ = some (.int .i64 K) ∧ w'.cell? ⟨X, 4, none⟩ = some (.int .i64 (Z : Int))) [0, 1, 2, 3, 4, 5, 6, 7, 8, 9, 10, 11, 12, 13, 14, 15, 16, 17, 18, 19, 20, 21, 22, 23, 24, 25, 26, 27, 28, 29, 30, 31, 32, 33, 34, 35, 36, 37, 38, 39, 40, 41, 42, 43, 44, 45, 46, 47] [] (by kernel_rfl) (by kernel_rfl) rfl (fun _ _ hx h => ⟨hx.cell h.1, hx.cell h.2.1, hx.cell h.2.2.1, hx.cell h.2.2.2.1, hx.cell h.2.2.2.2.1, hx.cell h.2.2.2.2.2⟩) ⟨k1, x5, k4, z2, z3, z4⟩ ?_
       intro Q' hQ'
       simp only [pickOps, List.flatMap_cons, List.flatMap_nil, List.drop_succ_cons, List.drop_zero, List.take_succ_cons, List.take_zero, List.cons_append, List.nil_append, List.append_nil]
       repeat (first
        | (refine wpReads_skip (by rfl) ?_; (try simp only [Act.put, List.setIfInBounds_toArray, List.set_cons_zero, List.set_cons_succ]))
        | (refine wpReads_cons ?_ (by rfl) (by rfl) ?_ ?_; rotate_left; (intro wz hz; (try dsimp only at hz); go_simp; try with_reducible rfl); (try simp only [Act.put, List.setIfInBounds_toArray, List.set_cons_zero, List.set_cons_succ]))
        | (refine wpReads_any ?_ (by rfl) ?_ ?_; rotate_left; (intro wz; go_simp; try with_reducible rfl); (try simp only [Act.put, List.setIfInBounds_toArray, List.set_cons_zero, List.set_cons_succ])))
       refine wpReads_nil ?_
       go_wp2
       go_roundw
       case rel => exact ⟨j + 1, qz, hjl, by go_num, HKD.out, HXD.out, HNBD.out, HARD.out, HM1D.out, HCTD.out, HFTD.out⟩
       case measure => simp [intOf]; omega
      ·
       refine wp_region_lex (fun w' => w'.cell? ⟨cb, cf + j, none⟩ = some (.int .i64 C) ∧ w'.cell? ⟨w.heap.size, 5, none⟩ = some (.slice (some ⟨cpb, cpo, none⟩) caps.length cc) ∧ w'.cell? ⟨cpb, cpo + j, none⟩ = some (.int .i64 Q) ∧ w'.cell? ⟨X, 2, none⟩ = some (.int .i64 G) ∧ w'.cell? ⟨X, 3, none⟩ = some (.int .i64 K) ∧ w'.cell? ⟨X, 4, none⟩ = some (.int .i64 (Z : Int))) [0, 1, 2, 3, 4, 5, 6, 7, 8, 9, 10, 11, 12, 13, 14, 15, 16, 17, 18, 19, 20, 21, 22, 23, 24, 25, 26, 27, 28, 29, 30, 31, 32, 33, 34, 35, 36, 37, 38, 39, 40, 41, 42, 43, 44, 45, 46, 47] [] (by kernel_rfl) (by kernel_rfl) rfl (fun _ _ hx h => ⟨hx.cell h.1, hx.cell h.2.1, hx.cell h.2.2.1, hx.cell h.2.2.2.1, hx.cell h.2.2.2.2.1, hx.cell h.2.2.2.2.2⟩) ⟨k1, x5, k4, z2, z3, z4⟩ ?_
       intro Q' hQ'
       simp only [pickOps, List.flatMap_cons, List.flatMap_nil, List.drop_succ_cons, List.drop_zero, List.take_succ_cons, List.take_zero, List.cons_append, List.nil_append, List.append_nil]
       repeat (first
        | (refine wpReads_skip (by rfl) ?_; (try simp only [Act.put, List.setIfInBounds_toArray, List.set_cons_zero, List.set_cons_succ]))
        | (refine wpReads_cons ?_ (by rfl) (by rfl) ?_ ?_; rotate_left; (intro wz hz; (try dsimp only at hz); go_simp; try with_reducible rfl); (try simp only [Act.put, List.setIfInBounds_toArray, List.set_cons_zero, List.set_cons_succ]))
        | (refine wpReads_any ?_ (by rfl) ?_ ?_; rotate_left; (intro wz; go_simp; try with_reducible rfl); (try simp only [Act.put, List.setIfInBounds_toArray, List.set_cons_zero, List.set_cons_succ])))
       refine wpReads_nil ?_
       go_wp2
       go_roundw
       case rel => exact ⟨j + 1, qz, hjl, by go_num, HKD.out, HXD.out, HNBD.out, HARD.out, HM1D.out, HCTD.out, HFTD.out⟩
       case measure => simp [intOf]; omega
     ·
      obtain rfl : j = g.edges.length := by omega
      have hjli : ¬ (g.edges.length : Int) < g.edges.length := by omega
      go_wp2
      go_roundw
      case rel => exact ⟨k + 1, q, r2, u6, hlt, by go_num, HK.out, HX.out, HNB.out, HAR.out, HM1.out, HR.out⟩
      case measure => simp [intOf]; omega
   ·
    have hlti : ¬ (k : Int) < script.length := by omega
    go_wp2_with fail
    refine (dawake_yes _).mono ?_
    rintro e wz ⟨rfl, hbz⟩
    have HBZ := Lib.hid (HK.out.below.trans (hbz.mono HK.out.size))
    clear hbz
    go_wp2
    go_ret
    exact ⟨rfl, HBZ.out⟩
end Go.Proofs.YtaholpfikcdhbaaGreat

/- What came in, said plainly for a walk: a slice of ints. No program in sight. -/
namespace Go.Proofs.YtaholpfikcdhbaaGreat
open Go.ChangeShapes Go.WideShapes Go.ChangeAt Go.RowKit Go.Deep
def InInts (w : World) (v : Value) (zs : List Int) : Prop :=
 ∃ ao cap, v = .slice ao zs.length cap ∧ zs.length ≤ cap ∧ cap ≤ maxLen ∧ (ao = none → zs.length = 0) ∧ (∀ n ∈ zs, -9223372036854775808 ≤ n ∧ n ≤ 9223372036854775807) ∧
  ∀ ad, ao = some ad → ∀ j u, (zs.map (Value.int .i64))[j]? = some u → w.cell? (ad.add j) = some u
theorem wf_i64 {n : Int} (h : (Lit.int .i64 n).wf = true) : -9223372036854775808 ≤ n ∧ n ≤ 9223372036854775807 := by
 simp [Lit.wf] at h
 have h1 : IntKind.i64.min = -9223372036854775808 := rfl
 have h2 : IntKind.i64.max = 9223372036854775807 := rfl
 omega
def DLen {H : Type} (d : DataW H) (n : Nat) : Prop := (d = .nil ∧ n = 0) ∨ ∃ el sp, d = .slice el sp ∧ el.length = n
theorem DLen.reach {H : Type} {P : Program} {ts : List TypeId} {ds : List (DataW H)} {d : DataW H} {n j : Nat} {t e : TypeId} (h : DLen d n) (hs : (DataW.weightsEach P ts ds).all (· ≤ reachBytes) = true) (ht : ts[j]? = some t) (hd : ds[j]? = some d) (hu : P.underlying t = some (.slice e)) : n * P.bytesOf e ≤ 140737488351232 := by
 rcases h with ⟨rfl, rfl⟩ | ⟨el, sp, rfl, rfl⟩
 ·
  omega
 ·
  have := sized_slice hs ht hd hu
  have h1 : el.length * P.bytesOf e ≤ (el.length + sp.length) * P.bytesOf e := Nat.mul_le_mul_right _ (by omega)
  have h2 : reachBytes = 140737488351232 := rfl
  omega
theorem open_in_ints {P : Program} {H : Type} {enc : TypeId × Value → H} {W : World} {t e : TypeId} {v : Value} {d : DataW H} {p : List MemPlace} (ht : P.underlying t = some (.slice e)) (he : P.underlying e = some (.int .i64)) (hc : P.cellsOf e = 1)
  (hv : ∃ a len cap, v = .slice a len cap) (h : DataW.Trod enc P W 0 (fun _ => true) true t v d p) : ∃ zs, InInts W v zs ∧ DLen d zs.length := by
 obtain ⟨a1, len1, cap1, rfl⟩ := hv
 obtain ⟨fuel, hf⟩ := h
 rcases open_ints ht he hc hf with ⟨hcs, hx⟩ | ⟨x, l, c, zs, hcs, _, hl, hm, hz, hx, hcell, hwz⟩
 ·
  simp [Value.cells] at hcs
  obtain ⟨rfl, rfl, rfl⟩ := hcs
  obtain rfl : d = .nil := congrArg Prod.fst hx
  exact ⟨[], ⟨none, 0, rfl, Nat.le_refl _, Nat.zero_le _, fun _ => rfl, by simp, fun _ h => by cases h⟩, .inl ⟨rfl, rfl⟩⟩
 ·
  simp [Value.cells] at hcs
  obtain ⟨rfl, rfl, rfl⟩ := hcs
  simp at hz
  obtain rfl : d = _ := congrArg Prod.fst hx
  have hlen : (zs.take len1).length = len1 := by rw [List.length_take]; omega
  refine ⟨zs.take len1, ⟨some x, cap1, by rw [hlen], by omega, hm, (fun h => by cases h), fun n hn => ?_, ?_⟩, .inr ⟨_, _, rfl, by simp [lits]⟩⟩
  ·
   exact wf_i64 (hwz n (List.mem_of_mem_take hn))
  ·
   intro ad had j u hu
   obtain rfl := Option.some.inj had
   have hj : j < len1 := by have := (List.getElem?_eq_some_iff.1 hu).1; simp at this; omega
   have hcz := hcell j (by omega)
   rw [hcz]
   have : ((zs.take len1).map (Value.int .i64))[j]? = some (.int .i64 (zs.getD j 0)) := by
    simp [hj, show j < zs.length by omega]
   rw [this] at hu
   exact hu
theorem InInts.has {W : World} {v : Value} {zs : List Int} (h : InInts W v zs) : Has W v (ivs zs) := by
 obtain ⟨ao, cap, rfl, h1, h2, h3, h4, h5⟩ := h
 by_cases hp : 0 < zs.length
 ·
  cases ao with
  | none => have := h3 rfl; omega
  | some a =>
   have hc : ∀ i, i < zs.length → W.cell? (a.add i) = some (.int .i64 (zs.getD i 0)) := fun i hi => h5 a rfl i _ (by simp [hi])
   obtain ⟨b, off, rfl, hcell⟩ := ints_at hc hp
   refine .inr ⟨by simpa using hp, b, off, cap, by simp, by simpa using h1, World.block_lt_of_cell? _ _ (hcell 0 hp), rfl, fun k hk => ?_⟩
   have hk' : k < zs.length := by simpa using hk
   have := hcell k hk'
   simpa [hk'] using this
 ·
  obtain rfl : zs = [] := List.eq_nil_of_length_eq_zero (by omega)
  exact .inl ⟨rfl, ao, cap, rfl⟩
theorem InInts.fits {W : World} {v : Value} {zs : List Int} (h : InInts W v zs) : ∀ n ∈ zs, -9223372036854775808 ≤ n ∧ n ≤ 9223372036854775807 := h.choose_spec.choose_spec.2.2.2.2.1
end Go.Proofs.YtaholpfikcdhbaaGreat

/- What came in, said plainly for a walk: a slice of slices of ints. No program in sight. -/
namespace Go.Proofs.YtaholpfikcdhbaaGreat
open Go.ChangeShapes Go.WideShapes Go.ChangeAt Go.RowKit Go.Deep
theorem open_in_ints_cells {P : Program} {H : Type} {enc : TypeId × Value → H} {W : World} {t e : TypeId} {x : Value} {fuel : Nat} {y : DataW H × List MemPlace} (ht : P.underlying t = some (.slice e)) (he : P.underlying e = some (.int .i64)) (hc : P.cellsOf e = 1)
  (h : DataW.trod enc P W 0 (fun _ => true) true fuel t [x] = some y) : ∃ zs, InInts W x zs ∧ DLen y.1 zs.length := by
 have hx : ∃ a len cap, x = .slice a len cap := by
  rcases open_ints ht he hc h with ⟨hcs, _⟩ | ⟨a, len, cap, zs, hcs, _⟩
  ·
   exact ⟨_, _, _, List.head_eq_of_cons_eq hcs⟩
  ·
   exact ⟨_, _, _, List.head_eq_of_cons_eq hcs⟩
 obtain ⟨a, len, cap, rfl⟩ := hx
 exact open_in_ints (d := y.1) (p := y.2) ht he hc ⟨_, _, _, rfl⟩ ⟨fuel, by simpa [Value.cells] using h⟩
end Go.Proofs.YtaholpfikcdhbaaGreat

/- What came in, said plainly for a walk: slices of slices of ints and their sizes; two of them in a struct. No program in sight. -/
namespace Go.Proofs.YtaholpfikcdhbaaGreat
open Go.ChangeShapes Go.WideShapes Go.ChangeAt Go.RowKit Go.Deep
theorem weights_mem_all {H : Type} {P : Program} {e : TypeId} {d : DataW H} {x : Nat} : ∀ {l : List (DataW H)}, d ∈ l → x ∈ d.weights P e → x ∈ DataW.weightsAll P e l
 | [], h, _ => by cases h
 | a :: l, h, hx => by
  simp only [DataW.weightsAll, List.mem_append]
  rcases List.mem_cons.1 h with rfl | h
  ·
   exact .inl hx
  ·
   exact .inr (weights_mem_all h hx)
def Light {H : Type} (P : Program) (t : TypeId) (d : DataW H) : Prop := ∀ x ∈ d.weights P t, x ≤ reachBytes
theorem weigh_len {H : Type} {P : Program} {t e : TypeId} {d : DataW H} {n B : Nat} (h : ∀ x ∈ d.weights P t, x ≤ B) (hd : DLen d n) (hu : P.underlying t = some (.slice e)) : n * P.bytesOf e ≤ B := by
 rcases hd with ⟨rfl, rfl⟩ | ⟨el, sp, rfl, rfl⟩
 ·
  simp
 ·
  have := h ((el.length + sp.length) * P.bytesOf e) (by simp [DataW.weights, hu])
  exact Nat.le_trans (Nat.mul_le_mul_right _ (by omega)) this
theorem Light.len {H : Type} {P : Program} {t e : TypeId} {d : DataW H} {n : Nat} (h : Light P t d) (hd : DLen d n) (hu : P.underlying t = some (.slice e)) : n * P.bytesOf e ≤ reachBytes := weigh_len h hd hu
theorem open_rows_by {P : Program} {H : Type} {enc : TypeId × Value → H} {W : World} {t s e : TypeId} {v : Value} {d : DataW H} {p : List MemPlace} (ht : P.underlying t = some (.slice s)) (hs : P.underlying s = some (.slice e)) (he : P.underlying e = some (.int .i64)) (hce : P.cellsOf e = 1) (hcs : P.cellsOf s = 1)
  (hv : ∃ a len cap, v = .slice a len cap) (h : DataW.Trod enc P W 0 (fun _ => true) true t v d p) : ∃ xss, LL W v xss ∧ (∀ l ∈ xss, ∀ x ∈ l, -9223372036854775808 ≤ x ∧ x ≤ 9223372036854775807) ∧ (∀ B, (∀ x ∈ d.weights P t, x ≤ B) → xss.length * P.bytesOf s ≤ B ∧ ∀ l ∈ xss, l.length * P.bytesOf e ≤ B) := by
 obtain ⟨a1, len1, cap1, rfl⟩ := hv
 obtain ⟨fuel, hf⟩ := h
 rcases open_slice ht hf with ⟨hc, hx⟩ | ⟨a, len, cap, m, n, D, Pl, hc, _, hl, hm, hmm, hx, hel⟩
 ·
  simp [Value.cells] at hc
  obtain ⟨rfl, rfl, rfl⟩ := hc
  exact ⟨[], ⟨[], rfl, .inl ⟨rfl, none, 0, rfl⟩, fun k hk => by simp at hk⟩, by simp, fun _ _ => ⟨by simp, by simp⟩⟩
 ·
  simp [Value.cells] at hc
  obtain ⟨rfl, rfl, rfl⟩ := hc
  simp at hmm
  have each : ∀ i, i < len1 → ∃ q : Value × List Int, W.cell? (a.add i) = some q.1 ∧ InInts W q.1 q.2 ∧ DLen (D i) q.2.length := by
   intro i hi
   obtain ⟨cs', hcells, htr⟩ := hel i (by omega)
   rw [hcs] at hcells
   simp only [Nat.mul_one] at hcells
   obtain ⟨_, hll, hev⟩ := World.cells?_some hcells
   match cs', hll with
   | [x0], _ =>
    obtain ⟨zs, hz, hdl⟩ := open_in_ints_cells hs he hce htr
    have g0 := hev 0 (by omega)
    have e0 : (a.add i).add 0 = a.add i := by cases a; simp [Addr.add]
    rw [e0] at g0
    exact ⟨(x0, zs), by simpa using g0, hz, hdl⟩
  obtain ⟨Q, hQ⟩ := choose_lt (α := Value × List Int) (p := fun i q => W.cell? (a.add i) = some q.1 ∧ InInts W q.1 q.2 ∧ DLen (D i) q.2.length) each
  have hd : d = _ := congrArg Prod.fst hx
  refine ⟨(List.range len1).map fun i => (Q i).2, ⟨(List.range len1).map fun i => (Q i).1, by simp, ?_, fun k hk => ?_⟩, fun l hl x hx => ?_, fun B hL => ⟨?_, fun l hl => ?_⟩⟩
  ·
   by_cases hp : 0 < len1
   ·
    have hsp : a.spot = none := by
     have := World.cell?_spot (hQ 0 hp).1
     simpa [Addr.add] using this
    obtain ⟨b, off, spot⟩ := a
    simp at hsp
    subst hsp
    refine .inr ⟨by simpa using hp, b, off, cap1, by simp, by simp; omega, ?_, rfl, fun k hk => ?_⟩
    ·
     have := World.block_lt_of_cell? _ _ (hQ 0 hp).1
     simpa [Addr.add] using this
    ·
     have hk' : k < len1 := by simpa using hk
     have := (hQ k hk').1
     simp only [Addr.add_lit] at this
     simpa [hk'] using this
   ·
    obtain rfl : len1 = 0 := by omega
    exact .inl ⟨rfl, some a, cap1, rfl⟩
  ·
   have hk' : k < len1 := by simpa using hk
   have := (hQ k hk').2.1.has
   simpa [hk'] using this
  ·
   simp only [List.mem_map, List.mem_range] at hl
   obtain ⟨i, hi, rfl⟩ := hl
   exact (hQ i hi).2.1.fits x hx
  ·
   exact weigh_len (n := ((List.range len1).map fun i => (Q i).2).length) hL (.inr ⟨_, _, hd, by simp⟩) ht
  ·
   simp only [List.mem_map, List.mem_range] at hl
   obtain ⟨i, hi, rfl⟩ := hl
   have hLi : ∀ x ∈ (D i).weights P s, x ≤ B := fun x hx => hL x (by
    rw [hd]
    simp only [DataW.weights, ht]
    exact List.mem_cons_of_mem _ (List.mem_append_left _ (weights_mem_all (List.mem_map.2 ⟨i, List.mem_range.2 hi, rfl⟩) hx)))
   exact weigh_len hLi (hQ i hi).2.2 hs
end Go.Proofs.YtaholpfikcdhbaaGreat

/- What came in, said plainly for a walk: a slice of records. No function in sight. -/
namespace Go.Proofs.YtaholpfikcdhbaaGreat
open Go.ChangeShapes Go.WideShapes Go.ChangeAt Go.RowKit Go.Deep
section
variable {H : Type} {enc : TypeId × Value → H} {W : World}
abbrev Trods (enc : TypeId × Value → H) (W : World) (fuel : Nat) (t : TypeId) (cs : List Value) (y : DataW H × List MemPlace) : Prop := DataW.trod enc Tryz.prog W 0 (fun _ => true) true fuel t cs = some y
theorem cell_int : Tryz.prog.cellsOf 3 = 1 := by kernel_rfl
theorem cell_ints : Tryz.prog.cellsOf 27 = 1 := by kernel_rfl
theorem byte_int : Tryz.prog.bytesOf 3 = 8 := by kernel_rfl
theorem reach_val : reachBytes = 140737488351232 := rfl
theorem part_by {B : Nat} {t : TypeId} {fs : Array Field} {xs : List (DataW H × List MemPlace)} (ht : Tryz.prog.underlying t = some (.struct fs)) (hL : ∀ x ∈ (DataW.agg (xs.map (·.1))).weights Tryz.prog t, x ≤ B) {i : Nat} {f : Field} {y : DataW H × List MemPlace} (hf : fs[i]? = some f) (hy : xs[i]? = some y) : ∀ x ∈ y.1.weights Tryz.prog f.type, x ≤ B := fun x hx => hL x (by
 simp only [DataW.weights, ht]
 have h1 : (fs.toList.map (·.type))[i]? = some f.type := by simp [hf]
 have h2 : (xs.map (·.1))[i]? = some y.1 := by simp [hy]
 exact DataW.weights_mem_each h1 h2 x hx)
theorem light_part {t : TypeId} {fs : Array Field} {xs : List (DataW H × List MemPlace)} (ht : Tryz.prog.underlying t = some (.struct fs)) (hL : Light Tryz.prog t (.agg (xs.map (·.1)))) {i : Nat} {f : Field} {y : DataW H × List MemPlace} (hf : fs[i]? = some f) (hy : xs[i]? = some y) : Light Tryz.prog f.type y.1 := part_by ht hL hf hy
theorem int_at {fuel : Nat} {x : Value} {y : DataW H × List MemPlace} (h : Trods enc W fuel 3 [x] y) : ∃ n, x = .int .i64 n := by
 obtain ⟨n, h1, _⟩ := DataW.trod_int Tryz.underlying3 h
 exact ⟨n, by simpa using h1⟩
theorem list_get {cs : List Value} {n i : Nat} (hl : cs.length = n) (hi : i < n) : cs[i]? = some (cs[i]?.getD undef) := by
 rw [List.getElem?_eq_getElem (by omega)]; rfl
theorem open_recs {α : Type} {R : World → α → List Value → Prop} {Z : α → Prop} {t e : TypeId} {sz : Nat} {fuel : Nat} {x : Value} {y : DataW H × List MemPlace} (ht : Tryz.prog.underlying t = some (.slice e)) (hc : Tryz.prog.cellsOf e = sz) (hsz : 0 < sz)
  (el : ∀ (fuel : Nat) (cs : List Value) (y : DataW H × List MemPlace), cs.length = sz → Trods enc W fuel e cs y → ∃ a : α, R W a cs ∧ (Light Tryz.prog e y.1 → Z a)) (h : Trods enc W fuel t [x] y) :
  ∃ l : List α, Recs W sz R x l ∧ (Light Tryz.prog t y.1 → l.length * Tryz.prog.bytesOf e ≤ reachBytes ∧ ∀ a ∈ l, Z a) := by
 rcases open_slice ht h with ⟨hcs', hx⟩ | ⟨a, len, cap, m, n, D, Pl, hcs', _, hl, hm, hmm, hx, hel⟩
 ·
  obtain rfl : x = .slice none 0 0 := List.head_eq_of_cons_eq hcs'
  exact ⟨[], .inl ⟨rfl, _, _, rfl⟩, fun _ => ⟨by simp, by simp⟩⟩
 ·
  obtain rfl := List.head_eq_of_cons_eq hcs'
  simp at hmm
  have each : ∀ j, j < len → ∃ q : α × List Value, q.2.length = sz ∧ R W q.1 q.2 ∧ (Light Tryz.prog e (D j) → Z q.1) ∧ ∀ i, i < sz → W.cell? ((a.add (j * sz)).add i) = some (q.2[i]?.getD undef) := by
   intro j hj
   obtain ⟨cs', hcells, htr⟩ := hel j (by omega)
   rw [hc] at hcells
   obtain ⟨_, hll, hev⟩ := World.cells?_some hcells
   obtain ⟨q, h1, h2⟩ := el _ _ _ hll htr
   exact ⟨(q, cs'), hll, h1, h2, fun i hi => (hev i hi).trans (list_get hll hi)⟩
  by_cases hp : 0 < len
  ·
   haveI : Inhabited (α × List Value) := ⟨(each 0 hp).choose⟩
   obtain ⟨Q, hQ⟩ := choose_lt (α := α × List Value) (p := fun j q => q.2.length = sz ∧ R W q.1 q.2 ∧ (Light Tryz.prog e (D j) → Z q.1) ∧ ∀ i, i < sz → W.cell? ((a.add (j * sz)).add i) = some (q.2[i]?.getD undef)) each
   have hd : y.1 = _ := congrArg Prod.fst hx
   refine ⟨(List.range len).map fun j => (Q j).1, .inr ?_, fun hL => ⟨hL.len (n := ((List.range len).map fun j => (Q j).1).length) (.inr ⟨_, _, hd, by simp⟩) ht, fun z hz => ?_⟩⟩
   rotate_left
   ·
    simp only [List.mem_map, List.mem_range] at hz
    obtain ⟨j, hj, rfl⟩ := hz
    exact (hQ j hj).2.2.1 fun x hx => hL x (by
     rw [hd]
     simp only [DataW.weights, ht]
     exact List.mem_cons_of_mem _ (List.mem_append_left _ (weights_mem_all (List.mem_map.2 ⟨j, List.mem_range.2 hj, rfl⟩) hx)))
   have hsp : a.spot = none := by
    have := World.cell?_spot ((hQ 0 hp).2.2.2 0 hsz)
    simpa [Addr.add] using this
   obtain ⟨b, off, spot⟩ := a
   simp at hsp
   subst hsp
   refine ⟨by simpa using hp, b, off, cap, by simp, by simp; omega, ?_, fun k hk => ?_⟩
   ·
    have := World.block_lt_of_cell? _ _ ((hQ 0 hp).2.2.2 0 hsz)
    simpa [Addr.add] using this
   ·
    have hk' : k < len := by simpa using hk
    obtain ⟨e1, e2, _, e4⟩ := hQ k hk'
    refine ⟨(Q k).2, e1, by simpa [hk'] using e2, fun i hi => ?_⟩
    have := e4 i hi
    simp only [Addr.add_lit] at this
    exact this
  ·
   obtain rfl : len = 0 := by omega
   exact ⟨[], .inl ⟨rfl, some a, cap, rfl⟩, fun _ => ⟨by simp, by simp⟩⟩
end
end Go.Proofs.YtaholpfikcdhbaaGreat

/- What is not bulky is light: lists that are short weigh little. No function in sight. -/
namespace Go.Proofs.YtaholpfikcdhbaaGreat
open Go.ChangeShapes Go.WideShapes Go.ChangeAt Go.RowKit Go.Deep
section
variable {H : Type}
theorem bulk_one (d : DataW H) : 1 ≤ Rows.uptoBulk d := by
 cases d with
 | lit l => cases l <;> simp [Rows.uptoBulk]
 | nil => simp [Rows.uptoBulk]
 | ptr d => simp [Rows.uptoBulk]
 | slice elems spare => simp [Rows.uptoBulk]
 | agg parts => simp [Rows.uptoBulk]
 | iface t d => simp [Rows.uptoBulk]
 | map entries => simp [Rows.uptoBulk]
 | held h => simp [Rows.uptoBulk]
theorem bulk_part {d : DataW H} : ∀ {l : List (DataW H)}, d ∈ l → Rows.uptoBulk d ≤ Rows.uptoBulkAll l
 | [], h => by cases h
 | x :: r, h => by
  simp only [Rows.uptoBulkAll]
  rcases List.mem_cons.1 h with rfl | h
  ·
   omega
  ·
   have := bulk_part h; omega
theorem bulk_len : ∀ l : List (DataW H), l.length ≤ Rows.uptoBulkAll l
 | [] => by simp [Rows.uptoBulkAll]
 | x :: r => by have := bulk_one x; have := bulk_len r; simp only [Rows.uptoBulkAll, List.length_cons]; omega
theorem dlen_bulk {d : DataW H} {n : Nat} (h : DLen d n) : n ≤ Rows.uptoBulk d := by
 rcases h with ⟨rfl, h0⟩ | ⟨el, sp, rfl, h0⟩
 ·
  omega
 ·
  have := bulk_len el
  simp only [Rows.uptoBulk]
  omega
def shutB (P : Program) (S : List TypeId) (t : TypeId) : Bool :=
 match P.underlying t with
 | some (.slice e) => S.contains e && decide (P.bytesOf e ≤ 64)
 | some (.struct fs) => fs.toList.all fun f => S.contains f.type
 | some (.int _) => true
 | some .string => true
 | _ => false
theorem weigh_all {P : Program} {e : TypeId} {x : Nat} : ∀ {l : List (DataW H)}, x ∈ DataW.weightsAll P e l → ∃ d ∈ l, x ∈ d.weights P e
 | [], h => by simp [DataW.weightsAll] at h
 | d :: r, h => by
  simp only [DataW.weightsAll, List.mem_append] at h
  rcases h with h | h
  ·
   exact ⟨d, List.mem_cons_self, h⟩
  ·
   obtain ⟨y, h1, h2⟩ := weigh_all h
   exact ⟨y, List.mem_cons_of_mem _ h1, h2⟩
theorem weigh_each {P : Program} {x : Nat} : ∀ {ts : List TypeId} {l : List (DataW H)}, x ∈ DataW.weightsEach P ts l → ∃ d ∈ l, ∃ t ∈ ts, x ∈ d.weights P t
 | [], l, h => by cases l <;> simp [DataW.weightsEach] at h
 | t :: ts, [], h => by simp [DataW.weightsEach] at h
 | t :: ts, d :: r, h => by
  simp only [DataW.weightsEach, List.mem_append] at h
  rcases h with h | h
  ·
   exact ⟨d, List.mem_cons_self, t, List.mem_cons_self, h⟩
  ·
   obtain ⟨y, h1, u, h2, h3⟩ := weigh_each h
   exact ⟨y, List.mem_cons_of_mem _ h1, u, List.mem_cons_of_mem _ h2, h3⟩
theorem weigh {P : Program} {S : List TypeId} (hS : ∀ t ∈ S, shutB P S t = true) : ∀ (n : Nat) (d : DataW H) (t : TypeId), SizeOf.sizeOf d ≤ n → t ∈ S → ∀ x ∈ d.weights P t, x ≤ Rows.uptoBulk d * 64
 | 0, d, _, hn, _, _, _ => by cases d <;> simp at hn
 | n + 1, d, t, hn, ht, x, hx => by
  have hs := hS t ht
  unfold shutB at hs
  cases d with
  | lit l =>
   cases l with
   | string b =>
    simp [DataW.weights] at hx
    simp only [Rows.uptoBulk]
    omega
   | _ => simp [DataW.weights] at hx
  | nil => simp [DataW.weights] at hx
  | ptr d =>
   simp only [DataW.weights] at hx
   split at hx
   ·
    rename_i e he
    rw [he] at hs
    simp at hs
   ·
    cases hx
  | slice el sp =>
   simp only [DataW.weights] at hx
   split at hx
   ·
    rename_i e he
    rw [he] at hs
    simp only [Bool.and_eq_true, List.contains_iff_mem, decide_eq_true_eq] at hs
    simp only [Rows.uptoBulk]
    have l1 := bulk_len el
    have l2 := bulk_len sp
    rcases List.mem_cons.1 hx with rfl | hx
    ·
     have h1 : (el.length + sp.length) * P.bytesOf e ≤ (el.length + sp.length) * 64 := Nat.mul_le_mul_left _ hs.2
     omega
    ·
     rcases List.mem_append.1 hx with hx | hx
     ·
      obtain ⟨y, hy, hxy⟩ := weigh_all hx
      have := List.sizeOf_lt_of_mem hy
      have h1 := weigh hS n y e (by simp at hn; omega) hs.1 x hxy
      have := bulk_part hy
      omega
     ·
      obtain ⟨y, hy, hxy⟩ := weigh_all hx
      have := List.sizeOf_lt_of_mem hy
      have h1 := weigh hS n y e (by simp at hn; omega) hs.1 x hxy
      have := bulk_part hy
      omega
   ·
    cases hx
  | agg ps =>
   simp only [DataW.weights] at hx
   split at hx
   ·
    rename_i fs he
    rw [he] at hs
    simp only [List.all_eq_true, List.contains_iff_mem] at hs
    obtain ⟨y, hy, u, hu, hxy⟩ := weigh_each hx
    obtain ⟨f, hf, rfl⟩ := List.mem_map.1 hu
    have := List.sizeOf_lt_of_mem hy
    have h1 := weigh hS n y f.type (by simp at hn; omega) (hs f hf) x hxy
    have := bulk_part hy
    simp only [Rows.uptoBulk]
    omega
   ·
    rename_i e he
    rw [he] at hs
    simp at hs
   ·
    cases hx
  | iface u d => simp [DataW.weights] at hx
  | map es =>
   simp only [DataW.weights] at hx
   split at hx
   ·
    rename_i k e he
    rw [he] at hs
    simp at hs
   ·
    cases hx
  | held h => simp [DataW.weights] at hx
theorem light_of_bulk {P : Program} {S : List TypeId} (hS : S.all (shutB P S) = true) {d : DataW H} {t : TypeId} (ht : t ∈ S) (hb : Rows.uptoBulk d ≤ 1048576) : Light P t d := fun x hx => by
 have h := weigh (fun t ht => List.all_eq_true.1 hS t ht) _ d t (Nat.le_refl _) ht x hx
 have h2 : reachBytes = 140737488351232 := rfl
 omega
end
end Go.Proofs.YtaholpfikcdhbaaGreat

/- What came in, said plainly for a walk: a run. No function in sight. -/
namespace Go.Proofs.YtaholpfikcdhbaaGreat
open Go.ChangeShapes Go.WideShapes Go.ChangeAt Go.RowKit Go.Deep
section
variable {H : Type} {enc : TypeId × Value → H} {W : World}
theorem cell_string : Tryz.prog.cellsOf 9 = 1 := by kernel_rfl
theorem cell_tag : Tryz.prog.cellsOf 94 = 1 := by kernel_rfl
theorem string_at {fuel : Nat} {x : Value} {y : DataW H × List MemPlace} (h : Trods enc W fuel 9 [x] y) : ∃ s : ByteArray, x = .string s ∧ (Light Tryz.prog 9 y.1 → s.size ≤ 4611686018427387904) := by
 obtain ⟨s, h1, h2, _⟩ := DataW.trod_string Tryz.underlying9 h
 refine ⟨s, by simpa using h1, fun hL => ?_⟩
 have := hL s.data.toList.length (by rw [h2]; simp [DataW.weights])
 have h3 := reach_val
 have h4 : s.data.toList.length = s.size := by simp
 omega
set_option maxRecDepth 100000 in
theorem el_port {fuel : Nat} {cs : List Value} {y : DataW H × List MemPlace} (hl : cs.length = 3) (h : Trods enc W fuel 118 cs y) : ∃ a : GPort, PortR W a cs ∧ (Light Tryz.prog 118 y.1 → a.name.size ≤ 4611686018427387904) := by
 obtain ⟨xs, n, _, rfl, _, hlen, hf⟩ := DataW.trod_struct Tryz.underlying118 h
 match cs, hl, xs, hlen with
 | [x0, x1, x2], _, [y0, y1, y2], _ =>
  have h0 : Trods enc W n 9 [x0] y0 := by simpa [cell_string] using hf 0 _ rfl
  have h1 : Trods enc W n 3 [x1] y1 := by simpa [cell_int] using hf 1 _ rfl
  have h2 : Trods enc W n 3 [x2] y2 := by simpa [cell_int] using hf 2 _ rfl
  obtain ⟨s, rfl, s2⟩ := string_at h0
  obtain ⟨n1, rfl⟩ := int_at h1
  obtain ⟨n2, rfl⟩ := int_at h2
  exact ⟨⟨s, n1, n2⟩, rfl, fun hL => s2 (light_part Tryz.underlying118 (xs := [y0, y1, y2]) hL (i := 0) rfl rfl)⟩
theorem cell_rows : Tryz.prog.cellsOf 22 = 1 ∧ Tryz.prog.cellsOf 23 = 1 ∧ Tryz.prog.cellsOf 24 = 1 := ⟨by kernel_rfl, by kernel_rfl, by kernel_rfl⟩
theorem ints_atR {fuel : Nat} {x : Value} {y : DataW H × List MemPlace} (h : Trods enc W fuel 27 [x] y) : ∃ l, Has W x (ivs l) ∧ (∀ n ∈ l, Fits n) ∧ (Light Tryz.prog 27 y.1 → l.length ≤ 17600000000000) := by
 obtain ⟨l, h1, h2⟩ := open_in_ints_cells Tryz.underlying27 Tryz.underlying3 cell_int h
 refine ⟨l, h1.has, h1.fits, fun hL => ?_⟩
 have := hL.len h2 Tryz.underlying27
 rw [byte_int] at this
 have h3 := reach_val
 omega
set_option maxRecDepth 100000 in
theorem el_actorF {fuel : Nat} {cs : List Value} {y : DataW H × List MemPlace} (hl : cs.length = 3) (h : Trods enc W fuel 96 cs y) : ∃ a : GActor, ActorR W a cs ∧ (Light Tryz.prog 96 y.1 → (a.name.size ≤ 4611686018427387904 ∧ a.params.length ≤ 17600000000000) ∧ ∀ n ∈ a.params, Fits n) := by
 obtain ⟨xs, n, _, rfl, _, hlen, hf⟩ := DataW.trod_struct Tryz.underlying96 h
 match cs, hl, xs, hlen with
 | [x0, x1, x2], _, [y0, y1, y2], _ =>
  have h0 : Trods enc W n 9 [x0] y0 := by simpa [cell_string] using hf 0 _ rfl
  have h1 : Trods enc W n 94 [x1] y1 := by simpa [cell_tag] using hf 1 _ rfl
  have h2 : Trods enc W n 27 [x2] y2 := by simpa [cell_ints] using hf 2 _ rfl
  obtain ⟨s, rfl, s2⟩ := string_at h0
  obtain ⟨tg, t1, _⟩ := DataW.trod_int Tryz.underlying94 h1
  obtain rfl : x1 = .int .u8 tg := by simpa using t1
  obtain ⟨l, l1, l3, l2⟩ := ints_atR h2
  exact ⟨⟨s, tg, l⟩, ⟨x2, rfl, l1⟩, fun hL => ⟨⟨s2 (light_part Tryz.underlying96 (xs := [y0, y1, y2]) hL (i := 0) rfl rfl), l2 (light_part Tryz.underlying96 (xs := [y0, y1, y2]) hL (i := 2) rfl rfl)⟩, l3⟩⟩
set_option maxRecDepth 100000 in
theorem el_edgeF {fuel : Nat} {cs : List Value} {y : DataW H × List MemPlace} (hl : cs.length = 5) (h : Trods enc W fuel 107 cs y) : ∃ a : GEdge, EdgeR W a cs ∧ (Light Tryz.prog 107 y.1 → a.start.length ≤ 17600000000000 ∧ ∀ n ∈ a.start, Fits n) := by
 obtain ⟨xs, n, _, rfl, _, hlen, hf⟩ := DataW.trod_struct Tryz.underlying107 h
 match cs, hl, xs, hlen with
 | [x0, x1, x2, x3, x4], _, [y0, y1, y2, y3, y4], _ =>
  have h0 : Trods enc W n 3 [x0] y0 := by simpa [cell_int] using hf 0 _ rfl
  have h1 : Trods enc W n 3 [x1] y1 := by simpa [cell_int] using hf 1 _ rfl
  have h2 : Trods enc W n 3 [x2] y2 := by simpa [cell_int] using hf 2 _ rfl
  have h3 : Trods enc W n 3 [x3] y3 := by simpa [cell_int] using hf 3 _ rfl
  have h4 : Trods enc W n 27 [x4] y4 := by simpa [cell_ints] using hf 4 _ rfl
  obtain ⟨n0, rfl⟩ := int_at h0
  obtain ⟨n1, rfl⟩ := int_at h1
  obtain ⟨n2, rfl⟩ := int_at h2
  obtain ⟨n3, rfl⟩ := int_at h3
  obtain ⟨l, l1, l3, l2⟩ := ints_atR h4
  exact ⟨⟨n0, n1, n2, n3, l⟩, ⟨x4, rfl, l1⟩, fun hL => ⟨l2 (light_part Tryz.underlying107 (xs := [y0, y1, y2, y3, y4]) hL (i := 4) rfl rfl), l3⟩⟩
set_option maxRecDepth 100000 in
theorem graph_at {fuel : Nat} {x0 x1 x2 x3 x4 : Value} {y : DataW H × List MemPlace} (h : Trods enc W fuel 26 [x0, x1, x2, x3, x4] y) : ∃ g, HasGraph W (.agg #[x0, x1, x2, x3, x4]) g ∧ (Light Tryz.prog 26 y.1 → GSized g ∧ (∀ a ∈ g.actors, ∀ n ∈ a.params, Fits n) ∧ (∀ e ∈ g.edges, ∀ n ∈ e.start, Fits n) ∧ g.ins.length ≤ 5000000000000) := by
 obtain ⟨xs, n, _, hx, _, hlen, hf⟩ := DataW.trod_struct Tryz.underlying26 h
 match xs, hlen with
 | [y0, y1, y2, y3, y4], _ =>
  have h0 : Trods enc W n 9 [x0] y0 := by simpa [cell_string, Value.cells] using hf 0 _ rfl
  have h1 : Trods enc W n 22 [x1] y1 := by simpa [cell_rows.1, Value.cells] using hf 1 _ rfl
  have h2 : Trods enc W n 23 [x2] y2 := by simpa [cell_rows.2.1, Value.cells] using hf 2 _ rfl
  have h3 : Trods enc W n 24 [x3] y3 := by simpa [cell_rows.2.2, Value.cells] using hf 3 _ rfl
  have h4 : Trods enc W n 24 [x4] y4 := by simpa [cell_rows.2.2, Value.cells] using hf 4 _ rfl
  have hd : y.1 = .agg ([y0, y1, y2, y3, y4].map (·.1)) := congrArg Prod.fst hx
  obtain ⟨s, rfl, s2⟩ := string_at h0
  obtain ⟨la, a1, a2⟩ := open_recs (sz := 3) Tryz.underlying22 (by kernel_rfl) (by decide) (fun fuel cs y => el_actorF) h1
  obtain ⟨le, e1, e2⟩ := open_recs (sz := 5) Tryz.underlying23 (by kernel_rfl) (by decide) (fun fuel cs y => el_edgeF) h2
  obtain ⟨li, i1, i2⟩ := open_recs (sz := 3) Tryz.underlying24 (by kernel_rfl) (by decide) (fun fuel cs y => el_port) h3
  obtain ⟨lo, o1, o2⟩ := open_recs (sz := 3) Tryz.underlying24 (by kernel_rfl) (by decide) (fun fuel cs y => el_port) h4
  refine ⟨⟨s, la, le, li, lo⟩, ⟨_, _, _, _, rfl, a1, e1, i1, o1⟩, fun hL => ?_⟩
  rw [hd] at hL
  have s3 := s2 (light_part Tryz.underlying26 hL (i := 0) rfl rfl)
  have a3 := a2 (light_part Tryz.underlying26 hL (i := 1) rfl rfl)
  have e3 := e2 (light_part Tryz.underlying26 hL (i := 2) rfl rfl)
  have i3 := i2 (light_part Tryz.underlying26 hL (i := 3) rfl rfl)
  have o3 := o2 (light_part Tryz.underlying26 hL (i := 4) rfl rfl)
  exact ⟨⟨s3, fun a ha => (a3.2 a ha).1, i3.2, o3.2⟩, fun a ha => (a3.2 a ha).2, fun e he => (e3.2 e he).2, by
   have := i3.1
   rw [show Tryz.prog.bytesOf 118 = 32 by kernel_rfl, reach_val] at this
   show li.length ≤ _
   omega⟩
set_option maxRecDepth 100000 in
theorem open_run_by {v : Value} {d : DataW H} {p : List MemPlace} (hv : ∃ cs, v = .agg cs ∧ cs.size = Tryz.prog.cellsOf 30) (h : DataW.Trod enc Tryz.prog W 0 (fun _ => true) true 30 v d p) : ∃ g caps fed, HasRun W v g caps fed ∧ (Light Tryz.prog 30 d → RunOk g caps fed ∧ g.ins.length ≤ 5000000000000) ∧ ∀ B, (∀ x ∈ d.weights Tryz.prog 30, x ≤ B) → ∀ l ∈ fed, l.length * 8 ≤ B := by
 obtain ⟨cs, rfl, hsz⟩ := hv
 obtain ⟨fuel, hf0⟩ := h
 rw [show Tryz.prog.cellsOf 30 = 7 by kernel_rfl] at hsz
 obtain ⟨xs, n, _, hx, _, hlen, hf⟩ := DataW.trod_struct Tryz.underlying30 hf0
 obtain ⟨l⟩ := cs
 match l, hsz, xs, hlen with
 | [x0, x1, x2, x3, x4, x5, x6], _, [y0, y1, y2], _ =>
  have h0 : Trods enc W n 26 [x0, x1, x2, x3, x4] y0 := by simpa [show Tryz.prog.cellsOf 26 = 5 by kernel_rfl, Value.cells] using hf 0 _ rfl
  have h1 : Trods enc W n 27 [x5] y1 := by simpa [cell_ints, Value.cells] using hf 1 _ rfl
  have h2 : Trods enc W n 28 [x6] y2 := by simpa [show Tryz.prog.cellsOf 28 = 1 by kernel_rfl, Value.cells] using hf 2 _ rfl
  have hd : d = .agg ([y0, y1, y2].map (·.1)) := congrArg Prod.fst hx
  obtain ⟨g, g1, g2⟩ := graph_at h0
  obtain ⟨caps, c1, c2, c3⟩ := ints_atR h1
  have sl : ∃ a len cap, x6 = .slice a len cap := by
   rcases open_slice Tryz.underlying28 h2 with ⟨hc, _⟩ | ⟨a, len, cap, _, _, _, _, hc, _⟩
   ·
    exact ⟨_, _, _, List.head_eq_of_cons_eq hc⟩
   ·
    exact ⟨_, _, _, List.head_eq_of_cons_eq hc⟩
  obtain ⟨ax, lx, cx, rfl⟩ := sl
  obtain ⟨fed, q1, q2, q3⟩ := open_rows_by (d := y2.1) (p := y2.2) Tryz.underlying28 Tryz.underlying27 Tryz.underlying3 (by kernel_rfl) (by kernel_rfl) ⟨_, _, _, rfl⟩ ⟨n, by simpa [Value.cells] using h2⟩
  refine ⟨g, caps, fed, ⟨_, _, _, _, _, _, _, rfl, g1, c1, q1⟩, fun hL => ?_, fun B hL => ?_⟩
  ·
   rw [hd] at hL
   have g3 := g2 (light_part Tryz.underlying30 hL (i := 0) rfl rfl)
   have c4 := c3 (light_part Tryz.underlying30 hL (i := 1) rfl rfl)
   have q4 := q3 reachBytes (light_part Tryz.underlying30 hL (i := 2) rfl rfl)
   rw [byte_int, reach_val] at q4
   exact ⟨⟨g3.1, c4, g3.2.1, g3.2.2.1, c2, q2, fun l hl => by have := q4.2 l hl; omega⟩, g3.2.2.2⟩
  ·
   rw [hd] at hL
   have q4 := q3 B (part_by Tryz.underlying30 hL (i := 2) rfl rfl)
   rw [byte_int] at q4
   exact q4.2
theorem open_run {v : Value} {d : DataW H} {p : List MemPlace} (hv : ∃ cs, v = .agg cs ∧ cs.size = Tryz.prog.cellsOf 30) (h : DataW.Trod enc Tryz.prog W 0 (fun _ => true) true 30 v d p) : ∃ g caps fed, HasRun W v g caps fed ∧ (Light Tryz.prog 30 d → RunOk g caps fed) := by
 obtain ⟨g, caps, fed, h1, h2, _⟩ := open_run_by hv h
 exact ⟨g, caps, fed, h1, fun h => (h2 h).1⟩
theorem run_light {d : DataW H} (hb : Rows.uptoBulk d ≤ 1048576) : Light Tryz.prog 30 d :=
 light_of_bulk (S := [30, 26, 9, 22, 23, 24, 96, 107, 118, 94, 3, 27, 28]) (by kernel_rfl) (by simp) hb
end
end Go.Proofs.YtaholpfikcdhbaaGreat

namespace Go.Proofs.YtaholpfikcdhbaaGreat.dynRoom
open Go.ChangeShapes Go.WideShapes Go.ChangeAt Go.RowKit
open Go.ChangeMaps (open_string shut_string)

theorem own : ownKnob Tryz.prog.godebug = none := by kernel_rfl
theorem laidOut : laidOutB Tryz.prog = true := by kernel_rfl

set_option maxRecDepth 100000 in
theorem contract (H : Type) (enc : TypeId × Value → H) (W : World) (base : Nat) (args : Array Value) (ds gs : List (DataW H)) (before : List MemPlace)
  (hval : ∀ (j : Nat) t v, Tryz.f10.params[j]? = some t → args[j]? = some v → Value.okWide Tryz.prog W .any base t v)
  (hW : DataW.Whole enc Tryz.prog Tryz.f10.params.toList Rows.dynRoomSpec.vars false W args.toList ds gs before) (hsz0 : (DataW.weightsEach Tryz.prog (Tryz.f10.params.toList ++ Rows.dynRoomSpec.plain.varTypes Tryz.prog) (ds ++ gs)).all (· ≤ reachBytes) = true) :
  Calls Tryz.prog 10 args W fun e W' => ∃ v, e = .returned v ∧ Rows.dynRoomSpec.post enc Tryz.prog Tryz.f10 false true false false W args v W' := by
 have hW' := hW
 obtain ⟨p, q, hA0, hV, rfl, hfz, hnd⟩ := hW
 have hA : DataW.TrodAll enc Tryz.prog W 0 (fun _ => true) true Tryz.f10.params.toList args.toList ds p := hA0
 rw [Tryz.params10] at hA hval
 obtain ⟨v0, vs0, d0, ds0, p0, q0, hargs, rfl, rfl, h0, r0⟩ := trodAll_cons hA
 obtain ⟨v1, vs1, d1, ds1, p1, q1, rfl, rfl, rfl, h1, r1⟩ := trodAll_cons r0
 obtain ⟨rfl, rfl, rfl⟩ := trodAll_nil r1
 obtain rfl : args = #[v0, v1] := by cases args; simp_all
 obtain ⟨rfl, rfl⟩ := trodVars_none hV
 have hS : (DataW.weightsEach Tryz.prog [30, 27] [d0, d1]).all (· ≤ reachBytes) = true := hsz0
 have k0 := h0
 have lt0 : ∀ x ∈ p0, x.block < W.heap.size := by obtain ⟨m, hm⟩ := k0; exact DataW.trod_lt m _ _ _ hm
 have k1 := h1
 have lt1 : ∀ x ∈ p1, x.block < W.heap.size := by obtain ⟨m, hm⟩ := k1; exact DataW.trod_lt m _ _ _ hm
 have L0 : Light Tryz.prog 30 d0 := fun x hx => of_decide_eq_true (List.all_eq_true.1 hS _ (DataW.weights_mem_each (j := 0) rfl rfl x hx))
 obtain ⟨g0, cp0, fd0, i0, z0⟩ := open_run (okWide_struct Tryz.underlying30 (hval 0 30 v0 rfl rfl)) h0
 have z0 := z0 L0
 obtain ⟨zs1, i1, l1⟩ := open_in_ints Tryz.underlying27 Tryz.underlying3 (by kernel_rfl) (okWide_slice Tryz.underlying27 (hval 1 27 v1 rfl rfl)) h1
 have z1 := l1.reach hS (j := 1) rfl rfl Tryz.underlying27
 rw [show Tryz.prog.bytesOf 3 = 8 by kernel_rfl] at z1
 clear hA0
 refine (dynroom_all W v0 v1 g0 cp0 fd0 zs1 i0 z0 i1.has i1.fits (by omega)).mono fun e W' ⟨he, bel⟩ => ?_
 subst he
 exact ⟨_, rfl, _, _, _, [], _, [], hW', trodAll_mk1 (shut_bool Tryz.underlying4 _), (trodAll_cons_mk (Below.trod laidOut (by kernel_rfl) (of_decide_eq_true (by kernel_rfl)) k0 bel lt0) (trodAll_cons_mk (Below.trod laidOut (by kernel_rfl) (of_decide_eq_true (by kernel_rfl)) k1 bel lt1) trodAll_mk0)), rfl, bel.frame _, fun h => by cases h⟩

set_option maxRecDepth 100000 in
theorem lifted (os : Os) (started : os.Started) (H : Type) (enc : TypeId × Value → H) :
  ReturnsInHanded {} Tryz.checked os 10 .any (Rows.dynRoomSpec.pre6 enc Tryz.prog Tryz.f10 Rows.dynRoomRow.domain false) (Rows.dynRoomSpec.post enc Tryz.prog Tryz.f10 false true false false) := by
 refine returnsInHanded_of_change_sized (C := Tryz.checked) own started (by kernel_rfl) Tryz.func10
  (ChangeSpec.witness6 (enc := enc) (C := Tryz.checked) false ⟨#[], #[.agg #[.string ByteArray.empty, .slice none 0 0, .slice none 0 0, .slice none 0 0, .slice none 0 0, .slice none 0 0, .slice none 0 0], .slice none 0 0], []⟩ 8 (by kernel_rfl) (by kernel_rfl) (by kernel_rfl) (by kernel_rfl)) ?_
 intro W base args ds gs before hval hW _ hsz0 _
 exact contract H enc W base args ds gs before hval hW hsz0

theorem proved : Rows.DynRoomSaid :=
 OpenClaim.holds_of_wide 10 Tryz.f10 rfl rfl rfl rfl rfl rfl rfl ⟨rfl, rfl, rfl, rfl, rfl⟩ rfl rfl rfl rfl rfl (by kernel_rfl) Tryz.func10 (by kernel_rfl)
  (of_decide_eq_true (by kernel_rfl)) (by unfold Func.isWrapper; first | (rw [if_pos (by decide +kernel)]; kernel_rfl) | (rw [if_neg (by decide +kernel)]; exact ⟨rfl, rfl⟩))
  (fun os started H enc _ => lifted os started H enc)
end Go.Proofs.YtaholpfikcdhbaaGreat.dynRoom
