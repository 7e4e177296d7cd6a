/- loops.names: fold, walked. -/
import Derived.Test.YtbmbfifempkhgaaEmitSmallZ9
import Derived.Deep.Cut
import Derived.Deep.CutRange
import Derived.Deep.CutBlock
import Derived.Deep.LoopGhost
import Derived.Test.YtbmbfifempkhgaaEmitSmallZ5
import Derived.Test.YtbmbfifempkhgaaEmitSmallZ7
import Derived.Test.YtbmbfifempkhgaaEmitSmallZ8
import Derived.Test.YtbmbfifempkhgaaEmitSmallZ1
import Derived.Deep.Slices
import Derived.SizedLaws
import Derived.WalkKit
import Derived.ProofKit
import Derived.OpenShut
import Derived.ChangeOld
import Derived.Below
namespace Go.Proofs.Ytbmbfifempkhgaa
open Go.RowKit

def FoldC (x : Nat) : Prop := x = 4 ∨ x = 6 ∨ x = 12 ∨ x = 13 ∨ x = 14
/-- what fold answers -/
structure Folded (D NX : Nat) (o o' : Col) (FS LS : List (List Int)) (dF : List LItem) (dB : dBody) (X : List LItem) (R : List Nat) (lv nv : Value) (w w' : World) : Prop where
  is : ∃ FS' LS' dF' dB' X' N' R', Turn o o' (fun x => x = 12 ∨ x = 13) w w' ∧ NamesAt w' o' NX FS' LS' ∧ Dec FS' LS' dF' dB' ∧ dF <+: dF' ∧ dB <+: dB' ∧ Held (D + 2) w' o' lv (ofItems X') ∧ Ints w' o' 5 nv (N'.map Int.ofNat) ∧ NumRow dF' N' X' ∧ Wt X' R' ∧ R'.sum = R.sum ∧ X'.flatMap oneX = X.flatMap oneX ∧ X'.length ≤ X.length ∧ FS'.length ≤ FS.length + X.length ∧ LS'.length ≤ LS.length + X.length
def FoldRet (D NX : Nat) (o : Col) (FS LS : List (List Int)) (dF : List LItem) (dB : dBody) (X : List LItem) (R : List Nat) (w : World) (e : Ending) (w' : World) : Prop :=
  ∃ lv nv o', e = .returned (.agg #[lv, nv]) ∧ Folded D NX o o' FS LS dF dB X R lv nv w w'
/-- what the loop holds at place i -/
structure FoldAt (D NX B : Nat) (o q : Col) (FS LS : List (List Int)) (dF : List LItem) (dB : dBody) (X : List LItem) (R : List Nat) (lv nv lv' nv' : Value) (i : Nat) (w wr : World) (FS' LS' : List (List Int)) (dF' : List LItem) (dB' : dBody) (ps : List (LItem × Value)) (N' R' : List Nat) : Prop where
  turn : Turn (norm o) q FoldC w wr
  names : NamesAt wr q NX FS' LS'
  dec : Dec FS' LS' dF' dB'
  preF : dF <+: dF'
  preB : dB <+: dB'
  box : Blk wr q 9 B 129 #[lv, nv]
  res : Blk wr q 14 (B + 1) 129 #[.slice none 0 0, .slice none 0 0]
  out : Blk wr q 14 (B + 2) 129 #[lv', nv']
  loops : TailN (D + 1) wr q lv' ps
  nums : Own wr q 6 3 1 nv' N'.length (ivs (N'.map Int.ofNat))
  pure : FoldPure FS LS X R i FS' LS' dF' (ps.map Prod.fst) N' R'
def FoldIn (D NX B : Nat) (o : Col) (FS LS : List (List Int)) (dF : List LItem) (dB : dBody) (X : List LItem) (R : List Nat) (lv nv : Value) (i : Nat) (w wr : World) : Prop :=
  ∃ q lv' nv' FS' LS' dF' dB' ps N' R', FoldAt D NX B o q FS LS dF dB X R lv nv lv' nv' i w wr FS' LS' dF' dB' ps N' R'
theorem ps_len {dF : List LItem} {N : List Nat} {ps : List (LItem × Value)} (h : NumRow dF N (ps.map Prod.fst)) : N.length = ps.length := by rw [h.1, List.length_map]

theorem FoldAt.quiet {D NX B : Nat} {o q : Col} {FS LS : List (List Int)} {dF : List LItem} {dB : dBody} {X : List LItem} {R : List Nat} {lv nv lv' nv' : Value} {i : Nat} {w wr : World} {FS' LS' : List (List Int)} {dF' : List LItem} {dB' : dBody} {ps : List (LItem × Value)} {N' R' : List Nat}
    (h : FoldAt D NX B o q FS LS dF dB X R lv nv lv' nv' i w wr FS' LS' dF' dB' ps N' R') (m : Nat) : FoldAt D NX B o q FS LS dF dB X R lv nv lv' nv' i w (wr.drewN m) FS' LS' dF' dB' ps N' R' := by
  have T : Turn q q (fun _ => False) wr (wr.drewN m) := (Turn.refl _ _ _).drewN m
  exact ⟨h.turn.trans T (fun _ h => h.elim), h.names.turn T (fun h => h) (fun h => h) (fun h => h), h.dec, h.preF, h.preB, h.box.turn T (fun h => h), h.res.turn T (fun h => h), h.out.turn T (fun h => h), h.loops.turn T (fun h => h) (fun h => h), h.nums.turn T (fun h => h), h.pure⟩

/-- a loop is laid behind the others -/
theorem FoldAt.laid {D NX B : Nat} {o q : Col} {FS LS : List (List Int)} {dF : List LItem} {dB : dBody} {X : List LItem} {R : List Nat} {lv nv lv' nv' : Value} {i : Nat} {w wr : World} {FS' LS' : List (List Int)} {dF' : List LItem} {dB' : dBody} {ps : List (LItem × Value)} {N' R' : List Nat}
    (h : FoldAt D NX B o q FS LS dF dB X R lv nv lv' nv' i w wr FS' LS' dF' dB' ps N' R') {tmp : Obj} {a : LItem} {y v7 : Value} {w7 : World} (hy : Held (D + 1) wr q y a.2.2) (k1 : w7.ownsRow 0 51 3 v7 (ps.length + 1) (tailV loopHd ps ++ (loopHd a ++ [y]))) (k2 : (wr.alloc tmp).grownBy w7 lv'.ownBlock) (k4 : v7.ownBlock = lv'.ownBlock ∨ v7.ownBlock = some (wr.alloc tmp).heap.size) :
    ∃ q7, Turn q q7 (fun x => x = 4) wr w7 ∧ TailN (D + 1) w7 q7 v7 (ps ++ [(a, y)]) := by
  have hm7 : Mods (fun b => lv'.ownBlock = some b) wr w7 := ((Mods.refl _ wr).alloc _).grown k2 (fun b hb _ => hb)
  exact ⟨_, h.loops.grow hy k1 hm7 (k4.imp id (fun k4 b hb => by rw [k4] at hb; have := Option.some.inj hb; simp at this; omega))⟩
theorem own_laid {w w7 : World} {q : Col} {v v7 : Value} {n : Nat} {xs : List Value} {x : Value} {tmp : Obj} (h : Own w q 6 3 1 v n xs) (k1 : w7.ownsRow 0 3 1 v7 (n + 1) (xs ++ [x])) (k2 : (w.alloc tmp).grownBy w7 v.ownBlock) (k4 : v7.ownBlock = v.ownBlock ∨ v7.ownBlock = some (w.alloc tmp).heap.size) :
    ∃ q7, Turn q q7 (fun x => x = 6) w w7 ∧ Own w7 q7 6 3 1 v7 (n + 1) (xs ++ [x]) := by
  have hm7 : Mods (fun b => v.ownBlock = some b) w w7 := ((Mods.refl _ w).alloc _).grown k2 (fun b hb _ => hb)
  refine ⟨ext q w.heap.size 6, Turn.of_mods q 6 hm7 (fun b _ hb => h.2 b hb), k1, fun b hb => ?_⟩
  rcases k4 with k4 | k4
  · rw [k4] at hb
    exact (ext_old (h.1.lt b hb).2).trans (h.2 b hb)
  · rw [k4] at hb
    have := Option.some.inj hb
    simp at this
    exact ext_new (by omega)

/-- the answer, out of what the loop holds -/
theorem FoldAt.done {D NX B : Nat} {o q : Col} {FS LS : List (List Int)} {dF : List LItem} {dB : dBody} {X : List LItem} {R : List Nat} {lv nv lv' nv' : Value} {w wr : World} {FS' LS' : List (List Int)} {dF' : List LItem} {dB' : dBody} {ps : List (LItem × Value)} {N' R' : List Nat}
    (h : FoldAt D NX B o q FS LS dF dB X R lv nv lv' nv' X.length w wr FS' LS' dF' dB' ps N' R') (hR : R.length = X.length) (hB : w.heap.size ≤ B) :
    Folded D NX o (back o q w.heap.size) FS LS dF dB X R lv' nv' w ((wr.setCell ⟨B + 1, 0, none⟩ lv').setCell ⟨B + 1, 1, none⟩ nv') ∧ ((wr.setCell ⟨B + 1, 0, none⟩ lv').setCell ⟨B + 1, 1, none⟩ nv').heap[B + 1]? = some (.cells #[lv', nv'] 129 (0, 0)) := by
  obtain ⟨b8, T8⟩ := h.res.set 0 lv'
  obtain ⟨b9, T9⟩ := b8.set 1 nv'
  have T := (h.turn.trans T8 (fun c h => by unfold FoldC; rw [h]; simp)).trans T9 (fun c h => by unfold FoldC; rw [h]; simp)
  have hsm : ∀ k, k < w.heap.size → q k = norm o k := T.same
  refine ⟨⟨FS', LS', dF', dB', ps.map Prod.fst, N', R', back_turn T (by unfold FoldC; omega) (by unfold FoldC; omega) (by unfold FoldC; omega), ?_, h.dec, h.preF, h.preB, ?_, ?_, h.pure.row, h.pure.wt, ?_, ?_, h.pure.len, h.pure.lenF, h.pure.lenL⟩, b9.1⟩
  · exact ((h.names.turn T8 (by decide) (by decide) (by decide)).turn T9 (by decide) (by decide) (by decide)).recol (fun k _ h => back_keep hsm (.inr h))
  · exact ((h.loops.turn T8 (by decide) (by decide)).turn T9 (by decide) (by decide)).stays (fun k _ e => back_own hsm (.inl e)) (fun k _ e => (back_keep hsm (.inl e)).trans e)
  · exact Own.vals (((h.nums.turn T8 (by decide)).turn T9 (by decide)).recol (fun k hk => back_own hsm (.inr (h.nums.2 k hk))))
  · rw [h.pure.sum, List.take_of_length_le (by omega)]
  · rw [h.pure.ex, List.take_of_length_le (Nat.le_refl _)]

set_option maxRecDepth 100000 in
set_option maxHeartbeats 4000000 in
theorem fold_any (D : Nat) (w : World) (o : Col) (NX : Nat) (FS LS : List (List Int)) (dF : List LItem) (dB : dBody) (lv nv : Value) (X : List LItem) (N R : List Nat) (wd : Nat) (hN : NamesAt w o NX FS LS) (hD : Dec FS LS dF dB) (hH : Held (D + 1) w o lv (ofItems X)) (hI : Ints w o 5 nv (N.map Int.ofNat)) (hNR : NumRow dF N X) (hW : Wt X R) (hw : 1 ≤ wd ∧ wd ≤ 16) (hl : FS.length ≤ 1000000000000 ∧ LS.length ≤ 1000000000000 ∧ X.length ≤ 2048) :
    Calls Try.prog 68 #[.pointer (some ⟨NX, 0, none⟩), .agg #[lv, nv], .int .i64 (wd : Int)] w (FoldRet D NX o FS LS dF dB X R w) := by
  obtain ⟨ao, cap, rfl⟩ := nestD_slice (D + 1) (hH o w (Turn.refl _ _ _))
  obtain ⟨an, capn, rfl⟩ := hI.slice
  rw [ofItems_items] at hH ⊢
  rw [List.length_map, hNR.1] at hI ⊢
  have HN0 := hN.recol (o' := norm o) (fun k _ h => norm_at rfl (.inr h) ▸ rfl)
  have HH0 : Held (D + 1) w (norm o) (.slice ao X.length cap) (ofItems X) := hH.recol (fun k _ h => norm_at h (.inl rfl))
  have HI0 : Ints w (norm o) 5 (.slice an X.length capn) (N.map Int.ofNat) := vals_recol hI (fun k _ h => norm_at h (.inl rfl))
  have hb1 := below_alloc w (.cells #[.slice ao X.length cap, .slice an X.length capn] 129)
  have T1 := Turn.of_below (norm o) 9 hb1
  have hB1 : Blk (w.alloc (.cells #[.slice ao X.length cap, .slice an X.length capn] 129)) (ext (norm o) w.heap.size 9) 9 w.heap.size 129 #[.slice ao X.length cap, .slice an X.length capn] := ⟨heap_alloc_new w _, ext_new (Nat.le_refl _)⟩
  obtain ⟨w1, hw1⟩ : ∃ x, w.alloc (.cells #[.slice ao X.length cap, .slice an X.length capn] 129) = x := ⟨_, rfl⟩
  have hs1 : w1.heap.size = w.heap.size + 1 := by rw [← hw1]; simp
  rw [hw1] at hB1 T1
  have hb2 := below_alloc w1 (.cells #[.slice none 0 0, .slice none 0 0] 129)
  have T2 := Turn.of_below (ext (norm o) w.heap.size 9) 14 hb2
  have hB2 : Blk (w1.alloc (.cells #[.slice none 0 0, .slice none 0 0] 129)) (ext (ext (norm o) w.heap.size 9) w1.heap.size 14) 14 w1.heap.size 129 #[.slice none 0 0, .slice none 0 0] := ⟨heap_alloc_new w1 _, ext_new (Nat.le_refl _)⟩
  obtain ⟨w2, hw2⟩ : ∃ x, w1.alloc (.cells #[.slice none 0 0, .slice none 0 0] 129) = x := ⟨_, rfl⟩
  have hs2 : w2.heap.size = w.heap.size + 2 := by rw [← hw2]; simp; omega
  rw [hw2] at hB2 T2
  have hb3 := below_alloc w2 (.cells #[.slice none 0 0, .slice none 0 0] 129)
  have T3 := Turn.of_below (ext (ext (norm o) w.heap.size 9) w1.heap.size 14) 14 hb3
  have hB3 : Blk (w2.alloc (.cells #[.slice none 0 0, .slice none 0 0] 129)) (ext (ext (ext (norm o) w.heap.size 9) w1.heap.size 14) w2.heap.size 14) 14 w2.heap.size 129 #[.slice none 0 0, .slice none 0 0] := ⟨heap_alloc_new w2 _, ext_new (Nat.le_refl _)⟩
  obtain ⟨w3, hw3⟩ : ∃ x, w2.alloc (.cells #[.slice none 0 0, .slice none 0 0] 129) = x := ⟨_, rfl⟩
  rw [hw3] at hB3 T3
  have HF0 : Hid (FoldIn D NX w.heap.size o FS LS dF dB X R (.slice ao X.length cap) (.slice an X.length capn) 0 w w3) := Lib.hid (by
    have hRES := hB2.turn T3 (fun h => h)
    have hBOX := (hB1.turn T2 (fun h => h)).turn T3 (fun h => h)
    have TT := ((T1.trans T2 (fun _ h => h)).trans T3 (fun _ h => h)).mono (D := FoldC) (fun _ h => h.elim)
    have NN := ((HN0.turn T1 (fun h => h) (fun h => h) (fun h => h)).turn T2 (fun h => h) (fun h => h) (fun h => h)).turn T3 (fun h => h) (fun h => h) (fun h => h)
    clear T1 T2 T3
    generalize ext (ext (ext (norm o) w.heap.size 9) w1.heap.size 14) w2.heap.size 14 = q at *
    rw [hs1] at hRES
    rw [hs2] at hB3
    exact ⟨q, _, _, FS, LS, dF, dB, [], [], [], TT, NN, hD, List.prefix_rfl, List.prefix_rfl, hBOX, hRES, hB3, ⟨Own.nil _ _ _ _ _, fun _ h => by cases h⟩, Own.nil _ _ _ _ _, NumRow.nil _, .nil, rfl, rfl, Nat.le_refl _, by omega, by omega⟩)
  have HS1 := Lib.hid hs1
  have HS2 := Lib.hid hs2
  have HH := Lib.hid HH0
  have HI := Lib.hid HI0
  have HNR := Lib.hid hNR
  have HW := Lib.hid hW
  have HL := Lib.hid hl
  have HWL := Lib.hid hW.len
  have HW3 := Lib.hid hw3
  obtain ⟨hw1', hw16⟩ := hw
  have hXl : X.length ≤ 2048 := hl.2.2
  clear hN hD hH hI hNR hW hl HN0 HH0 HI0 hb1 hb2 hb3 T1 T2 T3 hB1 hB2 hB3 hw3 hs1 hs2
  go_enter Try.func68, Try.ntmps68
  go_wp2_with fail
  try rw [HW3.out]
  rw [HS1.out, HS2.out]
  clear HS1 HS2 HW3
  go_loopg [8] X.length (fun g x wr => ∃ i : Nat, i ≤ X.length ∧ g = X.length - i ∧ x = .int .i64 i ∧ FoldIn D NX w.heap.size o FS LS dF dB X R (.slice ao X.length cap) (.slice an X.length capn) i w wr)
  case atStart => exact ⟨0, Nat.zero_le _, by omega, rfl, HF0.out⟩
  case round =>
    clear HF0
    obtain ⟨i, hi, rfl, rfl, hF⟩ := hrel
    have HF := Lib.hid hF
    clear hF
    by_cases hlt : i < X.length
    · have hlti : (i : Int) < X.length := by omega
      obtain ⟨q, lv', nv', FS', LS', dF', dB', ps, N', R', hF⟩ := HF.out
      have HFA := Lib.hid hF
      have b0 := hF.box.cell 0 _ rfl
      have b1 := hF.box.cell 1 _ rfl
      have HIr := Lib.hid (HI.out.turn hF.turn (by unfold FoldC; decide))
      have HHr := Lib.hid (HH.out.turn hF.turn (by unfold FoldC; decide))
      clear hF HF
      have hwI : (wd : Int) ≤ 16 := by omega
      have hw1I : (1 : Int) ≤ wd := by omega
      go_upto_block 2 with (fail)
      obtain ⟨wo, rfl⟩ : ∃ wo : World, wo = wr := ⟨_, rfl⟩
      clear hw1 hw2
      go_cut [9] from 18 to 39 (fun x ws => ∃ m : Nat, 1 ≤ m ∧ (m = 1 ∨ i + m * wd ≤ X.length) ∧ x = .int .i64 m ∧ (∀ j, 1 ≤ j → j < m → sameN N i (i + j * wd) wd) ∧ ∃ d, ws = wo.drewN d)
      case first =>
        go_wp2_with fail
        go_loopw [9] (fun x ws => ∃ m : Nat, 1 ≤ m ∧ (m = 1 ∨ i + m * wd ≤ X.length) ∧ x = .int .i64 m ∧ (∀ j, 1 ≤ j → j < m → sameN N i (i + j * wd) wd) ∧ ∃ d, ws = wo.drewN d) (fun x _ => 4096 - (intOf x).toNat)
        case atStart => exact ⟨1, Nat.le_refl _, .inl rfl, rfl, fun j h1 h2 => by omega, 0, rfl⟩
        case round =>
          obtain ⟨m, hm1, hm2, rfl, hsame, d, rfl⟩ := hrel
          have HSAME := Lib.hid hsame
          have HM2 := Lib.hid hm2
          have hmw : m ≤ m * wd := Nat.le_mul_of_pos_right m (by omega)
          have hml : m ≤ 2048 := by omega
          have hmI : (m : Int) ≤ 2048 := by omega
          have hm1I : (1 : Int) ≤ m := by omega
          have hmw2 : m * wd ≤ 2048 * 16 := Nat.mul_le_mul hml hw16
          have hmw3 : (m + 1) * wd = m * wd + wd := by rw [Nat.add_mul, Nat.one_mul]
          have e1 : ((m : Int) + 1) * wd = ((m * wd + wd : Nat) : Int) := by rw [← hmw3]; simp
          have e2 : (m : Int) * wd = ((m * wd : Nat) : Int) := by simp
          obtain ⟨P, hP⟩ : ∃ P, m * wd = P := ⟨_, rfl⟩
          rw [hP] at hm2 hmw hmw2 e1 e2 hmw3
          have HP := Lib.hid hP
          have HMW3 := Lib.hid hmw3
          have p1 : 0 ≤ ((m : Int) + 1) * wd := by omega
          have p2 : ((m : Int) + 1) * wd ≤ 40000 := by omega
          have p3 : 0 ≤ (m : Int) * wd := by omega
          have p4 : (m : Int) * wd ≤ 40000 := by omega
          clear hsame hm2 hP hmw3
          by_cases hgo : i + (P + wd) ≤ X.length
          · have g1 : (i : Int) + ((m : Int) + 1) * wd ≤ X.length := by omega
            have E2 : Hid ((i : Int) + (m : Int) * wd = ((i + P : Nat) : Int)) := Lib.hid (by omega)
            have HGO := Lib.hid hgo
            obtain ⟨S, hS⟩ : ∃ S, decide (sameN N i (i + P) wd) = S := ⟨_, rfl⟩
            have HS := Lib.hid hS
            clear e1 e2 hgo hS
            go_wp2_with fail
            refine (lsame_int _ q 5 w.heap.size (.slice an X.length capn) N i (i + P) wd _ E2.out (by simpa using b1) (HIr.out.turn ((Turn.refl q (fun _ => False) wo).drewN d) (fun h => h)) (by have := HGO.out; have := HNR.out.1; omega) (by have := HGO.out; have := HNR.out.1; omega) (by have := HNR.out.1; omega)).mono ?_
            rintro e wx ⟨rfl, d2, rfl⟩
            rw [HS.out]
            cases S with
            | true =>
              have hs2 := of_decide_eq_true HS.out
              have HSAME2 : Hid (∀ j, 1 ≤ j → j < m + 1 → sameN N i (i + j * wd) wd) := Lib.hid (fun j h1 h2 => by
                by_cases hj : j = m
                · rw [hj, HP.out]; exact hs2
                · exact HSAME.out j h1 (by omega))
              clear hs2
              go_wp2
              go_roundw
              case rel => exact ⟨m + 1, by omega, .inr (by rw [HMW3.out]; exact HGO.out), by go_num, HSAME2.out, d + d2, rfl⟩
              case measure => simp [intOf]; omega
            | false =>
              go_wp2
              go_meet
              case rel => exact ⟨m, hm1, HM2.out, rfl, HSAME.out, d + d2, rfl⟩
          · have g1 : ¬ (i : Int) + ((m : Int) + 1) * wd ≤ X.length := by omega
            clear e1 e2 hgo
            go_wp2
            go_meet
            case rel => exact ⟨m, hm1, HM2.out, rfl, HSAME.out, d, rfl⟩
      case rest =>
        obtain ⟨m, hm1, hm2, rfl, hsame, d, rfl⟩ := hcut
        have hF := HFA.out.quiet d
        have TD : Turn q q (fun _ => False) wo (wo.drewN d) := (Turn.refl _ _ _).drewN d
        have hH2 := HHr.out.turn TD (fun h => h)
        have hI2 := HIr.out.turn TD (fun h => h)
        have hFq := hF.quiet 1
        have hHq := hH2.turn ((Turn.refl q (fun _ => False) (wo.drewN d)).drewN 1) (fun h => h)
        obtain ⟨wr, hwr⟩ : ∃ x, wo.drewN d = x := ⟨_, rfl⟩
        rw [hwr] at hF hH2 hI2 hFq hHq ⊢
        clear TD hwr HFA HHr HIr b0 b1
        obtain ⟨pa, pc, rfl⟩ := hF.loops.own.slice
        obtain ⟨na, nc, rfl⟩ := hF.nums.slice
        have HSAME := Lib.hid hsame
        have hpl : ps.length ≤ 2048 := by have := hF.pure.len; rw [List.length_map] at this; omega
        have hnl : N'.length ≤ 2048 := by have := ps_len hF.pure.row; omega
        have HF := Lib.hid hF
        have HH2 := Lib.hid hH2
        have HI2 := Lib.hid hI2
        have HFQ := Lib.hid hFq
        have HHQ := Lib.hid hHq
        have b0 := hF.box.cell 0 _ rfl
        have b1 := hF.box.cell 1 _ rfl
        have o0 := hF.out.cell 0 _ rfl
        clear hsame hF hH2 hI2 hFq hHq
        by_cases h1 : m = 1
        · subst h1
          clear hm1 hm2 HSAME
          obtain ⟨bb, off, cap', y, hao, hcap, c0, c1, c2, hy⟩ := HH2.out.at hlt
          cases hao
          have hyq := hy.turn ((Turn.refl q (fun _ => False) wr).drewN 1) (fun h => h)
          have HY := Lib.hid hyq.up
          have hcapi : (X.length : Int) ≤ cap := by omega
          obtain ⟨it, hit⟩ : ∃ x, X[i] = x := ⟨_, rfl⟩
          rw [hit] at c0 c1 HY
          have HIT := Lib.hid hit
          clear hit hy hyq
          obtain ⟨t, nd, bd⟩ := it
          dsimp only at c0 c1
          obtain ⟨j0, ji, jz0, jz1, jz2⟩ := info_parts info_Loop
          obtain ⟨i0, ii, iz0, iz1, iz2⟩ := info_parts info_intX
          go_wp2_with fail
          refine wp_region_lex (fun w' => w'.cell? ⟨w.heap.size + 2, 0, none⟩ = some (.slice pa ps.length pc) ∧ w'.cell? ⟨w.heap.size, 0, none⟩ = some (.slice (some ⟨bb, off, none⟩) X.length cap) ∧ w'.cell? ⟨bb, off + i * 3, none⟩ = some (.int .i64 t) ∧ w'.cell? ⟨bb, off + i * 3 + 1, none⟩ = some (.int .i64 nd) ∧ w'.cell? ⟨bb, off + i * 3 + 2, none⟩ = some y) [0, 1, 2, 3, 4, 5, 6] [7, 8, 9, 10] (by kernel_rfl) (by kernel_rfl) rfl (fun _ _ hx h => ⟨hx.cell h.1, hx.cell h.2.1, hx.cell h.2.2.1, hx.cell h.2.2.2.1, hx.cell h.2.2.2.2⟩) ⟨o0, b0, c0, c1, c2⟩ ?_
          intro Q' hQ'
          simp only [pickOps, List.flatMap_cons, List.flatMap_nil, List.drop_succ_cons, List.drop_zero, List.take_succ_cons, List.take_zero, List.cons_append, List.nil_append, List.append_nil]
          repeat (first
            | (refine wpReads_skip (by rfl) ?_; (try simp only [Act.put, List.setIfInBounds_toArray, List.set_cons_zero, List.set_cons_succ]))
            | (refine wpReads_cons ?_ (by rfl) (by rfl) ?_ ?_; rotate_left; (intro wz hz; (try dsimp only at hz); go_simp; try with_reducible rfl); (try simp only [Act.put, List.setIfInBounds_toArray, List.set_cons_zero, List.set_cons_succ]))
            | (refine wpReads_any ?_ (by rfl) ?_ ?_; rotate_left; (intro wz; go_simp; try with_reducible rfl); (try simp only [Act.put, List.setIfInBounds_toArray, List.set_cons_zero, List.set_cons_succ])))
          refine wpReads_nil ?_
          clear b0 b1 o0 c0 c1 c2
          obtain ⟨wx, hwx⟩ : ∃ x, wr.drew = x := ⟨_, rfl⟩
          rw [show wr.drewN 1 = wr.drew from rfl, hwx] at HFQ HY
          have hI3 := HI2.out.turn ((Turn.refl q (fun _ => False) wr).drew) (fun h => h)
          rw [hwx] at hI3
          have HI3 := Lib.hid hI3
          rw [hwx]
          clear hwx HF HH2 HHQ HI2 hI3
          obtain ⟨ya, yc, rfl⟩ := nestD_slice _ (HY.out q wx (Turn.refl _ _ _))
          have HYS := HY
          go_wp2_with (at_builtin; refine stop_here ?_)
          refine go_on ?_
          refine wpList_app rfl _ _ 30 rfl 0 51 j0 _ 3 40 Try.underlying30 ji jz0 jz1 jz2 rfl (.slice pa ps.length pc) ps.length _ rfl (HFQ.out.loops.own.1.alloc (.cells #[.int .i64 t, .int .i64 nd, .slice ya bd.items.length yc] 51)) (some ⟨wx.heap.size, 0, none⟩) 1 1 [.int .i64 t, .int .i64 nd, .slice ya bd.items.length yc] rfl rfl (fun h => by cases h) (news_alloc wx [.int .i64 t, .int .i64 nd, .slice ya bd.items.length yc] 51) (by simp [Value.oneCell']) (by unfold maxLen; omega) (grow_ok (by omega)) (Nat.zero_le _) ?_
          intro v7 w7 k1 k20 _ k4
          obtain ⟨sp7, cp7, rfl⟩ := owns_slice k1
          obtain ⟨q7, T7, L7⟩ := HFQ.out.laid (a := (t, nd, bd)) HY.out k1 k20 k4
          have hO7 := HFQ.out.out.turn T7 (by decide)
          have o0 := hO7.cell 0 _ rfl
          have f0 := hO7.frozen 0
          obtain ⟨b8, T8⟩ := hO7.set 0 (.slice sp7 (ps.length + 1) cp7)
          have HL8 := Lib.hid (L7.turn T8 (by decide) (by decide))
          have HO8 := Lib.hid b8
          have HT8 := Lib.hid ((HFQ.out.turn.trans T7 (fun c h => by unfold FoldC; rw [h]; simp)).trans T8 (fun c h => by unfold FoldC; rw [h]; simp))
          have HN8 := Lib.hid ((HFQ.out.names.turn T7 (by decide) (by decide) (by decide)).turn T8 (by decide) (by decide) (by decide))
          have HB8 := Lib.hid ((HFQ.out.box.turn T7 (by decide)).turn T8 (by decide))
          have HR8 : Hid (Blk (w7.setCell ⟨w.heap.size + 2, 0, none⟩ (.slice sp7 (ps.length + 1) cp7)) q7 14 (w.heap.size + 1) 129 #[.slice none 0 0, .slice none 0 0]) := Lib.hid ⟨block_setCell_ne (HFQ.out.res.turn T7 (by decide)).1 (by show w.heap.size + 1 ≠ w.heap.size + 2; omega) _, (HFQ.out.res.turn T7 (by decide)).2⟩
          have HU8 := Lib.hid ((HFQ.out.nums.turn T7 (by decide)).turn T8 (by decide))
          have HI8 := Lib.hid ((HI3.out.turn T7 (by decide)).turn T8 (by decide))
          have HPU := Lib.hid HFQ.out.pure
          have HD8 := Lib.hid HFQ.out.dec
          have HPF := Lib.hid HFQ.out.preF
          have HPB := Lib.hid HFQ.out.preB
          clear k1 k20 k4 T7 T8 L7 b8 hO7 HFQ HI3 HY HYS
          obtain ⟨w8, hw8⟩ : ∃ x, w7.setCell ⟨w.heap.size + 2, 0, none⟩ (.slice sp7 (ps.length + 1) cp7) = x := ⟨_, rfl⟩
          rw [hw8] at HL8 HO8 HT8 HN8 HB8 HR8 HU8 HI8
          go_wp2_with fail
          clear hw8 o0 f0
          have hiN : i < N.length := by rw [HNR.out.1]; exact hlt
          obtain ⟨bn, offn, han, -, hcapn, -, -, hcn⟩ := Ints.at (l := N.map Int.ofNat) HI8.out (by rw [List.length_map]; omega)
          cases han
          have n1 := hcn i (by rw [List.length_map]; omega)
          rw [List.getElem?_map, List.getElem?_eq_getElem hiN] at n1
          obtain ⟨kn, hkn⟩ : ∃ x, N[i] = x := ⟨_, rfl⟩
          rw [hkn] at n1
          simp only [Option.map_some, Option.getD_some] at n1
          have HKN := Lib.hid hkn
          have hcapni : (X.length : Int) ≤ capn := by omega
          have b1 := HB8.out.cell 1 _ rfl
          have o1 := HO8.out.cell 1 _ rfl
          clear hcn hkn
          refine wp_region_lex (fun w' => w'.cell? ⟨w.heap.size + 2, 1, none⟩ = some (.slice na N'.length nc) ∧ w'.cell? ⟨w.heap.size, 1, none⟩ = some (.slice (some ⟨bn, offn, none⟩) X.length capn) ∧ w'.cell? ⟨bn, offn + i, none⟩ = some (.int .i64 (Int.ofNat kn))) [0, 1, 2, 3, 4, 5, 6] [7, 8, 9, 10] (by kernel_rfl) (by kernel_rfl) rfl (fun _ _ hx h => ⟨hx.cell h.1, hx.cell h.2.1, hx.cell h.2.2⟩) ⟨o1, b1, n1⟩ ?_
          intro Q' hQ'
          simp only [pickOps, List.flatMap_cons, List.flatMap_nil, List.drop_succ_cons, List.drop_zero, List.take_succ_cons, List.take_zero, List.cons_append, List.nil_append, List.append_nil]
          repeat (first
            | (refine wpReads_skip (by rfl) ?_; (try simp only [Act.put, List.setIfInBounds_toArray, List.set_cons_zero, List.set_cons_succ]))
            | (refine wpReads_cons ?_ (by rfl) (by rfl) ?_ ?_; rotate_left; (intro wz hz; (try dsimp only at hz); go_simp; try with_reducible rfl); (try simp only [Act.put, List.setIfInBounds_toArray, List.set_cons_zero, List.set_cons_succ]))
            | (refine wpReads_any ?_ (by rfl) ?_ ?_; rotate_left; (intro wz; go_simp; try with_reducible rfl); (try simp only [Act.put, List.setIfInBounds_toArray, List.set_cons_zero, List.set_cons_succ])))
          refine wpReads_nil ?_
          clear b1 o1 n1
          obtain ⟨wy, hwy⟩ : ∃ x, w8.drew = x := ⟨_, rfl⟩
          have TY : Turn q7 q7 (fun _ => False) w8 wy := by rw [← hwy]; exact (Turn.refl _ _ _).drew
          rw [hwy]
          clear hwy
          have HL9 := Lib.hid (HL8.out.turn TY (fun h => h) (fun h => h))
          have HO9 := Lib.hid (HO8.out.turn TY (fun h => h))
          have HT9 := Lib.hid (HT8.out.trans TY (fun c h => h.elim))
          have HN9 := Lib.hid (HN8.out.turn TY (fun h => h) (fun h => h) (fun h => h))
          have HB9 := Lib.hid (HB8.out.turn TY (fun h => h))
          have HR9 := Lib.hid (HR8.out.turn TY (fun h => h))
          have HU9 := Lib.hid (HU8.out.turn TY (fun h => h))
          clear TY HL8 HO8 HT8 HN8 HB8 HR8 HU8 HI8
          go_wp2_with (at_builtin; refine stop_here ?_)
          refine go_on ?_
          refine wpList_app rfl _ _ 52 rfl 0 3 i0 _ 1 8 Try.underlying52 ii iz0 iz1 iz2 rfl (.slice na N'.length nc) N'.length _ rfl (HU9.out.1.alloc (.cells #[.int .i64 (kn : Int)] 3)) (some ⟨wy.heap.size, 0, none⟩) 1 1 [.int .i64 (kn : Int)] rfl rfl (fun h => by cases h) (news_alloc wy [.int .i64 (kn : Int)] 3) (by simp [Value.oneCell']) (by unfold maxLen; omega) (grow_ok (by omega)) (Nat.zero_le _) ?_
          intro v9 w9 k1 k20 _ k4
          obtain ⟨sp9, cp9, rfl⟩ := owns_slice k1
          obtain ⟨q9, T9, L9⟩ := own_laid HU9.out k1 k20 k4
          have hO9 := HO9.out.turn T9 (by decide)
          have o1 := hO9.cell 1 _ rfl
          have f1 := hO9.frozen 1
          obtain ⟨b10, T10⟩ := hO9.set 1 (.slice sp9 (N'.length + 1) cp9)
          have HPU2 := Lib.hid (HPU.out.one HNR.out HPF.out HW.out hlt hiN (by rw [← HWL.out]; exact hlt))
          rw [HIT.out, HKN.out] at HPU2
          have hr10 := (HR9.out.turn T9 (by decide))
          have HFIN : Hid (FoldIn D NX w.heap.size o FS LS dF dB X R (.slice (some ⟨bb, off, none⟩) X.length cap) (.slice (some ⟨bn, offn, none⟩) X.length capn) (i + 1) w (w9.setCell ⟨w.heap.size + 2, 1, none⟩ (.slice sp9 (N'.length + 1) cp9))) := Lib.hid ⟨q9, _, _, FS', LS', dF', dB', ps ++ [((t, nd, bd), .slice ya bd.items.length yc)], N' ++ [kn], _,
            (HT9.out.trans T9 (fun c h => by unfold FoldC; rw [h]; simp)).trans T10 (fun c h => by unfold FoldC; rw [h]; simp),
            (HN9.out.turn T9 (by decide) (by decide) (by decide)).turn T10 (by decide) (by decide) (by decide), HD8.out, HPF.out, HPB.out,
            (HB9.out.turn T9 (by decide)).turn T10 (by decide), ⟨block_setCell_ne hr10.1 (by show w.heap.size + 1 ≠ w.heap.size + 2; omega) _, hr10.2⟩, b10,
            (HL9.out.turn T9 (by decide) (by decide)).turn T10 (by decide) (by decide), by simpa using L9.turn T10 (by decide), by simpa using HPU2.out⟩
          clear k1 k20 k4 T9 T10 L9 b10 hO9 hr10 HPU HPU2 HL9 HO9 HT9 HN9 HB9 HR9 HU9 HNR
          go_wp2
          go_roundg (X.length - (i + 1))
          case rel => exact ⟨i + 1, hlt, rfl, by go_num, HFIN.out⟩
          case measure => omega
        · have hm2' : 2 ≤ m := by omega
          have hmw : i + m * wd ≤ X.length := by
            rcases hm2 with h | h
            · exact absurd h h1
            · exact h
          have hmB : ((m : Int) == 1) = false := by
            have : ¬ (m : Int) = 1 := by omega
            simpa using this
          have hwm : 2 * wd ≤ m * wd := Nat.mul_le_mul_right wd hm2'
          have hiw : i + wd ≤ X.length := by omega
          have HMW := Lib.hid hmw
          have HG := Lib.hid (groups_of HNR.out hmw HSAME.out)
          clear hm1 hm2 HSAME h1 hmw hwm
          obtain ⟨bb, off, cap', y, hao, hcap, -, -, -, -⟩ := HH2.out.at hlt
          cases hao
          obtain ⟨bn, offn, han, -, hcapn, -, -, hcn⟩ := Ints.at (l := N.map Int.ofNat) HI2.out (by have := HNR.out.1; rw [List.length_map]; omega)
          cases han
          have hcapi : (X.length : Int) ≤ cap := by omega
          have hcapni : (X.length : Int) ≤ capn := by omega
          have hiwI : (i : Int) + wd ≤ X.length := by omega
          have hnc : ¬ capn = i := by omega
          have hml : m ≤ 2048 := by
            have h1 := HMW.out
            have h2 : m ≤ m * wd := Nat.le_mul_of_pos_right m (by omega)
            omega
          have e1 : ((i : Int) + wd - i).toNat = wd := by omega
          clear hcn HFQ HHQ
          obtain ⟨j0, ji, jz0, jz1, jz2⟩ := info_parts info_Loop
          obtain ⟨i0, ii, iz0, iz1, iz2⟩ := info_parts info_intX
          go_wp2_with fail
          clear b0 b1 o0
          rw [show i + wd - i = wd by omega]
          obtain ⟨wb, rfl⟩ : ∃ wb : World, wb = wr := ⟨_, rfl⟩
          go_loopw [10, 72] (fun b x ws => ∃ (j bn' : Nat) (q1 : Col) (LS1 : List (List Int)) (dB1 : dBody), j ≤ wd ∧ x = .int .i64 j ∧ b = .int .i64 bn' ∧ Turn q q1 (fun x => x = 12 ∨ x = 13) wb ws ∧ NamesAt ws q1 NX FS' LS1 ∧ Dec FS' LS1 dF' dB1 ∧ dB' <+: dB1 ∧ NamesB dB1 bn' ((X.drop i).take j) ∧ LS1.length ≤ LS'.length + j) (fun _ x _ => wd - (intOf x).toNat)
          case atStart => exact ⟨0, 0, q, LS', dB', Nat.zero_le _, rfl, rfl, Turn.refl _ _ _, HF.out.names, HF.out.dec, List.prefix_rfl, .inl ⟨rfl, rfl⟩, by omega⟩
          case round =>
            obtain ⟨j, bnum, q1, LS1, dB1, hj, rfl, rfl, hT1, hN1, hD1, hp1, hB1, hl1⟩ := hrel
            have HT1 := Lib.hid hT1
            have HN1 := Lib.hid hN1
            have HD1 := Lib.hid hD1
            have HP1 := Lib.hid hp1
            have HB1 := Lib.hid hB1
            have HL1 := Lib.hid hl1
            clear hT1 hN1 hD1 hp1 hB1 hl1
            by_cases hjw : j < wd
            · have hjwI : (j : Int) < wd := by omega
              have hijN : i + j < N.length := by have := HNR.out.1; omega
              have hijX : i + j < X.length := by omega
              obtain ⟨bn2, offn2, han2, -, hcapn2, -, -, hcn2⟩ := Ints.at (l := N.map Int.ofNat) (HI2.out.turn HT1.out (by decide)) (by rw [List.length_map]; omega)
              cases han2
              have n1 := hcn2 (i + j) (by rw [List.length_map]; omega)
              rw [List.getElem?_map, List.getElem?_eq_getElem hijN] at n1
              obtain ⟨kn, hkn⟩ : ∃ x, N[i + j] = x := ⟨_, rfl⟩
              have hnm := (HNR.out.2 (i + j) _ _ (List.getElem?_eq_getElem hijX) (List.getElem?_eq_getElem hijN)).pre HF.out.preF
              rw [hkn] at n1 hnm
              simp only [Option.map_some, Option.getD_some, ← Nat.add_assoc] at n1
              obtain ⟨dB2, hp2, hD2, hB2⟩ := HD1.out.nameB HB1.out hnm
              have hkl : kn ≤ 1000000002048 := by
                have h1 := (List.getElem?_eq_some_iff.1 hnm.2).1
                have h2 := HD1.out.lenF
                have h3 := HF.out.pure.lenF
                have h4 := HL.out.1
                omega
              have hbl : bnum ≤ 1000000004096 := by
                have h3 := HF.out.pure.lenL
                have h4 := HL.out.2.1
                have h5 := HL1.out
                rcases HB1.out with ⟨h1, _⟩ | ⟨h1, h2⟩
                · omega
                · have h6 := (List.getElem?_eq_some_iff.1 h2).1
                  have h7 := HD1.out.lenB
                  omega
              have hwf : WfL [(bnum : Int), (kn : Int)] := by
                intro x hx
                simp at hx
                omega
              have HTK : Hid ((X.drop i).take (j + 1) = (X.drop i).take j ++ [X[i + j]]) := Lib.hid (by
                rw [List.take_succ_eq_append_getElem (by rw [List.length_drop]; omega), List.getElem_drop])
              have HP2 := Lib.hid hp2
              have HD2 := Lib.hid hD2
              have HB2 := Lib.hid hB2
              have HWF := Lib.hid hwf
              have hl1x : LS1.length ≤ 4611686018427387904 := by
                have h3 := HF.out.pure.lenL
                have h4 := HL.out.2.1
                have h5 := HL1.out
                omega
              have n2 : wr.cell? ⟨bn, offn + i + j, none⟩ = some (.int .i64 (kn : Int)) := n1
              clear hcn2 hkn hnm hp2 hD2 hB2 hwf n1
              go_wp2_with fail
              refine (link_any _ q1 NX FS' LS1 bnum kn HN1.out HWF.out hl1x).mono ?_
              rintro e w2 ⟨q2, rfl, hT2, hN2⟩
              have HT2 := Lib.hid (HT1.out.trans hT2 (fun _ h => h))
              have HN2 := Lib.hid hN2
              have HL2 : Hid ((addT LS1 [(bnum : Int), (kn : Int)]).length ≤ LS'.length + (j + 1)) := Lib.hid (by have := addT_len LS1 [(bnum : Int), (kn : Int)]; have := HL1.out; omega)
              clear hT2 hN2
              go_wp2
              go_roundw
              case rel => exact ⟨j + 1, _, q2, _, dB2, hjw, by go_num, rfl, HT2.out, HN2.out, HD2.out, HP1.out.trans HP2.out, by rw [HTK.out]; exact HB2.out, HL2.out⟩
              case measure => simp [intOf]; omega
            · obtain rfl : wd = j := by omega
              clear hj hjw
              have hF1 := HF.out
              have HHs := Lib.hid (HH2.out.turn HT1.out (by decide))
              have HL5 := Lib.hid (hF1.loops.turn HT1.out (by decide) (by decide))
              have HO5 := Lib.hid (hF1.out.turn HT1.out (by decide))
              have HB5 := Lib.hid (hF1.box.turn HT1.out (by decide))
              have HR5 := Lib.hid (hF1.res.turn HT1.out (by decide))
              have HU5 := Lib.hid (hF1.nums.turn HT1.out (by decide))
              have HT5 := Lib.hid (hF1.turn.trans HT1.out (fun c h => by unfold FoldC; rcases h with h | h <;> rw [h] <;> simp))
              have HPU := Lib.hid hF1.pure
              have HPF := Lib.hid hF1.preF
              have HPB := Lib.hid (hF1.preB.trans HP1.out)
              clear hF1 HF HT1 HP1 HI2 HH2
              have HPART := Lib.hid (HHs.out.part (i := i) (k := wd) (by omega) hiw)
              have o0 := HO5.out.cell 0 _ rfl
              have b0 := HB5.out.cell 0 _ rfl
              have sw : IntKind.i64.wrap ((i : Int) + wd) = (i : Int) + wd := IntWalk.i64_in _ (by omega)
              have st : ((i : Int) + wd).toNat = i + wd := by omega
              have sp : 0 ≤ (i : Int) + wd := by omega
              have sc : ¬ cap = i := by omega
              have sci : (i : Int) + wd ≤ cap := by omega
              go_wp2_with fail
              refine wp_region_lex (fun w' => w'.cell? ⟨w.heap.size + 2, 0, none⟩ = some (.slice pa ps.length pc) ∧ w'.cell? ⟨w.heap.size, 0, none⟩ = some (.slice (some ⟨bb, off, none⟩) X.length cap)) [0, 1, 2, 3, 4, 5, 6, 7, 8, 9, 10] [11, 12, 13, 14] (by kernel_rfl) (by kernel_rfl) rfl (fun _ _ hx h => ⟨hx.cell h.1, hx.cell h.2⟩) ⟨o0, b0⟩ ?_
              intro Q' hQ'
              simp only [pickOps, List.flatMap_cons, List.flatMap_nil, List.drop_succ_cons, List.drop_zero, List.take_succ_cons, List.take_zero, List.cons_append, List.nil_append, List.append_nil]
              repeat (first
                | (refine wpReads_skip (by rfl) ?_; (try simp only [Act.put, List.setIfInBounds_toArray, List.set_cons_zero, List.set_cons_succ]))
                | (refine wpReads_cons ?_ (by rfl) (by rfl) ?_ ?_; rotate_left; (intro wz hz; (try dsimp only at hz); go_simp; try with_reducible rfl); (try simp only [Act.put, List.setIfInBounds_toArray, List.set_cons_zero, List.set_cons_succ]))
                | (refine wpReads_any ?_ (by rfl) ?_ ?_; rotate_left; (intro wz; go_simp; try with_reducible rfl); (try simp only [Act.put, List.setIfInBounds_toArray, List.set_cons_zero, List.set_cons_succ])))
              refine wpReads_nil ?_
              clear b0 o0 sw st sp sci
              obtain ⟨wx, hwx⟩ : ∃ x, wr.drew = x := ⟨_, rfl⟩
              have TX : Turn q1 q1 (fun _ => False) wr wx := by rw [← hwx]; exact (Turn.refl _ _ _).drew
              rw [hwx]
              clear hwx
              have HL6 := Lib.hid (HL5.out.turn TX (fun h => h) (fun h => h))
              have HO6 := Lib.hid (HO5.out.turn TX (fun h => h))
              have HB6 := Lib.hid (HB5.out.turn TX (fun h => h))
              have HR6 := Lib.hid (HR5.out.turn TX (fun h => h))
              have HU6 := Lib.hid (HU5.out.turn TX (fun h => h))
              have HT6 := Lib.hid (HT5.out.trans TX (fun c h => h.elim))
              have HN6 := Lib.hid (HN1.out.turn TX (fun h => h) (fun h => h) (fun h => h))
              have HPT6 := Lib.hid (HPART.out.turn TX (fun h => h))
              clear TX HL5 HO5 HB5 HR5 HU5 HT5 HN1 HPART HHs
              go_wp2_with (at_builtin; refine stop_here ?_)
              refine go_on ?_
              refine wpList_app rfl _ _ 30 rfl 0 51 j0 _ 3 40 Try.underlying30 ji jz0 jz1 jz2 rfl (.slice pa ps.length pc) ps.length _ rfl (HL6.out.own.1.alloc (.cells #[.int .i64 (m : Int), .int .i64 0, .slice (some ⟨bb, off + i * 3, none⟩) wd (cap - i)] 51)) (some ⟨wx.heap.size, 0, none⟩) 1 1 [.int .i64 (m : Int), .int .i64 0, .slice (some ⟨bb, off + i * 3, none⟩) wd (cap - i)] rfl rfl (fun h => by cases h) (news_alloc wx _ 51) (by simp [Value.oneCell']) (by unfold maxLen; omega) (grow_ok (by omega)) (Nat.zero_le _) ?_
              intro v7 w7 k1 k20 _ k4
              obtain ⟨sp7, cp7, rfl⟩ := owns_slice k1
              have hm7 : Mods (fun b => (Value.slice pa ps.length pc).ownBlock = some b) wx w7 := ((Mods.refl _ wx).alloc _).grown k20 (fun b hb _ => hb)
              obtain ⟨T7, L7⟩ := HL6.out.grow (a := ((m : Int), 0, ofItems ((X.drop i).take wd))) HPT6.out k1 hm7 (k4.imp id (fun k4 b hb => by rw [k4] at hb; have := Option.some.inj hb; simp at this; omega))
              generalize ext q1 wx.heap.size 4 = q7 at *
              have hO7 := HO6.out.turn T7 (by decide)
              have o0 := hO7.cell 0 _ rfl
              have f0 := hO7.frozen 0
              obtain ⟨b8, T8⟩ := hO7.set 0 (.slice sp7 (ps.length + 1) cp7)
              have hr7 := HR6.out.turn T7 (by decide)
              have HL8 := Lib.hid (L7.turn T8 (by decide) (by decide))
              have HO8 := Lib.hid b8
              have HT8 := Lib.hid ((HT6.out.trans T7 (fun c h => by unfold FoldC; rw [h]; simp)).trans T8 (fun c h => by unfold FoldC; rw [h]; simp))
              have HN8 := Lib.hid ((HN6.out.turn T7 (by decide) (by decide) (by decide)).turn T8 (by decide) (by decide) (by decide))
              have HB8 := Lib.hid ((HB6.out.turn T7 (by decide)).turn T8 (by decide))
              have HR8 : Hid (Blk (w7.setCell ⟨w.heap.size + 2, 0, none⟩ (.slice sp7 (ps.length + 1) cp7)) q7 14 (w.heap.size + 1) 129 #[.slice none 0 0, .slice none 0 0]) := Lib.hid ⟨block_setCell_ne hr7.1 (by show w.heap.size + 1 ≠ w.heap.size + 2; omega) _, hr7.2⟩
              have HU8 := Lib.hid ((HU6.out.turn T7 (by decide)).turn T8 (by decide))
              clear k1 k20 k4 T7 T8 L7 b8 hO7 hr7 hm7 HL6 HO6 HT6 HN6 HB6 HR6 HU6 HPT6
              obtain ⟨w8, hw8⟩ : ∃ x, w7.setCell ⟨w.heap.size + 2, 0, none⟩ (.slice sp7 (ps.length + 1) cp7) = x := ⟨_, rfl⟩
              rw [hw8] at HL8 HO8 HT8 HN8 HB8 HR8 HU8
              go_wp2_with fail
              clear hw8 o0 f0
              have o1 := HO8.out.cell 1 _ rfl
              refine wp_region_lex1 (fun w' => w'.cell? ⟨w.heap.size + 2, 1, none⟩ = some (.slice na N'.length nc)) [0, 1, 2, 3, 4, 5] [] 6 [7, 8, 9, 10] (by kernel_rfl) (by kernel_rfl) (by kernel_rfl) rfl (fun _ _ hx h => hx.cell h) o1 ?_
              intro Q' hQ'
              simp only [pickOps, List.flatMap_cons, List.flatMap_nil, List.drop_succ_cons, List.drop_zero, List.take_succ_cons, List.take_zero, List.cons_append, List.nil_append, List.append_nil]
              repeat (first
                | (refine wpReads_skip (by rfl) ?_; (try simp only [Act.put, List.setIfInBounds_toArray, List.set_cons_zero, List.set_cons_succ]))
                | (refine wpReads_cons ?_ (by rfl) (by rfl) ?_ ?_; rotate_left; (intro wz hz; (try dsimp only at hz); go_simp; try with_reducible rfl); (try simp only [Act.put, List.setIfInBounds_toArray, List.set_cons_zero, List.set_cons_succ]))
                | (refine wpReads_any ?_ (by rfl) ?_ ?_; rotate_left; (intro wz; go_simp; try with_reducible rfl); (try simp only [Act.put, List.setIfInBounds_toArray, List.set_cons_zero, List.set_cons_succ])))
              refine wpReads_nil ?_
              clear o1
              go_wp2_with fail
              have hlf : FS'.length ≤ 4611686018427387904 := by have := HPU.out.lenF; have := HL.out.1; omega
              have hwf : WfL [(m : Int), 0, (bnum : Int)] := by
                have h3 := HPU.out.lenL
                have h4 := HL.out.2.1
                have h5 := HL1.out
                have h6 : bnum ≤ LS1.length := by
                  rcases HB1.out with ⟨h1, _⟩ | ⟨h1, h2⟩
                  · omega
                  · have h6 := (List.getElem?_eq_some_iff.1 h2).1
                    have h7 := HD1.out.lenB
                    omega
                intro x hx
                simp at hx
                omega
              have HWF := Lib.hid hwf
              obtain ⟨dF2, hp2, hD2, hNm⟩ := HD1.out.nameF (t := (m : Int)) (nd := 0) HB1.out
              have HP2 := Lib.hid hp2
              have HD2 := Lib.hid hD2
              have HNM := Lib.hid hNm
              clear hp2 hD2 hNm hwf
              obtain ⟨r, hpu⟩ := HPU.out.many HP2.out HW.out hm2' hw1' HMW.out HG.out HNM.out (addT_len FS' [(m : Int), 0, (bnum : Int)]) HL1.out
              have HPU2 := Lib.hid hpu
              clear hpu
              refine (face_any _ q7 NX FS' LS1 m 0 bnum (HN8.out.turn ((Turn.refl q7 (fun _ => False) w8).drew) (fun h => h) (fun h => h) (fun h => h)) HWF.out hlf).mono ?_
              rintro e w9 ⟨q9, rfl, hT9, hN9⟩
              have T9 : Turn q7 q9 (fun x => x = 12 ∨ x = 13) w8 w9 := ((Turn.refl q7 (fun _ => False) w8).drew.mono (fun _ h => h.elim)).trans hT9 (fun _ h => h)
              have HL9 := Lib.hid (HL8.out.turn T9 (by decide) (by decide))
              have HO9 := Lib.hid (HO8.out.turn T9 (by decide))
              have HT9 := Lib.hid (HT8.out.trans T9 (fun c h => by unfold FoldC; rcases h with h | h <;> rw [h] <;> simp))
              have HN9 := Lib.hid hN9
              have HB9 := Lib.hid (HB8.out.turn T9 (by decide))
              have HR9 := Lib.hid (HR8.out.turn T9 (by decide))
              have HU9 := Lib.hid (HU8.out.turn T9 (by decide))
              have hmwI : (i : Int) + (m : Int) * wd ≤ X.length := by
                have h := HMW.out
                have h2 : ((m * wd : Nat) : Int) = (m : Int) * wd := by simp
                omega
              have hmw0 : 0 ≤ (m : Int) * wd := by
                have h2 : ((m * wd : Nat) : Int) = (m : Int) * wd := by simp
                omega
              have hmwl : (m : Int) * wd ≤ 40000 := by omega
              clear T9 hT9 hN9 HL8 HO8 HT8 HN8 HB8 HR8 HU8 HWF hlf
              obtain ⟨kk, hkk⟩ : ∃ x, numT (addT FS' [(m : Int), 0, (bnum : Int)]) [(m : Int), 0, (bnum : Int)] = x := ⟨_, rfl⟩
              rw [hkk] at HPU2 ⊢
              clear hkk
              go_wp2_with fail
              refine ⟨HO9.out.cell 1 _ rfl, ?_⟩
              go_wp2_with (at_builtin; refine stop_here ?_)
              refine go_on ?_
              refine wpList_app rfl _ _ 52 rfl 0 3 i0 _ 1 8 Try.underlying52 ii iz0 iz1 iz2 rfl (.slice na N'.length nc) N'.length _ rfl (HU9.out.1.alloc (.cells #[.int .i64 (kk : Int)] 3)) (some ⟨w9.heap.size, 0, none⟩) 1 1 [.int .i64 (kk : Int)] rfl rfl (fun h => by cases h) (news_alloc w9 [.int .i64 (kk : Int)] 3) (by simp [Value.oneCell']) (by unfold maxLen; omega) (grow_ok (by omega)) (Nat.zero_le _) ?_
              intro v10 w10 k1 k20 _ k4
              obtain ⟨sp10, cp10, rfl⟩ := owns_slice k1
              obtain ⟨q10, T10, L10⟩ := own_laid HU9.out k1 k20 k4
              have hO10 := HO9.out.turn T10 (by decide)
              have o1 := hO10.cell 1 _ rfl
              have f1 := hO10.frozen 1
              obtain ⟨b11, T11⟩ := hO10.set 1 (.slice sp10 (N'.length + 1) cp10)
              have hr10 := HR9.out.turn T10 (by decide)
              have HFIN : Hid (FoldIn D NX w.heap.size o FS LS dF dB X R (.slice (some ⟨bb, off, none⟩) X.length cap) (.slice (some ⟨bn, offn, none⟩) X.length capn) (i + m * wd) w (w10.setCell ⟨w.heap.size + 2, 1, none⟩ (.slice sp10 (N'.length + 1) cp10))) := Lib.hid ⟨q10, _, _, addT FS' [(m : Int), 0, (bnum : Int)], LS1, dF2, dB1, ps ++ [(((m : Int), 0, ofItems ((X.drop i).take wd)), .slice (some ⟨bb, off + i * 3, none⟩) wd (cap - i))], N' ++ [kk], _,
                (HT9.out.trans T10 (fun c h => by unfold FoldC; rw [h]; simp)).trans T11 (fun c h => by unfold FoldC; rw [h]; simp),
                (HN9.out.turn T10 (by decide) (by decide) (by decide)).turn T11 (by decide) (by decide) (by decide), HD2.out, HPF.out.trans HP2.out, HPB.out,
                (HB9.out.turn T10 (by decide)).turn T11 (by decide), ⟨block_setCell_ne hr10.1 (by show w.heap.size + 1 ≠ w.heap.size + 2; omega) _, hr10.2⟩, b11,
                (HL9.out.turn T10 (by decide) (by decide)).turn T11 (by decide) (by decide), by simpa using L10.turn T11 (by decide), by simpa using HPU2.out⟩
              have hrest : X.length - (i + m * wd) < X.length - i := by
                have h := HMW.out
                have h2 : 2 * wd ≤ m * wd := Nat.mul_le_mul_right wd hm2'
                omega
              have hpush : Value.int .i64 ((i : Int) + (m : Int) * wd) = .int .i64 ((i + m * wd : Nat) : Int) := by simp
              have HPUSH := Lib.hid hpush
              have HREST := Lib.hid hrest
              clear k1 k20 k4 T10 T11 L10 b11 hO10 hr10 HPU HPU2 HL9 HO9 HT9 HN9 HB9 HR9 HU9 HNR hpush hrest
              go_wp2
              go_roundg (X.length - (i + m * wd))
              case rel => exact ⟨i + m * wd, HMW.out, rfl, HPUSH.out, HFIN.out⟩
              case measure => exact HREST.out
    · obtain rfl : X.length = i := by omega
      obtain ⟨q, lv', nv', FS', LS', dF', dB', ps, N', R', hF⟩ := HF.out
      have HFA := Lib.hid hF
      have b0 := hF.box.cell 0 _ rfl
      have o0 := hF.out.cell 0 _ rfl
      have o1 := hF.out.cell 1 _ rfl
      have s0 := hF.res.cell 0 _ rfl
      have s1 := hF.res.cell 1 _ rfl
      have f0 := hF.res.frozen 0
      have f1 := hF.res.frozen 1
      obtain ⟨pa, pc, rfl⟩ := hF.loops.own.slice
      obtain ⟨na, nc, rfl⟩ := hF.nums.slice
      have HDN := Lib.hid (hF.done HWL.out.symm (Nat.le_refl _))
      clear hF HF
      go_wp2
      refine bodyPost_ret_by (results_cell_row rfl _ _ _ _ _ _ _ rfl HDN.out.2 Try.underlying129 rfl (by kernel_rfl)) rfl ?_
      exact ⟨_, _, _, rfl, HDN.out.1⟩
end Go.Proofs.Ytbmbfifempkhgaa

/- loops.own. -/
namespace Go.Proofs.Ytbmbfifempkhgaa
open Go.RowKit

def LOwnNOk (D : Nat) : Prop := ∀ (w : World) (v : Value) (l : Nest), HasNestD D w v l → nodesN l ≤ 65536 → Calls Try.prog 69 #[v] w (LentNRet D w l)


set_option maxRecDepth 100000 in
set_option maxHeartbeats 2000000 in
theorem lownN_succ {D : Nat} (hrec0 : LOwnNOk D) : LOwnNOk (D + 1) := by
  intro w v l hv hs
  have hv' : Recs w 3 (fun w x cs => ∃ y, cs = [.int .i64 x.1, .int .i64 x.2.1, y] ∧ HasNestD D w y x.2.2) v l.items := hv
  obtain ⟨ao, cap, rfl⟩ := hv'.slice
  have HV := Lib.hid hv'
  have HS := Lib.hid hs
  have hll : l.items.length ≤ 65536 := by have := nodesN_items l; omega
  have HREC := Lib.hid hrec0
  have HK := Lib.hid (Kept.start w)
  have HT : Hid (TailN D w (fun _ => 0) (.slice none 0 0) []) := Lib.hid ⟨Own.nil _ _ _ _ _, fun _ h => by cases h⟩
  clear hv hv' hs hrec0
  go_enter Try.func69, Try.ntmps69
  go_wp2_with fail
  go_loopw [3, 8] (fun v i wl => ∃ (j : Nat) (q : Col) (ps : List (LItem × Value)), j ≤ l.items.length ∧ i = .int .i64 j ∧ Kept w.heap.size q w wl ∧ TailN D wl q v ps ∧ ps.map Prod.fst = l.items.take j) (fun _ i _ => l.items.length - (intOf i).toNat)
  case atStart => exact ⟨0, _, [], Nat.zero_le _, rfl, HK.out, HT.out, rfl⟩
  case round =>
    clear HK HT
    obtain ⟨j, q, ps, hj, rfl, hK, hT, hps⟩ := hrel
    have HK := Lib.hid hK
    have HT := Lib.hid hT
    have HPJ := Lib.hid hps
    obtain ⟨pa0, pc0, rfl⟩ := hT.own.slice
    have HPL : Hid (ps.length = j) := Lib.hid (by have := congrArg List.length hps; rw [List.length_map, List.length_take] at this; omega)
    clear hK hT hps
    by_cases hlt : j < l.items.length
    · have hlti : (j : Int) < l.items.length := by omega
      obtain ⟨b0, off, rfl, hcap, hb0, hrec⟩ := HV.out.at (by omega)
      obtain ⟨cs, hcs, hPR, hcl⟩ := hrec j hlt
      obtain ⟨y, rfl, hy⟩ := hPR
      have c0 := cell_later HK.out.below (hcl 0 (by omega))
      have c1 := cell_later HK.out.below (hcl 1 (by omega))
      have c2 := cell_later HK.out.below (hcl 2 (by omega))
      simp at c0 c1 c2
      have hcapi : (l.items.length : Int) ≤ cap := by omega
      have HTK : Hid (l.items.take (j + 1) = l.items.take j ++ [l.items[j]]) := Lib.hid (List.take_succ_eq_append_getElem hlt)
      have HY := Lib.hid hy
      have HSb : Hid (nodesN (l.items[j]).2.2 ≤ 65536) := Lib.hid (by have := nodesN_at _ (List.getElem_mem hlt); have := HS.out; omega)
      obtain ⟨ya, yc, hys⟩ := nestD_slice D hy
      subst hys
      obtain ⟨it, hit⟩ : ∃ x, l.items[j] = x := ⟨_, rfl⟩
      rw [hit] at HTK HSb HY c0 c1 c2
      clear hcl hcs hrec hy hit
      obtain ⟨t, nd, b⟩ := it
      dsimp only at HSb HY c0 c1 c2
      have hbX := below_alloc wr (.cells #[.int .i64 t, .int .i64 nd, .slice ya b.items.length yc] 51)
      have hX : Blk _ (ext q wr.heap.size 8) 8 _ _ _ := ⟨heap_alloc_new wr (.cells #[.int .i64 t, .int .i64 nd, .slice ya b.items.length yc] 51), ext_new (Nat.le_refl _)⟩
      have TX := Turn.of_below q 8 hbX
      have HK2 := Lib.hid (HK.out.turn TX (fun h => h))
      have HT2 := Lib.hid (HT.out.turn TX (fun h => h) (fun h => h))
      have HX2 := Lib.hid hX
      have x2 := hX.cell 2 _ rfl
      clear hbX hX TX HK HT
      go_wp2_with fail
      refine (HREC.out _ _ b (nestD_below D HY.out HK2.out.below) HSb.out).mono ?_
      rintro e w5 ⟨v5, rfl, hv5, hb5⟩
      have T5 := Turn.of_below (ext q wr.heap.size 8) 5 hb5
      have HH5 : Hid (Held D w5 (ext (ext q wr.heap.size 8) _ 5) v5 b) := Lib.hid fun q'' w'' T => hv5 w'' (T.mods.mono fun k hk f => by
        refine Classical.byContradiction fun h2 => f (ext_new (Nat.le_of_not_lt h2)))
      obtain ⟨m5, k5, hvs⟩ := nestD_slice D (HH5.out _ w5 (Turn.refl _ _ _))
      subst hvs
      have HK5 := Lib.hid (HK2.out.turn T5 (fun h => h))
      have HT5 := Lib.hid (HT2.out.turn T5 (fun h => h) (fun h => h))
      have hX5 := HX2.out.turn T5 (fun h => h)
      have v4 := hX5.cell 2 _ rfl
      have f4 := hX5.frozen 2
      obtain ⟨b6, T6⟩ := hX5.set 2 (.slice m5 b.items.length k5)
      have HK6 := Lib.hid (HK5.out.turn T6 (by decide))
      have HT6 := Lib.hid (HT5.out.turn T6 (by decide) (by decide))
      have HH6 := Lib.hid (HH5.out.turn T6 (by decide))
      have u0 := b6.cell 0 _ rfl
      have u1 := b6.cell 1 _ rfl
      have u2 := b6.cell 2 _ rfl
      clear hv5 hb5 T5 T6 b6 hX5 HX2 x2 c0 c1 c2 HK2 HT2 HK5 HT5 HH5
      go_wp2_with (at_builtin; refine stop_here ?_)
      refine go_on ?_
      clear v4 f4 u0 u1 u2
      obtain ⟨w6, hw6⟩ : ∃ x, w5.setCell ⟨wr.heap.size, 2, none⟩ (.slice m5 b.items.length k5) = x := ⟨_, rfl⟩
      obtain ⟨q6, hq6⟩ : ∃ x : Col, x = ext (ext q wr.heap.size 8) (wr.alloc (.cells #[.int .i64 t, .int .i64 nd, .slice ya b.items.length yc] 51)).heap.size 5 := ⟨_, rfl⟩
      rw [hw6, ← hq6] at HK6 HT6 HH6
      have hs6 : w6.heap.size = w5.heap.size := by rw [← hw6, size_setCell']
      rw [hw6]
      clear hw6 hq6
      obtain ⟨i0, hi, hz0, hz1, hz2⟩ := info_parts info_Loop
      refine wpList_app rfl _ _ 30 rfl 0 51 i0 _ 3 40 Try.underlying30 hi hz0 hz1 hz2 rfl (.slice pa0 ps.length pc0) ps.length _ rfl (HT6.out.own.1.alloc (.cells #[.int .i64 t, .int .i64 nd, .slice m5 b.items.length k5] 51)) (some ⟨w5.heap.size, 0, none⟩) 1 1 [.int .i64 t, .int .i64 nd, .slice m5 b.items.length k5] rfl rfl (fun h => by cases h) (by rw [← hs6]; exact news_alloc w6 [.int .i64 t, .int .i64 nd, .slice m5 b.items.length k5] 51) (by simp [Value.oneCell']) (by have := HPL.out; unfold maxLen; omega) (grow_ok (by have := HPL.out; omega)) (Nat.zero_le _) ?_
      intro v7 w7 k1 k20 _ k4
      have hm7 : Mods (fun b => (Value.slice pa0 ps.length pc0).ownBlock = some b) w6 w7 := ((Mods.refl _ w6).alloc _).grown k20 (fun b hb _ => hb)
      obtain ⟨T7, N7⟩ := HT6.out.grow (a := (t, nd, b)) (y := .slice m5 b.items.length k5) HH6.out k1 hm7 (k4.imp id (fun k4 b hb => by rw [k4] at hb; have := Option.some.inj hb; simp at this; omega))
      obtain ⟨sp7, cp7, rfl⟩ := owns_slice k1
      have HK7 := Lib.hid (HK6.out.turn T7 (by decide))
      have HT7 := Lib.hid N7
      have HPJ7 : Hid ((ps ++ [((t, nd, b), (.slice m5 b.items.length k5 : Value))]).map Prod.fst = l.items.take (j + 1)) := Lib.hid (by rw [HTK.out, ← HPJ.out]; simp)
      clear HPL T7 N7 k1 k20 k4 hm7 HK6 HT6 hs6
      go_wp2
      go_roundw
      case rel => exact ⟨j + 1, _, _, hlt, by go_num, HK7.out, HT7.out, HPJ7.out⟩
      case measure => simp [intOf]; omega
    · obtain rfl : l.items.length = j := by omega
      clear hj hlt
      have hPJ := HPJ.out
      rw [List.take_of_length_le (Nat.le_refl _)] at hPJ
      have HPJ := Lib.hid hPJ
      clear hPJ
      go_wp2
      go_ret
      refine ⟨_, rfl, fun w'' mm => ?_, HK.out.below⟩
      have T : Turn _ _ (fun x => x = 0) wr w'' := ⟨mm.mono (fun k hk f => HK.out.old k f), fun _ _ => rfl⟩
      have h1 := (HT.out.turn T (by decide) (by decide)).recs
      rw [HPJ.out] at h1
      exact h1
set_option maxRecDepth 100000 in
theorem lownN_zero : LOwnNOk 0 := by
  intro w v l hv hs
  obtain ⟨rfl, ao, cap, rfl⟩ := hv
  go_enter Try.func69, Try.ntmps69
  go_wp2_with fail
  go_loopw [3, 8] (fun v i wl => v = .slice none 0 0 ∧ i = .int .i64 0 ∧ wl = w) (fun _ _ _ => 0)
  case atStart => exact ⟨rfl, rfl, rfl⟩
  case round =>
    obtain ⟨rfl, rfl, rfl⟩ := hrel
    go_wp2
    go_ret
    exact ⟨_, rfl, fun _ _ => ⟨rfl, _, _, rfl⟩, Below.refl _ _⟩
theorem lownN_any : ∀ D, LOwnNOk D
  | 0 => lownN_zero
  | D + 1 => lownN_succ (lownN_any D)
end Go.Proofs.Ytbmbfifempkhgaa

/- loops.fresh. -/
namespace Go.Proofs.Ytbmbfifempkhgaa
open Go.RowKit

def FreshRet (o : Col) (w : World) (e : Ending) (w' : World) : Prop := ∃ X o', e = .returned (.pointer (some ⟨X, 0, none⟩)) ∧ Turn o o' (fun _ => False) w w' ∧ NamesAt w' o' X [] []
set_option maxHeartbeats 1000000 in
theorem fresh_any (w : World) (o : Col) : Calls Try.prog 66 #[] w (FreshRet o w) := by
  have hmm := @run_makeMap Try.prog
  have hm1 := World.ownsMap_made (H := Unit) w Try.prog 168 (plainElem Try.prog 3)
  have hm2 := World.ownsMap_made (H := Unit) (w.alloc (.map #[] 0)) Try.prog 190 (plainElem Try.prog 3)
  have b1 := below_alloc w (.map #[] 0)
  have b2 := below_alloc (w.alloc (.map #[] 0)) (.map #[] 0)
  have b3 := below_alloc ((w.alloc (.map #[] 0)).alloc (.map #[] 0)) (.cells #[.map (some w.heap.size), .map (some (w.heap.size + 1))] 162)
  have hx := heap_alloc_new ((w.alloc (.map #[] 0)).alloc (.map #[] 0)) (.cells #[.map (some w.heap.size), .map (some (w.heap.size + 1))] 162)
  have T1 := Turn.of_below o 12 b1
  have T2 := Turn.of_below (ext o w.heap.size 12) 13 b2
  have T3 := Turn.of_below (ext (ext o w.heap.size 12) (w.alloc (.map #[] 0)).heap.size 13) 11 b3
  have hs : (w.alloc (.map #[] 0)).heap.size = w.heap.size + 1 := by simp
  have hs2 : ((w.alloc (.map #[] 0)).alloc (.map #[] 0)).heap.size = w.heap.size + 1 + 1 := by simp
  rw [hs] at hm2
  obtain ⟨m1, c1⟩ := mapT_turn hm1 T2 (fun h => h)
  obtain ⟨m2, c2⟩ := mapT_turn m1 T3 (fun h => h)
  obtain ⟨m3, c3⟩ := mapT_turn hm2 T3 (fun h => h)
  have c0 : ext o w.heap.size 12 w.heap.size = 12 := ext_new (Nat.le_refl _)
  have d0 : ext (ext o w.heap.size 12) (w.alloc (.map #[] 0)).heap.size 13 (w.heap.size + 1) = 13 := ext_new (by rw [hs]; omega)
  have e0 : ext (ext (ext o w.heap.size 12) (w.alloc (.map #[] 0)).heap.size 13) ((w.alloc (.map #[] 0)).alloc (.map #[] 0)).heap.size 11 (w.heap.size + 1 + 1) = 11 := ext_new (by rw [hs2]; omega)
  have HT := Lib.hid ((T1.trans T2 (fun _ h => h)).trans T3 (fun _ h => h))
  rw [hs2] at hx
  have HN : Hid (NamesAt (((w.alloc (.map #[] 0)).alloc (.map #[] 0)).alloc (.cells #[.map (some w.heap.size), .map (some (w.heap.size + 1))] 162)) (ext (ext (ext o w.heap.size 12) (w.alloc (.map #[] 0)).heap.size 13) ((w.alloc (.map #[] 0)).alloc (.map #[] 0)).heap.size 11) (w.heap.size + 1 + 1) [] []) := Lib.hid
    ⟨w.heap.size, w.heap.size + 1, .map [], .map [], 0, 0, ⟨hx, e0⟩, m2, (c2.trans c1).trans c0, m3, c3.trans d0, TabAt.empty _, TabAt.empty _, Nat.le_refl _, Nat.le_refl _⟩
  clear hm1 hm2 b1 b2 b3 hx T1 T2 T3 hs hs2 m1 c1 m2 c2 m3 c3 c0 d0 e0
  go_enter Try.func66, Try.ntmps66
  go_wp2
  go_ret
  exact ⟨w.heap.size + 1 + 1, _, rfl, HT.out, HN.out⟩
end Go.Proofs.Ytbmbfifempkhgaa

/- nest.Runs. -/
namespace Go.Proofs.Ytbmbfifempkhgaa
open Go.RowKit

def runLen (x : Int) : List Int → Nat
  | [] => 0
  | y :: r => if y = x then 1 + runLen x r else 0
theorem runLen_le (x : Int) : ∀ l : List Int, runLen x l ≤ l.length
  | [] => Nat.le_refl _
  | y :: r => by
    rw [runLen]
    have := runLen_le x r
    split <;> simp <;> omega
def runsP : List Int → List (Int × Int)
  | [] => []
  | x :: r => (x, ((1 + runLen x r : Nat) : Int)) :: runsP (r.drop (runLen x r))
termination_by l => l.length
decreasing_by simp; omega
theorem runsP_at {l : List Int} {i : Nat} (h : i < l.length) {k : Nat} (hk : runLen l[i] (l.drop (i + 1)) = k) : runsP (l.drop i) = (l[i], ((1 + k : Nat) : Int)) :: runsP (l.drop (i + 1 + k)) := by
  rw [List.drop_eq_getElem_cons h, runsP, hk, List.drop_drop]
/-- how far a run goes -/
theorem runLen_same {l : List Int} {x : Int} {i k : Nat} (h : ∀ j, j < k → l[i + j]? = some x) (he : l[i + k]? ≠ some x) : runLen x (l.drop i) = k := by
  induction k generalizing i with
  | zero =>
    cases hd : l.drop i with
    | nil => rfl
    | cons y r =>
      have h1 : l[i]? = some y := by
        have := congrArg (·[0]?) hd
        simpa [List.getElem?_drop] using this
      rw [runLen, if_neg]
      intro e
      rw [e] at h1
      exact he h1
  | succ k ih =>
    have h0 := h 0 (by omega)
    rw [Nat.add_zero] at h0
    obtain ⟨hi, h1⟩ := List.getElem?_eq_some_iff.1 h0
    rw [List.drop_eq_getElem_cons hi, runLen, if_pos h1, ih (i := i + 1) (fun j hj => by have := h (j + 1) (by omega); rwa [show i + (j + 1) = i + 1 + j by omega] at this) (by rwa [show i + (k + 1) = i + 1 + k by omega] at he)]
    omega
theorem runs_flat : ∀ (n : Nat) (l : List Int), l.length ≤ n → (runsP l).flatMap (fun x => List.replicate x.2.toNat x.1) = l
  | _, [], _ => by rw [runsP]; rfl
  | 0, _ :: _, h => by simp at h
  | n + 1, x :: r, h => by
    rw [runsP, List.flatMap_cons]
    have hl := runLen_le x r
    rw [runs_flat n _ (by simp at h; rw [List.length_drop]; omega)]
    have hr : ∀ r : List Int, List.replicate (runLen x r) x ++ r.drop (runLen x r) = r := by
      intro r
      induction r with
      | nil => rfl
      | cons y r ih =>
        rw [runLen]
        split
        · rename_i hy
          rw [Nat.add_comm, List.replicate_succ, List.drop_succ_cons, List.cons_append, ih, hy]
        · rfl
    show List.replicate ((1 + runLen x r : Nat) : Int).toNat x ++ _ = _
    rw [Int.toNat_natCast, Nat.add_comm, List.replicate_succ, List.cons_append, hr r]
theorem runs_times : ∀ (n : Nat) (l : List Int), l.length ≤ n → ∀ x ∈ runsP l, 1 ≤ x.2 ∧ x.2 ≤ l.length
  | _, [], _ => by rw [runsP]; intro x hx; cases hx
  | 0, _ :: _, h => by simp at h
  | n + 1, y :: r, h => by
    rw [runsP]
    have hl := runLen_le y r
    intro x hx
    rcases List.mem_cons.1 hx with rfl | hx
    · simp; omega
    · have := runs_times n _ (by simp at h; rw [List.length_drop]; omega) x hx
      rw [List.length_drop] at this
      simp
      omega
theorem runs_len : ∀ (n : Nat) (l : List Int), l.length ≤ n → (runsP l).length ≤ l.length
  | _, [], _ => by rw [runsP]; exact Nat.le_refl _
  | 0, _ :: _, h => by simp at h
  | n + 1, y :: r, h => by
    rw [runsP]
    have := runs_len n _ (by simp at h; rw [List.length_drop]; omega : (r.drop (runLen y r)).length ≤ n)
    rw [List.length_drop] at this
    simp
    omega
def runHd (x : Int × Int) : List Value := [.int .i64 x.1, .int .i64 x.2]
theorem info_Run : (Try.prog.info? 125).map (fun i => (i.zero, i.size, i.bytes)) = some (some (.agg #[.int .i64 0, .int .i64 0]), 2, 16) := by kernel_rfl
def RunsRet (l : List Int) (w : World) (e : Ending) (w' : World) : Prop := ∃ v, e = .returned v ∧ Recs w' 2 (FlatR runHd) v (runsP l) ∧ Below w.heap.size w w'

set_option maxRecDepth 100000 in
set_option maxHeartbeats 2000000 in
theorem runs_any (w : World) (v : Value) (l : List Int) (hv : Ints w (fun _ => 0) 0 v l) (hl : l.length ≤ 2048) : Calls Try.prog 28 #[v] w (RunsRet l w) := by
  obtain ⟨j0, ji, jz0, jz1, jz2⟩ := info_parts info_Run
  obtain ⟨ao, cap, rfl⟩ := hv.slice
  have HV := Lib.hid hv
  have HK := Lib.hid (Kept.start w)
  clear hv
  go_enter Try.func28, Try.ntmps28
  go_wp2_with fail
  go_loopg [3, 4] l.length (fun g u x wr => ∃ (i : Nat) (q : Col) (rs : List (Int × Int)), i ≤ l.length ∧ g = l.length - i ∧ x = .int .i64 i ∧ Kept w.heap.size q w wr ∧ Own wr q 4 125 2 u rs.length (flatV runHd rs) ∧ rs ++ runsP (l.drop i) = runsP l ∧ rs.length ≤ i)
  case atStart => exact ⟨0, _, [], Nat.zero_le _, by omega, rfl, HK.out, Own.nil _ _ _ _ _, rfl, Nat.le_refl _⟩
  case round =>
    clear HK
    obtain ⟨i, q, rs, hi, rfl, rfl, hK, hO, hrs, hrl⟩ := hrel
    have HK := Lib.hid hK
    have HO := Lib.hid hO
    have HRS := Lib.hid hrs
    have HRL := Lib.hid hrl
    obtain ⟨ra, rc, rfl⟩ := hO.slice
    clear hK hO hrs hrl
    by_cases hlt : i < l.length
    · have hlti : (i : Int) < l.length := by omega
      obtain ⟨wo, rfl⟩ : ∃ wo : World, wo = wr := ⟨_, rfl⟩
      obtain ⟨b0, off, hao, -, hcap, -, -, hc⟩ := Ints.at (l := l) (HV.out.below HK.out.below) (by omega)
      cases hao
      have hcapi : (l.length : Int) ≤ cap := by omega
      obtain ⟨x, hx⟩ : ∃ x, l[i] = x := ⟨_, rfl⟩
      have hxi : l[i]? = some x := by rw [List.getElem?_eq_getElem hlt, hx]
      have ci := hc i hlt
      rw [hxi] at ci
      have HC := Lib.hid hc
      have HXI := Lib.hid hxi
      have HXE := Lib.hid hx
      clear hc hx hxi
      have ci : wo.cell? ⟨b0, off + i, none⟩ = some (.int .i64 x) := ci
      go_upto_block 2 with (fail)
      go_cut [5] from 11 to 27 (fun u ws => ∃ t : Nat, i + 1 ≤ t ∧ t ≤ l.length ∧ u = .int .i64 t ∧ runLen x (l.drop (i + 1)) + (i + 1) = t ∧ ∃ d, ws = wo.drewN d)
      case first =>
        go_wp2_with fail
        go_loopw [5] (fun u ws => ∃ t : Nat, i ≤ t ∧ t ≤ l.length ∧ u = .int .i64 t ∧ (∀ j, j < t - i → l[i + j]? = some x) ∧ ∃ d, ws = wo.drewN d) (fun u _ => l.length - (intOf u).toNat)
        case atStart => exact ⟨i, Nat.le_refl _, hi, rfl, fun j hj => by omega, 0, rfl⟩
        case round =>
          obtain ⟨t, ht1, ht2, rfl, hall, d, rfl⟩ := hrel
          have HALL := Lib.hid hall
          clear hall
          by_cases htl : t < l.length
          · have htli : (t : Int) < l.length := by omega
            have ct := HC.out t htl
            obtain ⟨y, hy⟩ : ∃ y, l[t]? = some y := ⟨_, List.getElem?_eq_getElem htl⟩
            rw [hy] at ct
            have ct : wo.cell? ⟨b0, off + t, none⟩ = some (.int .i64 y) := ct
            have HY := Lib.hid hy
            clear hy
            go_wp2_with fail
            refine wp_region_soft (fun w' => w' = (wo.drewN d).drew) [0, 1, 2, 3, 4, 5, 6, 7, 8, 9, 10, 11, 12, 13, 14] [] (by kernel_rfl) (by kernel_rfl) rfl rfl ?_
            simp only [pickOps, List.flatMap_cons, List.flatMap_nil, List.drop_succ_cons, List.drop_zero, List.take_succ_cons, List.take_zero, List.cons_append, List.nil_append, List.append_nil]
            repeat (refine wpHead_val ?_ (by rfl) ?_ ?_; rotate_left; (intro wz hz; subst hz; (first | (go_simp; done) | (go_simp; with_reducible rfl))); (try simp only [Act.put, List.setIfInBounds_toArray, List.set_cons_zero, List.set_cons_succ]))
            refine wpHead_nil ?_
            rintro w' rfl
            by_cases hyx : y = x
            · subst hyx
              have HALL2 : Hid (∀ j, j < t + 1 - i → l[i + j]? = some y) := Lib.hid (fun j hj => by
                by_cases hj2 : j = t - i
                · rw [hj2, show i + (t - i) = t by omega]; exact HY.out
                · exact HALL.out j (by omega))
              go_wp2
              go_roundw
              case rel => exact ⟨t + 1, by omega, by omega, by go_num, HALL2.out, d + 1, rfl⟩
              case measure => simp [intOf]; omega
            · have hti : i < t := by
                refine Nat.lt_of_le_of_ne ht1 (fun e => hyx ?_)
                have := HY.out
                rw [← e, HXI.out] at this
                exact (Option.some.inj this).symm
              have hrl : runLen x (l.drop (i + 1)) = t - (i + 1) := runLen_same (fun j hj => by have := HALL.out (j + 1) (by omega); rwa [show i + (j + 1) = i + 1 + j by omega] at this) (by rw [show i + 1 + (t - (i + 1)) = t by omega, HY.out]; intro e; exact hyx (Option.some.inj e))
              have HR := Lib.hid hrl
              clear hrl
              go_wp2
              go_meet
              case rel => exact ⟨t, by omega, by omega, rfl, by rw [HR.out]; omega, d + 1, rfl⟩
          · obtain rfl : l.length = t := by omega
            have hrl : runLen x (l.drop (i + 1)) = l.length - (i + 1) := runLen_same (fun j hj => by have := HALL.out (j + 1) (by omega); rwa [show i + (j + 1) = i + 1 + j by omega] at this) (by rw [List.getElem?_eq_none (by omega)]; simp)
            have HR := Lib.hid hrl
            clear hrl
            go_wp2_with fail
            refine wp_region_soft (fun w' => w' = (wo.drewN d).drew) [0, 1, 2, 3, 4, 5, 6, 7, 8, 9, 10, 11, 12, 13, 14] [] (by kernel_rfl) (by kernel_rfl) rfl rfl ?_
            simp only [pickOps, List.flatMap_cons, List.flatMap_nil, List.drop_succ_cons, List.drop_zero, List.take_succ_cons, List.take_zero, List.cons_append, List.nil_append, List.append_nil]
            repeat (first
              | (refine wpHead_skip (by rfl) ?_; (try simp only [Act.put, List.setIfInBounds_toArray, List.set_cons_zero, List.set_cons_succ]))
              | (refine wpHead_val ?_ (by rfl) ?_ ?_; rotate_left; (intro wz hz; (try dsimp only at hz); (first | (go_simp; done) | (go_simp; with_reducible rfl))); (try simp only [Act.put, List.setIfInBounds_toArray, List.set_cons_zero, List.set_cons_succ])))
            refine wpHead_nil ?_
            rintro w' rfl
            go_wp2
            go_meet
            case rel => exact ⟨l.length, by omega, Nat.le_refl _, rfl, by rw [HR.out]; omega, d + 1, rfl⟩
      case rest =>
        obtain ⟨t, ht1, ht2, rfl, hrun, d, rfl⟩ := hcut
        have hps := runsP_at hlt (k := t - (i + 1)) (by rw [HXE.out]; omega)
        rw [HXE.out, show i + 1 + (t - (i + 1)) = t by omega, show ((1 + (t - (i + 1)) : Nat) : Int) = (t : Int) - i by omega] at hps
        have HRS2 : Hid ((rs ++ [(x, (t : Int) - i)]) ++ runsP (l.drop t) = runsP l) := Lib.hid (by rw [← HRS.out, hps]; simp)
        have TD : Turn q q (fun _ => False) wo (wo.drewN d) := (Turn.refl _ _ _).drewN d
        have HK2 := Lib.hid (HK.out.turn TD (fun h => h))
        have HO2 := Lib.hid (HO.out.turn TD (fun h => h))
        clear TD hps hrun HK HO
        obtain ⟨wr, hwr⟩ : ∃ x, wo.drewN d = x := ⟨_, rfl⟩
        have ci2 : wr.cell? ⟨b0, off + i, none⟩ = some (.int .i64 x) := by rw [← hwr]; exact ci
        rw [hwr] at HK2 HO2 ⊢
        clear hwr ci
        have hrl := HRL.out
        go_wp2_with (at_builtin; refine stop_here ?_)
        refine go_on ?_
        refine wpList_app rfl _ _ 74 rfl 0 125 j0 _ 2 16 Try.underlying74 ji jz0 jz1 jz2 rfl (.slice ra rs.length rc) rs.length _ rfl (HO2.out.1.alloc (.cells #[.int .i64 x, .int .i64 ((t : Int) - i)] 125)) (some ⟨wr.heap.size, 0, none⟩) 1 1 [.int .i64 x, .int .i64 ((t : Int) - i)] rfl rfl (fun h => by cases h) (news_alloc wr [.int .i64 x, .int .i64 ((t : Int) - i)] 125) (by simp [Value.oneCell']) (by unfold maxLen; omega) (grow_ok (by omega)) (Nat.zero_le _) ?_
        intro v7 w7 k1 k20 _ k4
        obtain ⟨sp7, cp7, rfl⟩ := owns_slice k1
        have hm7 : Mods (fun b => (Value.slice ra rs.length rc).ownBlock = some b) wr w7 := ((Mods.refl _ wr).alloc _).grown k20 (fun b hb _ => hb)
        have T7 : Turn q (ext q wr.heap.size 4) (fun x => x = 4) wr w7 := Turn.of_mods q 4 hm7 (fun b _ hb => HO2.out.2 b hb)
        have HO7 : Hid (Own w7 (ext q wr.heap.size 4) 4 125 2 (.slice sp7 (rs.length + 1) cp7) (rs ++ [(x, (t : Int) - i)]).length (flatV runHd (rs ++ [(x, (t : Int) - i)]))) := Lib.hid ⟨by rw [List.length_append, flatV_app]; exact k1, fun b hb => by
          rcases k4 with k4 | k4
          · rw [k4] at hb
            exact (ext_old (HO2.out.1.lt b hb).2).trans (HO2.out.2 b hb)
          · rw [k4] at hb
            have := Option.some.inj hb
            simp at this
            exact ext_new (by omega)⟩
        have HK7 := Lib.hid (HK2.out.turn T7 (by decide))
        clear k1 k20 k4 hm7 T7 HK2 HO2 ci2
        go_wp2
        go_roundg (l.length - t)
        case rel => exact ⟨t, _, rs ++ [(x, (t : Int) - i)], ht2, rfl, rfl, HK7.out, HO7.out, HRS2.out, by simp; omega⟩
        case measure => omega
    · obtain rfl : l.length = i := by omega
      have hrs := HRS.out
      rw [List.drop_of_length_le (Nat.le_refl _), runsP, List.append_nil] at hrs
      have HRS2 := Lib.hid hrs
      clear hrs
      go_wp2
      go_ret
      have hf : Recs wr 2 (FlatR runHd) (.slice ra rs.length rc) rs := Own.flat (show ∀ a, (runHd a).length = 2 from fun _ => rfl) HO.out
      rw [HRS2.out] at hf
      exact ⟨_, rfl, by rw [HRS2.out]; exact hf, HK.out.below⟩
end Go.Proofs.Ytbmbfifempkhgaa

/- loops.Compress. -/
namespace Go.Proofs.Ytbmbfifempkhgaa
open Go.RowKit

def ComprRet (l : List Int) (w : World) (e : Ending) (w' : World) : Prop := ∃ v E, e = .returned (.tuple #[v, .int .i64 E]) ∧ Below w.heap.size w w' ∧ (E ≠ 0 → ∃ ao cap, v = .slice ao 0 cap) ∧
  (E = 0 → l.length ≤ 2048 ∧ ∃ D n, HasNestD D w' v n ∧ expandP n = l ∧ headsN n ≤ (runsP l).length ∧ leafN n ≤ (runsP l).length ∧ nodesN n ≤ 2 * (runsP l).length)
def leafOf (r : Int × Int) : LItem := (r.2, r.1, .nil)
theorem leaf_wt (r : Int × Int) : Wt1 (leafOf r) 1 := by
  refine ⟨Nat.le_refl _, ?_, Nat.le_refl _, Nat.le_refl _⟩
  show (if 1 < r.2 then 1 else 0) + 0 ≤ 1
  split <;> omega
theorem leaves_wt : ∀ rs : List (Int × Int), Wt (rs.map leafOf) (List.replicate rs.length 1)
  | [] => .nil
  | r :: rs => .cons (leaf_wt r) (leaves_wt rs)
theorem leaves_ex (rs : List (Int × Int)) : (rs.map leafOf).flatMap oneX = rs.flatMap (fun x => List.replicate x.2.toNat x.1) := by
  rw [List.flatMap_map]
  congr 1
  funext r
  simp [oneX, repsP, innerP, leafOf, Nest.isNil]
def stepsC (len wd : Nat) : Nat := (2048 - len) * 17 + wd
/-- what the loop of Compress holds -/
structure CompAt (l : List Int) (NX RB : Nat) (w : World) (wd : Nat) (len : Nat) (wr : World) : Prop where
  is : ∃ D q FS LS dF dB lv nv X N R, Kept w.heap.size q w wr ∧ NamesAt wr q NX FS LS ∧ Dec FS LS dF dB ∧ Blk wr q 14 RB 129 #[lv, nv] ∧ Held (D + 1) wr q lv (ofItems X) ∧ Ints wr q 5 nv (N.map Int.ofNat) ∧ NumRow dF N X ∧ Wt X R ∧ R.sum = (runsP l).length ∧ X.flatMap oneX = l ∧ X.length = len ∧ FS.length ≤ 2048 * (stepsC len wd + 1) ∧ LS.length ≤ 2048 * (stepsC len wd + 1)

set_option maxRecDepth 100000 in
set_option maxHeartbeats 4000000 in
theorem compress_any (w : World) (v : Value) (l : List Int) (hv : Ints w (fun _ => 0) 0 v l) : Calls Try.prog 27 #[v] w (ComprRet l w) := by
  obtain ⟨j0, ji, jz0, jz1, jz2⟩ := info_parts info_Loop
  obtain ⟨ao, cap, rfl⟩ := hv.slice
  have HV := Lib.hid hv
  clear hv
  by_cases hl : 2048 < l.length
  · have hli : (2048 : Int) < l.length := by omega
    go_enter Try.func27, Try.ntmps27
    go_wp2
    go_ret2
    exact ⟨_, 2, rfl, Below.refl _ _, fun _ => ⟨none, 0, rfl⟩, fun h => by cases h⟩
  have hli : ¬ (2048 : Int) < l.length := by omega
  have HL : Hid (l.length ≤ 2048) := Lib.hid (by omega)
  go_enter Try.func27, Try.ntmps27
  go_wp2_with fail
  refine (runs_any _ _ l HV.out HL.out).mono ?_
  rintro e w1 ⟨v1, rfl, hr, hb1⟩
  obtain ⟨ra, rc, rfl⟩ := hr.slice
  have HR := Lib.hid hr
  have HK := Lib.hid ((Kept.start w).of_below 1 hb1)
  have HTM := Lib.hid (runs_times _ l (Nat.le_refl _))
  have HRL : Hid ((runsP l).length ≤ 2048) := Lib.hid (Nat.le_trans (runs_len _ l (Nat.le_refl _)) HL.out)
  have HFL := Lib.hid (runs_flat _ l (Nat.le_refl _))
  clear hr hb1 hl hli
  have HQ0 : Hid (∀ k, ext (fun _ => 0) w.heap.size 1 k ≠ 4) := Lib.hid (fun k => by
    unfold ext
    split
    · exact (by decide : (0 : Nat) ≠ 4)
    · exact (by decide : (1 : Nat) ≠ 4))
  generalize ext (fun _ => 0) w.heap.size 1 = q0 at *
  obtain ⟨rs, hrs⟩ : ∃ rs, runsP l = rs := ⟨_, rfl⟩
  rw [hrs] at HR HTM HRL HFL
  have HRS := Lib.hid hrs
  clear hrs
  have hrl := HRL.out
  go_wp2_with fail
  rw [HRS.out]
  go_loopw [4, 17] (fun u x wr => ∃ (i : Nat) (q : Col) (ps : List (LItem × Value)), i ≤ rs.length ∧ x = .int .i64 i ∧ Kept w.heap.size q w wr ∧ TailN 0 wr q u ps ∧ ps.map Prod.fst = (rs.take i).map leafOf ∧ (∀ r ∈ rs.take i, 0 ≤ r.1 ∧ r.1 < 32) ∧ Turn q0 q (fun x => x = 4) w1 wr) (fun _ x _ => rs.length - (intOf x).toNat)
  case atStart => exact ⟨0, q0, [], Nat.zero_le _, rfl, HK.out, ⟨Own.nil _ _ _ _ _, fun _ h => by cases h⟩, rfl, fun r hr => by simp at hr, Turn.refl _ _ _⟩
  case round =>
    clear HK
    obtain ⟨i, q, ps, hi, rfl, hK, hT, hps, hnd, hbl⟩ := hrel
    have HK := Lib.hid hK
    have HT := Lib.hid hT
    have HPS := Lib.hid hps
    have HND := Lib.hid hnd
    have HBL := Lib.hid hbl
    obtain ⟨pa, pc, rfl⟩ := hT.own.slice
    have hpl : ps.length ≤ 2048 := by
      have := congrArg List.length hps
      simp at this
      omega
    clear hK hT hps hnd hbl
    by_cases hlt : i < rs.length
    · have hlti : (i : Int) < rs.length := by omega
      obtain ⟨b0, off, hao, hcap, -, hrec⟩ := (HR.out.below (fun _ _ _ _ _ h => h) (HBL.out.below (Nat.le_refl _) (fun k _ f => HQ0.out k f))).at (by omega)
      cases hao
      obtain ⟨cs, -, hPR, hcl⟩ := hrec i hlt
      obtain rfl := hPR
      have c0 := hcl 0 (by omega)
      have c1 := hcl 1 (by omega)
      simp [runHd] at c0 c1
      have hcapi : (rs.length : Int) ≤ rc := by omega
      have HTK : Hid (rs.take (i + 1) = rs.take i ++ [rs[i]]) := Lib.hid (List.take_succ_eq_append_getElem hlt)
      clear hcl hrec
      obtain ⟨it, hit⟩ : ∃ x, rs[i] = x := ⟨_, rfl⟩
      rw [hit] at c0 c1 HTK
      have HIT := Lib.hid hit
      clear hit
      obtain ⟨nd, t⟩ := it
      dsimp only at c0 c1
      have hbX := below_alloc wr (.cells #[.int .i64 nd, .int .i64 t] 125)
      have TX := Turn.of_below q 8 hbX
      have HK2 := Lib.hid (HK.out.turn TX (fun h => h))
      have HT2 := Lib.hid (HT.out.turn TX (fun h => h) (fun h => h))
      have HBL2 := Lib.hid (HBL.out.trans TX (fun _ h => h.elim))
      clear hbX TX HK HT HBL
      by_cases hn1 : nd < 0
      · go_wp2
        go_ret2
        exact ⟨_, 100, rfl, HK2.out.below, fun _ => ⟨none, 0, rfl⟩, fun h => by cases h⟩
      by_cases hn2 : 32 ≤ nd
      · go_wp2
        go_ret2
        exact ⟨_, 100, rfl, HK2.out.below, fun _ => ⟨none, 0, rfl⟩, fun h => by cases h⟩
      go_wp2_with (at_builtin; refine stop_here ?_)
      refine go_on ?_
      obtain ⟨w6, hw6⟩ : ∃ x, wr.alloc (.cells #[.int .i64 nd, .int .i64 t] 125) = x := ⟨_, rfl⟩
      have hs6 : w6.heap.size = wr.heap.size + 1 := by rw [← hw6]; simp
      rw [hw6] at HT2 HK2 HBL2 ⊢
      clear hw6 c0 c1
      refine wpList_app rfl _ _ 30 rfl 0 51 j0 _ 3 40 Try.underlying30 ji jz0 jz1 jz2 rfl (.slice pa ps.length pc) ps.length _ rfl (HT2.out.own.1.alloc (.cells #[.int .i64 t, .int .i64 nd, .slice none 0 0] 51)) (some ⟨wr.heap.size + 1, 0, none⟩) 1 1 [.int .i64 t, .int .i64 nd, .slice none 0 0] rfl rfl (fun h => by cases h) (by rw [← hs6]; exact news_alloc w6 [.int .i64 t, .int .i64 nd, .slice none 0 0] 51) (by simp [Value.oneCell']) (by unfold maxLen; omega) (grow_ok (by omega)) (Nat.zero_le _) ?_
      intro v7 w7 k1 k20 _ k4
      have hm7 : Mods (fun b => (Value.slice pa ps.length pc).ownBlock = some b) w6 w7 := ((Mods.refl _ w6).alloc _).grown k20 (fun b hb _ => hb)
      obtain ⟨T7, N7⟩ := HT2.out.grow (a := (t, nd, .nil)) (y := .slice none 0 0) held_nil k1 hm7 (k4.imp id (fun k4 b hb => by rw [k4] at hb; have := Option.some.inj hb; simp at this; omega))
      obtain ⟨sp7, cp7, rfl⟩ := owns_slice k1
      have HK7 := Lib.hid (HK2.out.turn T7 (by decide))
      have HT7 := Lib.hid N7
      have HBL7 := Lib.hid (HBL2.out.trans T7 (fun _ h => h))
      have HPS7 : Hid ((ps ++ [((t, nd, Nest.nil), Value.slice none 0 0)]).map Prod.fst = (rs.take (i + 1)).map leafOf) := Lib.hid (by rw [HTK.out, List.map_append, List.map_append, HPS.out]; rfl)
      have HND7 : Hid (∀ r ∈ rs.take (i + 1), 0 ≤ r.1 ∧ r.1 < 32) := Lib.hid (by
        rw [HTK.out]
        intro r hr
        rcases List.mem_append.1 hr with hr | hr
        · exact HND.out r hr
        · obtain rfl := List.mem_singleton.1 hr
          exact ⟨by show 0 ≤ nd; omega, by show nd < 32; omega⟩)
      clear T7 N7 k1 k20 k4 hm7 HK2 HT2 HBL2 HPS HND HTK hs6
      go_wp2
      go_roundw
      case rel => exact ⟨i + 1, _, _, hlt, by go_num, HK7.out, HT7.out, HPS7.out, HND7.out, HBL7.out⟩
      case measure => simp [intOf]; omega
    · obtain rfl : rs.length = i := by omega
      have HPS2 := HPS.out
      rw [List.take_of_length_le (Nat.le_refl _)] at HPS2
      have HND2 := HND.out
      rw [List.take_of_length_le (Nat.le_refl _)] at HND2
      have HPS3 := Lib.hid HPS2
      have HND3 := Lib.hid HND2
      have hpl2 : ps.length = rs.length := by
        have := congrArg List.length HPS2
        simpa using this
      have HPL := Lib.hid hpl2
      -- what was built stays
      have hKr : Kept w.heap.size (fun k => if q k = 4 then 5 else q k) w wr := ⟨HK.out.below, fun k hk => by show (if q k = 4 then 5 else q k) = 0; rw [HK.out.old k hk]; rfl, HK.out.size⟩
      have hHr : Held 1 wr (fun k => if q k = 4 then 5 else q k) (.slice pa ps.length pc) (ofItems (rs.map leafOf)) := by
        rw [← HPS3.out]
        exact HT.out.stays (fun k _ h => by show (if q k = 4 then 5 else q k) = 5; rw [if_pos h]) (fun k _ h => by show (if q k = 4 then 5 else q k) = 5; rw [h]; rfl)
      have HK5 := Lib.hid hKr
      have HH5 := Lib.hid hHr
      generalize (fun k => if q k = 4 then 5 else q k) = q5 at *
      clear HPS2 HND2 hpl2 hKr hHr HK HT HPS HND HBL
      go_wp2_with fail
      refine (fresh_any _ q5).mono ?_
      rintro e w6 ⟨NX, q6, rfl, T6, hN6⟩
      have HN6 := Lib.hid hN6
      have HK6 := Lib.hid (HK5.out.turn T6 (fun h => h))
      have HH6 := Lib.hid (HH5.out.turn T6 (fun h => h))
      clear T6 hN6 HK5 HH5
      go_wp2_with fail
      have hleaf : ∀ x ∈ rs.map leafOf, x.2.2 = .nil ∧ WfL [x.1, x.2.1, 0] := by
        intro x hx
        obtain ⟨r, hr, rfl⟩ := List.mem_map.1 hx
        have h1 := HTM.out r hr
        have h2 := HND3.out r hr
        have h3 := HL.out
        refine ⟨rfl, fun y hy => ?_⟩
        simp [leafOf] at hy
        omega
      have HLEAF := Lib.hid hleaf
      clear hleaf
      refine (named_any _ q6 NX [] [] [] [] _ (rs.map leafOf) HN6.out Dec.empty HH6.out HLEAF.out ⟨by simp, by simp; omega⟩).mono ?_
      rintro e w7 ⟨nv, q7, FS7, dF7, N7, rfl, T7, hN7, hD7, -, hI7, hR7, hl7⟩
      have HN7 := Lib.hid hN7
      have HD7 := Lib.hid hD7
      have HI7 := Lib.hid hI7
      have HR7 := Lib.hid hR7
      have HK7 := Lib.hid (HK6.out.turn T7 (by decide))
      have HH7 := Lib.hid (HH6.out.turn T7 (by decide))
      have HL7 := Lib.hid hl7
      obtain ⟨na, nc, rfl⟩ := hI7.slice
      rw [List.length_map] at HI7 ⊢
      clear T7 hN7 hD7 hI7 hR7 hl7 HN6 HK6 HH6
      have hlen7 : (rs.map leafOf).length = rs.length := by simp
      have hbR := below_alloc w7 (.cells #[.slice pa ps.length pc, .slice na N7.length nc] 129)
      have hR : Blk _ (ext q7 w7.heap.size 14) 14 _ _ _ := ⟨heap_alloc_new w7 (.cells #[.slice pa ps.length pc, .slice na N7.length nc] 129), ext_new (Nat.le_refl _)⟩
      have TR := Turn.of_below q7 14 hbR
      have HW0 : Hid (CompAt l NX w7.heap.size w 1 rs.length (w7.alloc (.cells #[.slice pa ps.length pc, .slice na N7.length nc] 129))) := Lib.hid
        ⟨0, _, FS7, [], dF7, [], _, _, rs.map leafOf, N7, List.replicate rs.length 1, HK7.out.turn TR (fun h => h), HN7.out.turn TR (fun h => h) (fun h => h) (fun h => h), HD7.out, hR, HH7.out.turn TR (fun h => h), HI7.out.turn TR (fun h => h), HR7.out, leaves_wt rs, by rw [HRS.out]; simp, by rw [leaves_ex]; exact HFL.out, hlen7, by have := HL7.out; rw [hlen7] at this; simp at this; unfold stepsC; omega, by simp⟩
      clear hbR hR TR HN7 HD7 HI7 HR7 HK7 HH7 HL7 hlen7
      go_wp2_with fail
      obtain ⟨w8, hw8⟩ : ∃ x, w7.alloc (.cells #[.slice pa ps.length pc, .slice na N7.length nc] 129) = x := ⟨_, rfl⟩
      obtain ⟨RB, hRB⟩ : ∃ x, w7.heap.size = x := ⟨_, rfl⟩
      rw [hw8, hRB] at HW0
      rw [hw8, hRB]
      clear hw8 hRB
      go_loopg [9] (rs.length * 17 + 16) (fun g x wr => ∃ wd len : Nat, 1 ≤ wd ∧ wd ≤ 17 ∧ len ≤ 2048 ∧ x = .int .i64 wd ∧ g = len * 17 + (17 - wd) ∧ CompAt l NX RB w wd len wr)
      case atStart => exact ⟨1, rs.length, Nat.le_refl _, by omega, hrl, rfl, by omega, HW0.out⟩
      case round =>
        clear HW0
        obtain ⟨wd, len, hwd1, hwd2, hlen, rfl, rfl, D, q, FS, LS, dF, dB, lv, nv, X, N, R, hK, hN, hD, hB, hH, hI, hNR, hWt, hsum, hex, hXl, hF, hL⟩ := hrel
        obtain ⟨la, lc, rfl⟩ := nestD_slice (D + 1) (hH q wr (Turn.refl _ _ _))
        obtain ⟨na2, nc2, rfl⟩ := hI.slice
        rw [List.length_map] at hI hB
        rw [ofItems_items] at hH hB
        rw [hXl] at hH hB
        have HK := Lib.hid hK
        have HN := Lib.hid hN
        have HD := Lib.hid hD
        have HB := Lib.hid hB
        have HH := Lib.hid hH
        have HI := Lib.hid hI
        have HNR := Lib.hid hNR
        have HWT := Lib.hid hWt
        have HSUM := Lib.hid hsum
        have HEX := Lib.hid hex
        have HXL := Lib.hid hXl
        have HF := Lib.hid hF
        have HLS := Lib.hid hL
        have b0 := hB.cell 0 _ rfl
        have b1 := hB.cell 1 _ rfl
        have hwi : (wd : Int) ≤ 17 := by omega
        have hw1i : (1 : Int) ≤ wd := by omega
        clear hK hN hD hB hH hI hNR hWt hsum hex hXl hF hL
        by_cases hgo : wd ≤ 16 ∧ 2 * wd ≤ len
        · obtain ⟨h16, h2⟩ := hgo
          have h16i : (wd : Int) ≤ 16 := by omega
          have h2i : 2 * (wd : Int) ≤ len := by omega
          go_wp2_with fail
          have hst : stepsC len wd ≤ 40000 := by unfold stepsC; omega
          have hfs : FS.length ≤ 1000000000000 ∧ LS.length ≤ 1000000000000 ∧ X.length ≤ 2048 := by
            have h1 := HF.out
            have h2 := HLS.out
            have h3 := HXL.out
            refine ⟨?_, ?_, ?_⟩ <;> omega
          have HFS := Lib.hid hfs
          clear hfs b0 b1
          refine (fold_any D _ q NX FS LS dF dB _ _ X N R wd HN.out HD.out HH.out HI.out HNR.out HWT.out ⟨hwd1, h16⟩ HFS.out).mono ?_
          rintro e w9 ⟨lv9, nv9, q9, rfl, FS9, LS9, dF9, dB9, X9, N9, R9, T9, hN9, hD9, -, -, hH9, hI9, hNR9, hW9, hs9, he9, hl9, hf9, hL9⟩
          obtain ⟨la9, lc9, rfl⟩ := nestD_slice (D + 2) (hH9 q9 w9 (Turn.refl _ _ _))
          obtain ⟨na9, nc9, rfl⟩ := hI9.slice
          rw [ofItems_items] at hH9 ⊢
          rw [List.length_map] at hI9 ⊢
          have hbX := below_alloc w9 (.cells #[.slice la9 X9.length lc9, .slice na9 N9.length nc9] 129)
          have hcx := heap_alloc_new w9 (.cells #[.slice la9 X9.length lc9, .slice na9 N9.length nc9] 129)
          have TX := Turn.of_below q9 8 hbX
          have hB9 := (HB.out.turn T9 (by decide)).turn TX (fun h => h)
          have x0 := cells_row _ _ hcx 0 _ rfl
          have x1 := cells_row _ _ hcx 1 _ rfl
          have b0 := hB9.cell 0 _ rfl
          have b1 := hB9.cell 1 _ rfl
          have f0 := hB9.frozen 0
          have f1 := hB9.frozen 1
          obtain ⟨b10, T10⟩ := hB9.set 0 (.slice la9 X9.length lc9)
          obtain ⟨b11, T11⟩ := b10.set 1 (.slice na9 N9.length nc9)
          have hne : w9.heap.size ≠ RB := fun e => by
            have := (HB.out.turn T9 (by decide)).lt
            omega
          have hl9' : X9.length ≤ len := by have := HXL.out; omega
          have HNEW : Hid (∀ wd', 1 ≤ wd' → wd' ≤ 17 → stepsC len wd + 1 ≤ stepsC X9.length wd' → CompAt l NX RB w wd' X9.length (((w9.alloc (.cells #[.slice la9 X9.length lc9, .slice na9 N9.length nc9] 129)).setCell ⟨RB, 0, none⟩ (.slice la9 X9.length lc9)).setCell ⟨RB, 1, none⟩ (.slice na9 N9.length nc9))) := Lib.hid (fun wd' _ _ hS => by
            refine ⟨D + 1, _, FS9, LS9, dF9, dB9, _, _, X9, N9, R9, (((HK.out.turn T9 (by decide)).turn TX (fun h => h)).turn T10 (by decide)).turn T11 (by decide), ((hN9.turn TX (fun h => h) (fun h => h) (fun h => h)).turn T10 (by decide) (by decide) (by decide)).turn T11 (by decide) (by decide) (by decide), hD9, b11, ((hH9.turn TX (fun h => h)).turn T10 (by decide)).turn T11 (by decide), ((hI9.turn TX (fun h => h)).turn T10 (by decide)).turn T11 (by decide), hNR9, hW9, by rw [hs9]; exact HSUM.out, by rw [he9]; exact HEX.out, rfl, ?_, ?_⟩
            · have h1 := HF.out
              have h2 := HXL.out
              have h3 : 2048 * (stepsC len wd + 1) + 2048 ≤ 2048 * (stepsC X9.length wd' + 1) := by omega
              omega
            · have h1 := HLS.out
              have h2 := HXL.out
              have h3 : 2048 * (stepsC len wd + 1) + 2048 ≤ 2048 * (stepsC X9.length wd' + 1) := by omega
              omega)
          have HNE := Lib.hid hne
          clear hbX hcx TX hB9 b10 T10 b11 T11 T9 hN9 hD9 hH9 hI9 hNR9 hW9 hs9 he9 hl9 hf9 hL9 hne
          by_cases hsh : X9.length < len
          · have hshi : (X9.length : Int) < len := by omega
            go_wp2
            go_roundg (X9.length * 17 + (17 - 1))
            case rel => exact ⟨1, X9.length, Nat.le_refl _, by omega, by omega, rfl, rfl, HNEW.out 1 (Nat.le_refl _) (by omega) (by unfold stepsC; omega)⟩
            case measure => omega
          · obtain hle : X9.length = len := by omega
            have hshi : ¬ (X9.length : Int) < len := by omega
            have hw := HNEW.out (wd + 1) (by omega) (by omega) (by rw [hle]; unfold stepsC; omega)
            have HW := Lib.hid hw
            have HLE := Lib.hid hle
            clear hw hle
            go_wp2
            go_roundg (X9.length * 17 + (17 - (wd + 1)))
            case rel => exact ⟨wd + 1, X9.length, by omega, by omega, by omega, by go_num, rfl, HW.out⟩
            case measure => have := HLE.out; omega
        · have hgi : ¬ (wd : Int) ≤ 16 ∨ ((wd : Int) ≤ 16 ∧ ¬ 2 * (wd : Int) ≤ len) := by omega
          have hnest := HH.out q wr (Turn.refl _ _ _)
          have HNEST := Lib.hid hnest
          have hsums := HWT.out.sums
          have hnodes : nodesN (ofItems X) ≤ 65536 := by
            rw [nodesN_of]
            have := HSUM.out
            rw [HRS.out] at this
            omega
          have HNODES := Lib.hid hnodes
          have HSUMS := Lib.hid hsums
          clear hnest hsums hnodes hgo
          have hown : ∀ (wz : World), wz = wr → Calls Try.prog 69 #[.slice la len lc] wz (LentNRet (D + 1) wr (ofItems X)) := fun wz e => by
            subst e
            exact lownN_any (D + 1) wz _ _ HNEST.out HNODES.out
          have HOWN := Lib.hid hown
          clear hown
          rcases hgi with hgi | ⟨hgi2, hgi⟩
          all_goals
            go_wp2_with fail
            refine (HOWN.out _ rfl).mono ?_
            rintro e w9 ⟨v9, rfl, hn9, hb9⟩
            obtain ⟨va, vc, hvs⟩ := nestD_slice _ (hn9 w9 (Mods.refl _ _))
            subst hvs
            have HN9 := Lib.hid (hn9 w9 (Mods.refl _ _))
            have HB9 := Lib.hid (HK.out.below.trans (hb9.mono HK.out.size))
            clear hn9 hb9
            go_wp2
            go_ret2
            refine ⟨_, 0, rfl, HB9.out, fun h => absurd rfl h, fun _ => ⟨HL.out, D + 1, ofItems X, HN9.out, ?_, ?_, ?_, ?_⟩⟩
            · rw [expand_ofItems]; exact HEX.out
            · rw [headsN_of, ← HSUM.out]; exact HSUMS.out.1
            · rw [leafN_of, ← HSUM.out]; exact HSUMS.out.2.1
            · rw [nodesN_of, ← HSUM.out]; have := HSUMS.out.2.2.1; omega
end Go.Proofs.Ytbmbfifempkhgaa

/- The reference's Ints: a list of its own. -/
namespace Go.Proofs.Ytbmbfifempkhgaa
open Go.RowKit

def IntsRet (w : World) (l : List Int) (e : Ending) (w' : World) : Prop := ∃ v, e = .returned v ∧ w'.ownsRow w.heap.size 3 1 v l.length (ivs l) ∧ Below w.heap.size w w'
theorem rints_any {o : Col} {c : Nat} (w : World) (ao : Option Addr) (n cap : Nat) (l : List Int) (h : Ints w o c (.slice ao n cap) l) (hn : l.length ≤ 17600000000000) : Calls Try.prog 23 #[.slice ao n cap] w (IntsRet w l) := by
  obtain ⟨i0, hi, hz0, hz1, hz2⟩ := info_parts info_int
  obtain ⟨hnone, hnews⟩ := h.news
  obtain rfl := h.len
  have HN := Lib.hid hn
  have Hnone := Lib.hid hnone
  have Hnews := Lib.hid hnews
  clear hn hnone hnews h
  go_enter Try.func23, Try.ntmps23
  go_wp2_with (at_builtin; refine stop_here ?_)
  refine go_on ?_
  refine wpList_app rfl _ _ 52 rfl w.heap.size 3 i0 _ 1 8 Try.underlying52 hi hz0 hz1 hz2 rfl (.slice none 0 0) 0 [] rfl (World.ownsRow_nil w w.heap.size 3 1) ao l.length cap (ivs l) rfl (by simp) Hnone.out (fun ad had j u hu => Hnews.out ad had j u hu) (ivs_one l) (by have := HN.out; unfold maxLen; omega) (grow_ok (by have := HN.out; omega)) (Nat.le_refl _) ?_
  intro v' w2 g1 g20 g3 g4
  have g2 : w.grownBy w2 (Value.slice none 0 0).ownBlock := g20
  have hb : Below w.heap.size w w2 := ((Mods.refl (fun _ => False) w).grown g2 (fun k hk hlt => by cases hk)).below (Nat.le_refl _) (fun _ _ h => h)
  simp only [Nat.zero_add, List.nil_append] at g1
  have G1 := Lib.hid g1
  clear g1 g20 g2 g3 g4
  obtain ⟨sv, cv, rfl⟩ := owns_slice G1.out
  go_wp2
  go_ret
  exact ⟨_, rfl, by simpa using G1.out, hb⟩
end Go.Proofs.Ytbmbfifempkhgaa

/- EmitSmall, walked. -/
namespace Go.Proofs.Ytbmbfifempkhgaa
open Go.RowKit

theorem nsized_of_nodes : ∀ (l : Nest), nodesN l ≤ 65536 → NSized l
  | .nil, _ => trivial
  | .cons t nd b r, h => by
    rw [nodesN] at h
    have := nodesN_items r
    exact ⟨nsized_of_nodes b (by omega), nsized_of_nodes r (by omega), by omega⟩



set_option maxRecDepth 100000 in
set_option maxHeartbeats 4000000 in
theorem small_all (w : World) (vg vp v : Value) (g : GGraph) (p : GPlan) (list : List Int) (hg : HasGraph w vg g) (hp : HasPlan w vp p) (hv : Ints w (fun _ => 0) 0 v list) (hgs : GSized g) (hgr : Great g) (hll : list.length ≤ 17600000000000) (hrl : p.regions.length ≤ 17600000000000) : Calls Try.prog 6 #[vg, vp, v] w (Tells (.bool true) w) := by
  obtain ⟨va, ve, vi, vo, rfl, ra, re, ri, ro⟩ := hg.shape
  obtain ⟨vr, rfl, rr⟩ := hp
  obtain ⟨aa, ac, rfl⟩ := ra.slice
  obtain ⟨ae, ec, rfl⟩ := re.slice
  obtain ⟨ai, ic, rfl⟩ := ri.slice
  obtain ⟨ao, oc, rfl⟩ := ro.slice
  obtain ⟨ar, rc, rfl⟩ := rr.slice
  have RG := Lib.hid hg
  have RP : Hid (HasPlan w (.agg #[.slice ar p.regions.length rc, .int .i64 p.total]) p) := Lib.hid ⟨_, rfl, rr⟩
  have HV := Lib.hid hv
  obtain ⟨al9, ac9, rfl⟩ := hv.slice
  have HGS := Lib.hid hgs
  have HGR := Lib.hid hgr
  have HLL := Lib.hid hll
  have HRL := Lib.hid hrl
  have RE := Lib.hid re
  have RR := Lib.hid rr
  have hb1 := below_alloc w (.cells #[.string g.name, .slice aa g.actors.length ac, .slice ae g.edges.length ec, .slice ai g.ins.length ic, .slice ao g.outs.length oc] 26)
  have h1 := heap_alloc_new w (.cells #[.string g.name, .slice aa g.actors.length ac, .slice ae g.edges.length ec, .slice ai g.ins.length ic, .slice ao g.outs.length oc] 26)
  have hs1 : (w.alloc (.cells #[.string g.name, .slice aa g.actors.length ac, .slice ae g.edges.length ec, .slice ai g.ins.length ic, .slice ao g.outs.length oc] 26)).heap.size = w.heap.size + 1 := by simp
  have hb2 := below_alloc (w.alloc (.cells #[.string g.name, .slice aa g.actors.length ac, .slice ae g.edges.length ec, .slice ai g.ins.length ic, .slice ao g.outs.length oc] 26)) (.cells #[.slice ar p.regions.length rc, .int .i64 p.total] 29)
  have h2 := heap_alloc_new (w.alloc (.cells #[.string g.name, .slice aa g.actors.length ac, .slice ae g.edges.length ec, .slice ai g.ins.length ic, .slice ao g.outs.length oc] 26)) (.cells #[.slice ar p.regions.length rc, .int .i64 p.total] 29)
  have h3 := block_alloc h1 (.cells #[.slice ar p.regions.length rc, .int .i64 p.total] 29)
  have HT := Lib.hid (((Then.refl w).step hb1).step hb2)
  rw [hs1] at h2
  obtain ⟨W, hW⟩ : ∃ x, (w.alloc (.cells #[.string g.name, .slice aa g.actors.length ac, .slice ae g.edges.length ec, .slice ai g.ins.length ic, .slice ao g.outs.length oc] 26)).alloc (.cells #[.slice ar p.regions.length rc, .int .i64 p.total] 29) = x := ⟨_, rfl⟩
  rw [hW] at h2 h3 HT
  have HGB := Lib.hid h3
  have HPB := Lib.hid h2
  have y0 := cells_row _ _ h3 0 _ rfl
  have y1 := cells_row _ _ h3 1 _ rfl
  have y2 := cells_row _ _ h3 2 _ rfl
  have y3 := cells_row _ _ h3 3 _ rfl
  have y4 := cells_row _ _ h3 4 _ rfl
  have y5 := cells_row _ _ h2 0 _ rfl
  have y6 := cells_row _ _ h2 1 _ rfl
  clear ra re ri ro rr hg hgs hgr hll hrl hv hb1 hb2 h1 h2 h3 hs1
  go_enter Try.func6, Try.ntmps6
  go_wp2_with fail
  clear hW y0 y1 y2 y3 y4 y5 y6
  refine (heavy_graph _ _ g (RG.out.below HT.out.below) HGR.out).mono ?_
  rintro e wc ⟨b, rfl, hbl, hb⟩
  replace HT := Lib.hid (HT.out.step hb)
  replace HGB := Lib.hid ((hb.block _ (block_lt HGB.out)).trans HGB.out)
  replace HPB := Lib.hid ((hb.block _ (block_lt HPB.out)).trans HPB.out)
  clear hb
  have p0 := cells_row _ _ HPB.out 0 _ rfl
  cases b with
  | true =>
    go_wp2
    go_ret
    exact ⟨rfl, HT.out.below⟩
  | false =>
    have HH := Lib.hid (hbl rfl)
    clear hbl
    by_cases hr : 65536 < p.regions.length
    · have hri : (65536 : Int) < p.regions.length := by omega
      go_wp2
      go_ret
      exact ⟨rfl, HT.out.below⟩
    have hri : ¬ (65536 : Int) < p.regions.length := by omega
    have HRG : Hid (p.regions.length ≤ 65536) := Lib.hid (by omega)
    have HPS := Lib.hid HGR.out.params
    have HES := Lib.hid HGR.out.starts
    clear hr
    go_wp2_with fail
    clear p0 hri
    refine (rints_any _ al9 list.length ac9 list (HV.out.below HT.out.below) HLL.out).mono ?_
    rintro e wd ⟨v1, rfl, ho1, hb⟩
    obtain ⟨ia9, ic9, rfl⟩ := owns_slice ho1
    have HI1 : Hid (Ints wd (fun _ => 0) 0 (.slice ia9 list.length ic9) list) := Lib.hid (Own.vals ⟨owns_base ho1 (fun _ _ => Nat.zero_le _), fun _ _ => rfl⟩)
    replace HT := Lib.hid (HT.out.step hb)
    replace HGB := Lib.hid ((hb.block _ (block_lt HGB.out)).trans HGB.out)
    replace HPB := Lib.hid ((hb.block _ (block_lt HPB.out)).trans HPB.out)
    clear hb ho1
    go_wp2_with fail
    refine (compress_any _ _ list HI1.out).mono ?_
    rintro e wc ⟨vl, CE, rfl, hb, hce1, hce0⟩
    replace HT := Lib.hid (HT.out.step hb)
    replace HGB := Lib.hid ((hb.block _ (block_lt HGB.out)).trans HGB.out)
    replace HPB := Lib.hid ((hb.block _ (block_lt HPB.out)).trans HPB.out)
    clear hb HI1
    -- the nest that is compiled
    obtain ⟨D, l, hnl, hfacts⟩ : ∃ D l, HasNestD D wc vl l ∧ nodesN l ≤ 65536 ∧ (CE ≠ 0 → l = .nil) ∧ (CE = 0 → list.length ≤ 2048 ∧ expandP l = list ∧ headsN l ≤ (runsP list).length ∧ leafN l ≤ (runsP list).length) := by
      by_cases h0 : CE = 0
      · obtain ⟨h1, D, n, h2, h3, h4, h5, h6⟩ := hce0 h0
        have := runs_len _ list (Nat.le_refl _)
        exact ⟨D, n, h2, by omega, fun h => absurd h0 h, fun _ => ⟨h1, h3, h4, h5⟩⟩
      · obtain ⟨ao, cap, rfl⟩ := hce1 h0
        exact ⟨0, .nil, ⟨rfl, _, _, rfl⟩, by simp [nodesN], fun _ => rfl, fun h => absurd h h0⟩
    have HNS := Lib.hid (nsized_of_nodes l hfacts.1)
    have HFC := Lib.hid hfacts
    obtain ⟨an, nc, rfl⟩ := nestD_slice D hnl
    have HNL := Lib.hid hnl
    clear hnl hfacts hce1 hce0
    go_wp2_with fail
    go_cut [9, 10] from 28 to 37 (fun pp ee wx => ∃ X, pp = .pointer (some ⟨X, 0, none⟩) ∧ ee = .int .i64 (makeE g p l) ∧ Then w wx ∧ wx.heap[w.heap.size]? = some (.cells #[.string g.name, .slice aa g.actors.length ac, .slice ae g.edges.length ec, .slice ai g.ins.length ic, .slice ao g.outs.length oc] 26 (0, 0)) ∧ wx.heap[w.heap.size + 1]? = some (.cells #[.slice ar p.regions.length rc, .int .i64 p.total] 29 (0, 0)) ∧ ProgAt wx X (makeP g p l))
    case first =>
      have hb : Below wc.heap.size wc wc.drew := below_dr (n := 1) (Below.refl _ _)
      replace HT := Lib.hid (HT.out.step hb)
      replace HGB := Lib.hid ((hb.block _ (block_lt HGB.out)).trans HGB.out)
      replace HPB := Lib.hid ((hb.block _ (block_lt HPB.out)).trans HPB.out)
      replace HNL := Lib.hid (nestD_below D HNL.out hb)
      clear hb
      refine wp_region_drift (fun w' => w'.cell? ⟨w.heap.size, 0, none⟩ = some (.string g.name) ∧ w'.cell? ⟨w.heap.size, 1, none⟩ = some (.slice aa g.actors.length ac) ∧ w'.cell? ⟨w.heap.size, 2, none⟩ = some (.slice ae g.edges.length ec) ∧ w'.cell? ⟨w.heap.size, 3, none⟩ = some (.slice ai g.ins.length ic) ∧ w'.cell? ⟨w.heap.size, 4, none⟩ = some (.slice ao g.outs.length oc) ∧ w'.cell? ⟨w.heap.size + 1, 0, none⟩ = some (.slice ar p.regions.length rc) ∧ w'.cell? ⟨w.heap.size + 1, 1, none⟩ = some (.int .i64 p.total)) [0, 2, 4, 6, 7, 8] [1, 3, 5] [0, 2, 4] 9 (by kernel_rfl) (by kernel_rfl) rfl ⟨cells_row _ _ HGB.out 0 _ rfl, cells_row _ _ HGB.out 1 _ rfl, cells_row _ _ HGB.out 2 _ rfl, cells_row _ _ HGB.out 3 _ rfl, cells_row _ _ HGB.out 4 _ rfl, cells_row _ _ HPB.out 0 _ rfl, cells_row _ _ HPB.out 1 _ rfl⟩ ?_
      intro Q' hQ' hQ2
      simp only [pickOps, List.flatMap_cons, List.flatMap_nil, List.drop_succ_cons, List.drop_zero, List.take_succ_cons, List.take_zero, List.cons_append, List.nil_append, List.append_nil]
      repeat (first
        | (refine wpReads_skip (by rfl) ?_; (try simp only [Act.put, List.setIfInBounds_toArray, List.set_cons_zero, List.set_cons_succ]))
        | (refine wpReads_cons ?_ (by rfl) (by rfl) ?_ ?_; rotate_left; (intro wz hz; (try dsimp only at hz); go_simp; try with_reducible rfl); (try simp only [Act.put, List.setIfInBounds_toArray, List.set_cons_zero, List.set_cons_succ]))
        | (refine wpReads_any ?_ (by rfl) ?_ ?_; rotate_left; (intro wz; go_simp; try with_reducible rfl); (try simp only [Act.put, List.setIfInBounds_toArray, List.set_cons_zero, List.set_cons_succ])))
      refine wpReads_nil ?_
      obtain ⟨wd, hwd⟩ : ∃ x, wc.drew = x := ⟨_, rfl⟩
      rw [hwd] at HT HGB HPB HNL ⊢
      clear hwd
      obtain ⟨wc, hwc⟩ : ∃ x, x = wd := ⟨_, rfl⟩
      subst hwc
      refine wpAnyT_two (i := 1) (k := 9) (by kernel_rfl) ?_ ?_
      · skip
        simp only [pickOps, List.flatMap_cons, List.flatMap_nil, List.drop_succ_cons, List.drop_zero, List.take_succ_cons, List.take_zero, List.append_nil]
        go_wp2_with fail
        refine (lentgraph_any _ _ g (RG.out.below HT.out.below) HH.out HPS.out HES.out).mono ?_
        rintro e wc ⟨vgl, rfl, hgl, hb⟩
        replace HT := Lib.hid (HT.out.step hb)
        replace HGB := Lib.hid ((hb.block _ (block_lt HGB.out)).trans HGB.out)
        replace HPB := Lib.hid ((hb.block _ (block_lt HPB.out)).trans HPB.out)
        try replace HGL := Lib.hid (HGL.out.below hb)
        try replace HPL := Lib.hid (HPL.out.below hb)
        try replace HNL := Lib.hid (nestD_below D HNL.out hb)
        try replace HX := Lib.hid ((hb.block _ (block_lt HX.out)).trans HX.out)
        have HGL := Lib.hid hgl
        clear hgl hb
        go_wp2_with fail
        refine ⟨fun _ _ => ⟨cells_row _ _ HGB.out 0 _ rfl, cells_row _ _ HGB.out 1 _ rfl, cells_row _ _ HGB.out 2 _ rfl, cells_row _ _ HGB.out 3 _ rfl, cells_row _ _ HGB.out 4 _ rfl, cells_row _ _ HPB.out 0 _ rfl, cells_row _ _ HPB.out 1 _ rfl⟩, ?_⟩
        refine wpAnyT_two (i := 3) (k := 9) (by kernel_rfl) ?_ ?_
        · skip
          simp only [pickOps, List.flatMap_cons, List.flatMap_nil, List.drop_succ_cons, List.drop_zero, List.take_succ_cons, List.take_zero, List.append_nil]
          go_wp2_with fail
          refine (lentplan_any _ _ p (RP.out.below HT.out.below) (by have := HH.out; omega)).mono ?_
          rintro e wc ⟨vpl, rfl, hpl, hb⟩
          replace HT := Lib.hid (HT.out.step hb)
          replace HGB := Lib.hid ((hb.block _ (block_lt HGB.out)).trans HGB.out)
          replace HPB := Lib.hid ((hb.block _ (block_lt HPB.out)).trans HPB.out)
          try replace HGL := Lib.hid (HGL.out.below hb)
          try replace HPL := Lib.hid (HPL.out.below hb)
          try replace HNL := Lib.hid (nestD_below D HNL.out hb)
          try replace HX := Lib.hid ((hb.block _ (block_lt HX.out)).trans HX.out)
          have HPL := Lib.hid hpl
          clear hpl hb
          go_wp2_with fail
          refine ⟨fun _ _ => ⟨cells_row _ _ HGB.out 0 _ rfl, cells_row _ _ HGB.out 1 _ rfl, cells_row _ _ HGB.out 2 _ rfl, cells_row _ _ HGB.out 3 _ rfl, cells_row _ _ HGB.out 4 _ rfl, cells_row _ _ HPB.out 0 _ rfl, cells_row _ _ HPB.out 1 _ rfl⟩, ?_⟩
          refine wpAnyT_two (i := 5) (k := 9) (by kernel_rfl) ?_ ?_
          · skip
            simp only [pickOps, List.flatMap_cons, List.flatMap_nil, List.drop_succ_cons, List.drop_zero, List.take_succ_cons, List.take_zero, List.append_nil]
            go_wp2_with fail
            try have HXL := Lib.hid (block_lt HX.out)
            refine (make_fresh D _ _ _ _ g p l HGL.out HPL.out HNL.out HGS.out HNS.out).mono ?_
            rintro e wm ⟨v4, rfl, hpf, hb⟩
            obtain ⟨vp, vl, vo, rfl, rp, rl, ro⟩ := hpf _ (Mods.refl _ _)
            obtain ⟨ap, cp, rfl⟩ := rp.slice
            obtain ⟨al, cl, rfl⟩ := rl.slice
            obtain ⟨ao2, co, rfl⟩ := ro.slice
            have HPF := Lib.hid hpf
            clear rp rl ro hpf HGL HPL HNL
            replace HT := Lib.hid (HT.out.step hb)
            replace HGB := Lib.hid ((hb.block _ (block_lt HGB.out)).trans HGB.out)
            replace HPB := Lib.hid ((hb.block _ (block_lt HPB.out)).trans HPB.out)
            try replace HGL := Lib.hid (HGL.out.below hb)
            try replace HPL := Lib.hid (HPL.out.below hb)
            try replace HNL := Lib.hid (nestD_below D HNL.out hb)
            try replace HX := Lib.hid ((hb.block _ (block_lt HX.out)).trans HX.out)
            clear hb
            go_wp2_with fail
            refine ⟨fun _ _ => ⟨cells_row _ _ HGB.out 0 _ rfl, cells_row _ _ HGB.out 1 _ rfl, cells_row _ _ HGB.out 2 _ rfl, cells_row _ _ HGB.out 3 _ rfl, cells_row _ _ HGB.out 4 _ rfl, cells_row _ _ HPB.out 0 _ rfl, cells_row _ _ HPB.out 1 _ rfl⟩, ?_⟩
            refine wpAnyT_later (r := [6, 7, 8]) (n := 3) hQ2 (by kernel_rfl) ⟨cells_row _ _ HGB.out 0 _ rfl, cells_row _ _ HGB.out 1 _ rfl, cells_row _ _ HGB.out 2 _ rfl, cells_row _ _ HGB.out 3 _ rfl, cells_row _ _ HGB.out 4 _ rfl, cells_row _ _ HPB.out 0 _ rfl, cells_row _ _ HPB.out 1 _ rfl⟩ ?_
            simp only [pickOps, List.flatMap_cons, List.flatMap_nil, List.drop_succ_cons, List.drop_zero, List.take_succ_cons, List.take_zero, List.cons_append, List.nil_append, List.append_nil]
            repeat (first
              | (refine wpReads_skip (by rfl) ?_; (try simp only [Act.put, List.setIfInBounds_toArray, List.set_cons_zero, List.set_cons_succ]))
              | (refine wpReads_cons ?_ (by rfl) (by rfl) ?_ ?_; rotate_left; (intro wz hz; (try dsimp only at hz); go_simp; try with_reducible rfl); (try simp only [Act.put, List.setIfInBounds_toArray, List.set_cons_zero, List.set_cons_succ]))
              | (refine wpReads_any ?_ (by rfl) ?_ ?_; rotate_left; (intro wz; go_simp; try with_reducible rfl); (try simp only [Act.put, List.setIfInBounds_toArray, List.set_cons_zero, List.set_cons_succ])))
            refine wpReads_nil ?_
            clear hQ2
            refine wpAnyT_list (ks := [9, 10, 11]) (fun _ _ hx h => ⟨hx.cell h.1, hx.cell h.2.1, hx.cell h.2.2.1, hx.cell h.2.2.2.1, hx.cell h.2.2.2.2.1, hx.cell h.2.2.2.2.2.1, hx.cell h.2.2.2.2.2.2⟩) (by kernel_rfl) ?_
            simp only [pickOps, List.flatMap_cons, List.flatMap_nil, List.drop_succ_cons, List.drop_zero, List.take_succ_cons, List.take_zero, List.cons_append, List.nil_append, List.append_nil]
            go_wp2
            go_meet
            case rel => exact ⟨wm.heap.size, rfl, rfl, HT.out.step (below_alloc wm (.cells #[.int .i64 (makeP g p l).memory, .int .i64 (makeP g p l).counters, .int .i64 (makeP g p l).ins, .int .i64 (makeP g p l).outs, .slice ap (makeP g p l).parts.length cp, .slice al (makeP g p l).lines.length cl, .slice ao2 (makeP g p l).ops.length co] 39)), block_alloc HGB.out _, block_alloc HPB.out _, _, _, _, _, _, _, heap_alloc_new wm _, HPF.out _ ((Mods.refl _ wm).alloc _)⟩
          · skip
            simp only [pickOps, List.flatMap_cons, List.flatMap_nil, List.drop_succ_cons, List.drop_zero, List.take_succ_cons, List.take_zero, List.append_nil]
            have hb := below_alloc wc (.cells progZ 39)
            have hx := heap_alloc_new wc (.cells progZ 39)
            have hxw := block_lt HPB.out
            go_wp2
            replace HT := Lib.hid (HT.out.step hb)
            replace HGB := Lib.hid ((hb.block _ (block_lt HGB.out)).trans HGB.out)
            replace HPB := Lib.hid ((hb.block _ (block_lt HPB.out)).trans HPB.out)
            try replace HGL := Lib.hid (HGL.out.below hb)
            try replace HPL := Lib.hid (HPL.out.below hb)
            try replace HNL := Lib.hid (nestD_below D HNL.out hb)
            try replace HX := Lib.hid ((hb.block _ (block_lt HX.out)).trans HX.out)
            have HX := Lib.hid hx
            have HXW : Hid (w.heap.size + 1 < wc.heap.size) := Lib.hid hxw
            clear hb hx hxw
            refine ⟨fun _ _ => ⟨cells_row _ _ HGB.out 0 _ rfl, cells_row _ _ HGB.out 1 _ rfl, cells_row _ _ HGB.out 2 _ rfl, cells_row _ _ HGB.out 3 _ rfl, cells_row _ _ HGB.out 4 _ rfl, cells_row _ _ HPB.out 0 _ rfl, cells_row _ _ HPB.out 1 _ rfl⟩, ?_⟩
            obtain ⟨wd, hwd⟩ : ∃ x, wc.alloc (.cells progZ 39) = x := ⟨_, rfl⟩
            rw [hwd] at HT HGB HPB HX ⊢
            try rw [hwd] at HGL
            try rw [hwd] at HPL
            try rw [hwd] at HNL
            clear hwd
            obtain ⟨X, hX⟩ : ∃ x, wc.heap.size = x := ⟨_, rfl⟩
            rw [hX] at HX HXW ⊢
            clear hX
            obtain ⟨wc, hwc⟩ : ∃ x, x = wd := ⟨_, rfl⟩
            subst hwc
            refine wpAnyT_one (i := 5) (by kernel_rfl) ?_
            simp only [pickOps, List.flatMap_cons, List.flatMap_nil, List.drop_succ_cons, List.drop_zero, List.take_succ_cons, List.take_zero, List.append_nil]
            go_wp2_with fail
            try have HXL := Lib.hid (block_lt HX.out)
            refine (make_fresh D _ _ _ _ g p l HGL.out HPL.out HNL.out HGS.out HNS.out).mono ?_
            rintro e wm ⟨v4, rfl, hpf, hb⟩
            obtain ⟨vp, vl, vo, rfl, rp, rl, ro⟩ := hpf _ (Mods.refl _ _)
            obtain ⟨ap, cp, rfl⟩ := rp.slice
            obtain ⟨al, cl, rfl⟩ := rl.slice
            obtain ⟨ao2, co, rfl⟩ := ro.slice
            have HPF := Lib.hid hpf
            clear rp rl ro hpf HGL HPL HNL
            replace HT := Lib.hid (HT.out.step hb)
            replace HGB := Lib.hid ((hb.block _ (block_lt HGB.out)).trans HGB.out)
            replace HPB := Lib.hid ((hb.block _ (block_lt HPB.out)).trans HPB.out)
            try replace HGL := Lib.hid (HGL.out.below hb)
            try replace HPL := Lib.hid (HPL.out.below hb)
            try replace HNL := Lib.hid (nestD_below D HNL.out hb)
            try replace HX := Lib.hid ((hb.block _ (block_lt HX.out)).trans HX.out)
            clear hb
            go_wp2_with fail
            refine ⟨fun _ _ => ⟨cells_row _ _ HGB.out 0 _ rfl, cells_row _ _ HGB.out 1 _ rfl, cells_row _ _ HGB.out 2 _ rfl, cells_row _ _ HGB.out 3 _ rfl, cells_row _ _ HGB.out 4 _ rfl, cells_row _ _ HPB.out 0 _ rfl, cells_row _ _ HPB.out 1 _ rfl⟩, ?_⟩
            refine wpAnyT_later (r := [6, 7, 8]) (n := 2) hQ2 (by kernel_rfl) ⟨cells_row _ _ HGB.out 0 _ rfl, cells_row _ _ HGB.out 1 _ rfl, cells_row _ _ HGB.out 2 _ rfl, cells_row _ _ HGB.out 3 _ rfl, cells_row _ _ HGB.out 4 _ rfl, cells_row _ _ HPB.out 0 _ rfl, cells_row _ _ HPB.out 1 _ rfl⟩ ?_
            simp only [pickOps, List.flatMap_cons, List.flatMap_nil, List.drop_succ_cons, List.drop_zero, List.take_succ_cons, List.take_zero, List.cons_append, List.nil_append, List.append_nil]
            repeat (first
              | (refine wpReads_skip (by rfl) ?_; (try simp only [Act.put, List.setIfInBounds_toArray, List.set_cons_zero, List.set_cons_succ]))
              | (refine wpReads_cons ?_ (by rfl) (by rfl) ?_ ?_; rotate_left; (intro wz hz; (try dsimp only at hz); go_simp; try with_reducible rfl); (try simp only [Act.put, List.setIfInBounds_toArray, List.set_cons_zero, List.set_cons_succ]))
              | (refine wpReads_any ?_ (by rfl) ?_ ?_; rotate_left; (intro wz; go_simp; try with_reducible rfl); (try simp only [Act.put, List.setIfInBounds_toArray, List.set_cons_zero, List.set_cons_succ])))
            refine wpReads_nil ?_
            clear hQ2
            refine wpAnyT_list (ks := [10, 11]) (fun _ _ hx h => ⟨hx.cell h.1, hx.cell h.2.1, hx.cell h.2.2.1, hx.cell h.2.2.2.1, hx.cell h.2.2.2.2.1, hx.cell h.2.2.2.2.2.1, hx.cell h.2.2.2.2.2.2⟩) (by kernel_rfl) ?_
            simp only [pickOps, List.flatMap_cons, List.flatMap_nil, List.drop_succ_cons, List.drop_zero, List.take_succ_cons, List.take_zero, List.cons_append, List.nil_append, List.append_nil]
            have z0 := cells_row _ _ HX.out 0 _ rfl
            have z1 := cells_row _ _ HX.out 1 _ rfl
            have z2 := cells_row _ _ HX.out 2 _ rfl
            have z3 := cells_row _ _ HX.out 3 _ rfl
            have z4 := cells_row _ _ HX.out 4 _ rfl
            have z5 := cells_row _ _ HX.out 5 _ rfl
            have z6 := cells_row _ _ HX.out 6 _ rfl
            have f0 := frozen_of_block HX.out 0
            have f1 := frozen_of_block HX.out 1
            have f2 := frozen_of_block HX.out 2
            have f3 := frozen_of_block HX.out 3
            have f4 := frozen_of_block HX.out 4
            have f5 := frozen_of_block HX.out 5
            have f6 := frozen_of_block HX.out 6
            go_wp2
            have mm := prog_mods wm X (.int .i64 (makeP g p l).memory) (.int .i64 (makeP g p l).counters) (.int .i64 (makeP g p l).ins) (.int .i64 (makeP g p l).outs) (.slice ap (makeP g p l).parts.length cp) (.slice al (makeP g p l).lines.length cl) (.slice ao2 (makeP g p l).ops.length co)
            go_meet
            case rel => exact ⟨X, rfl, rfl, ⟨HT.out.below.trans (mm.below HT.out.size (fun k hk e => by have := HXW.out; omega)), Nat.le_trans HT.out.size mm.size⟩, block_mods HGB.out mm (by have := HXW.out; omega), block_mods HPB.out mm (by have := HXW.out; omega), _, _, _, _, _, _, prog_set HX.out _ _ _ _ _ _ _, HPF.out _ (mm.mono (fun k _ e => by subst e; exact HXL.out))⟩
        · skip
          simp only [pickOps, List.flatMap_cons, List.flatMap_nil, List.drop_succ_cons, List.drop_zero, List.take_succ_cons, List.take_zero, List.append_nil]
          have hb := below_alloc wc (.cells progZ 39)
          have hx := heap_alloc_new wc (.cells progZ 39)
          have hxw := block_lt HPB.out
          go_wp2
          replace HT := Lib.hid (HT.out.step hb)
          replace HGB := Lib.hid ((hb.block _ (block_lt HGB.out)).trans HGB.out)
          replace HPB := Lib.hid ((hb.block _ (block_lt HPB.out)).trans HPB.out)
          try replace HGL := Lib.hid (HGL.out.below hb)
          try replace HPL := Lib.hid (HPL.out.below hb)
          try replace HNL := Lib.hid (nestD_below D HNL.out hb)
          try replace HX := Lib.hid ((hb.block _ (block_lt HX.out)).trans HX.out)
          have HX := Lib.hid hx
          have HXW : Hid (w.heap.size + 1 < wc.heap.size) := Lib.hid hxw
          clear hb hx hxw
          refine ⟨fun _ _ => ⟨cells_row _ _ HGB.out 0 _ rfl, cells_row _ _ HGB.out 1 _ rfl, cells_row _ _ HGB.out 2 _ rfl, cells_row _ _ HGB.out 3 _ rfl, cells_row _ _ HGB.out 4 _ rfl, cells_row _ _ HPB.out 0 _ rfl, cells_row _ _ HPB.out 1 _ rfl⟩, ?_⟩
          obtain ⟨wd, hwd⟩ : ∃ x, wc.alloc (.cells progZ 39) = x := ⟨_, rfl⟩
          rw [hwd] at HT HGB HPB HX ⊢
          try rw [hwd] at HGL
          try rw [hwd] at HPL
          try rw [hwd] at HNL
          clear hwd
          obtain ⟨X, hX⟩ : ∃ x, wc.heap.size = x := ⟨_, rfl⟩
          rw [hX] at HX HXW ⊢
          clear hX
          obtain ⟨wc, hwc⟩ : ∃ x, x = wd := ⟨_, rfl⟩
          subst hwc
          refine wpAnyT_one (i := 3) (by kernel_rfl) ?_
          simp only [pickOps, List.flatMap_cons, List.flatMap_nil, List.drop_succ_cons, List.drop_zero, List.take_succ_cons, List.take_zero, List.append_nil]
          go_wp2_with fail
          refine (lentplan_any _ _ p (RP.out.below HT.out.below) (by have := HH.out; omega)).mono ?_
          rintro e wc ⟨vpl, rfl, hpl, hb⟩
          replace HT := Lib.hid (HT.out.step hb)
          replace HGB := Lib.hid ((hb.block _ (block_lt HGB.out)).trans HGB.out)
          replace HPB := Lib.hid ((hb.block _ (block_lt HPB.out)).trans HPB.out)
          try replace HGL := Lib.hid (HGL.out.below hb)
          try replace HPL := Lib.hid (HPL.out.below hb)
          try replace HNL := Lib.hid (nestD_below D HNL.out hb)
          try replace HX := Lib.hid ((hb.block _ (block_lt HX.out)).trans HX.out)
          have HPL := Lib.hid hpl
          clear hpl hb
          go_wp2_with fail
          refine ⟨fun _ _ => ⟨cells_row _ _ HGB.out 0 _ rfl, cells_row _ _ HGB.out 1 _ rfl, cells_row _ _ HGB.out 2 _ rfl, cells_row _ _ HGB.out 3 _ rfl, cells_row _ _ HGB.out 4 _ rfl, cells_row _ _ HPB.out 0 _ rfl, cells_row _ _ HPB.out 1 _ rfl⟩, ?_⟩
          refine wpAnyT_one (i := 5) (by kernel_rfl) ?_
          simp only [pickOps, List.flatMap_cons, List.flatMap_nil, List.drop_succ_cons, List.drop_zero, List.take_succ_cons, List.take_zero, List.append_nil]
          go_wp2_with fail
          try have HXL := Lib.hid (block_lt HX.out)
          refine (make_fresh D _ _ _ _ g p l HGL.out HPL.out HNL.out HGS.out HNS.out).mono ?_
          rintro e wm ⟨v4, rfl, hpf, hb⟩
          obtain ⟨vp, vl, vo, rfl, rp, rl, ro⟩ := hpf _ (Mods.refl _ _)
          obtain ⟨ap, cp, rfl⟩ := rp.slice
          obtain ⟨al, cl, rfl⟩ := rl.slice
          obtain ⟨ao2, co, rfl⟩ := ro.slice
          have HPF := Lib.hid hpf
          clear rp rl ro hpf HGL HPL HNL
          replace HT := Lib.hid (HT.out.step hb)
          replace HGB := Lib.hid ((hb.block _ (block_lt HGB.out)).trans HGB.out)
          replace HPB := Lib.hid ((hb.block _ (block_lt HPB.out)).trans HPB.out)
          try replace HGL := Lib.hid (HGL.out.below hb)
          try replace HPL := Lib.hid (HPL.out.below hb)
          try replace HNL := Lib.hid (nestD_below D HNL.out hb)
          try replace HX := Lib.hid ((hb.block _ (block_lt HX.out)).trans HX.out)
          clear hb
          go_wp2_with fail
          refine ⟨fun _ _ => ⟨cells_row _ _ HGB.out 0 _ rfl, cells_row _ _ HGB.out 1 _ rfl, cells_row _ _ HGB.out 2 _ rfl, cells_row _ _ HGB.out 3 _ rfl, cells_row _ _ HGB.out 4 _ rfl, cells_row _ _ HPB.out 0 _ rfl, cells_row _ _ HPB.out 1 _ rfl⟩, ?_⟩
          refine wpAnyT_later (r := [6, 7, 8]) (n := 2) hQ2 (by kernel_rfl) ⟨cells_row _ _ HGB.out 0 _ rfl, cells_row _ _ HGB.out 1 _ rfl, cells_row _ _ HGB.out 2 _ rfl, cells_row _ _ HGB.out 3 _ rfl, cells_row _ _ HGB.out 4 _ rfl, cells_row _ _ HPB.out 0 _ rfl, cells_row _ _ HPB.out 1 _ rfl⟩ ?_
          simp only [pickOps, List.flatMap_cons, List.flatMap_nil, List.drop_succ_cons, List.drop_zero, List.take_succ_cons, List.take_zero, List.cons_append, List.nil_append, List.append_nil]
          repeat (first
            | (refine wpReads_skip (by rfl) ?_; (try simp only [Act.put, List.setIfInBounds_toArray, List.set_cons_zero, List.set_cons_succ]))
            | (refine wpReads_cons ?_ (by rfl) (by rfl) ?_ ?_; rotate_left; (intro wz hz; (try dsimp only at hz); go_simp; try with_reducible rfl); (try simp only [Act.put, List.setIfInBounds_toArray, List.set_cons_zero, List.set_cons_succ]))
            | (refine wpReads_any ?_ (by rfl) ?_ ?_; rotate_left; (intro wz; go_simp; try with_reducible rfl); (try simp only [Act.put, List.setIfInBounds_toArray, List.set_cons_zero, List.set_cons_succ])))
          refine wpReads_nil ?_
          clear hQ2
          refine wpAnyT_list (ks := [10, 11]) (fun _ _ hx h => ⟨hx.cell h.1, hx.cell h.2.1, hx.cell h.2.2.1, hx.cell h.2.2.2.1, hx.cell h.2.2.2.2.1, hx.cell h.2.2.2.2.2.1, hx.cell h.2.2.2.2.2.2⟩) (by kernel_rfl) ?_
          simp only [pickOps, List.flatMap_cons, List.flatMap_nil, List.drop_succ_cons, List.drop_zero, List.take_succ_cons, List.take_zero, List.cons_append, List.nil_append, List.append_nil]
          have z0 := cells_row _ _ HX.out 0 _ rfl
          have z1 := cells_row _ _ HX.out 1 _ rfl
          have z2 := cells_row _ _ HX.out 2 _ rfl
          have z3 := cells_row _ _ HX.out 3 _ rfl
          have z4 := cells_row _ _ HX.out 4 _ rfl
          have z5 := cells_row _ _ HX.out 5 _ rfl
          have z6 := cells_row _ _ HX.out 6 _ rfl
          have f0 := frozen_of_block HX.out 0
          have f1 := frozen_of_block HX.out 1
          have f2 := frozen_of_block HX.out 2
          have f3 := frozen_of_block HX.out 3
          have f4 := frozen_of_block HX.out 4
          have f5 := frozen_of_block HX.out 5
          have f6 := frozen_of_block HX.out 6
          go_wp2
          have mm := prog_mods wm X (.int .i64 (makeP g p l).memory) (.int .i64 (makeP g p l).counters) (.int .i64 (makeP g p l).ins) (.int .i64 (makeP g p l).outs) (.slice ap (makeP g p l).parts.length cp) (.slice al (makeP g p l).lines.length cl) (.slice ao2 (makeP g p l).ops.length co)
          go_meet
          case rel => exact ⟨X, rfl, rfl, ⟨HT.out.below.trans (mm.below HT.out.size (fun k hk e => by have := HXW.out; omega)), Nat.le_trans HT.out.size mm.size⟩, block_mods HGB.out mm (by have := HXW.out; omega), block_mods HPB.out mm (by have := HXW.out; omega), _, _, _, _, _, _, prog_set HX.out _ _ _ _ _ _ _, HPF.out _ (mm.mono (fun k _ e => by subst e; exact HXL.out))⟩
      · skip
        simp only [pickOps, List.flatMap_cons, List.flatMap_nil, List.drop_succ_cons, List.drop_zero, List.take_succ_cons, List.take_zero, List.append_nil]
        have hb := below_alloc wc (.cells progZ 39)
        have hx := heap_alloc_new wc (.cells progZ 39)
        have hxw := block_lt HPB.out
        go_wp2
        replace HT := Lib.hid (HT.out.step hb)
        replace HGB := Lib.hid ((hb.block _ (block_lt HGB.out)).trans HGB.out)
        replace HPB := Lib.hid ((hb.block _ (block_lt HPB.out)).trans HPB.out)
        try replace HGL := Lib.hid (HGL.out.below hb)
        try replace HPL := Lib.hid (HPL.out.below hb)
        try replace HNL := Lib.hid (nestD_below D HNL.out hb)
        try replace HX := Lib.hid ((hb.block _ (block_lt HX.out)).trans HX.out)
        have HX := Lib.hid hx
        have HXW : Hid (w.heap.size + 1 < wc.heap.size) := Lib.hid hxw
        clear hb hx hxw
        refine ⟨fun _ _ => ⟨cells_row _ _ HGB.out 0 _ rfl, cells_row _ _ HGB.out 1 _ rfl, cells_row _ _ HGB.out 2 _ rfl, cells_row _ _ HGB.out 3 _ rfl, cells_row _ _ HGB.out 4 _ rfl, cells_row _ _ HPB.out 0 _ rfl, cells_row _ _ HPB.out 1 _ rfl⟩, ?_⟩
        obtain ⟨wd, hwd⟩ : ∃ x, wc.alloc (.cells progZ 39) = x := ⟨_, rfl⟩
        rw [hwd] at HT HGB HPB HX ⊢
        try rw [hwd] at HGL
        try rw [hwd] at HPL
        try rw [hwd] at HNL
        clear hwd
        obtain ⟨X, hX⟩ : ∃ x, wc.heap.size = x := ⟨_, rfl⟩
        rw [hX] at HX HXW ⊢
        clear hX
        obtain ⟨wc, hwc⟩ : ∃ x, x = wd := ⟨_, rfl⟩
        subst hwc
        refine wpAnyT_one (i := 1) (by kernel_rfl) ?_
        simp only [pickOps, List.flatMap_cons, List.flatMap_nil, List.drop_succ_cons, List.drop_zero, List.take_succ_cons, List.take_zero, List.append_nil]
        go_wp2_with fail
        refine (lentgraph_any _ _ g (RG.out.below HT.out.below) HH.out HPS.out HES.out).mono ?_
        rintro e wc ⟨vgl, rfl, hgl, hb⟩
        replace HT := Lib.hid (HT.out.step hb)
        replace HGB := Lib.hid ((hb.block _ (block_lt HGB.out)).trans HGB.out)
        replace HPB := Lib.hid ((hb.block _ (block_lt HPB.out)).trans HPB.out)
        try replace HGL := Lib.hid (HGL.out.below hb)
        try replace HPL := Lib.hid (HPL.out.below hb)
        try replace HNL := Lib.hid (nestD_below D HNL.out hb)
        try replace HX := Lib.hid ((hb.block _ (block_lt HX.out)).trans HX.out)
        have HGL := Lib.hid hgl
        clear hgl hb
        go_wp2_with fail
        refine ⟨fun _ _ => ⟨cells_row _ _ HGB.out 0 _ rfl, cells_row _ _ HGB.out 1 _ rfl, cells_row _ _ HGB.out 2 _ rfl, cells_row _ _ HGB.out 3 _ rfl, cells_row _ _ HGB.out 4 _ rfl, cells_row _ _ HPB.out 0 _ rfl, cells_row _ _ HPB.out 1 _ rfl⟩, ?_⟩
        refine wpAnyT_one (i := 3) (by kernel_rfl) ?_
        simp only [pickOps, List.flatMap_cons, List.flatMap_nil, List.drop_succ_cons, List.drop_zero, List.take_succ_cons, List.take_zero, List.append_nil]
        go_wp2_with fail
        refine (lentplan_any _ _ p (RP.out.below HT.out.below) (by have := HH.out; omega)).mono ?_
        rintro e wc ⟨vpl, rfl, hpl, hb⟩
        replace HT := Lib.hid (HT.out.step hb)
        replace HGB := Lib.hid ((hb.block _ (block_lt HGB.out)).trans HGB.out)
        replace HPB := Lib.hid ((hb.block _ (block_lt HPB.out)).trans HPB.out)
        try replace HGL := Lib.hid (HGL.out.below hb)
        try replace HPL := Lib.hid (HPL.out.below hb)
        try replace HNL := Lib.hid (nestD_below D HNL.out hb)
        try replace HX := Lib.hid ((hb.block _ (block_lt HX.out)).trans HX.out)
        have HPL := Lib.hid hpl
        clear hpl hb
        go_wp2_with fail
        refine ⟨fun _ _ => ⟨cells_row _ _ HGB.out 0 _ rfl, cells_row _ _ HGB.out 1 _ rfl, cells_row _ _ HGB.out 2 _ rfl, cells_row _ _ HGB.out 3 _ rfl, cells_row _ _ HGB.out 4 _ rfl, cells_row _ _ HPB.out 0 _ rfl, cells_row _ _ HPB.out 1 _ rfl⟩, ?_⟩
        refine wpAnyT_one (i := 5) (by kernel_rfl) ?_
        simp only [pickOps, List.flatMap_cons, List.flatMap_nil, List.drop_succ_cons, List.drop_zero, List.take_succ_cons, List.take_zero, List.append_nil]
        go_wp2_with fail
        try have HXL := Lib.hid (block_lt HX.out)
        refine (make_fresh D _ _ _ _ g p l HGL.out HPL.out HNL.out HGS.out HNS.out).mono ?_
        rintro e wm ⟨v4, rfl, hpf, hb⟩
        obtain ⟨vp, vl, vo, rfl, rp, rl, ro⟩ := hpf _ (Mods.refl _ _)
        obtain ⟨ap, cp, rfl⟩ := rp.slice
        obtain ⟨al, cl, rfl⟩ := rl.slice
        obtain ⟨ao2, co, rfl⟩ := ro.slice
        have HPF := Lib.hid hpf
        clear rp rl ro hpf HGL HPL HNL
        replace HT := Lib.hid (HT.out.step hb)
        replace HGB := Lib.hid ((hb.block _ (block_lt HGB.out)).trans HGB.out)
        replace HPB := Lib.hid ((hb.block _ (block_lt HPB.out)).trans HPB.out)
        try replace HGL := Lib.hid (HGL.out.below hb)
        try replace HPL := Lib.hid (HPL.out.below hb)
        try replace HNL := Lib.hid (nestD_below D HNL.out hb)
        try replace HX := Lib.hid ((hb.block _ (block_lt HX.out)).trans HX.out)
        clear hb
        go_wp2_with fail
        refine ⟨fun _ _ => ⟨cells_row _ _ HGB.out 0 _ rfl, cells_row _ _ HGB.out 1 _ rfl, cells_row _ _ HGB.out 2 _ rfl, cells_row _ _ HGB.out 3 _ rfl, cells_row _ _ HGB.out 4 _ rfl, cells_row _ _ HPB.out 0 _ rfl, cells_row _ _ HPB.out 1 _ rfl⟩, ?_⟩
        refine wpAnyT_later (r := [6, 7, 8]) (n := 2) hQ2 (by kernel_rfl) ⟨cells_row _ _ HGB.out 0 _ rfl, cells_row _ _ HGB.out 1 _ rfl, cells_row _ _ HGB.out 2 _ rfl, cells_row _ _ HGB.out 3 _ rfl, cells_row _ _ HGB.out 4 _ rfl, cells_row _ _ HPB.out 0 _ rfl, cells_row _ _ HPB.out 1 _ rfl⟩ ?_
        simp only [pickOps, List.flatMap_cons, List.flatMap_nil, List.drop_succ_cons, List.drop_zero, List.take_succ_cons, List.take_zero, List.cons_append, List.nil_append, List.append_nil]
        repeat (first
          | (refine wpReads_skip (by rfl) ?_; (try simp only [Act.put, List.setIfInBounds_toArray, List.set_cons_zero, List.set_cons_succ]))
          | (refine wpReads_cons ?_ (by rfl) (by rfl) ?_ ?_; rotate_left; (intro wz hz; (try dsimp only at hz); go_simp; try with_reducible rfl); (try simp only [Act.put, List.setIfInBounds_toArray, List.set_cons_zero, List.set_cons_succ]))
          | (refine wpReads_any ?_ (by rfl) ?_ ?_; rotate_left; (intro wz; go_simp; try with_reducible rfl); (try simp only [Act.put, List.setIfInBounds_toArray, List.set_cons_zero, List.set_cons_succ])))
        refine wpReads_nil ?_
        clear hQ2
        refine wpAnyT_list (ks := [10, 11]) (fun _ _ hx h => ⟨hx.cell h.1, hx.cell h.2.1, hx.cell h.2.2.1, hx.cell h.2.2.2.1, hx.cell h.2.2.2.2.1, hx.cell h.2.2.2.2.2.1, hx.cell h.2.2.2.2.2.2⟩) (by kernel_rfl) ?_
        simp only [pickOps, List.flatMap_cons, List.flatMap_nil, List.drop_succ_cons, List.drop_zero, List.take_succ_cons, List.take_zero, List.cons_append, List.nil_append, List.append_nil]
        have z0 := cells_row _ _ HX.out 0 _ rfl
        have z1 := cells_row _ _ HX.out 1 _ rfl
        have z2 := cells_row _ _ HX.out 2 _ rfl
        have z3 := cells_row _ _ HX.out 3 _ rfl
        have z4 := cells_row _ _ HX.out 4 _ rfl
        have z5 := cells_row _ _ HX.out 5 _ rfl
        have z6 := cells_row _ _ HX.out 6 _ rfl
        have f0 := frozen_of_block HX.out 0
        have f1 := frozen_of_block HX.out 1
        have f2 := frozen_of_block HX.out 2
        have f3 := frozen_of_block HX.out 3
        have f4 := frozen_of_block HX.out 4
        have f5 := frozen_of_block HX.out 5
        have f6 := frozen_of_block HX.out 6
        go_wp2
        have mm := prog_mods wm X (.int .i64 (makeP g p l).memory) (.int .i64 (makeP g p l).counters) (.int .i64 (makeP g p l).ins) (.int .i64 (makeP g p l).outs) (.slice ap (makeP g p l).parts.length cp) (.slice al (makeP g p l).lines.length cl) (.slice ao2 (makeP g p l).ops.length co)
        go_meet
        case rel => exact ⟨X, rfl, rfl, ⟨HT.out.below.trans (mm.below HT.out.size (fun k hk e => by have := HXW.out; omega)), Nat.le_trans HT.out.size mm.size⟩, block_mods HGB.out mm (by have := HXW.out; omega), block_mods HPB.out mm (by have := HXW.out; omega), _, _, _, _, _, _, prog_set HX.out _ _ _ _ _ _ _, HPF.out _ (mm.mono (fun k _ e => by subst e; exact HXL.out))⟩
    case rest =>
      obtain ⟨X, rfl, rfl, hT, hG, hPl, hP⟩ := hcut
      have HT := Lib.hid hT
      have HP := Lib.hid hP
      clear hT hG hPl hP HNL HGB HPB
      obtain ⟨E, hE⟩ : ∃ x, makeE g p l = x := ⟨_, rfl⟩
      rw [hE]
      have HE := Lib.hid hE
      clear hE
      by_cases hc : CE = 0
      · subst hc
        obtain ⟨f1, f2, f3, f4⟩ := HFC.out.2.2 rfl
        have HF1 := Lib.hid f1
        have HF2 := Lib.hid f2
        have HF3 := Lib.hid f3
        have HF4 := Lib.hid f4
        clear f1 f2 f3 f4
        by_cases h0 : E = 0
        · subst h0
          have hmp : makeP g p l = makeG g p l := by rw [makeP, if_pos HE.out]
          rw [hmp] at HP
          clear hmp
          have hmo := made_ok HE.out HGS.out HPS.out
          obtain ⟨hm1, hm2⟩ := measP_leaf l 0 (0, 0, 0)
          rw [hm1, hm2] at hmo
          obtain ⟨cs9, hrun, -⟩ := make_run HE.out HGS.out
          have hm9 : stN (firP g) l + 1 ≤ 131072 := by
            have h2 := (stN_le (firP_row (firOk_of (make_facts HE.out).1 HGS.out)) l (nest_total (make_facts HE.out).2.1).1).1
            have h3 := (nest_total (make_facts HE.out).2.1).2
            omega
          rw [HF2.out] at hrun
          have hk5 : cK 5 (makeG g p l).ops ≤ (runsP list).length := by rw [hmo.calls]; have := HF4.out; simp; omega
          have hk1 : cK 1 (makeG g p l).ops ≤ (runsP list).length := by rw [hmo.heads]; have := HF3.out; simp; omega
          have hops := hmo.ops
          obtain ⟨M, hM⟩ : ∃ x, stN (firP g) l + 1 = x := ⟨_, rfl⟩
          obtain ⟨PP, hPP⟩ : ∃ x, makeG g p l = x := ⟨_, rfl⟩
          rw [hPP] at hrun HP hk5 hk1 hops
          rw [hM] at hrun hm9
          have HRUN := Lib.hid hrun
          have HM9 := Lib.hid hm9
          have HK5 := Lib.hid hk5
          have HK1 := Lib.hid hk1
          have HOPS := Lib.hid hops
          clear hmo hrun hm9 hk5 hk1 hops hM hPP hm1 hm2
          obtain ⟨ap, cp, al, cl, ao2, co, hX, hPG⟩ := HP.out
          have HX := Lib.hid hX
          have HPG := Lib.hid hPG
          clear hX hPG HP
          obtain ⟨LP, hLP⟩ : ∃ x, PP.parts.length = x := ⟨_, rfl⟩
          obtain ⟨LL, hLL⟩ : ∃ x, PP.lines.length = x := ⟨_, rfl⟩
          obtain ⟨LO, hLO⟩ : ∃ x, PP.ops.length = x := ⟨_, rfl⟩
          rw [hLP, hLL, hLO] at HX HPG
          clear hLP hLL hLO
          go_wp2_with fail
          refine (rints_any _ al9 list.length ac9 list (HV.out.below HT.out.below) HLL.out).mono ?_
          rintro e w1 ⟨v1, rfl, ho1, hb⟩
          obtain ⟨ia8, ic8, rfl⟩ := owns_slice ho1
          have HI1 : Hid (Ints w1 (fun _ => 0) 0 (.slice ia8 list.length ic8) list) := Lib.hid (Own.vals ⟨owns_base ho1 (fun _ _ => Nat.zero_le _), fun _ _ => rfl⟩)
          replace HT := Lib.hid (HT.out.step hb)
          replace HX := Lib.hid ((hb.block _ (block_lt HX.out)).trans HX.out)
          replace HPG := Lib.hid (HPG.out.below hb)
          clear hb ho1
          go_wp2_with fail
          refine (runs_any _ _ list HI1.out HF1.out).mono ?_
          rintro e w2 ⟨v2, rfl, hr, hb⟩
          obtain ⟨ra, rc, rfl⟩ := hr.slice
          replace HT := Lib.hid (HT.out.step hb)
          replace HX := Lib.hid ((hb.block _ (block_lt HX.out)).trans HX.out)
          replace HPG := Lib.hid (HPG.out.below hb)
          clear hb hr HI1
          obtain ⟨RN, hRN⟩ : ∃ x, (runsP list).length = x := ⟨_, rfl⟩
          rw [hRN] at HK5 HK1 ⊢
          clear hRN
          have x0 := cells_row _ _ HX.out 0 _ rfl
          have x1 := cells_row _ _ HX.out 1 _ rfl
          have x2 := cells_row _ _ HX.out 2 _ rfl
          have x3 := cells_row _ _ HX.out 3 _ rfl
          have x4 := cells_row _ _ HX.out 4 _ rfl
          have x5 := cells_row _ _ HX.out 5 _ rfl
          have x6 := cells_row _ _ HX.out 6 _ rfl
          go_wp2_with fail
          clear x0 x1 x2 x3 x4 x5 x6
          refine (lwalk_any _ _ PP M _ cs9 HPG.out HOPS.out HM9.out HRUN.out).mono ?_
          rintro e w3 ⟨vw, ow, rfl, hvw, hb⟩
          obtain ⟨wa, wc9, rfl⟩ := hvw.slice
          have HVW := Lib.hid hvw.has
          replace HT := Lib.hid (HT.out.step hb)
          replace HX := Lib.hid ((hb.block _ (block_lt HX.out)).trans HX.out)
          replace HPG := Lib.hid (HPG.out.below hb)
          clear hvw hb
          go_wp2_with fail
          refine (awake_yes _).mono ?_
          rintro e w4 ⟨rfl, hb⟩
          replace HVW := Lib.hid (HVW.out.below hb)
          replace HT := Lib.hid (HT.out.step hb)
          replace HX := Lib.hid ((hb.block _ (block_lt HX.out)).trans HX.out)
          replace HPG := Lib.hid (HPG.out.below hb)
          clear hb
          have x0 := cells_row _ _ HX.out 0 _ rfl
          have x1 := cells_row _ _ HX.out 1 _ rfl
          have x2 := cells_row _ _ HX.out 2 _ rfl
          have x3 := cells_row _ _ HX.out 3 _ rfl
          have x4 := cells_row _ _ HX.out 4 _ rfl
          have x5 := cells_row _ _ HX.out 5 _ rfl
          have x6 := cells_row _ _ HX.out 6 _ rfl
          go_wp2_with fail
          clear x0 x1 x2 x3 x4 x5 x6
          refine (kinds_any _ _ PP 5 HPG.out HOPS.out).mono ?_
          rintro e w5 ⟨rfl, hb⟩
          replace HVW := Lib.hid (HVW.out.below hb)
          replace HT := Lib.hid (HT.out.step hb)
          replace HX := Lib.hid ((hb.block _ (block_lt HX.out)).trans HX.out)
          replace HPG := Lib.hid (HPG.out.below hb)
          clear hb
          obtain ⟨n5, hn5⟩ : ∃ x, cK 5 PP.ops = x := ⟨_, rfl⟩
          rw [hn5] at HK5 ⊢
          have h5 : (n5 : Int) ≤ RN := by have := HK5.out; omega
          clear hn5
          have x0 := cells_row _ _ HX.out 0 _ rfl
          have x1 := cells_row _ _ HX.out 1 _ rfl
          have x2 := cells_row _ _ HX.out 2 _ rfl
          have x3 := cells_row _ _ HX.out 3 _ rfl
          have x4 := cells_row _ _ HX.out 4 _ rfl
          have x5 := cells_row _ _ HX.out 5 _ rfl
          have x6 := cells_row _ _ HX.out 6 _ rfl
          go_wp2_with fail
          clear x0 x1 x2 x3 x4 x5 x6 h5
          refine (kinds_any _ _ PP 1 HPG.out HOPS.out).mono ?_
          rintro e w6 ⟨rfl, hb⟩
          replace HVW := Lib.hid (HVW.out.below hb)
          replace HT := Lib.hid (HT.out.step hb)
          replace HX := Lib.hid ((hb.block _ (block_lt HX.out)).trans HX.out)
          replace HPG := Lib.hid (HPG.out.below hb)
          clear hb
          obtain ⟨n1, hn1⟩ : ∃ x, cK 1 PP.ops = x := ⟨_, rfl⟩
          rw [hn1] at HK1 ⊢
          have h1 : (n1 : Int) ≤ RN := by have := HK1.out; omega
          clear hn1
          go_wp2_with fail
          clear h1
          refine (sameints_yes HVW.out (HV.out.below HT.out.below) (by have := HLL.out; omega)).mono ?_
          rintro e w7 ⟨rfl, hq⟩
          have hb : Below w6.heap.size w6 w7 := by obtain ⟨m, rfl⟩ := hq; exact below_dr (Below.refl _ _)
          replace HT := Lib.hid (HT.out.step hb)
          clear hb hq
          go_wp2
          go_ret
          exact ⟨by first | rfl | simp, HT.out.below⟩
        · go_wp2_with fail
          refine (awake_yes _).mono ?_
          rintro e w2 ⟨rfl, hb⟩
          replace HT := Lib.hid (HT.out.step hb)
          clear hb
          go_wp2
          go_ret
          exact ⟨by first | rfl | simp, HT.out.below⟩
      · have hl0 := HFC.out.2.1 hc
        subst hl0
        go_wp2_with fail
        refine (awake_yes _).mono ?_
        rintro e w2 ⟨rfl, hb⟩
        replace HT := Lib.hid (HT.out.step hb)
        clear hb
        go_wp2
        go_ret
        exact ⟨by first | rfl | simp [Nest.items], HT.out.below⟩
end Go.Proofs.Ytbmbfifempkhgaa

/- What came in, said plainly for a walk: a slice of ints. No program in sight. -/
namespace Go.Proofs.Ytbmbfifempkhgaa
open Go.ChangeShapes Go.WideShapes Go.ChangeAt Go.RowKit Go.Deep

/-- v is a slice of the ints zs, as it came in -/
def InInts (w : World) (v : Value) (zs : List Int) : Prop :=
  ∃ ao cap, v = .slice ao zs.length cap ∧ zs.length ≤ cap ∧ cap ≤ maxLen ∧ (ao = none → zs.length = 0) ∧ (∀ n ∈ zs, -9223372036854775808 ≤ n ∧ n ≤ 9223372036854775807) ∧
    ∀ ad, ao = some ad → ∀ j u, (zs.map (Value.int .i64))[j]? = some u → w.cell? (ad.add j) = some u

theorem wf_i64 {n : Int} (h : (Lit.int .i64 n).wf = true) : -9223372036854775808 ≤ n ∧ n ≤ 9223372036854775807 := by
  simp [Lit.wf] at h
  have h1 : IntKind.i64.min = -9223372036854775808 := rfl
  have h2 : IntKind.i64.max = 9223372036854775807 := rfl
  omega

/-- the reading of a slice of n elements -/
def DLen {H : Type} (d : DataW H) (n : Nat) : Prop := (d = .nil ∧ n = 0) ∨ ∃ el sp, d = .slice el sp ∧ el.length = n

theorem DLen.reach {H : Type} {P : Program} {ts : List TypeId} {ds : List (DataW H)} {d : DataW H} {n j : Nat} {t e : TypeId} (h : DLen d n) (hs : (DataW.weightsEach P ts ds).all (· ≤ reachBytes) = true) (ht : ts[j]? = some t) (hd : ds[j]? = some d) (hu : P.underlying t = some (.slice e)) : n * P.bytesOf e ≤ 140737488351232 := by
  rcases h with ⟨rfl, rfl⟩ | ⟨el, sp, rfl, rfl⟩
  · omega
  · have := sized_slice hs ht hd hu
    have h1 : el.length * P.bytesOf e ≤ (el.length + sp.length) * P.bytesOf e := Nat.mul_le_mul_right _ (by omega)
    have h2 : reachBytes = 140737488351232 := rfl
    omega

theorem open_in_ints {P : Program} {H : Type} {enc : TypeId × Value → H} {W : World} {t e : TypeId} {v : Value} {d : DataW H} {p : List MemPlace} (ht : P.underlying t = some (.slice e)) (he : P.underlying e = some (.int .i64)) (hc : P.cellsOf e = 1)
    (hv : ∃ a len cap, v = .slice a len cap) (h : DataW.Trod enc P W 0 (fun _ => true) true t v d p) : ∃ zs, InInts W v zs ∧ DLen d zs.length := by
  obtain ⟨a1, len1, cap1, rfl⟩ := hv
  obtain ⟨fuel, hf⟩ := h
  rcases open_ints ht he hc hf with ⟨hcs, hx⟩ | ⟨x, l, c, zs, hcs, _, hl, hm, hz, hx, hcell, hwz⟩
  · simp [Value.cells] at hcs
    obtain ⟨rfl, rfl, rfl⟩ := hcs
    obtain rfl : d = .nil := congrArg Prod.fst hx
    exact ⟨[], ⟨none, 0, rfl, Nat.le_refl _, Nat.zero_le _, fun _ => rfl, by simp, fun _ h => by cases h⟩, .inl ⟨rfl, rfl⟩⟩
  · simp [Value.cells] at hcs
    obtain ⟨rfl, rfl, rfl⟩ := hcs
    simp at hz
    obtain rfl : d = _ := congrArg Prod.fst hx
    have hlen : (zs.take len1).length = len1 := by rw [List.length_take]; omega
    refine ⟨zs.take len1, ⟨some x, cap1, by rw [hlen], by omega, hm, (fun h => by cases h), fun n hn => ?_, ?_⟩, .inr ⟨_, _, rfl, by simp [lits]⟩⟩
    · exact wf_i64 (hwz n (List.mem_of_mem_take hn))
    · intro ad had j u hu
      obtain rfl := Option.some.inj had
      have hj : j < len1 := by have := (List.getElem?_eq_some_iff.1 hu).1; simp at this; omega
      have hcz := hcell j (by omega)
      rw [hcz]
      have : ((zs.take len1).map (Value.int .i64))[j]? = some (.int .i64 (zs.getD j 0)) := by
        simp [hj, show j < zs.length by omega]
      rw [this] at hu
      exact hu

/-- plainly -/
theorem InInts.has {W : World} {v : Value} {zs : List Int} (h : InInts W v zs) : Has W v (ivs zs) := by
  obtain ⟨ao, cap, rfl, h1, h2, h3, h4, h5⟩ := h
  by_cases hp : 0 < zs.length
  · cases ao with
    | none => have := h3 rfl; omega
    | some a =>
      have hc : ∀ i, i < zs.length → W.cell? (a.add i) = some (.int .i64 (zs.getD i 0)) := fun i hi => h5 a rfl i _ (by simp [hi])
      obtain ⟨b, off, rfl, hcell⟩ := ints_at hc hp
      refine .inr ⟨by simpa using hp, b, off, cap, by simp, by simpa using h1, World.block_lt_of_cell? _ _ (hcell 0 hp), rfl, fun k hk => ?_⟩
      have hk' : k < zs.length := by simpa using hk
      have := hcell k hk'
      simpa [hk'] using this
  · obtain rfl : zs = [] := List.eq_nil_of_length_eq_zero (by omega)
    exact .inl ⟨rfl, ao, cap, rfl⟩
theorem InInts.fits {W : World} {v : Value} {zs : List Int} (h : InInts W v zs) : ∀ n ∈ zs, -9223372036854775808 ≤ n ∧ n ≤ 9223372036854775807 := h.choose_spec.choose_spec.2.2.2.2.1
end Go.Proofs.Ytbmbfifempkhgaa

/- What came in, said plainly for a walk: a slice of slices of ints. No program in sight. -/
namespace Go.Proofs.Ytbmbfifempkhgaa
open Go.ChangeShapes Go.WideShapes Go.ChangeAt Go.RowKit Go.Deep

theorem open_in_ints_cells {P : Program} {H : Type} {enc : TypeId × Value → H} {W : World} {t e : TypeId} {x : Value} {fuel : Nat} {y : DataW H × List MemPlace} (ht : P.underlying t = some (.slice e)) (he : P.underlying e = some (.int .i64)) (hc : P.cellsOf e = 1)
    (h : DataW.trod enc P W 0 (fun _ => true) true fuel t [x] = some y) : ∃ zs, InInts W x zs ∧ DLen y.1 zs.length := by
  have hx : ∃ a len cap, x = .slice a len cap := by
    rcases open_ints ht he hc h with ⟨hcs, _⟩ | ⟨a, len, cap, zs, hcs, _⟩
    · exact ⟨_, _, _, List.head_eq_of_cons_eq hcs⟩
    · exact ⟨_, _, _, List.head_eq_of_cons_eq hcs⟩
  obtain ⟨a, len, cap, rfl⟩ := hx
  exact open_in_ints (d := y.1) (p := y.2) ht he hc ⟨_, _, _, rfl⟩ ⟨fuel, by simpa [Value.cells] using h⟩

theorem open_in_rows {P : Program} {H : Type} {enc : TypeId × Value → H} {W : World} {t s e : TypeId} {v : Value} {d : DataW H} {p : List MemPlace} (ht : P.underlying t = some (.slice s)) (hs : P.underlying s = some (.slice e)) (he : P.underlying e = some (.int .i64)) (hce : P.cellsOf e = 1) (hcs : P.cellsOf s = 1)
    (hv : ∃ a len cap, v = .slice a len cap) (h : DataW.Trod enc P W 0 (fun _ => true) true t v d p) : ∃ xss, LL W v xss ∧ (∀ l ∈ xss, ∀ x ∈ l, -9223372036854775808 ≤ x ∧ x ≤ 9223372036854775807) ∧ DLen d xss.length := by
  obtain ⟨a1, len1, cap1, rfl⟩ := hv
  obtain ⟨fuel, hf⟩ := h
  rcases open_slice ht hf with ⟨hc, hx⟩ | ⟨a, len, cap, m, n, D, Pl, hc, _, hl, hm, hmm, hx, hel⟩
  · simp [Value.cells] at hc
    obtain ⟨rfl, rfl, rfl⟩ := hc
    exact ⟨[], ⟨[], rfl, .inl ⟨rfl, none, 0, rfl⟩, fun k hk => by simp at hk⟩, by simp, .inl ⟨congrArg Prod.fst hx, rfl⟩⟩
  · simp [Value.cells] at hc
    obtain ⟨rfl, rfl, rfl⟩ := hc
    simp at hmm
    have each : ∀ i, i < len1 → ∃ q : Value × List Int, W.cell? (a.add i) = some q.1 ∧ InInts W q.1 q.2 := by
      intro i hi
      obtain ⟨cs', hcells, htr⟩ := hel i (by omega)
      rw [hcs] at hcells
      simp only [Nat.mul_one] at hcells
      obtain ⟨_, hll, hev⟩ := World.cells?_some hcells
      match cs', hll with
      | [x0], _ =>
        obtain ⟨zs, hz, _⟩ := open_in_ints_cells hs he hce htr
        have g0 := hev 0 (by omega)
        have e0 : (a.add i).add 0 = a.add i := by cases a; simp [Addr.add]
        rw [e0] at g0
        exact ⟨(x0, zs), by simpa using g0, hz⟩
    obtain ⟨Q, hQ⟩ := choose_lt (α := Value × List Int) (p := fun i q => W.cell? (a.add i) = some q.1 ∧ InInts W q.1 q.2) each
    refine ⟨(List.range len1).map fun i => (Q i).2, ⟨(List.range len1).map fun i => (Q i).1, by simp, ?_, fun k hk => ?_⟩, fun l hl x hx => ?_, .inr ⟨_, _, congrArg Prod.fst hx, by simp⟩⟩
    · by_cases hp : 0 < len1
      · have hsp : a.spot = none := by
          have := World.cell?_spot (hQ 0 hp).1
          simpa [Addr.add] using this
        obtain ⟨b, off, spot⟩ := a
        simp at hsp
        subst hsp
        refine .inr ⟨by simpa using hp, b, off, cap1, by simp, by simp; omega, ?_, rfl, fun k hk => ?_⟩
        · have := World.block_lt_of_cell? _ _ (hQ 0 hp).1
          simpa [Addr.add] using this
        · have hk' : k < len1 := by simpa using hk
          have := (hQ k hk').1
          simp only [Addr.add_lit] at this
          simpa [hk'] using this
      · obtain rfl : len1 = 0 := by omega
        exact .inl ⟨rfl, some a, cap1, rfl⟩
    · have hk' : k < len1 := by simpa using hk
      have := (hQ k hk').2.has
      simpa [hk'] using this
    · simp only [List.mem_map, List.mem_range] at hl
      obtain ⟨i, hi, rfl⟩ := hl
      exact (hQ i hi).2.fits x hx
end Go.Proofs.Ytbmbfifempkhgaa
