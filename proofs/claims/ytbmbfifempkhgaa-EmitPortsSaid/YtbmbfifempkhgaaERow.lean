/- The maker's row. -/
import Derived.Test.YtbmbfifempkhgaaERowP
namespace Go.Proofs.Ytbmbfifempkhgaa
open Go.RowKit

structure FOk (F : List (List GOp)) : Prop where
  rows : ∀ k, (rowM F k).length ≤ 33
  len : F.length ≤ 1000

/-- what row does -/
def ERowOk (F : List (List GOp)) (D : Nat) : Prop := ∀ (w0 w : World) (o : Col) (M : Nat) (vo v vf : Value) (l : Nest) (ops : List GOp) (op cnt : Nat), HasNestD D w0 v l → NSized l → LeafOk F.length l → HasM w0 vf F → Kept w0.heap.size o w0 w → MkAt w o M vo ops op cnt vf →
  ops.length + costN l ≤ 10000000 → op + depthN l ≤ 1000 → cnt ≤ 1000 → Calls Try.prog 44 #[.pointer (some ⟨M, 0, none⟩), v] w (MkRet (.tuple #[]) w o M (rowP F l op (ops, cnt)).1 op ((rowP F l op (ops, cnt)).2 : Nat) vf)

set_option maxRecDepth 100000 in
theorem erow_zero (F : List (List GOp)) : ERowOk F 0 := by
  intro w0 w o M vo v vf l ops op cnt hv hs hlo hf hk hm hl hd hc
  obtain ⟨rfl, ao, cap, rfl⟩ := hv
  have HM := Lib.hid hm
  clear hs hlo hf hk hm
  go_enter Try.func44, Try.ntmps44
  go_wp2_with fail
  go_loopw [9] (fun i wr => i = .int .i64 0 ∧ wr = w) (fun _ _ => 0)
  case atStart => exact ⟨rfl, rfl⟩
  case round =>
    obtain ⟨rfl, rfl⟩ := hrel
    go_wp2
    go_end0
    exact ⟨rfl, _, _, Turn.refl _ _ _, HM.out⟩


set_option maxRecDepth 100000 in
set_option maxHeartbeats 2000000 in
theorem erow_succ {F : List (List GOp)} (hF : FOk F) {D : Nat} (hrow : ERowOk F D) : ERowOk F (D + 1) := by
  intro w0 w o M vo v vf l ops op cnt hv hs hlo hf hk hm hl hd hc
  have hv' : Recs w0 3 (fun w x cs => ∃ y, cs = [.int .i64 x.1, .int .i64 x.2.1, y] ∧ HasNestD D w y x.2.2) v l.items := hv
  obtain ⟨ao, cap, rfl⟩ := hv'.slice
  obtain ⟨r, hr⟩ : ∃ r, rowP F l op (ops, cnt) = r := ⟨_, rfl⟩
  rw [hr]
  have HE := Lib.hid (show rowP F (l.drop 0) op (ops, cnt) = r by rw [drop_zero]; exact hr)
  have HV := Lib.hid hv'
  have HS := Lib.hid hs
  have HLO := Lib.hid hlo
  have HF := Lib.hid hF
  have HMF := Lib.hid hf
  have HL := Lib.hid (nsized_len hs)
  have HROW := Lib.hid hrow
  have HT0 := Lib.hid (Turn.refl o MkC w)
  have HK0 := Lib.hid hk
  have HM0 := Lib.hid hm
  have HC0 : Hid (ops.length + costN (l.drop 0) ≤ 10000000 ∧ op + depthN (l.drop 0) ≤ 1000) := Lib.hid (by rw [drop_zero]; exact ⟨hl, hd⟩)
  clear hv hv' hs hlo hf hk hm hrow hr hl hF
  obtain ⟨fa, fc, hvf⟩ := HMF.out.slice
  subst hvf
  go_enter Try.func44, Try.ntmps44
  go_wp2_with fail
  go_loopw [9] (fun i wr => ∃ (j : Nat) (q : Col) (vo' : Value) (s : List GOp × Nat), j ≤ l.items.length ∧ i = .int .i64 j ∧ Kept w0.heap.size q w0 wr ∧ Turn o q MkC w wr ∧ MkAt wr q M vo' s.1 op s.2 (.slice fa F.length fc) ∧ s.2 ≤ 1000 ∧ (s.1.length + costN (l.drop j) ≤ 10000000 ∧ op + depthN (l.drop j) ≤ 1000) ∧ rowP F (l.drop j) op s = r) (fun i _ => l.items.length - (intOf i).toNat)
  case atStart => exact ⟨0, o, _, (ops, cnt), Nat.zero_le _, rfl, HK0.out, HT0.out, HM0.out, hc, HC0.out, HE.out⟩
  case round =>
    clear HK0 HT0 HM0 HE HC0
    obtain ⟨j, q, vo', s, hj, rfl, hK, hT, hM, hsc, hC, hE⟩ := hrel
    have HK := Lib.hid hK
    have HT := Lib.hid hT
    have HM := Lib.hid hM
    have HE := Lib.hid hE
    have HC := Lib.hid hC
    clear hK hT hM hE hC
    by_cases hlt : j < l.items.length
    · have hlti : (j : Int) < l.items.length := by omega
      obtain ⟨b0, off, rfl, hcap, hb0, hrec⟩ := HV.out.at (by omega)
      obtain ⟨cs, hcs, hPR, hcl⟩ := hrec j hlt
      obtain ⟨y, rfl, hy⟩ := hPR
      have c0 := cell_later HK.out.below (hcl 0 (by omega))
      have c1 := cell_later HK.out.below (hcl 1 (by omega))
      have c2 := cell_later HK.out.below (hcl 2 (by omega))
      simp at c0 c1 c2
      have hcapi : (l.items.length : Int) ≤ cap := by omega
      have hEc := HE.out
      have hCc := HC.out
      have hLo := leafOk_drop l j HLO.out
      rw [drop_items l j hlt] at hLo hCc
      rw [drop_items l j hlt, rowP_cons] at hEc
      rw [costN, depthN] at hCc
      have HEC := Lib.hid hEc
      have HCC := Lib.hid hCc
      have HLJ := Lib.hid hLo
      have HY := Lib.hid hy
      have HSb := Lib.hid (nsized_at HS.out _ (List.getElem_mem hlt))
      obtain ⟨ya, yc, hys⟩ := nestD_slice D hy
      subst hys
      clear hcl hcs hrec hEc hCc hLo hy HE HC
      generalize (l.items[j]).1 = t at *
      generalize (l.items[j]).2.1 = nd at *
      generalize (l.items[j]).2.2 = b at *
      have hbX := below_alloc wr (.cells #[.int .i64 t, .int .i64 nd, .slice ya b.items.length yc] 51)
      have hX : Blk _ (ext q wr.heap.size 8) 8 _ _ _ := ⟨heap_alloc_new wr (.cells #[.int .i64 t, .int .i64 nd, .slice ya b.items.length yc] 51), ext_new (Nat.le_refl _)⟩
      have TX := Turn.of_below q 8 hbX
      have HK2 := Lib.hid (HK.out.turn TX (fun h => h))
      have HT2 := Lib.hid (HT.out.trans (TX.mono (D := MkC) (fun _ h => h.elim)) (fun _ h => h))
      have HM2 := Lib.hid (HM.out.turn TX (fun h => h) (fun h => h))
      have HX2 := Lib.hid hX
      have x0 := hX.cell 0 _ rfl
      have x2 := hX.cell 2 _ rfl
      have hnil := isNil_len b
      clear hbX hX TX HK HT HM
      generalize hm : b.items.length = m at *
      have HNL0 := Lib.hid hnil
      obtain ⟨X, hX⟩ : ∃ x, wr.heap.size = x := ⟨_, rfl⟩
      rw [hX] at HK2 HT2 HM2 HX2 x0 x2
      have HLn := Lib.hid (stepP_len HF.out.rows t nd b op s)
      have HCn := Lib.hid (stepP_cnt (F := F) t nd b op s)
      have hll := HL.out
      by_cases h1 : 1 < t
      · go_wp2_with fail
        refine wp_region_lex (fun w' => w'.cell? ⟨X, 0, none⟩ = some (.int .i64 t)) [0, 1, 2, 3, 4] [5, 6] (by kernel_rfl) (by kernel_rfl) rfl (fun _ _ hx h => hx.cell h) x0 ?_
        intro Q' hQ'
        simp only [pickOps, List.flatMap_cons, List.flatMap_nil, List.drop_succ_cons, List.drop_zero, List.take_succ_cons, List.take_zero, List.cons_append, List.nil_append, List.append_nil]
        repeat (first
          | (refine wpReads_skip (by rfl) ?_; (try simp only [Act.put, List.setIfInBounds_toArray, List.set_cons_zero, List.set_cons_succ]))
          | (refine wpReads_cons ?_ (by rfl) (by rfl) ?_ ?_; rotate_left; (intro wz hz; (try dsimp only at hz); go_simp; try with_reducible rfl); (try simp only [Act.put, List.setIfInBounds_toArray, List.set_cons_zero, List.set_cons_succ]))
          | (refine wpReads_any ?_ (by rfl) ?_ ?_; rotate_left; (intro wz; go_simp; try with_reducible rfl); (try simp only [Act.put, List.setIfInBounds_toArray, List.set_cons_zero, List.set_cons_succ])))
        refine wpReads_nil ?_
        go_wp2_with fail
        refine (head_any _ _ M vo' _ s.1 op s.2 t (HM2.out.drewN 1) (by have := HCC.out; omega) (by have := HCC.out; omega) (by omega)).mono ?_
        rintro e w5 ⟨rfl, q5, vo5, T5, M5⟩
        have T5' := ((Turn.of_quiet (ext q X 8) ⟨1, rfl⟩).mono (D := MkC) (fun _ h => h.elim)).trans T5 (fun _ h => h)
        have HK5 := Lib.hid (HK2.out.turn T5' (by unfold MkC; omega))
        have HT5 := Lib.hid (HT2.out.trans T5' (fun _ h => h))
        have HX5 := Lib.hid (HX2.out.turn T5' (by unfold MkC; omega))
        have HL5 : Hid ((openP op t s).1.length + 33 + costN b ≤ 10000000 ∧ op + 1 + depthN b ≤ 1000 ∧ (openP op t s).2 ≤ 1000) := Lib.hid (by have := HCC.out; simp only [openP, List.length_append, List.length_cons, List.length_nil]; omega)
        have HM5 : Hid (MkAt w5 q5 M vo5 (openP op t s).1 ((op + 1 : Nat) : Int) ((openP op t s).2 : Nat) (.slice fa F.length fc)) := Lib.hid M5
        have HSE : Hid (stepP F t nd b op s = closeP op (s.1.length + 1) (if b.isNil then leafP F nd (openP op t s) else rowP F b (op + 1) (openP op t s))) := Lib.hid (by rw [stepP, if_pos h1])
        clear T5 T5' M5 HK2 HT2 HM2 HX2 x0 x2
        generalize openP op t s = s5 at *
        have x2 := HX5.out.cell 2 _ rfl
        by_cases hz : m = 0
        · subst hz
          have HNL := Lib.hid (show b.isNil = true by rw [HNL0.out]; rfl)
          go_wp2_with fail
          obtain ⟨k, hk, hkl⟩ : ∃ k : Nat, nd = k ∧ k < F.length := ⟨nd.toNat, by have := HLJ.out.1 HNL.out; omega, by have := HLJ.out.1 HNL.out; omega⟩
          subst hk
          obtain ⟨fb, foff, rfl, hfc, hfb, hfrec⟩ := HMF.out.at (by omega)
          obtain ⟨cs, hcs, ⟨ry, rfl, hry⟩, hfcl⟩ := hfrec k hkl
          have z3 := cell_later HK5.out.below (hfcl 0 (by omega))
          simp at z3
          have hr5 := hry.below (w' := w5.drew) (HK5.out.turn (Turn.of_quiet q5 ⟨1, rfl⟩) (fun h => h)).below
          obtain ⟨ra, rc, hre, hr0, -, hrc⟩ := hr5
          subst hre
          have HRW : Hid (rowM F k = F[k]) := Lib.hid (by unfold rowM; rw [List.getElem?_eq_getElem hkl]; rfl)
          have hr33 := HF.out.rows k
          rw [HRW.out] at hr33
          obtain ⟨R, hR⟩ : ∃ x, F[k] = x := ⟨_, rfl⟩
          rw [hR] at HRW z3 hr0 hrc hr33
          have HR0 := Lib.hid hr0
          have HRC := Lib.hid hrc
          have hki : (k : Int) < F.length := by omega
          have hfci : (F.length : Int) ≤ fc := by have := hfc; omega
          obtain ⟨sa, sc, rfl⟩ := HM5.out.own.slice
          have z0 := HM5.out.blk.cell 0 _ rfl
          have z4 := HM5.out.blk.cell 3 _ rfl
          have z1 := HX5.out.cell 1 _ rfl
          obtain ⟨i0, hi, hz0, hz1, hz2⟩ := info_parts info_Op
          have h5l := HL5.out
          clear hfrec hcs hfcl hry hr0 hrc hR hfb
          refine wp_region_lex (fun w' => w'.cell? ⟨M, 0, none⟩ = some (.slice sa s5.1.length sc) ∧ w'.cell? ⟨M, 3, none⟩ = some (.slice (some ⟨fb, foff, none⟩) F.length fc) ∧ w'.cell? ⟨X, 1, none⟩ = some (.int .i64 k) ∧ w'.cell? ⟨fb, foff + k, none⟩ = some (.slice ra R.length rc)) [0, 1, 2, 3, 4, 5, 6, 7, 8, 9, 10, 11, 12, 13] [14, 15, 16, 17, 18] (by kernel_rfl) (by kernel_rfl) rfl (fun _ _ hx h => ⟨hx.cell h.1, hx.cell h.2.1, hx.cell h.2.2.1, hx.cell h.2.2.2⟩) ⟨z0, z4, z1, z3⟩ ?_
          intro Q' hQ'
          simp only [pickOps, List.flatMap_cons, List.flatMap_nil, List.drop_succ_cons, List.drop_zero, List.take_succ_cons, List.take_zero, List.cons_append, List.nil_append, List.append_nil]
          repeat (first
            | (refine wpReads_skip (by rfl) ?_; (try simp only [Act.put, List.setIfInBounds_toArray, List.set_cons_zero, List.set_cons_succ]))
            | (refine wpReads_cons ?_ (by rfl) (by rfl) ?_ ?_; rotate_left; (intro wz hz; (try dsimp only at hz); go_simp; try with_reducible rfl); (try simp only [Act.put, List.setIfInBounds_toArray, List.set_cons_zero, List.set_cons_succ]))
            | (refine wpReads_any ?_ (by rfl) ?_ ?_; rotate_left; (intro wz; go_simp; try with_reducible rfl); (try simp only [Act.put, List.setIfInBounds_toArray, List.set_cons_zero, List.set_cons_succ])))
          refine wpReads_nil ?_
          go_wp2_with (at_builtin; refine stop_here ?_)
          refine go_on ?_
          refine wpList_app rfl _ _ 37 rfl 0 61 i0 _ 3 24 Try.underlying37 hi hz0 hz1 hz2 rfl (.slice sa s5.1.length sc) s5.1.length _ rfl (show w5.drew.ownsRow 0 61 3 (.slice sa s5.1.length sc) s5.1.length (opsV s5.1) from HM5.out.own.1) ra R.length rc (opsV R) rfl (opsV_len R) HR0.out HRC.out (opsV_one R) (by unfold maxLen; omega) (grow_ok (by omega)) (Nat.zero_le _) ?_
          intro v6 w6 k1 k20 _ k4
          have hm6 : Mods (fun b => (Value.slice sa s5.1.length sc).ownBlock = some b) w5 w6 := ((Mods.refl _ w5).drewN 1).grown k20 (fun b hb _ => hb)
          obtain ⟨y0, yf, T6, M6⟩ := HM5.out.grow (news := R) (v' := v6) (w2 := w6) k1 hm6 (k4.imp id (fun k4 b hb => by rw [k4] at hb; have := Option.some.inj hb; simp at this; omega))
          obtain ⟨s6a, c6a, rfl⟩ := owns_slice k1
          have HK6 := Lib.hid (HK5.out.turn T6 (by unfold MkC; omega))
          have HT6 := Lib.hid (HT5.out.trans T6 (fun _ h => h))
          have HM6 : Hid (MkAt _ _ M _ (leafP F k s5).1 ((op + 1 : Nat) : Int) ((leafP F k s5).2 : Nat) (.slice (some ⟨fb, foff, none⟩) F.length fc)) := Lib.hid (by unfold leafP; rw [Int.toNat_natCast, HRW.out]; exact M6)
          have HX6 := Lib.hid (HX5.out.turn T6 (by unfold MkC; omega))
          have HE6 : Hid (stepP F t k b op s = closeP op (s.1.length + 1) (leafP F k s5)) := Lib.hid (by rw [HSE.out, HNL.out]; rfl)
          clear T6 M6 HK5 HT5 HM5 HX5 hm6 k1 k20 k4 z0 z1 z3 z4
          generalize leafP F k s5 = s6 at *
          have w0' := HX6.out.cell 0 _ rfl
          go_wp2_with fail
          refine (back_any _ _ M _ _ s6.1 op s6.2 _ HM6.out (by have e1 := HLn.out; rw [HE6.out] at e1; have e2 := HCC.out; simp only [closeP, List.length_append, List.length_cons, List.length_nil] at e1; omega) (by have := HCC.out; omega)).mono ?_
          rintro e w7 ⟨rfl, q7, vo7, T7, M7⟩
          have HK7 := Lib.hid (HK6.out.turn T7 (by unfold MkC; omega))
          have HT7 := Lib.hid (HT6.out.trans T7 (fun _ h => h))
          have HM7 := Lib.hid M7
          clear T7 M7 HK6 HT6 HM6 HX6 w0'
          go_wp2
          go_roundw
          case rel => exact ⟨j + 1, _, _, stepP F t k b op s, hlt, by go_num, HK7.out, HT7.out, by rw [HE6.out]; exact HM7.out, by have := HCn.out; have := HCC.out; omega, by have := HLn.out; have := HCC.out; omega, HEC.out⟩
          case measure => simp [intOf]; omega
        · have hzi : (0 : Int) < m := by omega
          have HNL := Lib.hid (show b.isNil = false by rw [HNL0.out, decide_eq_false hz])
          go_wp2_with fail
          refine (HROW.out w0 _ q5 M _ _ _ b s5.1 (op + 1) s5.2 HY.out HSb.out HLJ.out.2.1 HMF.out HK5.out HM5.out (by have := HL5.out; omega) (by have := HL5.out; omega) (by have := HL5.out; omega)).mono ?_
          rintro e w6 ⟨rfl, q6, vo6, T6, M6⟩
          have HK6 := Lib.hid (HK5.out.turn T6 (by unfold MkC; omega))
          have HT6 := Lib.hid (HT5.out.trans T6 (fun _ h => h))
          have HM6 : Hid (MkAt w6 q6 M vo6 (rowP F b (op + 1) s5).1 ((op + 1 : Nat) : Int) ((rowP F b (op + 1) s5).2 : Nat) (.slice fa F.length fc)) := Lib.hid M6
          have HX6 := Lib.hid (HX5.out.turn T6 (by unfold MkC; omega))
          have HE6 : Hid (stepP F t nd b op s = closeP op (s.1.length + 1) (rowP F b (op + 1) s5)) := Lib.hid (by rw [HSE.out, HNL.out]; rfl)
          clear T6 M6 HK5 HT5 HM5 HX5
          generalize rowP F b (op + 1) s5 = s6 at *
          have w0' := HX6.out.cell 0 _ rfl
          go_wp2_with fail
          refine (back_any _ _ M _ _ s6.1 op s6.2 _ HM6.out (by have e1 := HLn.out; rw [HE6.out] at e1; have e2 := HCC.out; simp only [closeP, List.length_append, List.length_cons, List.length_nil] at e1; omega) (by have := HCC.out; omega)).mono ?_
          rintro e w7 ⟨rfl, q7, vo7, T7, M7⟩
          have HK7 := Lib.hid (HK6.out.turn T7 (by unfold MkC; omega))
          have HT7 := Lib.hid (HT6.out.trans T7 (fun _ h => h))
          have HM7 := Lib.hid M7
          clear T7 M7 HK6 HT6 HM6 HX6 w0'
          go_wp2
          go_roundw
          case rel => exact ⟨j + 1, _, _, stepP F t nd b op s, hlt, by go_num, HK7.out, HT7.out, by rw [HE6.out]; exact HM7.out, by have := HCn.out; have := HCC.out; omega, by have := HLn.out; have := HCC.out; omega, HEC.out⟩
          case measure => simp [intOf]; omega
      · have HSE0 : Hid (stepP F t nd b op s = id (if b.isNil then leafP F nd s else rowP F b op s)) := Lib.hid (by rw [stepP, if_neg h1]; rfl)
        have HL5 : Hid (s.1.length + 33 + costN b ≤ 10000000 ∧ op + depthN b ≤ 1000 ∧ s.2 ≤ 1000) := Lib.hid (by have := HCC.out; omega)
        by_cases hz : m = 0
        · subst hz
          have HNL := Lib.hid (show b.isNil = true by rw [HNL0.out]; rfl)
          go_wp2_with fail
          generalize wr.alloc (.cells #[.int .i64 t, .int .i64 nd, .slice ya 0 yc] 51) = w5 at *
          have HK5 := HK2
          have HT5 := HT2
          have HM5 := HM2
          have HX5 := HX2
          clear HK2 HT2 HM2 HX2
          generalize ext q X 8 = q5 at *
          obtain ⟨vo5, hvo5⟩ : ∃ x, vo' = x := ⟨_, rfl⟩
          subst hvo5
          obtain ⟨s5, hs5⟩ : ∃ x, x = s := ⟨_, rfl⟩
          have HSE : Hid (stepP F t nd b op s = id (if b.isNil then leafP F nd s5 else rowP F b op s5)) := by rw [hs5]; exact HSE0
          rw [← hs5] at HM5 HL5
          clear hs5
          obtain ⟨k, hk, hkl⟩ : ∃ k : Nat, nd = k ∧ k < F.length := ⟨nd.toNat, by have := HLJ.out.1 HNL.out; omega, by have := HLJ.out.1 HNL.out; omega⟩
          subst hk
          obtain ⟨fb, foff, rfl, hfc, hfb, hfrec⟩ := HMF.out.at (by omega)
          obtain ⟨cs, hcs, ⟨ry, rfl, hry⟩, hfcl⟩ := hfrec k hkl
          have z3 := cell_later HK5.out.below (hfcl 0 (by omega))
          simp at z3
          have hr5 := hry.below (w' := w5.drew) (HK5.out.turn (Turn.of_quiet q5 ⟨1, rfl⟩) (fun h => h)).below
          obtain ⟨ra, rc, hre, hr0, -, hrc⟩ := hr5
          subst hre
          have HRW : Hid (rowM F k = F[k]) := Lib.hid (by unfold rowM; rw [List.getElem?_eq_getElem hkl]; rfl)
          have hr33 := HF.out.rows k
          rw [HRW.out] at hr33
          obtain ⟨R, hR⟩ : ∃ x, F[k] = x := ⟨_, rfl⟩
          rw [hR] at HRW z3 hr0 hrc hr33
          have HR0 := Lib.hid hr0
          have HRC := Lib.hid hrc
          have hki : (k : Int) < F.length := by omega
          have hfci : (F.length : Int) ≤ fc := by have := hfc; omega
          obtain ⟨sa, sc, rfl⟩ := HM5.out.own.slice
          have z0 := HM5.out.blk.cell 0 _ rfl
          have z4 := HM5.out.blk.cell 3 _ rfl
          have z1 := HX5.out.cell 1 _ rfl
          obtain ⟨i0, hi, hz0, hz1, hz2⟩ := info_parts info_Op
          have h5l := HL5.out
          clear hfrec hcs hfcl hry hr0 hrc hR hfb
          refine wp_region_lex (fun w' => w'.cell? ⟨M, 0, none⟩ = some (.slice sa s5.1.length sc) ∧ w'.cell? ⟨M, 3, none⟩ = some (.slice (some ⟨fb, foff, none⟩) F.length fc) ∧ w'.cell? ⟨X, 1, none⟩ = some (.int .i64 k) ∧ w'.cell? ⟨fb, foff + k, none⟩ = some (.slice ra R.length rc)) [0, 1, 2, 3, 4, 5, 6, 7, 8, 9, 10, 11, 12, 13] [14, 15, 16, 17, 18] (by kernel_rfl) (by kernel_rfl) rfl (fun _ _ hx h => ⟨hx.cell h.1, hx.cell h.2.1, hx.cell h.2.2.1, hx.cell h.2.2.2⟩) ⟨z0, z4, z1, z3⟩ ?_
          intro Q' hQ'
          simp only [pickOps, List.flatMap_cons, List.flatMap_nil, List.drop_succ_cons, List.drop_zero, List.take_succ_cons, List.take_zero, List.cons_append, List.nil_append, List.append_nil]
          repeat (first
            | (refine wpReads_skip (by rfl) ?_; (try simp only [Act.put, List.setIfInBounds_toArray, List.set_cons_zero, List.set_cons_succ]))
            | (refine wpReads_cons ?_ (by rfl) (by rfl) ?_ ?_; rotate_left; (intro wz hz; (try dsimp only at hz); go_simp; try with_reducible rfl); (try simp only [Act.put, List.setIfInBounds_toArray, List.set_cons_zero, List.set_cons_succ]))
            | (refine wpReads_any ?_ (by rfl) ?_ ?_; rotate_left; (intro wz; go_simp; try with_reducible rfl); (try simp only [Act.put, List.setIfInBounds_toArray, List.set_cons_zero, List.set_cons_succ])))
          refine wpReads_nil ?_
          go_wp2_with (at_builtin; refine stop_here ?_)
          refine go_on ?_
          refine wpList_app rfl _ _ 37 rfl 0 61 i0 _ 3 24 Try.underlying37 hi hz0 hz1 hz2 rfl (.slice sa s5.1.length sc) s5.1.length _ rfl (show w5.drew.ownsRow 0 61 3 (.slice sa s5.1.length sc) s5.1.length (opsV s5.1) from HM5.out.own.1) ra R.length rc (opsV R) rfl (opsV_len R) HR0.out HRC.out (opsV_one R) (by unfold maxLen; omega) (grow_ok (by omega)) (Nat.zero_le _) ?_
          intro v6 w6 k1 k20 _ k4
          have hm6 : Mods (fun b => (Value.slice sa s5.1.length sc).ownBlock = some b) w5 w6 := ((Mods.refl _ w5).drewN 1).grown k20 (fun b hb _ => hb)
          obtain ⟨y0, yf, T6, M6⟩ := HM5.out.grow (news := R) (v' := v6) (w2 := w6) k1 hm6 (k4.imp id (fun k4 b hb => by rw [k4] at hb; have := Option.some.inj hb; simp at this; omega))
          obtain ⟨s6a, c6a, rfl⟩ := owns_slice k1
          have HK6 := Lib.hid (HK5.out.turn T6 (by unfold MkC; omega))
          have HT6 := Lib.hid (HT5.out.trans T6 (fun _ h => h))
          have HM6 : Hid (MkAt _ _ M _ (leafP F k s5).1 ((op : Nat) : Int) ((leafP F k s5).2 : Nat) (.slice (some ⟨fb, foff, none⟩) F.length fc)) := Lib.hid (by unfold leafP; rw [Int.toNat_natCast, HRW.out]; exact M6)
          have HX6 := Lib.hid (HX5.out.turn T6 (by unfold MkC; omega))
          have HE6 : Hid (stepP F t k b op s = id (leafP F k s5)) := Lib.hid (by rw [HSE.out, HNL.out]; rfl)
          clear T6 M6 HK5 HT5 HM5 HX5 hm6 k1 k20 k4 z0 z1 z3 z4
          generalize leafP F k s5 = s6 at *
          have w0' := HX6.out.cell 0 _ rfl
          go_wp2
          go_roundw
          case rel => exact ⟨j + 1, _, _, stepP F t k b op s, hlt, by go_num, HK6.out, HT6.out, by rw [HE6.out]; exact HM6.out, by have := HCn.out; have := HCC.out; omega, by have := HLn.out; have := HCC.out; omega, HEC.out⟩
          case measure => simp [intOf]; omega
        · have hzi : (0 : Int) < m := by omega
          have HNL := Lib.hid (show b.isNil = false by rw [HNL0.out, decide_eq_false hz])
          go_wp2_with fail
          generalize wr.alloc (.cells #[.int .i64 t, .int .i64 nd, .slice ya m yc] 51) = w5 at *
          have HK5 := HK2
          have HT5 := HT2
          have HM5 := HM2
          have HX5 := HX2
          clear HK2 HT2 HM2 HX2
          generalize ext q X 8 = q5 at *
          obtain ⟨vo5, hvo5⟩ : ∃ x, vo' = x := ⟨_, rfl⟩
          subst hvo5
          obtain ⟨s5, hs5⟩ : ∃ x, x = s := ⟨_, rfl⟩
          have HSE : Hid (stepP F t nd b op s = id (if b.isNil then leafP F nd s5 else rowP F b op s5)) := by rw [hs5]; exact HSE0
          rw [← hs5] at HM5 HL5
          clear hs5
          refine (HROW.out w0 _ q5 M _ _ _ b s5.1 (op) s5.2 HY.out HSb.out HLJ.out.2.1 HMF.out HK5.out HM5.out (by have := HL5.out; omega) (by have := HL5.out; omega) (by have := HL5.out; omega)).mono ?_
          rintro e w6 ⟨rfl, q6, vo6, T6, M6⟩
          have HK6 := Lib.hid (HK5.out.turn T6 (by unfold MkC; omega))
          have HT6 := Lib.hid (HT5.out.trans T6 (fun _ h => h))
          have HM6 : Hid (MkAt w6 q6 M vo6 (rowP F b (op) s5).1 ((op : Nat) : Int) ((rowP F b (op) s5).2 : Nat) (.slice fa F.length fc)) := Lib.hid M6
          have HX6 := Lib.hid (HX5.out.turn T6 (by unfold MkC; omega))
          have HE6 : Hid (stepP F t nd b op s = id (rowP F b (op) s5)) := Lib.hid (by rw [HSE.out, HNL.out]; rfl)
          clear T6 M6 HK5 HT5 HM5 HX5
          generalize rowP F b (op) s5 = s6 at *
          have w0' := HX6.out.cell 0 _ rfl
          go_wp2
          go_roundw
          case rel => exact ⟨j + 1, _, _, stepP F t nd b op s, hlt, by go_num, HK6.out, HT6.out, by rw [HE6.out]; exact HM6.out, by have := HCn.out; have := HCC.out; omega, by have := HLn.out; have := HCC.out; omega, HEC.out⟩
          case measure => simp [intOf]; omega
    · obtain rfl : j = l.items.length := by omega
      have e := HE.out
      rw [drop_end, rowP] at e
      subst e
      go_wp2
      go_end0
      exact ⟨rfl, _, _, HT.out, HM.out⟩
theorem erow_any {F : List (List GOp)} (hF : FOk F) : ∀ D, ERowOk F D
  | 0 => erow_zero F
  | D + 1 => erow_succ hF (erow_any hF D)
end Go.Proofs.Ytbmbfifempkhgaa
