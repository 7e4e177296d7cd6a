/- ActorsFilters, walked: a filter that is made. -/
import Derived.Test.YtknmiiajeafjpaaFilters
namespace Go.Proofs.Ytknmiiajeafjpaa
open Go.RowKit

theorem fits_zero : Fits 0 := by unfold Fits; decide
theorem snoc_fits {tk : List Int} {x : Int} (h : ∀ y ∈ tk, Fits y) (hx : Fits x) : ∀ y ∈ tk ++ [x], Fits y := fun y hy => by
  rcases List.mem_append.1 hy with hy | hy
  · exact h y hy
  · rw [List.mem_singleton.1 hy]; exact hx
theorem at_fits {l : List Int} (h : ∀ y ∈ l, Fits y) {k : Nat} (hk : k < l.length) : Fits (l[k]?.getD 0) := by
  rw [List.getElem?_eq_getElem hk, Option.getD_some]; exact h _ (List.getElem_mem hk)

theorem six {a b : Nat} (h : a ≤ 3) (k : b ≤ 3) : a + b ≤ 6 := by omega

set_option maxRecDepth 100000 in
set_option maxHeartbeats 4000000 in
theorem filters_yes (w : World) (tao : Option Addr) (tcap : Nat) (taps : List Int) (v : Value) (xs : List Int) (h1 : 1 ≤ taps.length) (h2 : taps.length ≤ 16) (ht : Has w (.slice tao taps.length tcap) (ivs taps)) (hft : ∀ x ∈ taps, Fits x) (hx : Has w v (ivs xs)) (hf : ∀ x ∈ xs, Fits x) (hl : xs.length ≤ 17600000000000) : Calls Try.prog 6 #[.slice tao taps.length tcap, v] w fun e w' => e = .returned (.bool true) ∧ Below w.heap.size w w' := by
  obtain ⟨i0, hi, hz0, hz1, hz2⟩ := info_parts info_int
  obtain ⟨xao, xcp, rfl⟩ := hx.slice
  simp only [ivs_len] at hx ⊢
  have HX := Lib.hid hx
  have HF := Lib.hid hf
  have HL := Lib.hid hl
  have HT := Lib.hid ht
  have HFT := Lib.hid hft
  have HG := Lib.hid (filter_good h1 h2)
  have h1i : ¬ (taps.length : Int) < 1 := by omega
  have h2i : ¬ (16 : Int) < taps.length := by omega
  clear hx hf hl ht hft
  go_enter Try.func6, Try.ntmps6
  go_wp2_with fail
  refine (New_act (t := 1) (ps := taps) (fun _ => 0) 1 2 (by decide) HG.out HFT.out HT.out).mono ?_
  rintro e w1 ⟨bb, o1, rfl, T1, A1⟩
  have HK1 := Lib.hid ((Kept.start w).turn T1 (fun h => h))
  have e8 : keep0 1 taps = List.replicate (taps.length - 1) 0 := rfl
  rw [e8] at A1
  have HB1 := Lib.hid A1
  have HKA := Lib.hid (KeepAt.start h1)
  clear T1 A1 e8
  go_wp2_with fail
  go_loopw [7, 8] (fun t i wr => ∃ (k : Nat) (tk keep : List Int) (o : Col), k ≤ xs.length ∧ i = .int .i64 k ∧ tk.length ≤ k ∧ Kept w.heap.size o w wr ∧ Act wr o 1 2 bb 1 taps keep tk.length ∧ Own wr o 5 3 1 t tk.length (ivs tk) ∧ KeepAt taps.length keep tk ∧ ∀ x ∈ tk, Fits x) (fun _ i _ => xs.length - (intOf i).toNat)
  case atStart => exact ⟨0, [], _, o1, Nat.zero_le _, rfl, Nat.le_refl _, HK1.out, HB1.out, Own.nil _ _ _ _ _, HKA.out, fun x hx => by cases hx⟩
  case round =>
    clear HK1 HB1 HKA
    obtain ⟨k, tk, keep, o, hk, rfl, htk, K, B, OW, KA, FT⟩ := hrel
    have HK := Lib.hid K
    have HB := Lib.hid B
    have HOW := Lib.hid OW
    have HKA := Lib.hid KA
    have HTF := Lib.hid FT
    obtain ⟨ta, tc, rfl⟩ := OW.slice
    clear K B OW KA FT
    by_cases hlt : k < xs.length
    · have hlti : (k : Int) < xs.length := by omega
      obtain ⟨b0, off, rfl, -, hcx, -, -, hcell⟩ := Vals.at HX.out (by rw [ivs_len]; omega)
      have hx0 := hcell k (by rw [ivs_len]; omega)
      rw [ivs_get (by omega)] at hx0
      have hxr := cell_later HK.out.below hx0
      have hfx : Fits (xs[k]?.getD 0) := at_fits HF.out hlt
      generalize hxk : xs[k]?.getD 0 = x at *
      have hcxi : (xs.length : Int) ≤ xcp := by omega
      have HX0 := Lib.hid hx0
      have HFX := Lib.hid hfx
      have fk : Fits ((tk.length : Int) + 1) := by unfold Fits; have := HL.out; omega
      have HFK := Lib.hid fk
      clear hxk hcell hx0 hfx fk
      have hbA : Below wr.heap.size wr ((wr.alloc (.cells #[iv x] 3)).alloc (.cells #[.slice (some ⟨wr.heap.size, 0, none⟩) 1 1] 22)) := (below_alloc wr _).alloc (by simp) _
      have HBA := Lib.hid hbA
      clear hbA
      rcases hr : dotP 0 taps (x :: keep) with _ | y
      · have HR := Lib.hid (show reckP 1 taps keep [[x]] = none by rw [filter_reckP, hr]; rfl)
        clear hr
        go_wp2_with fail
        refine (Fire_fault (HB.out.below 0 HBA.out) (ll_lit wr [x] 3 22 _ _ rfl rfl (by simp)) (fun l hl z hz => by
          rw [List.mem_singleton.1 hl] at hz; rw [List.mem_singleton.1 hz]; exact HFX.out) HFK.out rfl HR.out).mono ?_
        rintro e w3 ⟨rfl, hb3⟩
        have HB3 := Lib.hid (HBA.out.trans (hb3.mono HBA.out.size))
        clear hb3 HBA
        go_wp2
        go_roundw
        case rel => exact ⟨k + 1, tk, keep, _, hlt, step_i (by have := HL.out; omega), by omega, HK.out.of_below 0 HB3.out, HB.out.below 0 HB3.out, HOW.out.turn (Turn.of_below o 0 HB3.out) (fun h => h), HKA.out, HTF.out⟩
        case measure => rw [step_i (by have := HL.out; omega)]; simp [intOf]; omega
      · have HR := Lib.hid (show reckP 1 taps keep [[x]] = some ([[y]], (x :: keep).take keep.length) by rw [filter_reckP, hr]; rfl)
        have HY := Lib.hid (dot_sum taps (x :: keep) 0 y hr fits_zero)
        clear hr
        go_wp2_with fail
        refine (Fire_act 6 (by decide) (HB.out.below 0 HBA.out) (ll_lit wr [x] 3 22 _ _ rfl rfl (by simp)) (fun l hl z hz => by
          rw [List.mem_singleton.1 hl] at hz; rw [List.mem_singleton.1 hz]; exact HFX.out) HFK.out rfl HR.out).mono ?_
        rintro e w3 ⟨ov, o3, rfl, T3, B3, O3⟩
        have T3' := ((Turn.of_below o 0 HBA.out).mono (D := fun x => x = 1) (fun _ h => h.elim)).trans T3 (fun _ h => h)
        have HK3 := Lib.hid (HK.out.turn T3' (by decide))
        have HOW3 := Lib.hid (HOW.out.turn T3' (by decide))
        have HB3 := Lib.hid B3
        obtain ⟨bv, ofv, cv, a0, c0, rfl, hcv, hr0, hh0⟩ := outs_one O3
        obtain ⟨b3, of3, rfl, -, hc3, -, -, hcell2⟩ := Vals.at hh0 (by simp)
        have hx2 := hcell2 0 (by simp)
        simp only [List.length_singleton] at hr0 hc3
        simp at hx2
        have hc3i : (1 : Int) ≤ c0 := by omega
        have hxr3 := cell_later HK3.out.below HX0.out
        have HOUT3 := Lib.hid O3
        clear hcell2 hh0 O3 T3 T3' B3 HK HOW HB HBA hxr HR
        go_wp2_with (at_builtin; refine stop_here ?_)
        refine go_on ?_
        have hown := HOW3.out.1
        have hbd : tk.length ≤ 17600000000000 := by have := HL.out; omega
        refine wpList_app rfl _ _ 22 rfl 0 3 i0 _ 1 8 Try.underlying22 hi hz0 hz1 hz2 rfl (.slice ta tk.length tc) tk.length _ rfl (hown.alloc (.cells #[.int .i64 x] 3)) (some ⟨w3.heap.size, 0, none⟩) 1 1 [.int .i64 x] rfl rfl (fun h => by cases h) (news_alloc w3 [.int .i64 x] 3) (one_cell_int _) (by unfold maxLen; omega) (grow_ok (by omega)) (Nat.zero_le _) ?_
        intro v5 w5 k1 k20 _ k4
        have k2 : (w3.alloc (.cells #[.int .i64 x] 3)).grownBy w5 (Value.slice ta tk.length tc).ownBlock := ⟨k20.os, k20.tape, k20.output, k20.size, k20.block⟩
        obtain ⟨P5, T5⟩ := HOW3.out.app1 k1 k2 k4
        have HK5 := Lib.hid (HK3.out.turn T5 (by decide))
        have HB5 := Lib.hid (HB3.out.turn T5 (by decide) (by decide))
        rw [← ivs_snoc] at P5
        obtain ⟨tk2, htk2⟩ : ∃ l, tk ++ [x] = l := ⟨_, rfl⟩
        have hlen2 : tk.length + 1 = tk2.length := by rw [← htk2]; simp
        rw [htk2, hlen2] at P5
        have HO5 := Lib.hid P5
        have HTK := Lib.hid htk2
        have HLN := Lib.hid hlen2
        have HOUT5 := Lib.hid (HOUT3.out.turn T5 (by decide))
        have HKA5 := Lib.hid (htk2 ▸ HKA.out.next x : KeepAt taps.length ((x :: keep).take keep.length) tk2)
        have HFT5 := Lib.hid (htk2 ▸ snoc_fits HTF.out HFX.out : ∀ z ∈ tk2, Fits z)
        have HYE := Lib.hid (show sumT taps tk2.reverse = y by rw [← htk2, ← HKA.out.sum x, HY.out.1, Int.zero_add])
        have HFY := Lib.hid HY.out.2
        obtain ⟨sa5, sc5, rfl⟩ := HO5.out.slice
        clear k1 k20 k2 k4 hown P5 T5 HK3 HOW3 HB3 HOUT3 hr0 hx2 hxr3 htk2 HTK HKA HTF HY
        go_wp2_with fail
        refine (wof_any _ 0 fits_zero).mono ?_
        rintro e w6 ⟨b6, a6, c6, ds6, rfl, h6, p6, l6, hb6⟩
        have HS0 := Lib.hid (SumAt.start (taps := taps) (rev := tk2.reverse) h6 p6 l6)
        rw [HYE.out] at HS0
        obtain ⟨P, hP⟩ : ∃ P, w6.heap.size = P := ⟨_, rfl⟩
        have hbP : Below P w6 (w6.alloc (.cells #[.bool b6, .slice a6 ds6.length c6] 40)) := hP ▸ below_alloc w6 _
        rw [hP] at HS0
        have HPE := Lib.hid hP
        have HBP := Lib.hid hbP
        have HB6 := Lib.hid hb6
        clear h6 p6 l6 hP hbP hb6
        go_wp2_with fail
        rw [HPE.out]
        go_loopw [12] (fun jv wq => ∃ (j : Nat) (b : Bool) (ao : Option Addr) (cap : Nat) (ds : List Int) (z : Int), jv = .int .i64 j ∧ j ≤ taps.length ∧ j ≤ tk2.length ∧ SumAt wq P taps tk2.reverse y j b ao cap ds z ∧ Below P w6 wq) (fun jv _ => taps.length - (intOf jv).toNat)
        case atStart => exact ⟨0, _, _, _, _, _, rfl, Nat.zero_le _, Nat.zero_le _, HS0.out, HBP.out⟩
        case round =>
          clear HS0 HBP
          obtain ⟨j, bz, az, cz, ds, z, rfl, hj1, hj2, hS, hbq⟩ := hrel
          have HS := Lib.hid hS
          have HBQ := Lib.hid hbq
          clear hS hbq
          have q0 := cells_row wr _ HS.out.blk 0 _ rfl
          have q1 := cells_row wr _ HS.out.blk 1 _ rfl
          have f0 := frozen_of_block HS.out.blk 0
          have f1 := frozen_of_block HS.out.blk 1
          have HBW : Hid (Below w5.heap.size w5 wr) := Lib.hid (HB6.out.trans ((HPE.out ▸ HBQ.out : Below w6.heap.size w6 wr).mono HB6.out.size))
          have HB0 := Lib.hid (HK5.out.below.trans (HBW.out.mono HK5.out.size))
          by_cases hjt : j < taps.length
          · have hjti : (j : Int) < taps.length := by omega
            by_cases hjk : j < tk2.length
            · have hjki : (j : Int) < tk2.length := by omega
              obtain ⟨bt, ft, rfl, -, hct, -, -, hclt⟩ := Ints.at HT.out (by omega)
              have ct := cell_later HB0.out (hclt j hjt)
              obtain ⟨bk, fk, rfl, -, hck, -, -, hclk⟩ := Ints.at HO5.out.vals (by omega)
              obtain ⟨r, hr⟩ : ∃ r, tk2.length - 1 - j = r := ⟨_, rfl⟩
              have ck := cell_later HBW.out (hclk r (by omega))
              have hrv : tk2[r]?.getD 0 = tk2.reverse[j]?.getD 0 := by rw [← hr]; exact rev_at tk2 j hjk
              have HFt := Lib.hid (at_fits HFT.out hjt)
              have HFx := Lib.hid (at_fits HFT5.out (show r < tk2.length by omega))
              rw [hrv] at ck HFx
              have HNX := Lib.hid (fun (W : World) (b' : Bool) ao' cap' ds' hb hv hw hl => HS.out.next (W := W) (b' := b') (ao' := ao') (cap' := cap') (ds' := ds') hjt hb hv hw hl)
              obtain ⟨t0, ht0⟩ : ∃ t0, taps[j]?.getD 0 = t0 := ⟨_, rfl⟩
              obtain ⟨x0, hx0⟩ : ∃ x0, tk2.reverse[j]?.getD 0 = x0 := ⟨_, rfl⟩
              rw [ht0] at ct HFt HNX
              rw [hx0] at ck HFx HNX
              have hcti : (taps.length : Int) ≤ tcap := by omega
              have hcki : (tk2.length : Int) ≤ sc5 := by omega
              have hri : (r : Int) < tk2.length := by omega
              have hL := HL.out
              have hwA : IntKind.i64.wrap ((tk2.length : Int) - 1) = ((tk2.length - 1 : Nat) : Int) := by rw [IntWalk.i64_in _ (by omega)]; omega
              have hwB : IntKind.i64.wrap (((tk2.length - 1 : Nat) : Int) - (j : Int)) = (r : Int) := by rw [IntWalk.i64_in _ (by omega)]; omega
              clear hclt hclk hrv ht0 hx0 hr hL
              go_wp2_with fail
              refine wp_region_rest (fun w' => w'.cell? ⟨P, 0, none⟩ = some (.bool bz) ∧ w'.cell? ⟨P, 1, none⟩ = some (.slice az ds.length cz) ∧ w'.cell? ⟨bt, ft + j, none⟩ = some (iv t0) ∧ w'.cell? ⟨bk, fk + r, none⟩ = some (iv x0)) [0, 1, 2, 3, 4, 6, 7, 8, 9, 10, 11, 12, 13] [5, 14, 15] 5 (by kernel_rfl) (by kernel_rfl) rfl ⟨q0, q1, ct, ck⟩ ?_
              intro Q' hQ'
              simp only [pickOps, List.flatMap_cons, List.flatMap_nil, List.drop_succ_cons, List.drop_zero, List.take_succ_cons, List.take_zero, List.cons_append, List.nil_append, List.append_nil]
              repeat (first
                | (refine wpReads_skip (by rfl) ?_; (try simp only [Act.put, List.setIfInBounds_toArray, List.set_cons_zero, List.set_cons_succ]))
                | (refine wpReads_cons ?_ (by rfl) (by rfl) ?_ ?_; rotate_left; (intro wz hz; (try dsimp only at hz); go_simp; try with_reducible rfl); (try simp only [Act.put, List.setIfInBounds_toArray, List.set_cons_zero, List.set_cons_succ]))
                | (refine wpReads_any ?_ (by rfl) ?_ ?_; rotate_left; (intro wz; go_simp; try with_reducible rfl); (try simp only [Act.put, List.setIfInBounds_toArray, List.set_cons_zero, List.set_cons_succ])))
              refine wpReads_nil ?_
              refine wpAnyT_one (i := 5) (by kernel_rfl) ?_
              simp only [pickOps, List.flatMap_cons, List.flatMap_nil, List.drop_succ_cons, List.drop_zero, List.take_succ_cons, List.take_zero, List.cons_append, List.nil_append, List.append_nil]
              go_wp2_with fail
              refine (wof_any _ t0 HFt.out).mono ?_
              rintro e wA ⟨ba, aa, ca, da, rfl, ha, pa, la, hbA⟩
              have HBa : Hid (Below wr.heap.size wr wA) := Lib.hid (below_ld (n := 1) hbA)
              have HAa := Lib.hid ha
              have PA := Lib.hid pa
              have LA := Lib.hid la
              clear ha pa la hbA
              go_wp2
              refine ⟨fun _ _ => ⟨cell_later HBa.out q0, cell_later HBa.out q1, cell_later HBa.out ct, cell_later HBa.out ck⟩, ?_⟩
              refine wpAnyT_one (i := 14) (by kernel_rfl) ?_
              simp only [pickOps, List.flatMap_cons, List.flatMap_nil, List.drop_succ_cons, List.drop_zero, List.take_succ_cons, List.take_zero, List.cons_append, List.nil_append, List.append_nil]
              go_wp2_with fail
              refine (wof_any _ x0 HFx.out).mono ?_
              rintro e wB ⟨bx, ab, cb, db, rfl, hb, pb, lb, hbB⟩
              have HBb := Lib.hid (HBa.out.trans (hbB.mono HBa.out.size))
              have HAb := Lib.hid (HAa.out.below hbB)
              have HXb := Lib.hid hb
              have PB := Lib.hid pb
              have LB := Lib.hid lb
              clear hb pb lb hbB HAa HBa
              go_wp2
              refine ⟨fun _ _ => ⟨cell_later HBb.out q0, cell_later HBb.out q1, cell_later HBb.out ct, cell_later HBb.out ck⟩, ?_⟩
              refine wpAnyT_one (i := 15) (by kernel_rfl) ?_
              simp only [pickOps, List.flatMap_cons, List.flatMap_nil, List.drop_succ_cons, List.drop_zero, List.take_succ_cons, List.take_zero, List.cons_append, List.nil_append, List.append_nil]
              go_wp2_with fail
              refine (wtimes_any _ ba bx aa ab ca cb da db t0 x0 6 HAb.out HXb.out PA.out PB.out (six LA.out LB.out) (by decide)).mono ?_
              rintro e wC ⟨bc, ac, cc, dc, rfl, hc, pc, lc, hbC⟩
              have HBc := Lib.hid (HBb.out.trans (hbC.mono HBb.out.size))
              have HC := Lib.hid hc
              have PC := Lib.hid pc
              have LC := Lib.hid lc
              clear hc pc lc hbC HAb HXb PA PB LA LB HBb
              go_wp2
              refine ⟨fun _ _ => ⟨cell_later HBc.out q0, cell_later HBc.out q1, cell_later HBc.out ct, cell_later HBc.out ck⟩, ?_⟩
              refine wpAnyT_list (ks := [16, 17]) (fun _ _ hx h => ⟨hx.cell h.1, hx.cell h.2.1, hx.cell h.2.2.1, hx.cell h.2.2.2⟩) (by kernel_rfl) ?_
              simp only [pickOps, List.flatMap_cons, List.flatMap_nil, List.drop_succ_cons, List.drop_zero, List.take_succ_cons, List.take_zero, List.cons_append, List.nil_append, List.append_nil]
              go_wp2_with fail
              refine (wplus_any _ bz bc az ac cz cc ds dc z (t0 * x0) (7 + j) (HS.out.has.below HBc.out) HC.out HS.out.wh PC.out HS.out.len (Nat.le_trans LC.out (by omega)) (by omega)).mono ?_
              rintro e wD ⟨bd, ad, cd, dd, rfl, hd, pd, ld, hbD⟩
              have HBd := Lib.hid (HBc.out.trans (hbD.mono HBc.out.size))
              have HS2 := Lib.hid (HNX.out wD bd ad cd dd HBd.out hd pd ld)
              have kb := block_mods HS.out.blk (Mods.of_below HBd.out (fun _ => False)) (fun h => h)
              have u0 := cells_row wD _ kb 0 _ rfl
              have u1 := cells_row wD _ kb 1 _ rfl
              have g0 := frozen_of_block kb 0
              have g1 := frozen_of_block kb 1
              have hPs : P ≤ wr.heap.size := by rw [← HPE.out]; exact HBQ.out.size
              have HBF : Hid (Below P w6 ((wD.setCell ⟨P, 0, none⟩ (.bool bd)).setCell ⟨P, 1, none⟩ (.slice ad dd.length cd))) := Lib.hid (((HBQ.out.trans (HBd.out.mono hPs)).setCell (Nat.le_refl _) _).setCell (Nat.le_refl _) _)
              clear hd pd ld hbD kb HC PC LC HBc HNX hPs hwA hwB q0 q1 ct ck f0 f1
              go_wp2
              go_roundw
              case rel => exact ⟨j + 1, bd, ad, cd, dd, _, by first | rfl | go_num, hjt, hjk, HS2.out, HBF.out⟩
              case measure => simp [intOf]; omega
            · obtain rfl : j = tk2.length := by omega
              have HW := Lib.hid (HS.out.done (.inr (by rw [List.length_reverse]; exact Nat.le_refl _)))
              have HSH := Lib.hid HS.out.has
              have hlen := HS.out.len
              go_wp2_with fail
              refine (wint_fits _ bz az cz ds y HSH.out HW.out HFY.out (by omega)).mono ?_
              rintro e wE ⟨rfl, hbE⟩
              have HBE := Lib.hid (HBW.out.trans (hbE.mono HBW.out.size))
              have HK9 := Lib.hid (HK5.out.of_below 7 HBE.out)
              have HB9 := Lib.hid (HB5.out.below 7 HBE.out)
              have HO9 := Lib.hid (HO5.out.turn (Turn.of_below _ 7 HBE.out) (fun h => h))
              obtain ⟨bv', ofv', cv', a9, c9, e9, hcv9, hr9, hh9⟩ := outs_one (HOUT5.out.turn (Turn.of_below _ 7 HBE.out) (fun h => h))
              cases e9
              obtain ⟨b9, of9, rfl, -, hc9, -, -, hcell9⟩ := Vals.at hh9 (by simp)
              have hx9 := hcell9 0 (by simp)
              simp only [List.length_singleton] at hr9 hc9
              simp at hx9
              have hc9i : (1 : Int) ≤ c9 := by omega
              have hLN : (tk.length : Int) + 1 = (tk2.length : Int) := by omega
              rw [hLN] at HB9
              clear hcell9 hh9 hbE hlen HW HSH HS HBQ HBW HB0 q0 q1 f0 f1 HB5 hLN
              go_wp2
              have hLL := HL.out
              go_roundw
              case rel => exact ⟨k + 1, tk2, _, _, hlt, step_i (by omega), by omega, HK9.out, HB9.out, HO9.out, HKA5.out, HFT5.out⟩
              case measure => rw [step_i (by omega)]; simp [intOf]; omega
          · obtain rfl : j = taps.length := by omega
            have HW := Lib.hid (HS.out.done (.inl (Nat.le_refl _)))
            have HSH := Lib.hid HS.out.has
            have hlen := HS.out.len
            go_wp2_with fail
            refine (wint_fits _ bz az cz ds y HSH.out HW.out HFY.out (by omega)).mono ?_
            rintro e wE ⟨rfl, hbE⟩
            have HBE := Lib.hid (HBW.out.trans (hbE.mono HBW.out.size))
            have HK9 := Lib.hid (HK5.out.of_below 7 HBE.out)
            have HB9 := Lib.hid (HB5.out.below 7 HBE.out)
            have HO9 := Lib.hid (HO5.out.turn (Turn.of_below _ 7 HBE.out) (fun h => h))
            obtain ⟨bv', ofv', cv', a9, c9, e9, hcv9, hr9, hh9⟩ := outs_one (HOUT5.out.turn (Turn.of_below _ 7 HBE.out) (fun h => h))
            cases e9
            obtain ⟨b9, of9, rfl, -, hc9, -, -, hcell9⟩ := Vals.at hh9 (by simp)
            have hx9 := hcell9 0 (by simp)
            simp only [List.length_singleton] at hr9 hc9
            simp at hx9
            have hc9i : (1 : Int) ≤ c9 := by omega
            have hLN : (tk.length : Int) + 1 = (tk2.length : Int) := by omega
            rw [hLN] at HB9
            clear hcell9 hh9 hbE hlen HW HSH HS HBQ HBW HB0 q0 q1 f0 f1 HB5 hLN
            go_wp2
            have hLL := HL.out
            go_roundw
            case rel => exact ⟨k + 1, tk2, _, _, hlt, step_i (by omega), by omega, HK9.out, HB9.out, HO9.out, HKA5.out, HFT5.out⟩
            case measure => rw [step_i (by omega)]; simp [intOf]; omega
    · obtain rfl : k = xs.length := by omega
      go_wp2_with fail
      refine (Fired_act HB.out).mono ?_
      rintro e _ ⟨rfl, rfl⟩
      go_wp2_with fail
      refine (awake_yes _).mono ?_
      rintro e w3 ⟨rfl, hb3⟩
      go_wp2
      go_ret
      exact ⟨rfl, HK.out.below.trans (hb3.mono HK.out.size)⟩

theorem filters_all (w : World) (v1 v2 : Value) (taps xs : List Int) (ht : Has w v1 (ivs taps)) (hft : ∀ x ∈ taps, Fits x) (hx : Has w v2 (ivs xs)) (hf : ∀ x ∈ xs, Fits x) (hlt : taps.length ≤ 17600000000000) (hl : xs.length ≤ 17600000000000) : Calls Try.prog 6 #[v1, v2] w fun e w' => e = .returned (.bool true) ∧ Below w.heap.size w w' := by
  obtain ⟨tao, tcap, rfl⟩ := ht.slice
  simp only [ivs_len] at ht ⊢
  by_cases hg : taps.length < 1 ∨ 16 < taps.length
  · exact filters_no w tao tcap taps v2 hg hlt ht
  · exact filters_yes w tao tcap taps v2 xs (by omega) (by omega) ht hft hx hf hl
end Go.Proofs.Ytknmiiajeafjpaa
