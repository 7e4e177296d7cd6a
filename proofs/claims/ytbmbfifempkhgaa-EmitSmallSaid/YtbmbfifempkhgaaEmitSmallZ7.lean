/- emit's Make. -/
import Derived.Test.YtbmbfifempkhgaaEmitSmallZ4
import Derived.Test.YtbmbfifempkhgaaEmitSmallZ6
import Derived.Test.YtbmbfifempkhgaaEmitSmallZ5
import Derived.Test.YtbmbfifempkhgaaEmitSmallZ2
namespace Go.Proofs.Ytbmbfifempkhgaa
open Go.RowKit

/-- what Make answers: its program's rows are new -/
def MakeRetF (w : World) (g : GGraph) (p : GPlan) (l : Nest) (e : Ending) (w' : World) : Prop := ∃ v, e = .returned (.tuple #[v, .int .i64 (makeE g p l)]) ∧ (∀ w'', Mods (fun k => k < w.heap.size) w' w'' → HasProg w'' v (makeP g p l)) ∧ Below w.heap.size w w'
/-- what Make answers, as it is read -/
def MakeRet (w : World) (g : GGraph) (p : GPlan) (l : Nest) (e : Ending) (w' : World) : Prop := ∃ v, e = .returned (.tuple #[v, .int .i64 (makeE g p l)]) ∧ HasProg w' v (makeP g p l) ∧ Below w.heap.size w w'

theorem info_Part : (Try.prog.info? 108).map (fun i => (i.zero, i.size, i.bytes)) = some (some (.agg #[.int .u8 0, .slice none 0 0]), 2, 32) := by kernel_rfl
theorem info_Line : (Try.prog.info? 87).map (fun i => (i.zero, i.size, i.bytes)) = some (some (.agg #[.int .i64 0, .int .i64 0, .slice none 0 0]), 3, 40) := by kernel_rfl



set_option maxRecDepth 100000 in
set_option maxHeartbeats 4000000 in
theorem make_fresh (D : Nat) (w : World) (vg vp v : Value) (g : GGraph) (p : GPlan) (l : Nest) (hg : HasGraph w vg g) (hp : HasPlan w vp p) (hv : HasNestD D w v l) (hgs : GSized g) (hns : NSized l) : Calls Try.prog 13 #[vg, vp, v] w (MakeRetF w g p l) := by
  obtain ⟨va, ve, vi, vo, rfl, ra, re, ri, ro⟩ := hg.shape
  obtain ⟨vr, rfl, rr⟩ := hp
  obtain ⟨aa, ac, rfl⟩ := ra.slice
  obtain ⟨ae, ec, rfl⟩ := re.slice
  obtain ⟨ai, ic, rfl⟩ := ri.slice
  obtain ⟨ao, oc, rfl⟩ := ro.slice
  obtain ⟨ar, rc, rfl⟩ := rr.slice
  obtain ⟨la, lc, rfl⟩ := nestD_slice D hv
  have RA := Lib.hid ra
  have RE := Lib.hid re
  have RR := Lib.hid rr
  have HG := Lib.hid hg
  have HP : Hid (HasPlan w (.agg #[.slice ar p.regions.length rc, .int .i64 p.total]) p) := Lib.hid ⟨_, rfl, rr⟩
  have HV := Lib.hid hv
  have HGS := Lib.hid hgs
  have HNS := Lib.hid hns
  clear ra re ri ro rr hg hv hgs hns
  have hb1 := below_alloc w (.cells #[.string g.name, .slice aa g.actors.length ac, .slice ae g.edges.length ec, .slice ai g.ins.length ic, .slice ao g.outs.length oc] 26)
  have T1 := Turn.of_below (fun _ => 0) 9 hb1
  have hG : Blk _ (ext (fun _ => 0) w.heap.size 9) 9 _ _ _ := ⟨heap_alloc_new w (.cells #[.string g.name, .slice aa g.actors.length ac, .slice ae g.edges.length ec, .slice ai g.ins.length ic, .slice ao g.outs.length oc] 26), ext_new (Nat.le_refl _)⟩
  have K1 := (Kept.start w).turn T1 (fun h => h)
  generalize hW1 : w.alloc (.cells #[.string g.name, .slice aa g.actors.length ac, .slice ae g.edges.length ec, .slice ai g.ins.length ic, .slice ao g.outs.length oc] 26) = W1 at *
  have hs1 : W1.heap.size = w.heap.size + 1 := by rw [← hW1]; simp
  have T2 := Turn.of_below (ext (fun _ => 0) w.heap.size 9) 9 (below_alloc W1 (.cells #[.slice ar p.regions.length rc, .int .i64 p.total] 29))
  have hP : Blk _ (ext (ext (fun _ => 0) w.heap.size 9) W1.heap.size 9) 9 _ _ _ := ⟨heap_alloc_new W1 (.cells #[.slice ar p.regions.length rc, .int .i64 p.total] 29), ext_new (Nat.le_refl _)⟩
  generalize ext (fun _ => 0) w.heap.size 9 = q0 at *
  have K2 := K1.turn T2 (fun h => h)
  have hG2 := hG.turn T2 (fun h => h)
  generalize hW2 : W1.alloc (.cells #[.slice ar p.regions.length rc, .int .i64 p.total] 29) = W2 at *
  have hs2 : W2.heap.size = w.heap.size + 2 := by rw [← hW2, World.size_alloc, hs1]
  generalize ext q0 W1.heap.size 9 = q1 at *
  rw [hs1] at hP
  have T3 := Turn.of_below q1 9 (below_alloc W2 (.cells progZ 39))
  have hR : Blk _ (ext q1 W2.heap.size 9) 9 _ _ _ := ⟨heap_alloc_new W2 (.cells progZ 39), ext_new (Nat.le_refl _)⟩
  have HK := Lib.hid (K2.turn T3 (fun h => h))
  have HGB := Lib.hid (hG2.turn T3 (fun h => h))
  have HPB := Lib.hid (hP.turn T3 (fun h => h))
  rw [hs2] at hR HK HGB HPB
  have HR := Lib.hid hR
  generalize ext q1 (w.heap.size + 2) 9 = q at *
  have y0 := HGB.out.cell 0 _ rfl
  have y1 := HGB.out.cell 1 _ rfl
  have y2 := HGB.out.cell 2 _ rfl
  have y3 := HGB.out.cell 3 _ rfl
  have y4 := HGB.out.cell 4 _ rfl
  clear hb1 T1 hG K1 T2 hP K2 hG2 T3 hR
  go_enter Try.func13, Try.ntmps13
  go_wp2_with fail
  clear hW1 hs1 hW2 hs2 y0 y1 y2 y3 y4
  refine (gcheck_any _ _ g (HG.out.below HK.out.below) HGS.out).mono ?_
  rintro e w4 ⟨rfl, hb4⟩
  have T9 := fun q => Turn.of_below q 10 hb4
  replace HK := Lib.hid (HK.out.turn (T9 _) (fun h => h))
  replace HGB := Lib.hid (HGB.out.turn (T9 _) (fun h => h))
  replace HPB := Lib.hid (HPB.out.turn (T9 _) (fun h => h))
  replace HR := Lib.hid (HR.out.turn (T9 _) (fun h => h))
  clear T9 hb4
  by_cases h1 : checkE g = 0
  · rw [h1]
    have HC1 := Lib.hid h1
    clear h1
    go_wp2_with fail
    refine (ncheck_any D _ _ l (nestD_below D HV.out HK.out.below) HNS.out).mono ?_
    rintro e w5 ⟨rfl, hb5⟩
    have T9 := fun q => Turn.of_below q 10 hb5
    replace HK := Lib.hid (HK.out.turn (T9 _) (fun h => h))
    replace HGB := Lib.hid (HGB.out.turn (T9 _) (fun h => h))
    replace HPB := Lib.hid (HPB.out.turn (T9 _) (fun h => h))
    replace HR := Lib.hid (HR.out.turn (T9 _) (fun h => h))
    clear T9 hb5
    by_cases h2 : nestCheckE l = 0
    · rw [h2]
      have HC2 := Lib.hid h2
      clear h2
      have y0 := HGB.out.cell 0 _ rfl
      have y1 := HGB.out.cell 1 _ rfl
      have y2 := HGB.out.cell 2 _ rfl
      have y3 := HGB.out.cell 3 _ rfl
      have y4 := HGB.out.cell 4 _ rfl
      have y5 := HPB.out.cell 0 _ rfl
      have y6 := HPB.out.cell 1 _ rfl
      go_wp2_with fail
      refine (strange_any D _ _ l g.actors.length (nestD_below D HV.out HK.out.below) HNS.out).mono ?_
      rintro e w6 ⟨rfl, hb6⟩
      clear y0 y1 y2 y3 y4 y5 y6
      have T9 := fun q => Turn.of_below q 10 hb6
      replace HK := Lib.hid (HK.out.turn (T9 _) (fun h => h))
      replace HGB := Lib.hid (HGB.out.turn (T9 _) (fun h => h))
      replace HPB := Lib.hid (HPB.out.turn (T9 _) (fun h => h))
      replace HR := Lib.hid (HR.out.turn (T9 _) (fun h => h))
      clear T9 hb6
      by_cases h3 : strangeP l g.actors.length = false
      · rw [h3]
        have HC3 := Lib.hid h3
        clear h3
        have y0 := HGB.out.cell 0 _ rfl
        have y1 := HGB.out.cell 1 _ rfl
        have y2 := HGB.out.cell 2 _ rfl
        have y3 := HGB.out.cell 3 _ rfl
        have y4 := HGB.out.cell 4 _ rfl
        have y5 := HPB.out.cell 0 _ rfl
        have y6 := HPB.out.cell 1 _ rfl
        go_wp2_with fail
        refine (fits_any _ _ _ g p (HG.out.below HK.out.below) (HP.out.below HK.out.below) (by have := (headE_parts (checkE_parts HC1.out).1).2.2.1; omega) (fun e he => by have := starts_of HC1.out e he; omega)).mono ?_
        rintro e w7 ⟨rfl, hb7⟩
        clear y0 y1 y2 y3 y4 y5 y6
        have T9 := fun q => Turn.of_below q 10 hb7
        replace HK := Lib.hid (HK.out.turn (T9 _) (fun h => h))
        replace HGB := Lib.hid (HGB.out.turn (T9 _) (fun h => h))
        replace HPB := Lib.hid (HPB.out.turn (T9 _) (fun h => h))
        replace HR := Lib.hid (HR.out.turn (T9 _) (fun h => h))
        clear T9 hb7
        by_cases h4 : fitsP g p = true
        · rw [h4]
          have HC4 := Lib.hid h4
          clear h4
          have HFO := Lib.hid (firOk_of HC1.out HGS.out)
          have y0 := HGB.out.cell 0 _ rfl
          have y1 := HGB.out.cell 1 _ rfl
          have y2 := HGB.out.cell 2 _ rfl
          have y3 := HGB.out.cell 3 _ rfl
          have y4 := HGB.out.cell 4 _ rfl
          have y5 := HPB.out.cell 0 _ rfl
          have y6 := HPB.out.cell 1 _ rfl
          go_wp2_with fail
          refine (firings_any _ _ g (HG.out.below HK.out.below) HFO.out).mono ?_
          rintro e w8 ⟨vf, vs, o8, rfl, K8, M8⟩
          clear y0 y1 y2 y3 y4 y5 y6
          have hb8 := K8.below
          have T9 := fun q => Turn.of_below q 10 hb8
          replace HK := Lib.hid (HK.out.turn (T9 _) (fun h => h))
          replace HGB := Lib.hid (HGB.out.turn (T9 _) (fun h => h))
          replace HPB := Lib.hid (HPB.out.turn (T9 _) (fun h => h))
          replace HR := Lib.hid (HR.out.turn (T9 _) (fun h => h))
          clear T9 hb8
          have HF := Lib.hid M8.has
          clear K8 M8
          obtain ⟨q8, hq8⟩ : ∃ x : Col, x = ext (ext (ext (ext (ext q (W2.alloc (Obj.cells progZ 39)).heap.size 10) w4.heap.size 10) w5.heap.size 10) w6.heap.size 10) w7.heap.size 10 := ⟨_, rfl⟩
          rw [← hq8] at HK HGB HPB HR
          clear hq8
          obtain ⟨fa, fc, hvf⟩ := HF.out.slice
          subst hvf
          obtain ⟨M, hM⟩ : ∃ x, w8.heap.size = x := ⟨_, rfl⟩
          have hbM := below_alloc w8 (.cells #[.slice none 0 0, .int .i64 0, .int .i64 0, .slice fa (firP g).length fc] 104)
          have HMB : Hid (MkAt _ (ext (fun _ => 0) M 1) M _ [] ((0 : Nat) : Int) ((0 : Nat) : Int) (.slice fa (firP g).length fc)) := Lib.hid ⟨⟨by rw [← hM]; exact heap_alloc_new w8 (.cells #[.slice none 0 0, .int .i64 0, .int .i64 0, .slice fa (firP g).length fc] 104), ext_new (Nat.le_refl _)⟩, Own.nil _ _ _ _ _⟩
          have HKM := Lib.hid ((Kept.start w8).turn (Turn.of_below (fun _ => 0) 1 hbM) (fun h => h))
          rw [hM] at HKM
          obtain ⟨nc1, nc2, nc3⟩ := nest_facts HC2.out
          have HN1 := Lib.hid nc1
          have HLF : Hid (LeafOk (firP g).length l) := Lib.hid (by rw [firP_len]; exact leafOk_strange l _ nc3 HC3.out)
          have HFF : Hid (FOk (firP g)) := Lib.hid ⟨firP_row HFO.out, by rw [firP_len]; have := HFO.out.actors; omega⟩
          have HRL := Lib.hid (rowP_len HFF.out.rows l 0 ([], 0))
          clear hbM
          go_wp2_with fail
          refine (erow_any HFF.out D w8 _ _ M _ _ _ l [] 0 0 (nestD_below D HV.out HK.out.below) HNS.out HLF.out HF.out (by rw [hM]; exact HKM.out) HMB.out (by have := HN1.out; simp only [List.length_nil]; omega) (by omega) (by omega)).mono ?_
          rintro e w9 ⟨rfl, o9, vo9, T9, M9⟩
          have HKN := Lib.hid (HKM.out.turn T9 (by unfold MkC; omega))
          clear T9 HKM HMB
          obtain ⟨rw9, hrw9⟩ : ∃ x, rowP (firP g) l 0 ([], 0) = x := ⟨_, rfl⟩
          rw [hrw9] at M9 HRL
          have HRW := Lib.hid hrw9
          have HM9 := Lib.hid M9
          clear M9 hrw9
          have hrl : rw9.1.length ≤ 10000000 := by have := HRL.out; have := HN1.out; simp only [List.length_nil] at *; omega
          go_wp2_with fail
          refine (put_any w9 o9 M vo9 _ rw9.1 ((0 : Nat) : Int) rw9.2 0 0 0 HM9.out (by omega)).mono ?_
          rintro e wA ⟨rfl, oA, voA, TA, MA⟩
          have hKA := HKN.out.turn TA (by unfold MkC; omega)
          have hbA := hKA.below
          have hRM : w.heap.size + 2 < M := by rw [← hM]; exact HR.out.lt
          have hOB : ∀ k, voA.ownBlock = some k → w.heap.size + 2 < k := fun k hk => by
            by_cases hlt : k < M
            · have e1 := hKA.old k hlt
              have e2 := MA.own.2 k hk
              omega
            · omega
          clear hKA
          rw [← hM] at hbA
          have T9 := fun q => Turn.of_below q 10 hbA
          replace HK := Lib.hid (HK.out.turn (T9 _) (fun h => h))
          replace HGB := Lib.hid (HGB.out.turn (T9 _) (fun h => h))
          replace HPB := Lib.hid (HPB.out.turn (T9 _) (fun h => h))
          replace HR := Lib.hid (HR.out.turn (T9 _) (fun h => h))
          clear T9 hbA
          obtain ⟨OPS, hOPS⟩ : ∃ x : List GOp, rw9.1 ++ [⟨0, 0, 0⟩] = x := ⟨_, rfl⟩
          rw [hOPS] at MA
          have HOP := Lib.hid hOPS
          have HOW := Lib.hid (Own.row MA.own)
          obtain ⟨oa, oc', rfl⟩ := MA.own.slice
          have HOB : Hid (∀ ad, oa = some ad → w.heap.size + 2 < ad.block) := Lib.hid fun ad e => hOB ad.block (by rw [e]; rfl)
          clear hOB hRM
          have m0 := MA.blk.cell 0 _ rfl
          have m2 := MA.blk.cell 2 _ rfl
          have y0 := HGB.out.cell 0 _ rfl
          have y1 := HGB.out.cell 1 _ rfl
          have y2 := HGB.out.cell 2 _ rfl
          have y3 := HGB.out.cell 3 _ rfl
          have y4 := HGB.out.cell 4 _ rfl
          have y5 := HPB.out.cell 0 _ rfl
          have y6 := HPB.out.cell 1 _ rfl
          clear TA MA HKN HM9 hM HF HLF HFF HRL hOPS y0 y2 y5
          go_wp2_with fail
          refine wp_region_lex (fun w' => w'.cell? ⟨w.heap.size + 1, 1, none⟩ = some (.int .i64 p.total) ∧ w'.cell? ⟨M, 2, none⟩ = some (.int .i64 rw9.2) ∧ w'.cell? ⟨w.heap.size, 3, none⟩ = some (.slice ai g.ins.length ic) ∧ w'.cell? ⟨w.heap.size, 4, none⟩ = some (.slice ao g.outs.length oc) ∧ w'.cell? ⟨M, 0, none⟩ = some (.slice oa OPS.length oc')) [0, 1, 2, 3, 4, 5, 6, 7, 8, 9, 10, 11, 12, 13, 14, 15, 16, 17, 18] [19, 20] (by kernel_rfl) (by kernel_rfl) rfl (fun _ _ hx h => ⟨hx.cell h.1, hx.cell h.2.1, hx.cell h.2.2.1, hx.cell h.2.2.2.1, hx.cell h.2.2.2.2⟩) ⟨y6, m2, y3, y4, m0⟩ ?_
          intro Q' hQ'
          simp only [pickOps, List.flatMap_cons, List.flatMap_nil, List.drop_succ_cons, List.drop_zero, List.take_succ_cons, List.take_zero, List.cons_append, List.nil_append, List.append_nil]
          repeat (first
            | (refine wpReads_skip (by rfl) ?_; (try simp only [Act.put, List.setIfInBounds_toArray, List.set_cons_zero, List.set_cons_succ]))
            | (refine wpReads_cons ?_ (by rfl) (by rfl) ?_ ?_; rotate_left; (intro wz hz; (try dsimp only at hz); go_simp; try with_reducible rfl); (try simp only [Act.put, List.setIfInBounds_toArray, List.set_cons_zero, List.set_cons_succ]))
            | (refine wpReads_any ?_ (by rfl) ?_ ?_; rotate_left; (intro wz; go_simp; try with_reducible rfl); (try simp only [Act.put, List.setIfInBounds_toArray, List.set_cons_zero, List.set_cons_succ])))
          refine wpReads_nil ?_
          clear y3 y4 y6 m0 m2
          have y1n := ca (o := .cells #[.int .i64 p.total, .int .i64 rw9.2, .int .i64 g.ins.length, .int .i64 g.outs.length, .slice none 0 0, .slice none 0 0, .slice oa OPS.length oc'] 39) y1
          go_wp2_with fail
          have hbP := below_dr (n := 1) (below_alloc wA (.cells #[.int .i64 p.total, .int .i64 rw9.2, .int .i64 g.ins.length, .int .i64 g.outs.length, .slice none 0 0, .slice none 0 0, .slice oa OPS.length oc'] 39))
          have HKP := Lib.hid ((Kept.start wA).turn (Turn.of_below (fun _ => 0) 3 hbP) (fun h => h))
          have HPR : Hid (Blk ((wA.alloc (.cells #[.int .i64 p.total, .int .i64 rw9.2, .int .i64 g.ins.length, .int .i64 g.outs.length, .slice none 0 0, .slice none 0 0, .slice oa OPS.length oc'] 39)).drewN 1) (ext (fun _ => 0) wA.heap.size 3) 3 wA.heap.size 39 _) := Lib.hid ⟨heap_alloc_new wA _, ext_new (Nat.le_refl _)⟩
          clear hbP y1 y1n
          obtain ⟨n, hn⟩ : ∃ n, g.actors.length = n := ⟨_, rfl⟩
          have HN := Lib.hid hn
          have hn32 := HFO.out.actors
          rw [hn] at hn32 ⊢
          clear hn
          obtain ⟨PB, hPB⟩ : ∃ x, wA.heap.size = x := ⟨_, rfl⟩
          rw [hPB] at HKP HPR ⊢
          go_loopw [72] (fun i wl => ∃ (j : Nat) (q : Col) (vp : Value) (ps : List (GPart × Value)), j ≤ n ∧ i = .int .i64 j ∧ Kept PB q wA wl ∧ TailAt partHd GPart.params wl q 4 5 108 2 vp ps ∧ ps.map Prod.fst = (partsP g.actors).take j ∧ Blk wl q 3 PB 39 #[.int .i64 p.total, .int .i64 rw9.2, .int .i64 g.ins.length, .int .i64 g.outs.length, vp, .slice none 0 0, .slice oa OPS.length oc']) (fun i _ => n - (intOf i).toNat)
          case atStart => exact ⟨0, _, _, [], Nat.zero_le _, rfl, HKP.out, TailAt.nil, rfl, HPR.out⟩
          case round =>
            clear HKP HPR
            obtain ⟨j, q, vp, ps, hj, rfl, hK, hT, hps, hB⟩ := hrel
            have HKR := Lib.hid hK
            have HTA := Lib.hid hT
            have HPR := Lib.hid hB
            have HPS := Lib.hid hps
            clear hK hT hB hps
            have hwA : Below w.heap.size w wr := HK.out.below.trans (HKR.out.below.mono (by rw [← hPB]; exact HK.out.size))
            have HBW := Lib.hid hwA
            clear hwA
            by_cases hlt : j < n
            · have hlti : (j : Int) < n := by omega
              have hlt2 : j < g.actors.length := by have := HN.out; omega
              obtain ⟨b0, off, rfl, hcap, hb0, hrec⟩ := RA.out.at (by omega)
              obtain ⟨cs, hcs, hPR, hcl⟩ := hrec j hlt2
              obtain ⟨xs, rfl, hst⟩ := hPR
              have c0 := cell_later HBW.out (hcl 0 (by omega))
              have c1 := cell_later HBW.out (hcl 1 (by omega))
              have c2 := cell_later HBW.out (hcl 2 (by omega))
              simp at c0 c1 c2
              have hcapi : (n : Int) ≤ ac := by have := HN.out; omega
              have hst2 : Has w xs (ivs g.actors[j].params) := hst
              obtain ⟨sa, sc, hxs⟩ := Ints.slice hst2
              subst hxs
              have HST := Lib.hid hst2
              have hplen := (HFO.out.good _ (List.getElem_mem hlt2)).2
              have HPJ : Hid ((partsP g.actors).take (j + 1) = (partsP g.actors).take j ++ [⟨g.actors[j].tag, g.actors[j].params⟩]) := Lib.hid (by rw [List.take_succ_eq_append_getElem (by simpa [partsP] using hlt2)]; simp [partsP])
              clear hcl hcs hrec hst hst2
              generalize g.actors[j] = a at *
              have hbX := below_alloc wr (.cells #[.string a.name, .int .u8 a.tag, .slice sa a.params.length sc] 57)
              have hX := heap_alloc_new wr (.cells #[.string a.name, .int .u8 a.tag, .slice sa a.params.length sc] 57)
              have x1 := cells_row _ _ hX 1 _ rfl
              have x2 := cells_row _ _ hX 2 _ rfl
              have TX := Turn.of_below q 8 hbX
              have HK2 := Lib.hid (HKR.out.turn TX (fun h => h))
              have HT2 := Lib.hid (HTA.out.turn TX (fun h => h) (fun h => h))
              have HP2 := Lib.hid (HPR.out.turn TX (fun h => h))
              have HBX := Lib.hid (HBW.out.trans (hbX.mono HBW.out.size))
              clear hbX hX TX HKR HTA HPR HBW
              obtain ⟨pa, pc, rfl⟩ := HT2.out.own.slice
              have z4 := HP2.out.cell 4 _ rfl
              go_wp2_with fail
              clear c0 c1 c2
              refine wp_region_rest (fun w' => w'.cell? ⟨PB, 4, none⟩ = some (.slice pa ps.length pc) ∧ w'.cell? ⟨wr.heap.size, 1, none⟩ = some (.int .u8 a.tag) ∧ w'.cell? ⟨wr.heap.size, 2, none⟩ = some (.slice sa a.params.length sc)) [0, 1, 2, 3, 4, 5] [6, 7] 6 (by kernel_rfl) (by kernel_rfl) rfl ⟨z4, x1, x2⟩ ?_
              intro Q' hQ'
              simp only [pickOps, List.flatMap_cons, List.flatMap_nil, List.drop_succ_cons, List.drop_zero, List.take_succ_cons, List.take_zero, List.cons_append, List.nil_append, List.append_nil]
              repeat (first
                | (refine wpReads_skip (by rfl) ?_; (try simp only [Act.put, List.setIfInBounds_toArray, List.set_cons_zero, List.set_cons_succ]))
                | (refine wpReads_cons ?_ (by rfl) (by rfl) ?_ ?_; rotate_left; (intro wz hz; (try dsimp only at hz); go_simp; try with_reducible rfl); (try simp only [Act.put, List.setIfInBounds_toArray, List.set_cons_zero, List.set_cons_succ]))
                | (refine wpReads_any ?_ (by rfl) ?_ ?_; rotate_left; (intro wz; go_simp; try with_reducible rfl); (try simp only [Act.put, List.setIfInBounds_toArray, List.set_cons_zero, List.set_cons_succ])))
              refine wpReads_nil ?_
              refine wpAnyT_one (i := 6) (by kernel_rfl) ?_
              simp only [pickOps, List.flatMap_cons, List.flatMap_nil, List.drop_succ_cons, List.drop_zero, List.take_succ_cons, List.take_zero, List.cons_append, List.nil_append, List.append_nil]
              go_wp2_with fail
              refine (eown_any (o := fun _ => 0) (c := 0) _ sa _ sc a.params (HST.out.below (below_dr (n := 1) HBX.out)) hplen).mono ?_
              rintro e w5 ⟨y, rfl, k5, hb5⟩
              have T5 := fun q => (Turn.of_quiet q (w := wr.alloc (.cells #[.string a.name, .int .u8 a.tag, .slice sa a.params.length sc] 57)) ⟨1, rfl⟩).trans (Turn.of_below q 5 hb5) (fun _ h => h)
              have HK5 := Lib.hid (HK2.out.turn (T5 _) (fun h => h))
              have HT5 := Lib.hid (HT2.out.turn (T5 _) (fun h => h) (fun h => h))
              have HP5 := Lib.hid (HP2.out.turn (T5 _) (fun h => h))
              have HY5 : Hid (Ints w5 _ 5 _ a.params) := Lib.hid (Own.made (ext q wr.heap.size 8) 5 k5).vals
              obtain ⟨ya, yc, rfl⟩ := owns_slice k5
              have v4 := HP5.out.cell 4 _ rfl
              have v1 := cell_later hb5 (show (World.drewN _ 1).cell? _ = _ from x1)
              have v2 := cell_later hb5 (show (World.drewN _ 1).cell? _ = _ from x2)
              clear T5 k5 hb5 HK2 HT2 HP2 HBX x1 x2 z4
              go_wp2_with fail
              refine ⟨fun _ _ => ⟨v4, v1, v2⟩, ?_⟩
              refine wpAnyT_one (i := 7) (by kernel_rfl) ?_
              simp only [pickOps, List.flatMap_cons, List.flatMap_nil, List.drop_succ_cons, List.drop_zero, List.take_succ_cons, List.take_zero, List.cons_append, List.nil_append, List.append_nil]
              go_wp2
              refine ⟨fun _ h => h, ?_⟩
              refine wpAnyT_one (i := 8) (by kernel_rfl) ?_
              simp only [pickOps, List.flatMap_cons, List.flatMap_nil, List.drop_succ_cons, List.drop_zero, List.take_succ_cons, List.take_zero, List.cons_append, List.nil_append, List.append_nil]
              go_wp2
              refine ⟨fun _ h => ⟨ca h.1, ca h.2.1, ca h.2.2⟩, ?_⟩
              refine wpAnyT_one (i := 9) (by kernel_rfl) ?_
              simp only [pickOps, List.flatMap_cons, List.flatMap_nil, List.drop_succ_cons, List.drop_zero, List.take_succ_cons, List.take_zero, List.cons_append, List.nil_append, List.append_nil]
              go_wp2_with (at_builtin; refine stop_here ?_)
              refine go_on ?_
              obtain ⟨i0, hi, hz0, hz1, hz2⟩ := info_parts info_Part
              have hpsl : ps.length = j := by have := congrArg List.length HPS.out; rw [List.length_map, List.length_take] at this; simp [partsP] at this; omega
              refine wpList_app rfl _ _ 35 rfl 0 108 i0 _ 2 32 Try.underlying35 hi hz0 hz1 hz2 rfl (.slice pa ps.length pc) ps.length _ rfl (HT5.out.own.1.alloc (.cells #[.int .u8 a.tag, .slice ya a.params.length yc] 108)) (some ⟨w5.heap.size, 0, none⟩) 1 1 [.int .u8 a.tag, .slice ya a.params.length yc] rfl rfl (fun h => by cases h) (news_alloc w5 [.int .u8 a.tag, .slice ya a.params.length yc] 108) (by simp [Value.oneCell']) (by unfold maxLen; omega) (grow_ok (by omega)) (Nat.zero_le _) ?_
              intro v6 w6 k1 k20 _ k4
              have hm : Mods (fun b => (Value.slice pa ps.length pc).ownBlock = some b) w5 w6 := ((Mods.refl _ w5).alloc _).grown k20 (fun b hb _ => hb)
              obtain ⟨z4, zf, T6, N6, B6⟩ := HT5.out.grow (a := (⟨a.tag, a.params⟩ : GPart)) (y := .slice ya a.params.length yc) (v' := v6) (w2 := w6) HP5.out (i := 4) (by decide) (by decide) (by decide) (by show 4 < 7; decide) HY5.out k1 hm (k4.imp id (fun k4 b hb => by rw [k4] at hb; have := Option.some.inj hb; simp at this; omega))
              obtain ⟨sp6, cp6, rfl⟩ := owns_slice k1
              have HK6 := Lib.hid (HK5.out.turn T6 (by decide))
              have HT6 := Lib.hid N6
              have HP6 := Lib.hid B6
              have HPS6 : Hid ((ps ++ [((⟨a.tag, a.params⟩ : GPart), Value.slice ya a.params.length yc)]).map Prod.fst = (partsP g.actors).take (j + 1)) := Lib.hid (by rw [HPJ.out, ← HPS.out]; simp)
              clear hpsl T6 N6 B6 k1 k20 k4 hm HT5 HP5 HK5 HY5 v1 v2 v4
              refine ⟨(fun h => by cases h), ?_⟩
              refine wpAnyT_list (ks := [10, 11]) (fun _ _ hx h => ⟨hx.cell h.1, hx.cell h.2.1, hx.cell h.2.2⟩) (by kernel_rfl) ?_
              simp only [pickOps, List.flatMap_cons, List.flatMap_nil, List.drop_succ_cons, List.drop_zero, List.take_succ_cons, List.take_zero, List.cons_append, List.nil_append, List.append_nil]
              go_wp2
              go_roundw
              case rel => exact ⟨j + 1, _, _, _, hlt, by go_num, HK6.out, HT6.out, HPS6.out, HP6.out⟩
              case measure => simp [intOf]; omega
            · obtain rfl : n = j := by omega
              clear hj hlt
              have hPS := HPS.out
              rw [List.take_of_length_le (by rw [partsP, List.length_map, HN.out]; exact Nat.le_refl _)] at hPS
              have HPA := Lib.hid hPS
              clear hPS HPS
              have hwA2 : Below wA.heap.size wA wr := by rw [hPB]; exact HKR.out.below
              have y2 := cell_later hwA2 (HGB.out.cell 2 _ rfl)
              clear hwA2 HBW
              go_wp2_with fail
              clear y2
              obtain ⟨E, hE⟩ : ∃ x, g.edges.length = x := ⟨_, rfl⟩
              have HE := Lib.hid hE
              have HRE := Lib.hid (fits_len HC4.out)
              have hE96 := HFO.out.edges
              rw [hE] at hE96 ⊢
              clear hE
              go_loopw [91] (fun i wl => ∃ (j : Nat) (q : Col) (vl : Value) (ls : List (GLine × Value)), j ≤ E ∧ i = .int .i64 j ∧ Kept PB q wA wl ∧ TailAt partHd GPart.params wl q 4 5 108 2 vp ps ∧ TailAt lineHd GLine.start wl q 6 7 87 3 vl ls ∧ ls.map Prod.fst = (linesP p.regions g.edges).take j ∧ Blk wl q 3 PB 39 #[.int .i64 p.total, .int .i64 rw9.2, .int .i64 g.ins.length, .int .i64 g.outs.length, vp, vl, .slice oa OPS.length oc']) (fun i _ => E - (intOf i).toNat)
              case atStart => exact ⟨0, _, _, [], Nat.zero_le _, rfl, HKR.out, HTA.out, TailAt.nil, rfl, HPR.out⟩
              case round =>
                clear HKR HTA HPR
                obtain ⟨j, q, vl, ls, hj, rfl, hK, hT, hL, hls, hB⟩ := hrel
                have HKR := Lib.hid hK
                have HTA := Lib.hid hT
                have HLA := Lib.hid hL
                have HPR := Lib.hid hB
                have HLS := Lib.hid hls
                clear hK hT hL hB hls
                have hwA : Below w.heap.size w wr := HK.out.below.trans (HKR.out.below.mono (by rw [← hPB]; exact HK.out.size))
                have HBW := Lib.hid hwA
                clear hwA
                by_cases hlt : j < E
                · have hlti : (j : Int) < E := by omega
                  have hlt2 : j < g.edges.length := by have := HE.out; omega
                  have hlt3 : j < p.regions.length := by have := HRE.out; omega
                  obtain ⟨b0, off, rfl, hcap, hb0, hrec⟩ := RE.out.at (by omega)
                  obtain ⟨cs, hcs, hPR, hcl⟩ := hrec j hlt2
                  obtain ⟨xs, rfl, hst⟩ := hPR
                  have c0 := cell_later HBW.out (hcl 0 (by omega))
                  have c1 := cell_later HBW.out (hcl 1 (by omega))
                  have c2 := cell_later HBW.out (hcl 2 (by omega))
                  have c3 := cell_later HBW.out (hcl 3 (by omega))
                  have c4 := cell_later HBW.out (hcl 4 (by omega))
                  simp at c0 c1 c2 c3 c4
                  have hcapi : (E : Int) ≤ ec := by have := HE.out; omega
                  have hst2 : Has w xs (ivs g.edges[j].start) := hst
                  obtain ⟨sa, sc, hxs⟩ := Ints.slice hst2
                  subst hxs
                  have HST := Lib.hid hst2
                  have hplen := starts_of HC1.out _ (List.getElem_mem hlt2)
                  have HPJ := Lib.hid (linesP_succ hlt3 hlt2)
                  obtain ⟨br, orr, rfl, hcr, hbr, hrecr⟩ := RR.out.at (by omega)
                  obtain ⟨csr, hcsr, hPRr, hclr⟩ := hrecr j hlt3
                  obtain rfl := hPRr
                  have d0 := cell_later HBW.out (hclr 0 (by omega))
                  have d1 := cell_later HBW.out (hclr 1 (by omega))
                  simp at d0 d1
                  have hcri : (p.regions.length : Int) ≤ rc := by omega
                  have hlt3i : (j : Int) < p.regions.length := by omega
                  have hwA2 : Below wA.heap.size wA wr := by rw [hPB]; exact HKR.out.below
                  have p0 := cell_later hwA2 (HPB.out.cell 0 _ rfl)
                  clear hcl hcs hrec hst hst2 hclr hcsr hrecr hwA2
                  generalize g.edges[j] = a at *
                  generalize p.regions[j] = rg at *
                  have hbX := below_alloc wr (.cells #[.int .i64 a.src, .int .i64 a.sport, .int .i64 a.dst, .int .i64 a.dport, .slice sa a.start.length sc] 63)
                  have hX := heap_alloc_new wr (.cells #[.int .i64 a.src, .int .i64 a.sport, .int .i64 a.dst, .int .i64 a.dport, .slice sa a.start.length sc] 63)
                  have x4 := cells_row _ _ hX 4 _ rfl
                  have TX := Turn.of_below q 8 hbX
                  have HK2 := Lib.hid (HKR.out.turn TX (fun h => h))
                  have HT2 := Lib.hid (HTA.out.turn TX (fun h => h) (fun h => h))
                  have HL2 := Lib.hid (HLA.out.turn TX (fun h => h) (fun h => h))
                  have HP2 := Lib.hid (HPR.out.turn TX (fun h => h))
                  have HBX := Lib.hid (HBW.out.trans (hbX.mono HBW.out.size))
                  have d0' := cell_later hbX d0
                  have d1' := cell_later hbX d1
                  have p0' := cell_later hbX p0
                  clear hbX hX TX HKR HTA HLA HPR HBW d0 d1 p0
                  obtain ⟨pa, pc, rfl⟩ := HL2.out.own.slice
                  have z4 := HP2.out.cell 5 _ rfl
                  go_wp2_with fail
                  clear c0 c1 c2 c3 c4
                  refine wp_region_rest (fun w' => w'.cell? ⟨PB, 5, none⟩ = some (.slice pa ls.length pc) ∧ w'.cell? ⟨w.heap.size + 1, 0, none⟩ = some (.slice (some ⟨br, orr, none⟩) p.regions.length rc) ∧ w'.cell? ⟨br, orr + j * 2, none⟩ = some (.int .i64 rg.base) ∧ w'.cell? ⟨br, orr + j * 2 + 1, none⟩ = some (.int .i64 rg.size) ∧ w'.cell? ⟨wr.heap.size, 4, none⟩ = some (.slice sa a.start.length sc)) [0, 1, 2, 3, 4, 5, 6, 7, 8] [9, 10] 6 (by kernel_rfl) (by kernel_rfl) rfl ⟨z4, p0', d0', d1', x4⟩ ?_
                  intro Q' hQ'
                  simp only [pickOps, List.flatMap_cons, List.flatMap_nil, List.drop_succ_cons, List.drop_zero, List.take_succ_cons, List.take_zero, List.cons_append, List.nil_append, List.append_nil]
                  repeat (first
                    | (refine wpReads_skip (by rfl) ?_; (try simp only [Act.put, List.setIfInBounds_toArray, List.set_cons_zero, List.set_cons_succ]))
                    | (refine wpReads_cons ?_ (by rfl) (by rfl) ?_ ?_; rotate_left; (intro wz hz; (try dsimp only at hz); go_simp; try with_reducible rfl); (try simp only [Act.put, List.setIfInBounds_toArray, List.set_cons_zero, List.set_cons_succ]))
                    | (refine wpReads_any ?_ (by rfl) ?_ ?_; rotate_left; (intro wz; go_simp; try with_reducible rfl); (try simp only [Act.put, List.setIfInBounds_toArray, List.set_cons_zero, List.set_cons_succ])))
                  refine wpReads_nil ?_
                  refine wpAnyT_one (i := 9) (by kernel_rfl) ?_
                  simp only [pickOps, List.flatMap_cons, List.flatMap_nil, List.drop_succ_cons, List.drop_zero, List.take_succ_cons, List.take_zero, List.cons_append, List.nil_append, List.append_nil]
                  go_wp2_with fail
                  refine (eown_any (o := fun _ => 0) (c := 0) _ sa _ sc a.start (HST.out.below (below_dr (n := 1) HBX.out)) (by omega)).mono ?_
                  rintro e w5 ⟨y, rfl, k5, hb5⟩
                  have T5 := fun q => (Turn.of_quiet q (w := wr.alloc (.cells #[.int .i64 a.src, .int .i64 a.sport, .int .i64 a.dst, .int .i64 a.dport, .slice sa a.start.length sc] 63)) ⟨1, rfl⟩).trans (Turn.of_below q 7 hb5) (fun _ h => h)
                  have HK5 := Lib.hid (HK2.out.turn (T5 _) (fun h => h))
                  have HT5 := Lib.hid (HT2.out.turn (T5 _) (fun h => h) (fun h => h))
                  have HL5 := Lib.hid (HL2.out.turn (T5 _) (fun h => h) (fun h => h))
                  have HP5 := Lib.hid (HP2.out.turn (T5 _) (fun h => h))
                  have HY5 : Hid (Ints w5 _ 7 _ a.start) := Lib.hid (Own.made (ext q wr.heap.size 8) 7 k5).vals
                  obtain ⟨ya, yc, rfl⟩ := owns_slice k5
                  have v4 := HP5.out.cell 5 _ rfl
                  have v0 := cell_later hb5 (show (World.drewN _ 1).cell? _ = _ from p0')
                  have v1 := cell_later hb5 (show (World.drewN _ 1).cell? _ = _ from d0')
                  have v2 := cell_later hb5 (show (World.drewN _ 1).cell? _ = _ from d1')
                  have v3 := cell_later hb5 (show (World.drewN _ 1).cell? _ = _ from x4)
                  clear T5 k5 hb5 HK2 HT2 HL2 HP2 HBX p0' d0' d1' x4 z4
                  go_wp2_with fail
                  refine ⟨fun _ _ => ⟨v4, v0, v1, v2, v3⟩, ?_⟩
                  refine wpAnyT_one (i := 10) (by kernel_rfl) ?_
                  simp only [pickOps, List.flatMap_cons, List.flatMap_nil, List.drop_succ_cons, List.drop_zero, List.take_succ_cons, List.take_zero, List.cons_append, List.nil_append, List.append_nil]
                  go_wp2
                  refine ⟨fun _ h => h, ?_⟩
                  refine wpAnyT_one (i := 11) (by kernel_rfl) ?_
                  simp only [pickOps, List.flatMap_cons, List.flatMap_nil, List.drop_succ_cons, List.drop_zero, List.take_succ_cons, List.take_zero, List.cons_append, List.nil_append, List.append_nil]
                  go_wp2
                  refine ⟨fun _ h => ⟨ca h.1, ca h.2.1, ca h.2.2.1, ca h.2.2.2.1, ca h.2.2.2.2⟩, ?_⟩
                  refine wpAnyT_one (i := 12) (by kernel_rfl) ?_
                  simp only [pickOps, List.flatMap_cons, List.flatMap_nil, List.drop_succ_cons, List.drop_zero, List.take_succ_cons, List.take_zero, List.cons_append, List.nil_append, List.append_nil]
                  go_wp2_with (at_builtin; refine stop_here ?_)
                  refine go_on ?_
                  obtain ⟨i0, hi, hz0, hz1, hz2⟩ := info_parts info_Line
                  have hlsl : ls.length = j := by have := congrArg List.length HLS.out; rw [List.length_map, List.length_take] at this; simp [linesP] at this; omega
                  refine wpList_app rfl _ _ 36 rfl 0 87 i0 _ 3 40 Try.underlying36 hi hz0 hz1 hz2 rfl (.slice pa ls.length pc) ls.length _ rfl (HL5.out.own.1.alloc (.cells #[.int .i64 rg.base, .int .i64 rg.size, .slice ya a.start.length yc] 87)) (some ⟨w5.heap.size, 0, none⟩) 1 1 [.int .i64 rg.base, .int .i64 rg.size, .slice ya a.start.length yc] rfl rfl (fun h => by cases h) (news_alloc w5 [.int .i64 rg.base, .int .i64 rg.size, .slice ya a.start.length yc] 87) (by simp [Value.oneCell']) (by unfold maxLen; omega) (grow_ok (by omega)) (Nat.zero_le _) ?_
                  intro v6 w6 k1 k20 _ k4
                  have hm : Mods (fun b => (Value.slice pa ls.length pc).ownBlock = some b) w5 w6 := ((Mods.refl _ w5).alloc _).grown k20 (fun b hb _ => hb)
                  obtain ⟨z4, zf, T6, N6, B6⟩ := HL5.out.grow (a := (⟨rg.base, rg.size, a.start⟩ : GLine)) (y := .slice ya a.start.length yc) (v' := v6) (w2 := w6) HP5.out (i := 5) (by decide) (by decide) (by decide) (by show 5 < 7; decide) HY5.out k1 hm (k4.imp id (fun k4 b hb => by rw [k4] at hb; have := Option.some.inj hb; simp at this; omega))
                  obtain ⟨sp6, cp6, rfl⟩ := owns_slice k1
                  have HK6 := Lib.hid (HK5.out.turn T6 (by decide))
                  have HT6 := Lib.hid (HT5.out.turn T6 (by decide) (by decide))
                  have HL6 := Lib.hid N6
                  have HP6 := Lib.hid B6
                  have HLS6 : Hid ((ls ++ [((⟨rg.base, rg.size, a.start⟩ : GLine), Value.slice ya a.start.length yc)]).map Prod.fst = (linesP p.regions g.edges).take (j + 1)) := Lib.hid (by rw [HPJ.out, ← HLS.out]; simp)
                  clear hlsl T6 N6 B6 k1 k20 k4 hm HT5 HL5 HP5 HK5 HY5 v0 v1 v2 v3 v4
                  refine ⟨(fun h => by cases h), ?_⟩
                  refine wpAnyT_list (ks := [13, 14]) (fun _ _ hx h => ⟨hx.cell h.1, hx.cell h.2.1, hx.cell h.2.2.1, hx.cell h.2.2.2.1, hx.cell h.2.2.2.2⟩) (by kernel_rfl) ?_
                  simp only [pickOps, List.flatMap_cons, List.flatMap_nil, List.drop_succ_cons, List.drop_zero, List.take_succ_cons, List.take_zero, List.cons_append, List.nil_append, List.append_nil]
                  go_wp2
                  go_roundw
                  case rel => exact ⟨j + 1, _, _, _, hlt, by go_num, HK6.out, HT6.out, HL6.out, HLS6.out, HP6.out⟩
                  case measure => simp [intOf]; omega
                · obtain rfl : E = j := by omega
                  clear hj hlt
                  have hLS := HLS.out
                  rw [List.take_of_length_le (by have := HE.out; simp [linesP]; omega)] at hLS
                  have hwA2 : Below wA.heap.size wA wr := by rw [hPB]; exact HKR.out.below
                  have hRB : Blk wr (fun _ => 9) 9 (w.heap.size + 2) 39 progZ := ⟨(hwA2.block _ HR.out.lt).trans HR.out.1, rfl⟩
                  have HRB := Lib.hid hRB
                  have hRP : w.heap.size + 2 < PB := by rw [← hPB]; exact HR.out.lt
                  have hBF : Below w.heap.size w wr := HK.out.below.trans (HKR.out.below.mono (by rw [← hPB]; exact HK.out.size))
                  have hsF : w.heap.size ≤ wr.heap.size := by have := HRB.out.lt; omega
                  have HBF := Lib.hid hBF
                  have HOWr := Lib.hid (HOW.out.below hwA2)
                  clear hwA2 hRB hBF HLS
                  obtain ⟨pa, pc, rfl⟩ := HTA.out.own.slice
                  obtain ⟨la', lc', rfl⟩ := HLA.out.own.slice
                  have s0 := HPR.out.cell 0 _ rfl
                  have s1 := HPR.out.cell 1 _ rfl
                  have s2 := HPR.out.cell 2 _ rfl
                  have s3 := HPR.out.cell 3 _ rfl
                  have s4 := HPR.out.cell 4 _ rfl
                  have s5 := HPR.out.cell 5 _ rfl
                  have s6 := HPR.out.cell 6 _ rfl
                  have z0 := HRB.out.cell 0 _ rfl
                  have z1 := HRB.out.cell 1 _ rfl
                  have z2 := HRB.out.cell 2 _ rfl
                  have z3 := HRB.out.cell 3 _ rfl
                  have z4 := HRB.out.cell 4 _ rfl
                  have z5 := HRB.out.cell 5 _ rfl
                  have z6 := HRB.out.cell 6 _ rfl
                  have f0 := HRB.out.frozen 0
                  have f1 := HRB.out.frozen 1
                  have f2 := HRB.out.frozen 2
                  have f3 := HRB.out.frozen 3
                  have f4 := HRB.out.frozen 4
                  have f5 := HRB.out.frozen 5
                  have f6 := HRB.out.frozen 6
                  have e0 : makeE g p l = 0 := by rw [makeE, if_neg (by simp [HC1.out]), if_neg (by simp [HC2.out]), HC3.out, if_neg (by simp), HC4.out, if_pos rfl]
                  have HE0 := Lib.hid e0
                  have HLS := Lib.hid hLS
                  clear e0 hLS
                  go_wp2
                  refine bodyPost_ret_by (results_row_tmp rfl _ _ _ _ _ _ _ rfl (prog_set HRB.out.1 _ _ _ _ _ _ _) Try.underlying39 rfl (by kernel_rfl)) rfl ?_
                  have T : Turn q q (fun x => x = 0) wr (setProg wr (w.heap.size + 2) (.int .i64 p.total) (.int .i64 rw9.2) (.int .i64 g.ins.length) (.int .i64 g.outs.length) (.slice pa ps.length pc) (.slice la' ls.length lc') (.slice oa OPS.length oc')) := ⟨(prog_mods wr _ _ _ _ _ _ _ _).mono (fun k _ e => by subst e; exact HKR.out.old _ hRP), fun _ _ => rfl⟩
                  refine ⟨_, by rw [HE0.out]; rfl, fun w'' mw => ?_, prog_below HBF.out hsF (by omega) _ _ _ _ _ _ _⟩
                  replace T := T.trans (⟨mw.mono (fun k _ e => HKR.out.old _ (by omega)), fun _ _ => rfl⟩ : Turn q q (fun x => x = 0) _ w'') (fun _ h => h)
                  rw [makeP, if_pos HE0.out]
                  refine ⟨_, _, _, by rw [makeG, HRW.out], ?_, ?_, ?_⟩
                  · have := TailAt.recs (show ∀ a, (partHd a).length + 1 = 2 from fun _ => rfl) (HTA.out.turn T (by decide) (by decide))
                    rw [HPA.out] at this
                    exact this
                  · have := TailAt.recs (show ∀ a, (lineHd a).length + 1 = 3 from fun _ => rfl) (HLA.out.turn T (by decide) (by decide))
                    rw [HLS.out] at this
                    exact this
                  · have := (HOWr.out.mods (prog_mods wr (w.heap.size + 2) (.int .i64 p.total) (.int .i64 rw9.2) (.int .i64 g.ins.length) (.int .i64 g.outs.length) (.slice pa ps.length pc) (.slice la' ls.length lc') (.slice oa OPS.length oc')) (fun ad e1 e2 => by have := HOB.out ad e1; omega)).mods mw (fun ad e1 e2 => by have := HOB.out ad e1; omega)
                    rw [makeG, HRW.out, HOP.out]
                    exact this
        · have e4 : fitsP g p = false := by simpa using h4
          have e : makeE g p l = 210 := by rw [makeE, if_neg (by simp [HC1.out]), if_neg (by simp [HC2.out]), HC3.out, if_neg (by simp), e4, if_neg (by simp)]
          rw [e4]
          clear h4
          have z0 := HR.out.cell 0 _ rfl
          have z1 := HR.out.cell 1 _ rfl
          have z2 := HR.out.cell 2 _ rfl
          have z3 := HR.out.cell 3 _ rfl
          have z4 := HR.out.cell 4 _ rfl
          have z5 := HR.out.cell 5 _ rfl
          have z6 := HR.out.cell 6 _ rfl
          have f0 := HR.out.frozen 0
          have f1 := HR.out.frozen 1
          have f2 := HR.out.frozen 2
          have f3 := HR.out.frozen 3
          have f4 := HR.out.frozen 4
          have f5 := HR.out.frozen 5
          have f6 := HR.out.frozen 6
          go_wp2
          refine bodyPost_ret_by (results_row_tmp rfl _ _ _ _ _ _ _ rfl (prog_set HR.out.1 _ _ _ _ _ _ _) Try.underlying39 rfl (by kernel_rfl)) rfl ?_
          refine ⟨_, by first | rfl | (rw [← e]; rfl), fun w'' _ => ?_, prog_below HK.out.below HK.out.size (by omega) _ _ _ _ _ _ _⟩
          rw [makeP, if_neg (by rw [e]; decide)]
          exact hasProg_zero _
      · have e3 : strangeP l g.actors.length = true := by simpa using h3
        have e : makeE g p l = 100 := by rw [makeE, if_neg (by simp [HC1.out]), if_neg (by simp [HC2.out]), if_pos e3]
        rw [e3]
        clear h3
        have z0 := HR.out.cell 0 _ rfl
        have z1 := HR.out.cell 1 _ rfl
        have z2 := HR.out.cell 2 _ rfl
        have z3 := HR.out.cell 3 _ rfl
        have z4 := HR.out.cell 4 _ rfl
        have z5 := HR.out.cell 5 _ rfl
        have z6 := HR.out.cell 6 _ rfl
        have f0 := HR.out.frozen 0
        have f1 := HR.out.frozen 1
        have f2 := HR.out.frozen 2
        have f3 := HR.out.frozen 3
        have f4 := HR.out.frozen 4
        have f5 := HR.out.frozen 5
        have f6 := HR.out.frozen 6
        go_wp2
        refine bodyPost_ret_by (results_row_tmp rfl _ _ _ _ _ _ _ rfl (prog_set HR.out.1 _ _ _ _ _ _ _) Try.underlying39 rfl (by kernel_rfl)) rfl ?_
        refine ⟨_, by first | rfl | (rw [← e]; rfl), fun w'' _ => ?_, prog_below HK.out.below HK.out.size (by omega) _ _ _ _ _ _ _⟩
        rw [makeP, if_neg (by rw [e]; decide)]
        exact hasProg_zero _
    · have e : makeE g p l = nestCheckE l := by rw [makeE, if_neg (by simp [HC1.out]), if_pos h2]
      obtain ⟨E, hE⟩ : ∃ x, nestCheckE l = x := ⟨_, rfl⟩
      rw [hE] at h2 e ⊢
      clear hE
      have z0 := HR.out.cell 0 _ rfl
      have z1 := HR.out.cell 1 _ rfl
      have z2 := HR.out.cell 2 _ rfl
      have z3 := HR.out.cell 3 _ rfl
      have z4 := HR.out.cell 4 _ rfl
      have z5 := HR.out.cell 5 _ rfl
      have z6 := HR.out.cell 6 _ rfl
      have f0 := HR.out.frozen 0
      have f1 := HR.out.frozen 1
      have f2 := HR.out.frozen 2
      have f3 := HR.out.frozen 3
      have f4 := HR.out.frozen 4
      have f5 := HR.out.frozen 5
      have f6 := HR.out.frozen 6
      go_wp2
      refine bodyPost_ret_by (results_row_tmp rfl _ _ _ _ _ _ _ rfl (prog_set HR.out.1 _ _ _ _ _ _ _) Try.underlying39 rfl (by kernel_rfl)) rfl ?_
      refine ⟨_, by first | rfl | (rw [← e]; rfl), fun w'' _ => ?_, prog_below HK.out.below HK.out.size (by omega) _ _ _ _ _ _ _⟩
      rw [makeP, if_neg (by rw [e]; exact h2)]
      exact hasProg_zero _
  · have e : makeE g p l = checkE g := by rw [makeE, if_pos h1]
    obtain ⟨E, hE⟩ : ∃ x, checkE g = x := ⟨_, rfl⟩
    rw [hE] at h1 e ⊢
    clear hE
    have z0 := HR.out.cell 0 _ rfl
    have z1 := HR.out.cell 1 _ rfl
    have z2 := HR.out.cell 2 _ rfl
    have z3 := HR.out.cell 3 _ rfl
    have z4 := HR.out.cell 4 _ rfl
    have z5 := HR.out.cell 5 _ rfl
    have z6 := HR.out.cell 6 _ rfl
    have f0 := HR.out.frozen 0
    have f1 := HR.out.frozen 1
    have f2 := HR.out.frozen 2
    have f3 := HR.out.frozen 3
    have f4 := HR.out.frozen 4
    have f5 := HR.out.frozen 5
    have f6 := HR.out.frozen 6
    go_wp2
    refine bodyPost_ret_by (results_row_tmp rfl _ _ _ _ _ _ _ rfl (prog_set HR.out.1 _ _ _ _ _ _ _) Try.underlying39 rfl (by kernel_rfl)) rfl ?_
    refine ⟨_, by first | rfl | (rw [← e]; rfl), fun w'' _ => ?_, prog_below HK.out.below HK.out.size (by omega) _ _ _ _ _ _ _⟩
    rw [makeP, if_neg (by rw [e]; exact h1)]
    exact hasProg_zero _
theorem make_any (D : Nat) (w : World) (vg vp v : Value) (g : GGraph) (p : GPlan) (l : Nest) (hg : HasGraph w vg g) (hp : HasPlan w vp p) (hv : HasNestD D w v l) (hgs : GSized g) (hns : NSized l) : Calls Try.prog 13 #[vg, vp, v] w (MakeRet w g p l) := by
  refine (make_fresh D w vg vp v g p l hg hp hv hgs hns).mono ?_
  rintro e w' ⟨v, h1, h2, h3⟩
  exact ⟨v, h1, h2 _ (Mods.refl _ _), h3⟩
end Go.Proofs.Ytbmbfifempkhgaa

/- The small example of layer 21: its graph, plan, nest; awake. -/
namespace Go.Proofs.Ytbmbfifempkhgaa
open Go.RowKit

def txt (b : UInt8) : ByteArray := { data := #[b] }
def smallG : GGraph := ⟨txt 103, [⟨txt 97, 2, [2]⟩, ⟨txt 98, 8, []⟩], [⟨0, 0, 1, 0, [7]⟩], [⟨txt 120, 0, 0⟩], [⟨txt 121, 1, 0⟩]⟩
def planG : GPlan := ⟨[⟨0, 3⟩], 3⟩
def rowN : Nest := .cons 1 0 .nil (.cons 2 1 .nil .nil)

def SmallRet (w : World) (e : Ending) (w' : World) : Prop := ∃ v, e = .returned v ∧ HasGraph w' v smallG ∧ Below w.heap.size w w'
def PlanRet (w : World) (e : Ending) (w' : World) : Prop := ∃ v, e = .returned v ∧ HasPlan w' v planG ∧ Below w.heap.size w w'
def NestRet (w : World) (e : Ending) (w' : World) : Prop := ∃ v, e = .returned v ∧ HasNestD 1 w' v rowN ∧ Below w.heap.size w w'

abbrev allocs (w : World) (os : List Obj) : World := os.foldl World.alloc w
theorem allocs_keep : ∀ (os : List Obj) (w : World) (b : Nat) (x : Obj), w.heap[b]? = some x → (allocs w os).heap[b]? = some x
  | [], _, _, _, h => h
  | o :: os, w, b, x, h => allocs_keep os (w.alloc o) b x (block_alloc h o)
theorem allocs_get : ∀ (os : List Obj) (w : World) (k : Nat) (o : Obj), os[k]? = some o → (allocs w os).heap[w.heap.size + k]? = some o
  | [], _, _, _, h => by simp at h
  | x :: os, w, 0, o, h => by
    have e : x = o := by simpa using h
    subst e
    exact allocs_keep os (w.alloc x) _ x (heap_alloc_new w x)
  | x :: os, w, k + 1, o, h => by
    have := allocs_get os (w.alloc x) k o (by simpa using h)
    rw [World.size_alloc, show w.heap.size + 1 + k = w.heap.size + (k + 1) by omega] at this
    exact this
theorem allocs_below : ∀ (os : List Obj) (w : World), Below w.heap.size w (allocs w os) ∧ w.heap.size ≤ (allocs w os).heap.size
  | [], w => ⟨Below.refl _ _, Nat.le_refl _⟩
  | o :: os, w => by
    have h := allocs_below os (w.alloc o)
    have h1 := below_alloc w o
    have h2 : w.heap.size ≤ (w.alloc o).heap.size := h1.size
    exact ⟨h1.trans (h.1.mono h2), Nat.le_trans h2 h.2⟩
theorem allocs_cell (w : World) (os : List Obj) (b i : Nat) {cs : Array Value} {t : TypeId} {v : Value} (h : os[b]? = some (.cells cs t (0, 0))) (hv : cs[i]? = some v) : (allocs w os).cell? ⟨w.heap.size + b, i, none⟩ = some v := cells_row _ _ (allocs_get os w b _ h) i v hv
theorem allocs_one (w : World) (os : List Obj) (b : Nat) {x : Int} {t : TypeId} (h : os[b]? = some (.cells #[.int .i64 x] t (0, 0))) : Has (allocs w os) (.slice (some ⟨w.heap.size + b, 0, none⟩) 1 1) (ivs [x]) :=
  .inr ⟨by simp, _, 0, 1, rfl, Nat.le_refl _, block_lt (allocs_get os w b _ h), rfl, fun k hk => by
    match k, hk with
    | 0, _ => exact allocs_cell w os b 0 h rfl⟩

set_option maxRecDepth 100000 in
theorem plan_ret (w : World) : Calls Try.prog 25 #[] w (PlanRet w) := by
  go_enter Try.func25, Try.ntmps25
  go_wp2
  refine bodyPost_ret_by (results_cell_row rfl _ _ _ _ _ _ _ rfl (allocs_get [.cells #[.slice (some ⟨w.heap.size + 1, 0, none⟩) 1 1, .int .i64 3] 29, .cells #[.int .i64 0, .int .i64 3] 70] w 0 _ rfl) Try.underlying29 rfl (by kernel_rfl)) rfl ?_
  refine ⟨_, rfl, ⟨_, rfl, ?_⟩, (allocs_below [_, _] w).1⟩
  refine .inr ⟨by decide, w.heap.size + 1, 0, 1, rfl, Nat.le_refl _, block_lt (allocs_get [_, .cells #[.int .i64 0, .int .i64 3] 70] w 1 _ rfl), fun k hk => ?_⟩
  have hk2 : k < 1 := hk
  obtain rfl : k = 0 := by omega
  refine ⟨_, rfl, rfl, fun i hi => ?_⟩
  match i, hi with
  | 0, _ => exact allocs_cell w [_, .cells #[.int .i64 0, .int .i64 3] 70] 1 0 rfl rfl
  | 1, _ => exact allocs_cell w [_, .cells #[.int .i64 0, .int .i64 3] 70] 1 1 rfl rfl
set_option maxRecDepth 100000 in
theorem nest_ret (w : World) : Calls Try.prog 26 #[] w (NestRet w) := by
  have hb := below_alloc w (.cells #[.int .i64 1, .int .i64 0, .slice none 0 0, .int .i64 2, .int .i64 1, .slice none 0 0] 51)
  have hX := heap_alloc_new w (.cells #[.int .i64 1, .int .i64 0, .slice none 0 0, .int .i64 2, .int .i64 1, .slice none 0 0] 51)
  have c := fun i v => cells_row _ _ hX i v
  go_enter Try.func26, Try.ntmps26
  go_wp2
  go_ret
  refine ⟨_, rfl, ?_, hb⟩
  refine .inr ⟨by decide, _, 0, 2, rfl, by decide, by simp, fun k hk => ?_⟩
  have hk2 : k < 2 := hk
  match k, hk2 with
  | 0, _ => exact ⟨[.int .i64 1, .int .i64 0, .slice none 0 0], rfl, ⟨_, rfl, rfl, _, _, rfl⟩, fun i hi => by match i, hi with | 0, _ => exact c 0 _ rfl | 1, _ => exact c 1 _ rfl | 2, _ => exact c 2 _ rfl⟩
  | 1, _ => exact ⟨[.int .i64 2, .int .i64 1, .slice none 0 0], rfl, ⟨_, rfl, rfl, _, _, rfl⟩, fun i hi => by match i, hi with | 0, _ => exact c 3 _ rfl | 1, _ => exact c 4 _ rfl | 2, _ => exact c 5 _ rfl⟩
def smallO (w : World) : List Obj :=
  [.cells #[.string (txt 103), .slice (some ⟨w.heap.size + 2, 0, none⟩) 2 2, .slice (some ⟨w.heap.size + 4, 0, none⟩) 1 1, .slice (some ⟨w.heap.size + 5, 0, none⟩) 1 1, .slice (some ⟨w.heap.size + 6, 0, none⟩) 1 1] 26, .cells #[.int .i64 2] 3, .cells #[.string (txt 97), .int .u8 2, .slice (some ⟨w.heap.size + 1, 0, none⟩) 1 1, .string (txt 98), .int .u8 8, .slice none 0 0] 57, .cells #[.int .i64 7] 3, .cells #[.int .i64 0, .int .i64 0, .int .i64 1, .int .i64 0, .slice (some ⟨w.heap.size + 3, 0, none⟩) 1 1] 63, .cells #[.string (txt 120), .int .i64 0, .int .i64 0] 65, .cells #[.string (txt 121), .int .i64 1, .int .i64 0] 65]
set_option maxRecDepth 100000 in
theorem small_has (w : World) : HasGraph (allocs w (smallO w)) (.agg #[.string (txt 103), .slice (some ⟨w.heap.size + 2, 0, none⟩) 2 2, .slice (some ⟨w.heap.size + 4, 0, none⟩) 1 1, .slice (some ⟨w.heap.size + 5, 0, none⟩) 1 1, .slice (some ⟨w.heap.size + 6, 0, none⟩) 1 1]) smallG := by
  refine ⟨_, _, _, _, rfl, ?_, ?_, ?_, ?_⟩
  · refine .inr ⟨by decide, w.heap.size + 2, 0, 2, rfl, Nat.le_refl _, block_lt (allocs_get (smallO w) w 2 _ rfl), fun k hk => ?_⟩
    match k, (show k < 2 from hk) with
    | 0, _ => exact ⟨_, rfl, ⟨_, rfl, allocs_one w (smallO w) 1 rfl⟩, fun i hi => by
        match i, hi with
        | 0, _ => exact allocs_cell w (smallO w) 2 0 rfl rfl
        | 1, _ => exact allocs_cell w (smallO w) 2 1 rfl rfl
        | 2, _ => exact allocs_cell w (smallO w) 2 2 rfl rfl⟩
    | 1, _ => exact ⟨[.string (txt 98), .int .u8 8, .slice none 0 0], rfl, ⟨_, rfl, .inl ⟨rfl, _, _, rfl⟩⟩, fun i hi => by
        match i, hi with
        | 0, _ => exact allocs_cell w (smallO w) 2 3 rfl rfl
        | 1, _ => exact allocs_cell w (smallO w) 2 4 rfl rfl
        | 2, _ => exact allocs_cell w (smallO w) 2 5 rfl rfl⟩
  · refine .inr ⟨by decide, w.heap.size + 4, 0, 1, rfl, Nat.le_refl _, block_lt (allocs_get (smallO w) w 4 _ rfl), fun k hk => ?_⟩
    match k, (show k < 1 from hk) with
    | 0, _ => exact ⟨_, rfl, ⟨_, rfl, allocs_one w (smallO w) 3 rfl⟩, fun i hi => by
        match i, hi with
        | 0, _ => exact allocs_cell w (smallO w) 4 0 rfl rfl
        | 1, _ => exact allocs_cell w (smallO w) 4 1 rfl rfl
        | 2, _ => exact allocs_cell w (smallO w) 4 2 rfl rfl
        | 3, _ => exact allocs_cell w (smallO w) 4 3 rfl rfl
        | 4, _ => exact allocs_cell w (smallO w) 4 4 rfl rfl⟩
  · refine .inr ⟨by decide, w.heap.size + 5, 0, 1, rfl, Nat.le_refl _, block_lt (allocs_get (smallO w) w 5 _ rfl), fun k hk => ?_⟩
    match k, (show k < 1 from hk) with
    | 0, _ => exact ⟨_, rfl, rfl, fun i hi => by
        match i, hi with
        | 0, _ => exact allocs_cell w (smallO w) 5 0 rfl rfl
        | 1, _ => exact allocs_cell w (smallO w) 5 1 rfl rfl
        | 2, _ => exact allocs_cell w (smallO w) 5 2 rfl rfl⟩
  · refine .inr ⟨by decide, w.heap.size + 6, 0, 1, rfl, Nat.le_refl _, block_lt (allocs_get (smallO w) w 6 _ rfl), fun k hk => ?_⟩
    match k, (show k < 1 from hk) with
    | 0, _ => exact ⟨_, rfl, rfl, fun i hi => by
        match i, hi with
        | 0, _ => exact allocs_cell w (smallO w) 6 0 rfl rfl
        | 1, _ => exact allocs_cell w (smallO w) 6 1 rfl rfl
        | 2, _ => exact allocs_cell w (smallO w) 6 2 rfl rfl⟩
set_option maxRecDepth 100000 in
theorem small_ret (w : World) : Calls Try.prog 24 #[] w (SmallRet w) := by
  go_enter Try.func24, Try.ntmps24
  go_wp2
  refine bodyPost_ret_by (results_cell_row rfl _ _ _ _ _ _ _ rfl (allocs_get (smallO w) w 0 _ rfl) Try.underlying26 rfl (by kernel_rfl)) rfl ?_
  exact ⟨_, rfl, small_has w, (allocs_below (smallO w) w).1⟩

abbrev leaf1 (t n : Int) : Nest := .cons t n .nil .nil
theorem mk_1 : makeE smallG planG rowN = 0 := by kernel_rfl
theorem mk_2 : makeE smallG planG (leaf1 1 2) = 100 := by kernel_rfl
theorem mk_3 : makeE smallG ⟨[], 0⟩ rowN = 210 := by kernel_rfl
theorem mk_4 : makeE smallG planG .nil = 0 := by kernel_rfl
theorem mk_5 : makeE smallG ⟨[⟨0, 0⟩], 0⟩ .nil = 210 := by kernel_rfl
theorem mk_6 : makeE smallG ⟨[⟨0, 3⟩], 1025⟩ rowN = 210 := by kernel_rfl
theorem mk_7 : makeE smallG ⟨[⟨1021, 3⟩], 1024⟩ rowN = 0 := by kernel_rfl
theorem mp_1 : makeP smallG planG rowN = ⟨3, 1, 1, 1, [⟨2, [2]⟩, ⟨8, []⟩], [⟨0, 3, [7]⟩], [⟨4, 0, 1⟩, ⟨5, 0, 0⟩, ⟨6, 0, 2⟩, ⟨1, 0, 2⟩, ⟨3, 0, 1⟩, ⟨5, 1, 0⟩, ⟨7, 0, 1⟩, ⟨2, 0, 4⟩, ⟨0, 0, 0⟩]⟩ := by kernel_rfl
theorem mp_4 : makeP smallG planG .nil = ⟨3, 0, 1, 1, [⟨2, [2]⟩, ⟨8, []⟩], [⟨0, 3, [7]⟩], [⟨0, 0, 0⟩]⟩ := by kernel_rfl
theorem mp_7 : (makeP smallG ⟨[⟨1021, 3⟩], 1024⟩ rowN).memory = 1024 := by kernel_rfl
theorem small_sized : GSized smallG := ⟨by decide, by decide, by decide, by decide⟩
end Go.Proofs.Ytbmbfifempkhgaa

/- awake of layer 21 answers true. -/
namespace Go.Proofs.Ytbmbfifempkhgaa
open Go.RowKit

theorem leaf_has (w : World) (t n : Int) : HasNestD 1 (w.alloc (.cells #[.int .i64 t, .int .i64 n, .slice none 0 0] 51)) (.slice (some ⟨w.heap.size, 0, none⟩) 1 1) (leaf1 t n) := by
  have hX := heap_alloc_new w (.cells #[.int .i64 t, .int .i64 n, .slice none 0 0] 51)
  refine .inr ⟨Nat.zero_lt_one, _, 0, 1, rfl, Nat.le_refl _, block_lt hX, fun k hk => ?_⟩
  match k, (show k < 1 from hk) with
  | 0, _ => exact ⟨[.int .i64 t, .int .i64 n, .slice none 0 0], rfl, ⟨_, rfl, rfl, _, _, rfl⟩, fun i hi => by
      match i, hi with
      | 0, _ => exact cells_row _ _ hX 0 _ rfl
      | 1, _ => exact cells_row _ _ hX 1 _ rfl
      | 2, _ => exact cells_row _ _ hX 2 _ rfl⟩
theorem nest_nil (D : Nat) (w : World) : HasNestD D w (.slice none 0 0) .nil := by
  cases D with
  | zero => exact ⟨rfl, _, _, rfl⟩
  | succ D => exact .inl ⟨rfl, _, _, rfl⟩
theorem leaf_sized (t n : Int) : NSized (leaf1 t n) := by simp [NSized, Nest.items]
theorem row_sized : NSized rowN := by simp [rowN, NSized, Nest.items]

/-- the call goes on from here -/
structure Then (w w' : World) : Prop where
  below : Below w.heap.size w w'
  size : w.heap.size ≤ w'.heap.size
theorem Then.refl (w : World) : Then w w := ⟨Below.refl _ _, Nat.le_refl _⟩
theorem Then.step {w w1 w2 : World} (h : Then w w1) (b : Below w1.heap.size w1 w2) : Then w w2 := ⟨h.below.trans (b.mono h.size), Nat.le_trans h.size b.size⟩

theorem HasProg.none {w : World} {v : Value} (h : HasProg w v .zero) : ∃ a x b y c z, v = .agg #[.int .i64 0, .int .i64 0, .int .i64 0, .int .i64 0, .slice a 0 x, .slice b 0 y, .slice c 0 z] := by
  obtain ⟨vp, vl, vo, rfl, rp, rl, ro⟩ := h
  obtain ⟨ap, cp, rfl⟩ := rp.slice
  obtain ⟨al, cl, rfl⟩ := rl.slice
  obtain ⟨ao, co, rfl⟩ := ro.slice
  exact ⟨_, _, _, _, _, _, rfl⟩



set_option maxRecDepth 100000 in
set_option maxHeartbeats 2000000 in
theorem awake_yes (w : World) : Calls Try.prog 19 #[] w (Tells (.bool true) w) := by
  have HT := Lib.hid (Then.refl w)
  go_enter Try.func19, Try.ntmps19
  go_wp2_with fail
  refine (small_ret _).mono ?_
  rintro e w1 ⟨vg, rfl, hg, hb⟩
  replace HT := Lib.hid (HT.out.step hb)
  have HG := Lib.hid hg
  clear hg hb
  go_wp2_with fail
  refine (plan_ret _).mono ?_
  rintro e w1 ⟨vp, rfl, hp, hb⟩
  replace HT := Lib.hid (HT.out.step hb)
  have HP := Lib.hid hp
  replace HG := Lib.hid (HG.out.below hb)
  clear hp hb
  go_wp2_with fail
  refine (nest_ret _).mono ?_
  rintro e w1 ⟨vn, rfl, hn, hb⟩
  replace HT := Lib.hid (HT.out.step hb)
  have HN := Lib.hid hn
  replace HP := Lib.hid (HP.out.below hb)
  replace HG := Lib.hid (HG.out.below hb)
  clear hn hb
  go_wp2_with fail
  refine (make_any 1 _ _ _ _ smallG planG rowN HG.out HP.out HN.out small_sized row_sized).mono ?_
  rintro e w4 ⟨v4, rfl, p4, hb⟩
  replace HT := Lib.hid (HT.out.step hb)
  clear hb HG HP HN
  rw [mk_1]
  rw [mp_1] at p4
  obtain ⟨vp, vl, vo, rfl, rp, rl, ro⟩ := p4
  obtain ⟨ap, cp, rfl⟩ := rp.slice
  obtain ⟨al, cl, rfl⟩ := rl.slice
  obtain ⟨ao, co, rfl⟩ := ro.slice
  have HRO := Lib.hid ro
  clear rp rl ro
  obtain ⟨B, hB⟩ : ∃ x, w4.heap.size = x := ⟨_, rfl⟩
  obtain ⟨OPS, hOPS⟩ : ∃ x : List GOp, [⟨4, 0, 1⟩, ⟨5, 0, 0⟩, ⟨6, 0, 2⟩, ⟨1, 0, 2⟩, ⟨3, 0, 1⟩, ⟨5, 1, 0⟩, ⟨7, 0, 1⟩, ⟨2, 0, 4⟩, ⟨0, 0, 0⟩] = x := ⟨_, rfl⟩
  have hl9 : OPS.length = 9 := by rw [← hOPS]; rfl
  simp only [] at HRO
  rw [hOPS] at HRO
  rw [hl9] at HRO
  have HOPS := Lib.hid hOPS
  clear hOPS hl9
  have hbX := below_alloc w4 (.cells #[.int .i64 3, .int .i64 1, .int .i64 1, .int .i64 1, .slice ap 2 cp, .slice al 1 cl, .slice ao 9 co] 39)
  have HB1 := Lib.hid (heap_alloc_new w4 (.cells #[.int .i64 3, .int .i64 1, .int .i64 1, .int .i64 1, .slice ap 2 cp, .slice al 1 cl, .slice ao 9 co] 39))
  replace HRO := Lib.hid (HRO.out.below hbX)
  replace HT := Lib.hid (HT.out.step hbX)
  rw [hB] at HB1
  clear hbX
  go_wp2_with fail
  clear hB
  refine (small_ret _).mono ?_
  rintro e w1 ⟨vg, rfl, hg, hb⟩
  replace HT := Lib.hid (HT.out.step hb)
  replace HB1 := Lib.hid ((hb.block _ (block_lt HB1.out)).trans HB1.out)
  replace HRO := Lib.hid (HRO.out.below hb)
  have HG := Lib.hid hg
  clear hg hb
  go_wp2_with fail
  refine (plan_ret _).mono ?_
  rintro e w1 ⟨vp, rfl, hp, hb⟩
  replace HT := Lib.hid (HT.out.step hb)
  replace HB1 := Lib.hid ((hb.block _ (block_lt HB1.out)).trans HB1.out)
  replace HRO := Lib.hid (HRO.out.below hb)
  have HP := Lib.hid hp
  replace HG := Lib.hid (HG.out.below hb)
  clear hp hb
  have hbL := below_alloc w1 (.cells #[.int .i64 1, .int .i64 2, .slice none 0 0] 51)
  have HL := Lib.hid (leaf_has w1 1 2)
  go_wp2_with fail
  obtain ⟨w2, hw2⟩ : ∃ x, w1.alloc (.cells #[.int .i64 1, .int .i64 2, .slice none 0 0] 51) = x := ⟨_, rfl⟩
  rw [hw2] at hbL HL ⊢
  clear hw2
  have hb := hbL
  replace HT := Lib.hid (HT.out.step hb)
  replace HB1 := Lib.hid ((hb.block _ (block_lt HB1.out)).trans HB1.out)
  replace HRO := Lib.hid (HRO.out.below hb)
  refine (make_any 1 w2 _ _ _ smallG planG (leaf1 1 2) (HG.out.below hbL) (HP.out.below hbL) HL.out small_sized (leaf_sized 1 2)).mono ?_
  clear hb hbL HG HP HL
  rintro e w4 ⟨v4, rfl, p4, hb⟩
  replace HT := Lib.hid (HT.out.step hb)
  replace HB1 := Lib.hid ((hb.block _ (block_lt HB1.out)).trans HB1.out)
  replace HRO := Lib.hid (HRO.out.below hb)
  rw [mk_2]
  rw [makeP, if_neg (by rw [mk_2]; decide)] at p4
  obtain ⟨ap2, cp2, al2, cl2, ao2, co2, rfl⟩ := p4.none
  clear p4 hb
  have hb := below_alloc w4 (.cells #[.int .i64 0, .int .i64 0, .int .i64 0, .int .i64 0, .slice ap2 0 cp2, .slice al2 0 cl2, .slice ao2 0 co2] 39)
  replace HT := Lib.hid (HT.out.step hb)
  replace HB1 := Lib.hid ((hb.block _ (block_lt HB1.out)).trans HB1.out)
  replace HRO := Lib.hid (HRO.out.below hb)
  clear hb
  go_wp2_with fail
  refine (small_ret _).mono ?_
  rintro e w1 ⟨vg, rfl, hg, hb⟩
  replace HT := Lib.hid (HT.out.step hb)
  replace HB1 := Lib.hid ((hb.block _ (block_lt HB1.out)).trans HB1.out)
  replace HRO := Lib.hid (HRO.out.below hb)
  have HG := Lib.hid hg
  clear hg hb
  go_wp2_with fail
  have HP : Hid (HasPlan w1 (.agg #[.slice none 0 0, .int .i64 0]) ⟨[], 0⟩) := Lib.hid ⟨_, rfl, .inl ⟨rfl, _, _, rfl⟩⟩
  refine (nest_ret _).mono ?_
  rintro e w1 ⟨vn, rfl, hn, hb⟩
  replace HT := Lib.hid (HT.out.step hb)
  replace HB1 := Lib.hid ((hb.block _ (block_lt HB1.out)).trans HB1.out)
  replace HRO := Lib.hid (HRO.out.below hb)
  have HN := Lib.hid hn
  replace HP := Lib.hid (HP.out.below hb)
  replace HG := Lib.hid (HG.out.below hb)
  clear hn hb
  go_wp2_with fail
  refine (make_any 1 _ _ _ _ smallG ⟨[], 0⟩ rowN HG.out HP.out HN.out small_sized row_sized).mono ?_
  clear HG HP HN
  rintro e w4 ⟨v4, rfl, p4, hb⟩
  replace HT := Lib.hid (HT.out.step hb)
  replace HB1 := Lib.hid ((hb.block _ (block_lt HB1.out)).trans HB1.out)
  replace HRO := Lib.hid (HRO.out.below hb)
  rw [mk_3]
  rw [makeP, if_neg (by rw [mk_3]; decide)] at p4
  obtain ⟨ap2, cp2, al2, cl2, ao2, co2, rfl⟩ := p4.none
  clear p4 hb
  have hb := below_alloc w4 (.cells #[.int .i64 0, .int .i64 0, .int .i64 0, .int .i64 0, .slice ap2 0 cp2, .slice al2 0 cl2, .slice ao2 0 co2] 39)
  replace HT := Lib.hid (HT.out.step hb)
  replace HB1 := Lib.hid ((hb.block _ (block_lt HB1.out)).trans HB1.out)
  replace HRO := Lib.hid (HRO.out.below hb)
  clear hb
  have b0 := cells_row _ _ HB1.out 0 _ rfl
  have b1 := cells_row _ _ HB1.out 1 _ rfl
  have b4 := cells_row _ _ HB1.out 4 _ rfl
  have b5 := cells_row _ _ HB1.out 5 _ rfl
  have b6 := cells_row _ _ HB1.out 6 _ rfl
  have hOP := HOPS.out
  subst hOP
  obtain ⟨-, hc9, ob, off, rfl, hops⟩ := HRO.out.at (k := 0) (Nat.zero_lt_succ _)
  have hci : (9 : Int) ≤ co := by omega
  obtain ⟨x1, x2, x3⟩ : (w4.alloc (.cells #[.int .i64 0, .int .i64 0, .int .i64 0, .int .i64 0, .slice ap2 0 cp2, .slice al2 0 cl2, .slice ao2 0 co2] 39)).cell? ⟨ob, off + 9, none⟩ = some (.int .u8 1) ∧ (w4.alloc (.cells #[.int .i64 0, .int .i64 0, .int .i64 0, .int .i64 0, .slice ap2 0 cp2, .slice al2 0 cl2, .slice ao2 0 co2] 39)).cell? ⟨ob, off + 9 + 1, none⟩ = some (.int .i64 0) ∧ (w4.alloc (.cells #[.int .i64 0, .int .i64 0, .int .i64 0, .int .i64 0, .slice ap2 0 cp2, .slice al2 0 cl2, .slice ao2 0 co2] 39)).cell? ⟨ob, off + 9 + 2, none⟩ = some (.int .i64 2) := hops 3 (by decide)
  obtain ⟨y1, y2, y3⟩ : (w4.alloc (.cells #[.int .i64 0, .int .i64 0, .int .i64 0, .int .i64 0, .slice ap2 0 cp2, .slice al2 0 cl2, .slice ao2 0 co2] 39)).cell? ⟨ob, off + 21, none⟩ = some (.int .u8 2) ∧ (w4.alloc (.cells #[.int .i64 0, .int .i64 0, .int .i64 0, .int .i64 0, .slice ap2 0 cp2, .slice al2 0 cl2, .slice ao2 0 co2] 39)).cell? ⟨ob, off + 21 + 1, none⟩ = some (.int .i64 0) ∧ (w4.alloc (.cells #[.int .i64 0, .int .i64 0, .int .i64 0, .int .i64 0, .slice ap2 0 cp2, .slice al2 0 cl2, .slice ao2 0 co2] 39)).cell? ⟨ob, off + 21 + 2, none⟩ = some (.int .i64 4) := hops 7 (by decide)
  obtain ⟨z1, z2, z3⟩ : (w4.alloc (.cells #[.int .i64 0, .int .i64 0, .int .i64 0, .int .i64 0, .slice ap2 0 cp2, .slice al2 0 cl2, .slice ao2 0 co2] 39)).cell? ⟨ob, off + 6, none⟩ = some (.int .u8 6) ∧ (w4.alloc (.cells #[.int .i64 0, .int .i64 0, .int .i64 0, .int .i64 0, .slice ap2 0 cp2, .slice al2 0 cl2, .slice ao2 0 co2] 39)).cell? ⟨ob, off + 6 + 1, none⟩ = some (.int .i64 0) ∧ (w4.alloc (.cells #[.int .i64 0, .int .i64 0, .int .i64 0, .int .i64 0, .slice ap2 0 cp2, .slice al2 0 cl2, .slice ao2 0 co2] 39)).cell? ⟨ob, off + 6 + 2, none⟩ = some (.int .i64 2) := hops 2 (by decide)
  clear hops
  go_wp2
  go_ret
  exact ⟨rfl, HT.out.below⟩
end Go.Proofs.Ytbmbfifempkhgaa

/- heavy. -/
namespace Go.Proofs.Ytbmbfifempkhgaa
open Go.RowKit

def HeavyLRet (w : World) (g : GGraph) (p : GPlan) (l : Nest) (e : Ending) (w' : World) : Prop := ∃ b, e = .returned (.bool b) ∧ (b = false → headN g + pSum g.actors + eSum g.edges ≤ 1048576 ∧ p.regions.length ≤ 65536 ∧ nodesN l ≤ 65536) ∧ Below w.heap.size w w'

set_option maxRecDepth 100000 in
set_option maxHeartbeats 1000000 in
theorem heavyl_any (D : Nat) (w : World) (vg vp v : Value) (g : GGraph) (p : GPlan) (l : Nest) (hg : HasGraph w vg g) (hp : HasPlan w vp p) (hv : HasNestD D w v l) (hgr : Great g) (hns : NSized l) (hrl : p.regions.length ≤ 17600000000000) : Calls Try.prog 9 #[vg, vp, v] w (HeavyLRet w g p l) := by
  obtain ⟨va, ve, vi, vo, rfl, ra, re, ri, ro⟩ := hg.shape
  obtain ⟨vr, rfl, rr⟩ := hp
  obtain ⟨ar, rc, rfl⟩ := rr.slice
  obtain ⟨an, nc, rfl⟩ := nestD_slice D hv
  have RG := Lib.hid hg
  have RN := Lib.hid hv
  have HNS := Lib.hid hns
  have HGR := Lib.hid hgr
  have HRL := Lib.hid hrl
  have hb1 := below_alloc w (.cells #[.string g.name, va, ve, vi, vo] 26)
  have h1 := heap_alloc_new w (.cells #[.string g.name, va, ve, vi, vo] 26)
  have hs1 : (w.alloc (.cells #[.string g.name, va, ve, vi, vo] 26)).heap.size = w.heap.size + 1 := by simp
  have hb2 := below_alloc (w.alloc (.cells #[.string g.name, va, ve, vi, vo] 26)) (.cells #[.slice ar p.regions.length rc, .int .i64 p.total] 29)
  have h2 := heap_alloc_new (w.alloc (.cells #[.string g.name, va, ve, vi, vo] 26)) (.cells #[.slice ar p.regions.length rc, .int .i64 p.total] 29)
  have h3 := block_alloc h1 (.cells #[.slice ar p.regions.length rc, .int .i64 p.total] 29)
  have HT := Lib.hid (((Then.refl w).step hb1).step hb2)
  rw [hs1] at h2
  obtain ⟨W, hW⟩ : ∃ x, (w.alloc (.cells #[.string g.name, va, ve, vi, vo] 26)).alloc (.cells #[.slice ar p.regions.length rc, .int .i64 p.total] 29) = x := ⟨_, rfl⟩
  rw [hW] at h2 h3 HT
  have HPB := Lib.hid h2
  have y0 := cells_row _ _ h3 0 _ rfl
  have y1 := cells_row _ _ h3 1 _ rfl
  have y2 := cells_row _ _ h3 2 _ rfl
  have y3 := cells_row _ _ h3 3 _ rfl
  have y4 := cells_row _ _ h3 4 _ rfl
  clear ra re ri ro rr hg hgr hb1 hb2 h1 h2 h3 hs1 hv hns hrl
  go_enter Try.func9, Try.ntmps9
  go_wp2_with fail
  clear hW y0 y1 y2 y3 y4
  refine (heavy_graph _ _ g (RG.out.below HT.out.below) HGR.out).mono ?_
  rintro e wc ⟨b, rfl, hbl, hb⟩
  replace HT := Lib.hid (HT.out.step hb)
  replace HPB := Lib.hid ((hb.block _ (block_lt HPB.out)).trans HPB.out)
  clear hb
  have p0 := cells_row _ _ HPB.out 0 _ rfl
  cases b with
  | true =>
    go_wp2
    go_ret
    exact ⟨true, rfl, (fun h => by cases h), HT.out.below⟩
  | false =>
    have HH := Lib.hid (hbl rfl)
    clear hbl
    by_cases hr : 65536 < p.regions.length
    · have hri : (65536 : Int) < p.regions.length := by omega
      go_wp2
      go_ret
      exact ⟨true, rfl, (fun h => by cases h), HT.out.below⟩
    have hri : ¬ (65536 : Int) < p.regions.length := by omega
    have HRL2 := Lib.hid hr
    have HD : Hid (decide ((65536 : Int) < p.regions.length) = false) := Lib.hid (by simpa using hri)
    clear hr
    go_wp2_with fail
    refine (heavyloops_any D _ _ l (nestD_below D RN.out HT.out.below) HNS.out).mono ?_
    rintro e wd ⟨rfl, hb⟩
    replace HT := Lib.hid (HT.out.step hb)
    have HWN := Lib.hid (weight_nodes (l := l))
    clear hb p0 hri
    obtain ⟨n, hn⟩ : ∃ n, weightP l 0 0 = n := ⟨_, rfl⟩
    rw [hn]
    have HN := Lib.hid hn
    clear hn
    by_cases hw : 65536 < n
    · rw [decide_eq_true hw]
      go_wp2
      go_ret
      exact ⟨true, rfl, (fun h => by cases h), HT.out.below⟩
    · rw [decide_eq_false hw]
      have HW := Lib.hid hw
      clear hw
      have hd := HD.out
      go_wp2
      go_ret
      exact ⟨false, rfl, (fun _ => ⟨HH.out, by have := HRL2.out; omega, HWN.out (by rw [HN.out]; have := HW.out; omega)⟩), HT.out.below⟩
end Go.Proofs.Ytbmbfifempkhgaa

/- A list lent: Lent. -/
namespace Go.Proofs.Ytbmbfifempkhgaa
open Go.RowKit

theorem new_cells {w w' : World} {B : Nat} {ao : Option Addr} {vs : List Value} (hb : Below B w w') (h : ∀ ad, ao = some ad → ∀ j u, vs[j]? = some u → w.cell? (ad.add j) = some u) (hB : ∀ k, k < w.heap.size → k < B := by intro k hk; exact hk) : ∀ ad, ao = some ad → ∀ j u, vs[j]? = some u → w'.cell? (ad.add j) = some u := fun ad had j u hu =>
  (hb.cell (hB _ (World.block_lt_of_cell? _ _ (h ad had j u hu)))).trans (h ad had j u hu)

set_option maxHeartbeats 800000 in
theorem lent_any (w : World) (zs : List Int) (ao : Option Addr) (zc : Nat) (hz : zs.length ≤ 17600000000000) (hnone : ao = none → zs.length = 0) (hcz : ∀ ad, ao = some ad → ∀ j u, (zs.map (Value.int .i64))[j]? = some u → w.cell? (ad.add j) = some u) :
    Calls Try.prog 37 #[.slice ao zs.length zc] w fun e w' => ∃ g cap, e = .returned (.slice (some ⟨g, 0, none⟩) zs.length cap) ∧
      w'.ownsRow w.heap.size 3 1 (.slice (some ⟨g, 0, none⟩) (zs.length + 4) cap) (zs.length + 4) ((zs ++ List.replicate 4 (-7770777)).map (Value.int .i64)) ∧ Below w.heap.size w w' := by
  obtain ⟨i0, hi, hz0, hz1, hz2⟩ := info_parts info_int
  have HZ := Lib.hid hz
  have Hnone := Lib.hid hnone
  have Hcz := Lib.hid hcz
  have hzi : (zs.length : Int) + 4 ≤ 4611686018427387904 := by omega
  clear hz hnone hcz
  go_enter Try.func37, Try.ntmps37
  obtain ⟨w1, hr, hown, hg⟩ := run_make_own (P := Try.prog) w w.heap.size 52 3 i0 _ 1 Try.underlying52 hi hz0 hz1 .i64 .i64 (zs.length + 4) (by rw [hz2]; have := HZ.out; omega) (by have := HZ.out; unfold maxLen; omega) (Nat.le_refl _)
  have hcast : ((zs.length + 4 : Nat) : Int) = (zs.length : Int) + 4 := by omega
  rw [hcast] at hr
  go_wp2_with (at_builtin; refine stop_here ?_)
  refine go_on ?_
  have hm1 : Mods (fun _ => False) w w1 := (Mods.refl (fun _ => False) w).grown hg (fun k hk _ => by simp at hk)
  have hsz1 := hm1.size
  have hcz1 : ∀ ad, ao = some ad → ∀ j u, (zs.map (Value.int .i64))[j]? = some u → w1.cell? (ad.add j) = some u := new_cells (below_mods hm1) Hcz.out
  refine wpList_app rfl _ _ 52 rfl w.heap.size 3 i0 _ 1 8 Try.underlying52 hi hz0 hz1 hz2 rfl (.slice (some ⟨w.heap.size, 0, none⟩) 0 (zs.length + 4)) 0 [] rfl hown ao zs.length zc (zs.map (Value.int .i64)) rfl (by simp) Hnone.out hcz1 (ivs_one zs) (by have := HZ.out; unfold maxLen; omega) (grow_ok (by have := HZ.out; omega)) hsz1 ?_
  intro v2 w2 g1 g20 _ g4
  have g2 : w1.grownBy w2 (Value.slice (some ⟨w.heap.size, 0, none⟩) 0 (zs.length + 4)).ownBlock := ⟨g20.os, g20.tape, g20.output, g20.size, g20.block⟩
  have hb2 : Below w.heap.size w w2 := (hm1.below (Nat.le_refl _) (fun _ _ h => h)).trans (((Mods.refl (fun k => k = w.heap.size) w1).grown g2 (fun k hk _ => (Option.some.inj hk).symm)).below hsz1 (fun k hk e => by omega))
  simp only [Nat.zero_add, List.nil_append] at g1
  have hT : ∃ v n, v2 = v ∧ n = zs.length ∧ w2.ownsRow w.heap.size 3 1 v n ((zs ++ List.replicate 0 (-7770777)).map (Value.int .i64)) := ⟨_, _, rfl, rfl, by simpa using g1⟩
  clear g20 g2 g4 hown hg hr hcast hcz1
  go_wp2_with fail
  go_loopw [3, 4] (fun v i wr => ∃ k : Nat, k ≤ 4 ∧ i = .int .i64 k ∧ wr.ownsRow w.heap.size 3 1 v (zs.length + k) ((zs ++ List.replicate k (-7770777)).map (Value.int .i64)) ∧ Below w.heap.size w wr) (fun _ i _ => 4 - (intOf i).toNat)
  case atStart => exact ⟨0, by omega, rfl, by simpa using g1, hb2⟩
  case round =>
    clear hT g1 hb2
    obtain ⟨k, hk, rfl, hrow, hbw⟩ := hrel
    have hsz := hbw.size
    obtain ⟨sv, cv, rfl⟩ := owns_slice hrow
    by_cases hlt : k < 4
    · have hki : (k : Int) < 4 := by omega
      go_wp2_with (at_builtin; refine stop_here ?_)
      refine go_on ?_
      refine wpList_app rfl _ _ 52 rfl w.heap.size 3 i0 _ 1 8 Try.underlying52 hi hz0 hz1 hz2 rfl (.slice sv (zs.length + k) cv) (zs.length + k) _ rfl (hrow.alloc (.cells #[.int .i64 (-7770777)] 3)) (some ⟨wr.heap.size, 0, none⟩) 1 1 [.int .i64 (-7770777)] rfl rfl (fun h => by cases h) (news_alloc wr [.int .i64 (-7770777)] 3) (by simp [Value.oneCell']) (by have := HZ.out; unfold maxLen; omega) (grow_ok (by have := HZ.out; omega)) (size_le_alloc hsz _) ?_
      intro v5 w5 k1 k20 _ _
      have k2 : (wr.alloc (.cells #[.int .i64 (-7770777)] 3)).grownBy w5 (Value.slice sv (zs.length + k) cv).ownBlock := ⟨k20.os, k20.tape, k20.output, k20.size, k20.block⟩
      have hb5 := hbw.trans (below_app hrow k2 hsz)
      have k3 : w5.ownsRow w.heap.size 3 1 v5 (zs.length + (k + 1)) ((zs ++ List.replicate (k + 1) (-7770777)).map (Value.int .i64)) := by
        rw [List.replicate_succ', ← List.append_assoc, List.map_append]; exact k1
      clear k1 k20 k2 hrow
      go_wp2
      go_roundw
      case rel => exact ⟨k + 1, by omega, by go_num, k3, hb5⟩
      case measure => simp [intOf]; omega
    · obtain rfl : k = 4 := by omega
      obtain ⟨_, hcap, g, hg, rfl, _⟩ := owns_cell hrow (by simp)
      have hcapi : (zs.length : Int) ≤ cv := by omega
      go_wp2
      go_ret
      exact ⟨g, cv, rfl, by simpa using hrow, hbw⟩

/-- the own list, and the marked room behind it, as they are -/
def Lends (w : World) (g n cap : Nat) (zs : List Int) : Prop :=
  n = zs.length ∧ n + 4 ≤ cap ∧ g < w.heap.size ∧ (∀ k, k < n → w.cell? ⟨g, k, none⟩ = some (.int .i64 (zs[k]?.getD 0))) ∧ ∀ k, n ≤ k → k < n + 4 → w.cell? ⟨g, k, none⟩ = some (.int .i64 (-7770777))

theorem lends_of_owns {w : World} {base g cap : Nat} {zs : List Int} (h : w.ownsRow base 3 1 (.slice (some ⟨g, 0, none⟩) (zs.length + 4) cap) (zs.length + 4) ((zs ++ List.replicate 4 (-7770777)).map (Value.int .i64))) : Lends w g zs.length cap zs := by
  obtain ⟨_, hcap, g', _, e, hc, _, hg⟩ := owns_cell h (by simp)
  cases e
  refine ⟨rfl, hcap, hg, fun k hk => hc k _ ?_, fun k h1 h2 => hc k _ ?_⟩
  · simp [List.getElem?_append_left, hk]
  · rw [List.getElem?_map, List.getElem?_append_right h1, List.getElem?_replicate, if_pos (by omega)]
    rfl

theorem Lends.below {w w' : World} {g n cap : Nat} {zs : List Int} (h : Lends w g n cap zs) (hb : Below w.heap.size w w') : Lends w' g n cap zs :=
  ⟨h.1, h.2.1, Nat.lt_of_lt_of_le h.2.2.1 hb.size, fun k hk => cell_later hb (h.2.2.2.1 k hk), fun k h1 h2 => cell_later hb (h.2.2.2.2 k h1 h2)⟩

theorem Lends.has {w : World} {g n cap c : Nat} {zs : List Int} (h : Lends w g n cap zs) (hc : n ≤ c) : Has w (.slice (some ⟨g, 0, none⟩) n c) (ivs zs) := by
  obtain ⟨rfl, _, hg, hcl, _⟩ := h
  by_cases hp : 0 < zs.length
  · exact .inr ⟨by simpa using hp, g, 0, c, by simp, by simpa using hc, hg, rfl, fun k hk => by
      have hk' : k < zs.length := by simpa using hk
      rw [ivs_get hk', Nat.zero_add]; exact hcl k hk'⟩
  · obtain rfl : zs = [] := List.eq_nil_of_length_eq_zero (by omega)
    exact .inl ⟨rfl, _, c, rfl⟩

/-- Lent, read -/
def LentRet (w : World) (zs : List Int) (e : Ending) (w' : World) : Prop := ∃ g cap, e = .returned (.slice (some ⟨g, 0, none⟩) zs.length cap) ∧ Has w' (.slice (some ⟨g, 0, none⟩) zs.length cap) (ivs zs) ∧ w.heap.size ≤ g ∧ Below w.heap.size w w'
theorem lent_has {w : World} {ao : Option Addr} {n zc : Nat} {zs : List Int} (h : Has w (.slice ao n zc) (ivs zs)) (hz : zs.length ≤ 17600000000000) : Calls Try.prog 37 #[.slice ao n zc] w (LentRet w zs) := by
  obtain ⟨h1, h2⟩ := h.news
  obtain rfl := Ints.len h
  refine (lent_any w zs ao zc hz h1 h2).mono ?_
  rintro e w' ⟨g, cap, rfl, hown, hb⟩
  have hl := lends_of_owns hown
  exact ⟨g, cap, rfl, hl.has (by have := hl.2.1; omega), (hown.lt g rfl).1, hb⟩
theorem Vals.recol {w : World} {o : Col} {g n cap d : Nat} {vs : List Value} (h : Has w (.slice (some ⟨g, 0, none⟩) n cap) vs) (ho : o g = d) : Vals w o d (.slice (some ⟨g, 0, none⟩) n cap) vs := by
  rcases h with h | ⟨hp, b, off, cap', e, hl, hb, _, hcl⟩
  · exact .inl h
  · cases e
    exact .inr ⟨hp, _, _, _, rfl, hl, hb, ho, hcl⟩
end Go.Proofs.Ytbmbfifempkhgaa

/- lentPorts, LentPlan. -/
namespace Go.Proofs.Ytbmbfifempkhgaa
open Go.RowKit

theorem info_Port : (Try.prog.info? 65).map (fun i => (i.zero, i.size, i.bytes)) = some (some (.agg #[.string ByteArray.empty, .int .i64 0, .int .i64 0]), 3, 32) := by kernel_rfl
theorem info_Region : (Try.prog.info? 70).map (fun i => (i.zero, i.size, i.bytes)) = some (some (.agg #[.int .i64 0, .int .i64 0]), 2, 16) := by kernel_rfl
def markT : ByteArray := { data := #[109, 97, 114, 107] }
def portMark : GPort := ⟨markT, -7770777, 0⟩
def regionMark : GRegion := ⟨-7770777, 0⟩
theorem flat_one {α : Type} {hd : α → List Value} (h : ∀ a, ∀ u ∈ hd a, u.oneCell' = true) (l : List α) : ∀ u ∈ flatV hd l, u.oneCell' = true := fun u hu => by
  obtain ⟨a, _, ha⟩ := List.mem_flatMap.1 hu
  exact h a u ha

def LentPRet (w : World) (l : List GPort) (e : Ending) (w' : World) : Prop := ∃ v, e = .returned v ∧ Recs w' 3 (FlatR portHd) v l ∧ (∀ b off n cap, v = .slice (some ⟨b, off, none⟩) n cap → w.heap.size ≤ b) ∧ Below w.heap.size w w'

set_option maxRecDepth 100000 in
theorem lentports_any (w : World) (v : Value) (l : List GPort) (h : Recs w 3 PortR v l) (hl : l.length ≤ 1100000) : Calls Try.prog 38 #[v] w (LentPRet w l) := by
  obtain ⟨i0, hi, hz0, hz1, hz2⟩ := info_parts info_Port
  obtain ⟨ao, cap, rfl⟩ := h.slice
  have h' : Recs w 3 (FlatR portHd) (.slice ao l.length cap) l := h
  obtain ⟨n1, n2⟩ := h'.news (show ∀ a, (portHd a).length = 3 from fun _ => rfl) (by decide)
  have hfl : (flatV portHd l).length = l.length * 3 := flatV_len (show ∀ a, (portHd a).length = 3 from fun _ => rfl) l
  have H1 := Lib.hid n1
  have H2 := Lib.hid n2
  clear h h' n1 n2
  go_enter Try.func38, Try.ntmps38
  go_wp2_with (at_builtin; refine stop_here ?_)
  refine go_on ?_
  refine wpList_app rfl _ _ 24 rfl w.heap.size 65 i0 _ 3 32 Try.underlying24 hi hz0 hz1 hz2 rfl (.slice none 0 0) 0 [] rfl (World.ownsRow_nil w w.heap.size 65 3) ao l.length cap (flatV portHd l) rfl hfl H1.out H2.out (flat_one (fun a u hu => by simp [portHd] at hu; rcases hu with rfl | rfl | rfl <;> rfl) l) (by unfold maxLen; omega) (grow_ok (by omega)) (Nat.le_refl _) ?_
  intro v5 w5 k1 k20 _ _
  have hb : Below w.heap.size w w5 := below_mods ((Mods.refl _ w).grown k20 (fun b hb _ => by simp [Value.ownBlock] at hb))
  have k3 : w5.ownsRow w.heap.size 65 3 v5 l.length (flatV portHd l) := by simpa using k1
  obtain ⟨s5, c5, rfl⟩ := owns_slice k3
  have HB := Lib.hid hb
  have HK := Lib.hid k3
  have hsz := hb.size
  clear k1 k20 hb k3
  go_wp2_with (at_builtin; refine stop_here ?_)
  refine go_on ?_
  refine wpList_app rfl _ _ 24 rfl w.heap.size 65 i0 _ 3 32 Try.underlying24 hi hz0 hz1 hz2 rfl (.slice s5 l.length c5) l.length _ rfl (HK.out.alloc (.cells #[.string markT, .int .i64 (-7770777), .int .i64 0] 65)) (some ⟨w5.heap.size, 0, none⟩) 1 1 [.string markT, .int .i64 (-7770777), .int .i64 0] rfl rfl (fun h => by cases h) (news_alloc w5 [.string markT, .int .i64 (-7770777), .int .i64 0] 65) (by simp [Value.oneCell']) (by unfold maxLen; omega) (grow_ok (by omega)) (size_le_alloc hsz _) ?_
  intro v6 w6 k1 k20 _ _
  have k2 : (w5.alloc (.cells #[.string markT, .int .i64 (-7770777), .int .i64 0] 65)).grownBy w6 (Value.slice s5 l.length c5).ownBlock := ⟨k20.os, k20.tape, k20.output, k20.size, k20.block⟩
  have hb6 := HB.out.trans (below_app HK.out k2 hsz)
  have k3 : w6.ownsRow w.heap.size 65 3 v6 (l ++ [portMark]).length (flatV portHd (l ++ [portMark])) := by
    rw [flatV_app, List.length_append]; exact k1
  obtain ⟨s6, c6, rfl⟩ := owns_slice k3
  have HR : Hid (Recs w6 3 (FlatR portHd) (.slice s6 (l ++ [portMark]).length c6) (l ++ [portMark])) := Lib.hid (Own.flat (o := fun _ => 0) (c := 0) (show ∀ a, (portHd a).length = 3 from fun _ => rfl) ⟨owns_base k3 (fun _ _ => Nat.zero_le _), fun _ _ => rfl⟩)
  have HLT : Hid (∀ b, (Value.slice s6 (l ++ [portMark]).length c6).ownBlock = some b → w.heap.size ≤ b) := Lib.hid fun b hb => (k3.lt b hb).1
  have HB6 := Lib.hid hb6
  have hcap : l.length + 1 ≤ c6 := by
    obtain ⟨_, _, _, hc, _⟩ := HR.out.at (by simp)
    simpa using hc
  have hci : (l.length : Int) + 1 ≤ c6 := by omega
  clear k1 k20 k2 k3 hb6 HK HB
  go_wp2
  go_ret
  exact ⟨_, rfl, HR.out.front, fun b off n cap e => HLT.out b (by cases e; rfl), HB6.out⟩

theorem recs_mods {α : Type} {hd : α → List Value} {w w' : World} {F : Nat → Prop} {sz : Nat} {ao : Option Addr} {n cap : Nat} {l : List α} (h : Recs w sz (FlatR hd) (.slice ao n cap) l) (m : Mods F w w') (hF : ∀ b off, ao = some ⟨b, off, none⟩ → ¬ F b) : Recs w' sz (FlatR hd) (.slice ao n cap) l := by
  rcases h with h | ⟨hp, b, off, cap', e, hl, hlt, h⟩
  · exact .inl h
  · cases e
    refine .inr ⟨hp, b, off, _, rfl, hl, Nat.lt_of_lt_of_le hlt m.size, fun k hk => ?_⟩
    obtain ⟨cs, h1, h2, h3⟩ := h k hk
    exact ⟨cs, h1, h2, fun i hi => (m.cell (p := ⟨b, off + k * sz + i, none⟩) hlt (hF b off rfl)).trans (h3 i hi)⟩

def LentPlanRet (w : World) (p : GPlan) (e : Ending) (w' : World) : Prop := ∃ v, e = .returned v ∧ HasPlan w' v p ∧ Below w.heap.size w w'

set_option maxRecDepth 100000 in
theorem lentplan_any (w : World) (v : Value) (p : GPlan) (h : HasPlan w v p) (hl : p.regions.length ≤ 1100000) : Calls Try.prog 11 #[v] w (LentPlanRet w p) := by
  obtain ⟨i0, hi, hz0, hz1, hz2⟩ := info_parts info_Region
  obtain ⟨vr, rfl, hr⟩ := h
  obtain ⟨ao, cap, rfl⟩ := hr.slice
  have hfl : (flatV regionHd p.regions).length = p.regions.length * 2 := flatV_len (show ∀ a, (regionHd a).length = 2 from fun _ => rfl) p.regions
  have hb1 := below_alloc w (.cells #[.slice ao p.regions.length cap, .int .i64 p.total] 29)
  have hP := heap_alloc_new w (.cells #[.slice ao p.regions.length cap, .int .i64 p.total] 29)
  have hs1 : (w.alloc (.cells #[.slice ao p.regions.length cap, .int .i64 p.total] 29)).heap.size = w.heap.size + 1 := by simp
  have hr1 := hr.below region_steady hb1
  generalize hW1 : w.alloc (.cells #[.slice ao p.regions.length cap, .int .i64 p.total] 29) = W1 at *
  have hb2 := below_alloc W1 (.cells #[.slice none 0 0, .int .i64 0] 29)
  have hR := heap_alloc_new W1 (.cells #[.slice none 0 0, .int .i64 0] 29)
  have hP2 := block_alloc hP (.cells #[.slice none 0 0, .int .i64 0] 29)
  have hr2 := hr1.below region_steady hb2
  rw [hs1] at hR
  have hB2 := hb1.trans (hb2.mono (by omega))
  have hs2 : (W1.alloc (.cells #[.slice none 0 0, .int .i64 0] 29)).heap.size = w.heap.size + 2 := by rw [World.size_alloc]; omega
  generalize hW2 : W1.alloc (.cells #[.slice none 0 0, .int .i64 0] 29) = W2 at *
  have h' : Recs W2 2 (FlatR regionHd) (.slice ao p.regions.length cap) p.regions := hr2
  obtain ⟨n1, n2⟩ := h'.news (show ∀ a, (regionHd a).length = 2 from fun _ => rfl) (by decide)
  have H1 := Lib.hid n1
  have H2 := Lib.hid n2
  have HP := Lib.hid hP2
  have HR := Lib.hid hR
  have HB2 := Lib.hid hB2
  have y0 := cells_row _ _ hP2 0 _ rfl
  clear h' n1 n2 hr hr1 hr2 hb1 hb2 hP hP2 hR hB2
  go_enter Try.func11, Try.ntmps11
  go_wp2_with (at_builtin; refine stop_here ?_)
  refine go_on ?_
  clear hW1 hW2 hs1 y0
  refine wpList_app rfl _ _ 27 rfl W2.heap.size 70 i0 _ 2 16 Try.underlying27 hi hz0 hz1 hz2 rfl (.slice none 0 0) 0 [] rfl (World.ownsRow_nil W2 W2.heap.size 70 2) ao p.regions.length cap (flatV regionHd p.regions) rfl hfl H1.out H2.out (flat_one (fun a u hu => by simp [regionHd] at hu; rcases hu with rfl | rfl <;> rfl) p.regions) (by unfold maxLen; omega) (grow_ok (by omega)) (Nat.le_refl _) ?_
  intro v5 w5 k1 k20 _ _
  have hb : Below W2.heap.size W2 w5 := below_mods ((Mods.refl _ W2).grown k20 (fun b hb _ => by simp [Value.ownBlock] at hb))
  have k3 : w5.ownsRow W2.heap.size 70 2 v5 p.regions.length (flatV regionHd p.regions) := by simpa using k1
  obtain ⟨s5, c5, rfl⟩ := owns_slice k3
  have HB := Lib.hid hb
  have HK := Lib.hid k3
  have hsz := hb.size
  clear k1 k20 hb k3
  go_wp2_with (at_builtin; refine stop_here ?_)
  refine go_on ?_
  refine wpList_app rfl _ _ 27 rfl W2.heap.size 70 i0 _ 2 16 Try.underlying27 hi hz0 hz1 hz2 rfl (.slice s5 p.regions.length c5) p.regions.length _ rfl (HK.out.alloc (.cells #[.int .i64 (-7770777), .int .i64 0] 70)) (some ⟨w5.heap.size, 0, none⟩) 1 1 [.int .i64 (-7770777), .int .i64 0] rfl rfl (fun h => by cases h) (news_alloc w5 [.int .i64 (-7770777), .int .i64 0] 70) (by simp [Value.oneCell']) (by unfold maxLen; omega) (grow_ok (by omega)) (size_le_alloc hsz _) ?_
  intro v6 w6 k1 k20 _ _
  have k2 : (w5.alloc (.cells #[.int .i64 (-7770777), .int .i64 0] 70)).grownBy w6 (Value.slice s5 p.regions.length c5).ownBlock := ⟨k20.os, k20.tape, k20.output, k20.size, k20.block⟩
  have hb6 := HB.out.trans (below_app HK.out k2 hsz)
  have k3 : w6.ownsRow W2.heap.size 70 2 v6 (p.regions ++ [regionMark]).length (flatV regionHd (p.regions ++ [regionMark])) := by
    rw [flatV_app, List.length_append]; exact k1
  obtain ⟨s6, c6, rfl⟩ := owns_slice k3
  have hr6 := hb6.block _ (block_lt HR.out)
  have hp6 := hb6.block _ (block_lt HP.out)
  rw [HR.out] at hr6
  rw [HP.out] at hp6
  have HOW := Lib.hid k3
  have HR6 := Lib.hid hr6
  have HB6 := Lib.hid hb6
  have HRx : Recs w6 2 (FlatR regionHd) (.slice s6 (p.regions ++ [regionMark]).length c6) (p.regions ++ [regionMark]) := Own.flat (o := fun _ => 0) (c := 0) (show ∀ a, (regionHd a).length = 2 from fun _ => rfl) ⟨owns_base k3 (fun _ _ => Nat.zero_le _), fun _ _ => rfl⟩
  obtain ⟨bb, oo, rfl, hcap, hbb, _⟩ := HRx.at (by simp)
  have hne : bb ≠ w.heap.size + 1 := fun e => by have := (k3.lt bb rfl).1; omega
  have HF := Lib.hid HRx.front
  have hln : (p.regions ++ [regionMark]).length = p.regions.length + 1 := by simp
  rw [hln] at hcap
  clear HRx hln
  have hci : (p.regions.length : Int) + 1 ≤ c6 := by omega
  have hcn : p.regions.length ≤ c6 := by omega
  have y0 := cells_row _ _ hp6 0 _ rfl
  have y1 := cells_row _ _ hp6 1 _ rfl
  have z0 := cells_row _ _ hr6 0 _ rfl
  have z1 := cells_row _ _ hr6 1 _ rfl
  have f0 := frozen_of_block hr6 0
  have f1 := frozen_of_block hr6 1
  clear k1 k20 k2 k3 hb6 HK HB hp6 hr6 HR HP
  go_wp2_with fail
  refine wp_region_lex (fun w' => w'.cell? ⟨w.heap.size, 0, none⟩ = some (.slice ao p.regions.length cap) ∧ w'.cell? ⟨w.heap.size, 1, none⟩ = some (.int .i64 p.total)) [0, 1, 2, 3, 4, 5, 6, 7] [8] (by kernel_rfl) (by kernel_rfl) rfl (fun _ _ hx h => ⟨hx.cell h.1, hx.cell h.2⟩) ⟨y0, y1⟩ ?_
  intro Q' hQ'
  simp only [pickOps, List.flatMap_cons, List.flatMap_nil, List.drop_succ_cons, List.drop_zero, List.take_succ_cons, List.take_zero, List.cons_append, List.nil_append, List.append_nil]
  repeat (first
    | (refine wpReads_skip (by rfl) ?_; (try simp only [Act.put, List.setIfInBounds_toArray, List.set_cons_zero, List.set_cons_succ]))
    | (refine wpReads_cons ?_ (by rfl) (by rfl) ?_ ?_; rotate_left; (intro wz hz; (try dsimp only at hz); go_simp; try with_reducible rfl); (try simp only [Act.put, List.setIfInBounds_toArray, List.set_cons_zero, List.set_cons_succ]))
    | (refine wpReads_any ?_ (by rfl) ?_ ?_; rotate_left; (intro wz; go_simp; try with_reducible rfl); (try simp only [Act.put, List.setIfInBounds_toArray, List.set_cons_zero, List.set_cons_succ])))
  refine wpReads_nil ?_
  go_wp2
  refine bodyPost_ret_by (results_cell_row rfl _ _ _ _ _ _ _ rfl (block_setCell (block_setCell (w := w6.drew) HR6.out 0 (.slice (some ⟨bb, oo, none⟩) p.regions.length c6)) 1 (.int .i64 p.total)) Try.underlying29 rfl (by kernel_rfl)) rfl ?_
  have m : Mods (fun k => k = w.heap.size + 1) w6 ((w6.drew.setCell ⟨w.heap.size + 1, 0, none⟩ (.slice (some ⟨bb, oo, none⟩) p.regions.length c6)).setCell ⟨w.heap.size + 1, 1, none⟩ (.int .i64 p.total)) := (((Mods.refl (fun k => k = w.heap.size + 1) w6).drew.setCell (p := ⟨w.heap.size + 1, 0, none⟩) (fun _ => rfl) _).setCell (p := ⟨w.heap.size + 1, 1, none⟩) (fun _ => rfl) _)
  refine ⟨_, rfl, ⟨_, rfl, recs_mods HF.out m (fun b off e => ?_)⟩, HB2.out.trans ((HB6.out.mono (by omega)).trans (m.below (by have := HB6.out.size; omega) (fun k hk e => by omega)))⟩
  cases e
  exact hne
end Go.Proofs.Ytbmbfifempkhgaa

/- LentLoops. -/
namespace Go.Proofs.Ytbmbfifempkhgaa
open Go.RowKit

theorem info_Loop : (Try.prog.info? 51).map (fun i => (i.zero, i.size, i.bytes)) = some (some (.agg #[.int .i64 0, .int .i64 0, .slice none 0 0]), 3, 40) := by kernel_rfl
abbrev LItem := Int × Int × Nest
def loopHd (x : LItem) : List Value := [.int .i64 x.1, .int .i64 x.2.1]
/-- a body that stays while no block of colour 5 turns -/
def Held (D : Nat) (w : World) (q : Col) (y : Value) (b : Nest) : Prop := ∀ q'' w'', Turn q q'' (fun x => x ≠ 5) w w'' → HasNestD D w'' y b
theorem Held.turn {D : Nat} {w w' : World} {q q' : Col} {C : Nat → Prop} {y : Value} {b : Nest} (h : Held D w q y b) (T : Turn q q' C w w') (hc : ¬ C 5) : Held D w' q' y b := fun q'' w'' T2 => h q'' w'' ((T.mono (D := fun x => x ≠ 5) (fun x hx e => hc (by subst e; exact hx))).trans T2 (fun _ h => h))
theorem held_nil {D : Nat} {w : World} {q : Col} {ao : Option Addr} {cap : Nat} : Held D w q (.slice ao 0 cap) .nil := fun _ _ _ => by
  cases D with
  | zero => exact ⟨rfl, _, _, rfl⟩
  | succ D => exact .inl ⟨rfl, _, _, rfl⟩
structure TailN (D : Nat) (w : World) (q : Col) (v : Value) (ps : List (LItem × Value)) : Prop where
  own : Own w q 4 51 3 v ps.length (tailV loopHd ps)
  held : ∀ x ∈ ps, Held D w q x.2 x.1.2.2
theorem TailN.turn {D : Nat} {w w' : World} {q q' : Col} {C : Nat → Prop} {v : Value} {ps : List (LItem × Value)} (h : TailN D w q v ps) (T : Turn q q' C w w') (h4 : ¬ C 4) (h5 : ¬ C 5) : TailN D w' q' v ps := ⟨h.own.turn T h4, fun x hx => (h.held x hx).turn T h5⟩
theorem TailN.recs {D : Nat} {w : World} {q : Col} {v : Value} {ps : List (LItem × Value)} (h : TailN D w q v ps) : Recs w 3 (fun w x cs => ∃ y, cs = [.int .i64 x.1, .int .i64 x.2.1, y] ∧ HasNestD D w y x.2.2) v (ps.map Prod.fst) := by
  rcases h.own.1.2 with ⟨rfl, h0⟩ | ⟨G, cap, cur, rfl, _, hg, hnc, _⟩
  · rw [List.eq_nil_of_length_eq_zero h0]
    exact .inl ⟨rfl, none, 0, rfl⟩
  · by_cases hp : 0 < ps.length
    · refine .inr ⟨by simpa using hp, G, 0, cap, by simp, by simpa using hnc, block_lt hg, fun k hk => ?_⟩
      have hk' : k < ps.length := by simpa using hk
      refine ⟨loopHd (ps[k]).1 ++ [(ps[k]).2], rfl, ⟨(ps[k]).2, by simp [loopHd], ?_⟩, fun i hi => ?_⟩
      · have := h.held _ (List.getElem_mem hk') q w (Turn.refl _ _ _)
        simpa using this
      · have hg2 := tailV_get (show ∀ a, (loopHd a).length + 1 = 3 from fun _ => rfl) ps k i hk' hi
        have hlen : i < (loopHd (ps[k]).1 ++ [(ps[k]).2]).length := hi
        rw [List.getElem?_eq_getElem hlen] at hg2 ⊢
        have := h.own.1.cells (g := G) rfl _ _ hg2
        rw [Addr.add_lit] at this
        rw [Nat.add_assoc]
        exact this
    · rw [List.eq_nil_of_length_eq_zero (by omega : ps.length = 0)]
      exact .inl ⟨rfl, some ⟨G, 0, none⟩, cap, rfl⟩
theorem TailN.grow {D : Nat} {w w2 : World} {q : Col} {v v' : Value} {ps : List (LItem × Value)} {a : LItem} {y : Value} (h : TailN D w q v ps) (hy : Held D w q y a.2.2) (k1 : w2.ownsRow 0 51 3 v' (ps.length + 1) (tailV loopHd ps ++ (loopHd a ++ [y])))
    (k2 : Mods (fun b => v.ownBlock = some b) w w2) (k4 : v'.ownBlock = v.ownBlock ∨ ∀ b, v'.ownBlock = some b → w.heap.size ≤ b) : Turn q (ext q w.heap.size 4) (fun x => x = 4) w w2 ∧ TailN D w2 (ext q w.heap.size 4) v' (ps ++ [(a, y)]) := by
  have T : Turn q (ext q w.heap.size 4) (fun x => x = 4) w w2 := Turn.of_mods q 4 k2 (fun b _ hb => h.own.2 b hb)
  refine ⟨T, ⟨?_, fun b hb => ?_⟩, fun x hx => ?_⟩
  · rw [List.length_append, tailV_snoc]; exact k1
  · rcases k4 with k4 | k4
    · rw [k4] at hb
      exact (ext_old (h.own.1.lt b hb).2).trans (h.own.2 b hb)
    · exact ext_new (k4 b hb)
  · rcases List.mem_append.1 hx with hx | hx
    · exact (h.held x hx).turn T (by decide)
    · obtain rfl : x = (a, y) := by simpa using hx
      exact hy.turn T (by decide)

def LentNRet (D : Nat) (w : World) (l : Nest) (e : Ending) (w' : World) : Prop := ∃ v, e = .returned v ∧ (∀ w'', Mods (fun k => k < w.heap.size) w' w'' → HasNestD D w'' v l) ∧ Below w.heap.size w w'
def LentNOk (D : Nat) : Prop := ∀ (w : World) (v : Value) (l : Nest), HasNestD D w v l → nodesN l ≤ 65536 → Calls Try.prog 12 #[v] w (LentNRet D w l)


set_option maxRecDepth 100000 in
set_option maxHeartbeats 2000000 in
theorem lentN_succ {D : Nat} (hrec0 : ∀ (w : World) (v : Value) (l : Nest), l.isNil = false → HasNestD D w v l → nodesN l ≤ 65536 → Calls Try.prog 12 #[v] w (LentNRet D w l)) : LentNOk (D + 1) := by
  intro w v l hv hs
  have hv' : Recs w 3 (fun w x cs => ∃ y, cs = [.int .i64 x.1, .int .i64 x.2.1, y] ∧ HasNestD D w y x.2.2) v l.items := hv
  obtain ⟨ao, cap, rfl⟩ := hv'.slice
  have HV := Lib.hid hv'
  have HS := Lib.hid hs
  have hll : l.items.length ≤ 65536 := by have := nodesN_items l; omega
  have HREC := Lib.hid hrec0
  have HK := Lib.hid (Kept.start w)
  have HT : Hid (TailN D w (fun _ => 0) (.slice none 0 0) []) := Lib.hid ⟨Own.nil _ _ _ _ _, fun _ h => by cases h⟩
  clear hv hv' hs hrec0
  go_enter Try.func12, Try.ntmps12
  go_wp2_with fail
  go_loopw [3, 4] (fun v i wl => ∃ (j : Nat) (q : Col) (ps : List (LItem × Value)), j ≤ l.items.length ∧ i = .int .i64 j ∧ Kept w.heap.size q w wl ∧ TailN D wl q v ps ∧ ps.map Prod.fst = l.items.take j) (fun _ i _ => l.items.length - (intOf i).toNat)
  case atStart => exact ⟨0, _, [], Nat.zero_le _, rfl, HK.out, HT.out, rfl⟩
  case round =>
    clear HK HT
    obtain ⟨j, q, ps, hj, rfl, hK, hT, hps⟩ := hrel
    have HK := Lib.hid hK
    have HT := Lib.hid hT
    have HPJ := Lib.hid hps
    obtain ⟨pa0, pc0, rfl⟩ := hT.own.slice
    have HPL : Hid (ps.length = j) := Lib.hid (by have := congrArg List.length hps; rw [List.length_map, List.length_take] at this; omega)
    clear hK hT hps
    by_cases hlt : j < l.items.length
    · have hlti : (j : Int) < l.items.length := by omega
      obtain ⟨b0, off, rfl, hcap, hb0, hrec⟩ := HV.out.at (by omega)
      obtain ⟨cs, hcs, hPR, hcl⟩ := hrec j hlt
      obtain ⟨y, rfl, hy⟩ := hPR
      have c0 := cell_later HK.out.below (hcl 0 (by omega))
      have c1 := cell_later HK.out.below (hcl 1 (by omega))
      have c2 := cell_later HK.out.below (hcl 2 (by omega))
      simp at c0 c1 c2
      have hcapi : (l.items.length : Int) ≤ cap := by omega
      have HTK : Hid (l.items.take (j + 1) = l.items.take j ++ [l.items[j]]) := Lib.hid (List.take_succ_eq_append_getElem hlt)
      have HY := Lib.hid hy
      have HSb : Hid (nodesN (l.items[j]).2.2 ≤ 65536) := Lib.hid (by have := nodesN_at _ (List.getElem_mem hlt); have := HS.out; omega)
      obtain ⟨ya, yc, hys⟩ := nestD_slice D hy
      subst hys
      obtain ⟨it, hit⟩ : ∃ x, l.items[j] = x := ⟨_, rfl⟩
      rw [hit] at HTK HSb HY c0 c1 c2
      clear hcl hcs hrec hy hit
      obtain ⟨t, nd, b⟩ := it
      dsimp only at HSb HY c0 c1 c2
      have hbX := below_alloc wr (.cells #[.int .i64 t, .int .i64 nd, .slice ya b.items.length yc] 51)
      have hX : Blk _ (ext q wr.heap.size 8) 8 _ _ _ := ⟨heap_alloc_new wr (.cells #[.int .i64 t, .int .i64 nd, .slice ya b.items.length yc] 51), ext_new (Nat.le_refl _)⟩
      have TX := Turn.of_below q 8 hbX
      have HK2 := Lib.hid (HK.out.turn TX (fun h => h))
      have HT2 := Lib.hid (HT.out.turn TX (fun h => h) (fun h => h))
      have HX2 := Lib.hid hX
      have x2 := hX.cell 2 _ rfl
      have hnil := isNil_len b
      clear hbX hX TX HK HT
      obtain ⟨m, hm⟩ : ∃ x, b.items.length = x := ⟨_, rfl⟩
      rw [hm] at HY HK2 HT2 HX2 x2 hnil c2
      have HM := Lib.hid hm
      by_cases hz : m = 0
      · have hbn : b = .nil := by
          cases b with
          | nil => rfl
          | cons _ _ _ _ => rw [hz] at hnil; cases hnil
        subst hbn
        clear hm
        subst hz
        have u0 := HX2.out.cell 0 _ rfl
        have u1 := HX2.out.cell 1 _ rfl
        go_wp2_with (at_builtin; refine stop_here ?_)
        refine go_on ?_
        obtain ⟨w6, hw6⟩ : ∃ x, wr.alloc (.cells #[.int .i64 t, .int .i64 nd, .slice ya 0 yc] 51) = x := ⟨_, rfl⟩
        have hs6 : w6.heap.size = wr.heap.size + 1 := by rw [← hw6]; simp
        rw [hw6] at HT2 HK2 ⊢
        clear hw6 u0 u1 x2 c0 c1 c2
        have HT6 := HT2
        have HK6 := HK2
        clear HT2 HK2 HX2
        obtain ⟨i0, hi, hz0, hz1, hz2⟩ := info_parts info_Loop
        refine wpList_app rfl _ _ 30 rfl 0 51 i0 _ 3 40 Try.underlying30 hi hz0 hz1 hz2 rfl (.slice pa0 ps.length pc0) ps.length _ rfl (HT6.out.own.1.alloc (.cells #[.int .i64 t, .int .i64 nd, .slice ya 0 yc] 51)) (some ⟨wr.heap.size + 1, 0, none⟩) 1 1 [.int .i64 t, .int .i64 nd, .slice ya 0 yc] rfl rfl (fun h => by cases h) (by rw [← hs6]; exact news_alloc w6 [.int .i64 t, .int .i64 nd, .slice ya 0 yc] 51) (by simp [Value.oneCell']) (by have := HPL.out; unfold maxLen; omega) (grow_ok (by have := HPL.out; omega)) (Nat.zero_le _) ?_
        intro v7 w7 k1 k20 _ k4
        have hm7 : Mods (fun b => (Value.slice pa0 ps.length pc0).ownBlock = some b) w6 w7 := ((Mods.refl _ w6).alloc _).grown k20 (fun b hb _ => hb)
        obtain ⟨T7, N7⟩ := HT6.out.grow (a := (t, nd, Nest.nil)) (y := .slice ya 0 yc) held_nil k1 hm7 (k4.imp id (fun k4 b hb => by rw [k4] at hb; have := Option.some.inj hb; simp at this; omega))
        obtain ⟨sp7, cp7, rfl⟩ := owns_slice k1
        have HK7 := Lib.hid (HK6.out.turn T7 (by decide))
        have HT7 := Lib.hid N7
        have HPJ7 : Hid ((ps ++ [((t, nd, Nest.nil), (.slice ya 0 yc : Value))]).map Prod.fst = l.items.take (j + 1)) := Lib.hid (by rw [HTK.out, ← HPJ.out]; simp)
        clear HPL T7 N7 k1 k20 k4 hm7 HK6 HT6 hs6
        go_wp2
        go_roundw
        case rel => exact ⟨j + 1, _, _, hlt, by go_num, HK7.out, HT7.out, HPJ7.out⟩
        case measure => simp [intOf]; omega
      · have hzi : (0 : Int) < m := by omega
        have hbn : b.isNil = false := by rw [hnil, decide_eq_false hz]
        have HBN := Lib.hid hbn
        clear hm hnil hbn
        go_wp2_with fail
        refine (HREC.out _ _ b HBN.out (nestD_below D HY.out HK2.out.below) HSb.out).mono ?_
        rintro e w5 ⟨v5, rfl, hv5, hb5⟩
        have T5 := Turn.of_below (ext q wr.heap.size 8) 5 hb5
        have HH5 : Hid (Held D w5 (ext (ext q wr.heap.size 8) _ 5) v5 b) := Lib.hid fun q'' w'' T => hv5 w'' (T.mods.mono fun k hk f => by
          refine Classical.byContradiction fun h2 => f (ext_new (Nat.le_of_not_lt h2)))
        obtain ⟨m5, k5, hvs⟩ := nestD_slice D (HH5.out _ w5 (Turn.refl _ _ _))
        subst hvs
        have HK5 := Lib.hid (HK2.out.turn T5 (fun h => h))
        have HT5 := Lib.hid (HT2.out.turn T5 (fun h => h) (fun h => h))
        have hX5 := HX2.out.turn T5 (fun h => h)
        have v4 := hX5.cell 2 _ rfl
        have f4 := hX5.frozen 2
        obtain ⟨b6, T6⟩ := hX5.set 2 (.slice m5 b.items.length k5)
        have HK6 := Lib.hid (HK5.out.turn T6 (by decide))
        have HT6 := Lib.hid (HT5.out.turn T6 (by decide) (by decide))
        have HH6 := Lib.hid (HH5.out.turn T6 (by decide))
        have u0 := b6.cell 0 _ rfl
        have u1 := b6.cell 1 _ rfl
        have u2 := b6.cell 2 _ rfl
        clear hv5 hb5 T5 T6 b6 hX5 HX2 x2 c0 c1 c2 HK2 HT2 HK5 HT5 HH5
        go_wp2_with (at_builtin; refine stop_here ?_)
        refine go_on ?_
        clear v4 f4 u0 u1 u2
        obtain ⟨w6, hw6⟩ : ∃ x, w5.setCell ⟨wr.heap.size, 2, none⟩ (.slice m5 b.items.length k5) = x := ⟨_, rfl⟩
        obtain ⟨q6, hq6⟩ : ∃ x : Col, x = ext (ext q wr.heap.size 8) (wr.alloc (.cells #[.int .i64 t, .int .i64 nd, .slice ya m yc] 51)).heap.size 5 := ⟨_, rfl⟩
        rw [hw6, ← hq6] at HK6 HT6 HH6
        have hs6 : w6.heap.size = w5.heap.size := by rw [← hw6, size_setCell']
        rw [hw6]
        clear hw6 hq6
        obtain ⟨i0, hi, hz0, hz1, hz2⟩ := info_parts info_Loop
        refine wpList_app rfl _ _ 30 rfl 0 51 i0 _ 3 40 Try.underlying30 hi hz0 hz1 hz2 rfl (.slice pa0 ps.length pc0) ps.length _ rfl (HT6.out.own.1.alloc (.cells #[.int .i64 t, .int .i64 nd, .slice m5 b.items.length k5] 51)) (some ⟨w5.heap.size, 0, none⟩) 1 1 [.int .i64 t, .int .i64 nd, .slice m5 b.items.length k5] rfl rfl (fun h => by cases h) (by rw [← hs6]; exact news_alloc w6 [.int .i64 t, .int .i64 nd, .slice m5 b.items.length k5] 51) (by simp [Value.oneCell']) (by have := HPL.out; unfold maxLen; omega) (grow_ok (by have := HPL.out; omega)) (Nat.zero_le _) ?_
        intro v7 w7 k1 k20 _ k4
        have hm7 : Mods (fun b => (Value.slice pa0 ps.length pc0).ownBlock = some b) w6 w7 := ((Mods.refl _ w6).alloc _).grown k20 (fun b hb _ => hb)
        obtain ⟨T7, N7⟩ := HT6.out.grow (a := (t, nd, b)) (y := .slice m5 b.items.length k5) HH6.out k1 hm7 (k4.imp id (fun k4 b hb => by rw [k4] at hb; have := Option.some.inj hb; simp at this; omega))
        obtain ⟨sp7, cp7, rfl⟩ := owns_slice k1
        have HK7 := Lib.hid (HK6.out.turn T7 (by decide))
        have HT7 := Lib.hid N7
        have HPJ7 : Hid ((ps ++ [((t, nd, b), (.slice m5 b.items.length k5 : Value))]).map Prod.fst = l.items.take (j + 1)) := Lib.hid (by rw [HTK.out, ← HPJ.out]; simp)
        clear HPL T7 N7 k1 k20 k4 hm7 HK6 HT6 hs6
        go_wp2
        go_roundw
        case rel => exact ⟨j + 1, _, _, hlt, by go_num, HK7.out, HT7.out, HPJ7.out⟩
        case measure => simp [intOf]; omega
    · obtain rfl : l.items.length = j := by omega
      clear hj hlt
      have hPJ := HPJ.out
      rw [List.take_of_length_le (Nat.le_refl _)] at hPJ
      have HPJ := Lib.hid hPJ
      clear hPJ
      obtain ⟨i0, hi, hz0, hz1, hz2⟩ := info_parts info_Loop
      go_wp2_with (at_builtin; refine stop_here ?_)
      refine go_on ?_
      refine wpList_app rfl _ _ 30 rfl 0 51 i0 _ 3 40 Try.underlying30 hi hz0 hz1 hz2 rfl (.slice pa0 ps.length pc0) ps.length _ rfl (HT.out.own.1.alloc (.cells #[.int .i64 (-7770777), .int .i64 0, .slice none 0 0] 51)) (some ⟨wr.heap.size, 0, none⟩) 1 1 [.int .i64 (-7770777), .int .i64 0, .slice none 0 0] rfl rfl (fun h => by cases h) (news_alloc wr [.int .i64 (-7770777), .int .i64 0, .slice none 0 0] 51) (by simp [Value.oneCell']) (by have := HPL.out; unfold maxLen; omega) (grow_ok (by have := HPL.out; omega)) (Nat.zero_le _) ?_
      intro v7 w7 k1 k20 _ k4
      have hm7 : Mods (fun b => (Value.slice pa0 ps.length pc0).ownBlock = some b) wr w7 := ((Mods.refl _ wr).alloc _).grown k20 (fun b hb _ => hb)
      obtain ⟨T7, N7⟩ := HT.out.grow (a := (-7770777, 0, .nil)) (y := .slice none 0 0) held_nil k1 hm7 (k4.imp id (fun k4 b hb => by rw [k4] at hb; have := Option.some.inj hb; simp at this; omega))
      obtain ⟨sp7, cp7, rfl⟩ := owns_slice k1
      obtain ⟨_, hcp7, bN, _, eb7, _⟩ := owns_cell k1 (by simp [loopHd])
      subst eb7
      have hcp7n : l.items.length ≤ cp7 := by have := HPL.out; omega
      have HK7 := Lib.hid (HK.out.turn T7 (by decide))
      have HT7 := Lib.hid N7
      clear T7 N7 k1 k20 k4 hm7 HK HT
      go_wp2
      go_ret
      refine ⟨_, rfl, fun w'' mm => ?_, HK7.out.below⟩
      have T : Turn _ _ (fun x => x = 0) w7 w'' := ⟨mm.mono (fun k hk f => HK7.out.old k f), fun _ _ => rfl⟩
      have h1 := (HT7.out.turn T (by decide) (by decide)).recs
      rw [List.map_append, HPJ.out] at h1
      exact h1.front
theorem lentN_zero : LentNOk 0 := by
  intro w v l hv hs
  have h1 : HasNestD 1 w v l := by
    obtain ⟨rfl, h⟩ := hv
    exact .inl ⟨rfl, h⟩
  refine (lentN_succ (D := 0) (fun w v l hl hv => by obtain ⟨rfl, _⟩ := hv; cases hl) w v l h1 hs).mono ?_
  rintro e w' ⟨v', rfl, h2, h3⟩
  refine ⟨v', rfl, fun w'' mm => ?_, h3⟩
  obtain ⟨rfl, _⟩ := hv
  rcases h2 w'' mm with ⟨_, h⟩ | ⟨hp, _⟩
  · exact ⟨rfl, h⟩
  · simp [Nest.items] at hp
theorem lentN_any : ∀ D, LentNOk D
  | 0 => lentN_zero
  | D + 1 => lentN_succ (fun w v l _ hv hs => lentN_any D w v l hv hs)
end Go.Proofs.Ytbmbfifempkhgaa

/- LentGraph. -/
namespace Go.Proofs.Ytbmbfifempkhgaa
open Go.RowKit

theorem info_Actor : (Try.prog.info? 57).map (fun i => (i.zero, i.size, i.bytes)) = some (some (.agg #[.string ByteArray.empty, .int .u8 0, .slice none 0 0]), 3, 48) := by kernel_rfl
theorem info_Edge : (Try.prog.info? 63).map (fun i => (i.zero, i.size, i.bytes)) = some (some (.agg #[.int .i64 0, .int .i64 0, .int .i64 0, .int .i64 0, .slice none 0 0]), 5, 56) := by kernel_rfl
def actorMark : GActor := ⟨markT, 99, []⟩
def edgeMark : GEdge := ⟨-7770777, 0, 0, 0, []⟩
/-- plain records that lie in a block of a colour -/
def RecC {α : Type} (hd : α → List Value) (w : World) (o : Col) (c sz : Nat) (v : Value) (l : List α) : Prop :=
  (l = [] ∧ ∃ ao cap, v = .slice ao 0 cap) ∨ (Recs w sz (FlatR hd) v l ∧ ∃ b off n cap, v = .slice (some ⟨b, off, none⟩) n cap ∧ b < w.heap.size ∧ o b = c)
theorem RecC.made {α : Type} {hd : α → List Value} {w : World} {o : Col} {c sz : Nat} {v : Value} {l : List α} (h : Recs w sz (FlatR hd) v l) (ho : ∀ b off n cap, v = .slice (some ⟨b, off, none⟩) n cap → o b = c) : RecC hd w o c sz v l := by
  rcases h with h | ⟨hp, b, off, cap', e, hl, hlt, h2⟩
  · exact .inl h
  · exact .inr ⟨.inr ⟨hp, b, off, cap', e, hl, hlt, h2⟩, b, off, _, _, e, hlt, ho b off _ _ e⟩
theorem RecC.turn {α : Type} {hd : α → List Value} {w w' : World} {o o' : Col} {c sz : Nat} {C : Nat → Prop} {v : Value} {l : List α} (h : RecC hd w o c sz v l) (T : Turn o o' C w w') (hc : ¬ C c) : RecC hd w' o' c sz v l := by
  rcases h with h | ⟨h, b, off, n, cap, rfl, hlt, hob⟩
  · exact .inl h
  · refine .inr ⟨recs_mods h T.mods (fun b' off' e => ?_), b, off, n, cap, rfl, Nat.lt_of_lt_of_le hlt T.size, (T.same _ hlt).trans hob⟩
    cases e
    rw [hob]; exact hc
theorem RecC.recs {α : Type} {hd : α → List Value} {w : World} {o : Col} {c sz : Nat} {v : Value} {l : List α} (h : RecC hd w o c sz v l) : Recs w sz (FlatR hd) v l := by
  rcases h with h | ⟨h, _⟩
  · exact .inl h
  · exact h

def LentGRet (w : World) (g : GGraph) (e : Ending) (w' : World) : Prop := ∃ v, e = .returned v ∧ HasGraph w' v g ∧ Below w.heap.size w w'
abbrev graphZ : Array Value := #[.string { data := #[] }, .slice none 0 0, .slice none 0 0, .slice none 0 0, .slice none 0 0]

abbrev setGraph (w : World) (R : Nat) (a b c d x : Value) : World := ((((w.setCell ⟨R, 0, none⟩ a).setCell ⟨R, 1, none⟩ b).setCell ⟨R, 2, none⟩ c).setCell ⟨R, 3, none⟩ d).setCell ⟨R, 4, none⟩ x
theorem graph_set {w : World} {R : Nat} {t : TypeId} (h : w.heap[R]? = some (.cells graphZ t (0, 0))) (a b c d x : Value) : (setGraph w R a b c d x).heap[R]? = some (.cells #[a, b, c, d, x] t (0, 0)) :=
  block_setCell (block_setCell (block_setCell (block_setCell (block_setCell h 0 a) 1 b) 2 c) 3 d) 4 x
theorem graph_mods (w : World) (R : Nat) (a b c d x : Value) : Mods (fun k => k = R) w (setGraph w R a b c d x) :=
  (((((Mods.refl (fun k => k = R) w).setCell (p := ⟨R, 0, none⟩) (fun _ => rfl) a).setCell (p := ⟨R, 1, none⟩) (fun _ => rfl) b).setCell (p := ⟨R, 2, none⟩) (fun _ => rfl) c).setCell (p := ⟨R, 3, none⟩) (fun _ => rfl) d).setCell (p := ⟨R, 4, none⟩) (fun _ => rfl) x

set_option maxRecDepth 100000 in
set_option maxHeartbeats 4000000 in
theorem lentgraph_any (w : World) (vg : Value) (g : GGraph) (hg : HasGraph w vg g) (hgr : headN g + pSum g.actors + eSum g.edges ≤ 1048576) (hps : ∀ a ∈ g.actors, a.params.length ≤ 17600000000000) (hes : ∀ e ∈ g.edges, e.start.length ≤ 17600000000000) : Calls Try.prog 10 #[vg] w (LentGRet w g) := by
  obtain ⟨va, ve, vi, vo, rfl, ra, re, ri, ro⟩ := hg.shape
  obtain ⟨aa, ac, rfl⟩ := ra.slice
  obtain ⟨ae, ec, rfl⟩ := re.slice
  obtain ⟨ai, ic, rfl⟩ := ri.slice
  obtain ⟨ao, oc, rfl⟩ := ro.slice
  have RA := Lib.hid ra
  have RE := Lib.hid re
  have RI := Lib.hid ri
  have RO := Lib.hid ro
  have HPS := Lib.hid hps
  have HES := Lib.hid hes
  have hsA : g.actors.length ≤ 1048576 := by unfold headN at hgr; omega
  have hsE : g.edges.length ≤ 1048576 := by unfold headN at hgr; omega
  have hsI : g.ins.length ≤ 1048576 := by unfold headN at hgr; omega
  have hsO : g.outs.length ≤ 1048576 := by unfold headN at hgr; omega
  clear ra re ri ro hg hps hes hgr
  have hb1 := below_alloc w (.cells #[.string g.name, .slice aa g.actors.length ac, .slice ae g.edges.length ec, .slice ai g.ins.length ic, .slice ao g.outs.length oc] 26)
  have T1 := Turn.of_below (fun _ => 0) 9 hb1
  have hG : Blk _ (ext (fun _ => 0) w.heap.size 9) 9 _ _ _ := ⟨heap_alloc_new w (.cells #[.string g.name, .slice aa g.actors.length ac, .slice ae g.edges.length ec, .slice ai g.ins.length ic, .slice ao g.outs.length oc] 26), ext_new (Nat.le_refl _)⟩
  have K1 := (Kept.start w).turn T1 (fun h => h)
  generalize hW1 : w.alloc (.cells #[.string g.name, .slice aa g.actors.length ac, .slice ae g.edges.length ec, .slice ai g.ins.length ic, .slice ao g.outs.length oc] 26) = W1 at *
  have hs1 : W1.heap.size = w.heap.size + 1 := by rw [← hW1]; simp
  have T2 := Turn.of_below (ext (fun _ => 0) w.heap.size 9) 9 (below_alloc W1 (.cells graphZ 26))
  have hR : Blk _ (ext (ext (fun _ => 0) w.heap.size 9) W1.heap.size 9) 9 _ _ _ := ⟨heap_alloc_new W1 (.cells graphZ 26), ext_new (Nat.le_refl _)⟩
  generalize ext (fun _ => 0) w.heap.size 9 = q0 at *
  have K2 := K1.turn T2 (fun h => h)
  have hG2 := hG.turn T2 (fun h => h)
  generalize hW2 : W1.alloc (.cells graphZ 26) = W2 at *
  have hs2 : W2.heap.size = w.heap.size + 2 := by rw [← hW2, World.size_alloc, hs1]
  generalize ext q0 W1.heap.size 9 = q1 at *
  rw [hs1] at hR
  have T3 := Turn.of_below q1 3 (below_alloc W2 (.cells #[.string g.name, .slice none 0 0, .slice none 0 0, .slice none 0 0, .slice none 0 0] 26))
  have hO : Blk _ (ext q1 W2.heap.size 3) 3 _ _ _ := ⟨heap_alloc_new W2 (.cells #[.string g.name, .slice none 0 0, .slice none 0 0, .slice none 0 0, .slice none 0 0] 26), ext_new (Nat.le_refl _)⟩
  have HK := Lib.hid (K2.turn T3 (fun h => h))
  have HGB := Lib.hid (hG2.turn T3 (fun h => h))
  have HR := Lib.hid (hR.turn T3 (fun h => h))
  have z0 := hG2.cell 0 _ rfl
  rw [hs2] at hO HK HGB HR
  have HO := Lib.hid hO
  generalize ext q1 (w.heap.size + 2) 3 = q at *
  clear hb1 T1 hG K1 T2 hR K2 hG2 T3 hO
  go_enter Try.func10, Try.ntmps10
  go_wp2_with fail
  clear hW1 hs1 hW2 hs2 z0
  obtain ⟨n, hn⟩ : ∃ x, g.actors.length = x := ⟨_, rfl⟩
  have HNA := Lib.hid hn
  rw [hn] at hsA HGB ⊢
  clear hn
  go_loopw [4] (fun i wl => ∃ (j : Nat) (q : Col) (v : Value) (ps : List (GActor × Value)), j ≤ n ∧ i = .int .i64 j ∧ Kept w.heap.size q w wl ∧ Blk wl q 9 w.heap.size 26 #[.string g.name, .slice aa n ac, .slice ae g.edges.length ec, .slice ai g.ins.length ic, .slice ao g.outs.length oc] ∧ Blk wl q 9 (w.heap.size + 1) 26 graphZ ∧ Blk wl q 3 (w.heap.size + 2) 26 #[.string g.name, v, .slice none 0 0, .slice none 0 0, .slice none 0 0] ∧ TailAt actorHd GActor.params wl q 4 5 57 3 v ps ∧ ps.map Prod.fst = g.actors.take j) (fun i _ => n - (intOf i).toNat)
  case atStart => exact ⟨0, _, _, [], Nat.zero_le _, rfl, HK.out, HGB.out, HR.out, HO.out, TailAt.nil, rfl⟩
  case round =>
    clear HK HGB HR HO
    obtain ⟨j, q, v, ps, hj, rfl, hK, hG, hR, hO, hT, hps⟩ := hrel
    have HK := Lib.hid hK
    have HGB := Lib.hid hG
    have HR := Lib.hid hR
    have HO := Lib.hid hO
    have HT := Lib.hid hT
    have HPJ := Lib.hid hps
    clear hK hG hR hO hT hps
    by_cases hlt : j < n
    · have hlti : (j : Int) < n := by omega
      have hlt2 : j < g.actors.length := by have := HNA.out; omega
      obtain ⟨b0, off, rfl, hcap, hb0, hrec⟩ := RA.out.at (by omega)
      obtain ⟨cs, hcs, hPR, hcl⟩ := hrec j hlt2
      obtain ⟨xs, rfl, hst⟩ := hPR
      have c0 := cell_later HK.out.below (hcl 0 (by omega))
      have c1 := cell_later HK.out.below (hcl 1 (by omega))
      have c2 := cell_later HK.out.below (hcl 2 (by omega))
      simp at c0 c1 c2
      have hcapi : (n : Int) ≤ ac := by have := HNA.out; omega
      have hst2 : Has w xs (ivs g.actors[j].params) := hst
      obtain ⟨sa, sc, hxs⟩ := Ints.slice hst2
      subst hxs
      have HST := Lib.hid hst2
      have hpl := HPS.out _ (List.getElem_mem hlt2)
      have HTK : Hid (g.actors.take (j + 1) = g.actors.take j ++ [g.actors[j]]) := Lib.hid (List.take_succ_eq_append_getElem hlt2)
      clear hcl hcs hrec hst hst2
      generalize g.actors[j] = a at *
      have y := HGB.out.cell 1 _ rfl
      have hbX := below_alloc wr (.cells #[.string a.name, .int .u8 a.tag, .slice sa a.params.length sc] 57)
      have TX := Turn.of_below q 8 hbX
      have HX : Hid (Blk _ (ext q wr.heap.size 8) 8 _ _ _) := Lib.hid ⟨heap_alloc_new wr (.cells #[.string a.name, .int .u8 a.tag, .slice sa a.params.length sc] 57), ext_new (Nat.le_refl _)⟩
      have HK2 := Lib.hid (HK.out.turn TX (fun h => h))
      have HG2 := Lib.hid (HGB.out.turn TX (fun h => h))
      have HR2 := Lib.hid (HR.out.turn TX (fun h => h))
      have HO2 := Lib.hid (HO.out.turn TX (fun h => h))
      have HT2 := Lib.hid (HT.out.turn TX (fun h => h) (fun h => h))
      have x4 := HX.out.cell 2 _ rfl
      clear hbX TX HK HGB HR HO HT
      go_wp2_with fail
      refine (lent_has (HST.out.below HK2.out.below) hpl).mono ?_
      rintro e w5 ⟨gy, cy, rfl, hy, hgy, hb5⟩
      have T5 := Turn.of_below (ext q wr.heap.size 8) 5 hb5
      have HY5 := Lib.hid (Vals.recol hy (ext_new (o := ext q wr.heap.size 8) (c := 5) hgy))
      have HK5 := Lib.hid (HK2.out.turn T5 (fun h => h))
      have HG5 := Lib.hid (HG2.out.turn T5 (fun h => h))
      have HR5 := Lib.hid (HR2.out.turn T5 (fun h => h))
      have HO5 := Lib.hid (HO2.out.turn T5 (fun h => h))
      have HT5 := Lib.hid (HT2.out.turn T5 (fun h => h) (fun h => h))
      have hX5 := HX.out.turn T5 (fun h => h)
      have v4 := hX5.cell 2 _ rfl
      have f4 := hX5.frozen 2
      obtain ⟨b6, T6⟩ := hX5.set 2 (.slice (some ⟨gy, 0, none⟩) a.params.length cy)
      have HX6 := Lib.hid b6
      have HK6 := Lib.hid (HK5.out.turn T6 (by decide))
      have HG6 := Lib.hid (HG5.out.turn T6 (by decide))
      have HR6 := Lib.hid (HR5.out.turn T6 (by decide))
      have HO6 := Lib.hid (HO5.out.turn T6 (by decide))
      have HT6 := Lib.hid (HT5.out.turn T6 (by decide) (by decide))
      have HY6 := Lib.hid (HY5.out.turn T6 (by decide))
      clear hy hgy hb5 T5 T6 b6 hX5 HX x4 y c0 c1 c2 HK2 HG2 HR2 HO2 HT2 HK5 HG5 HR5 HO5 HT5 HY5
      obtain ⟨pa0, pc0, rfl⟩ := HT6.out.own.slice
      have o1 := HO6.out.cell 1 _ rfl
      have u0 := HX6.out.cell 0 _ rfl
      have u1 := HX6.out.cell 1 _ rfl
      have u2 := HX6.out.cell 2 _ rfl
      have HPL : Hid (ps.length = j) := Lib.hid (by have := congrArg List.length HPJ.out; rw [List.length_map, List.length_take] at this; omega)
      go_wp2_with (at_builtin; refine stop_here ?_)
      refine go_on ?_
      clear v4 f4 o1 u0 u1 u2
      obtain ⟨i0, hi, hz0, hz1, hz2⟩ := info_parts info_Actor
      obtain ⟨w6, hw6⟩ : ∃ x, w5.setCell ⟨wr.heap.size, 2, none⟩ (.slice (some ⟨gy, 0, none⟩) a.params.length cy) = x := ⟨_, rfl⟩
      obtain ⟨q6, hq6⟩ : ∃ x : Col, x = ext (ext q wr.heap.size 8) (wr.alloc (.cells #[.string a.name, .int .u8 a.tag, .slice sa a.params.length sc] 57)).heap.size 5 := ⟨_, rfl⟩
      rw [hw6, ← hq6] at HX6 HK6 HG6 HR6 HO6 HT6 HY6
      have hs6 : w5.heap.size = w6.heap.size := by rw [← hw6, size_setCell']
      rw [hw6, hs6]
      clear hw6 hq6 hs6
      refine wpList_app rfl _ _ 22 rfl 0 57 i0 _ 3 48 Try.underlying22 hi hz0 hz1 hz2 rfl (.slice pa0 ps.length pc0) ps.length _ rfl (HT6.out.own.1.alloc (.cells #[.string a.name, .int .u8 a.tag, .slice (some ⟨gy, 0, none⟩) a.params.length cy] 57)) (some ⟨w6.heap.size, 0, none⟩) 1 1 [.string a.name, .int .u8 a.tag, .slice (some ⟨gy, 0, none⟩) a.params.length cy] rfl rfl (fun h => by cases h) (news_alloc w6 [.string a.name, .int .u8 a.tag, .slice (some ⟨gy, 0, none⟩) a.params.length cy] 57) (by simp [Value.oneCell']) (by have := HPL.out; unfold maxLen; omega) (grow_ok (by have := HPL.out; omega)) (Nat.zero_le _) ?_
      intro v7 w7 k1 k20 _ k4
      have hm : Mods (fun b => (Value.slice pa0 ps.length pc0).ownBlock = some b) w6 w7 := ((Mods.refl _ w6).alloc _).grown k20 (fun b hb _ => hb)
      obtain ⟨z4, zf, T7, N7, B7⟩ := HT6.out.grow (a := a) (y := .slice (some ⟨gy, 0, none⟩) a.params.length cy) (v' := v7) (w2 := w7) HO6.out (i := 1) (by decide) (by decide) (by decide) (by show 1 < 5; decide) HY6.out k1 hm (k4.imp id (fun k4 b hb => by rw [k4] at hb; have := Option.some.inj hb; simp at this; omega))
      obtain ⟨sp7, cp7, rfl⟩ := owns_slice k1
      have HK7 := Lib.hid (HK6.out.turn T7 (by decide))
      have HG7 := Lib.hid (HG6.out.turn T7 (by decide))
      have HR7 := Lib.hid (HR6.out.turn T7 (by decide))
      have HO7 := Lib.hid B7
      have HT7 := Lib.hid N7
      have HPJ7 : Hid ((ps ++ [(a, (.slice (some ⟨gy, 0, none⟩) a.params.length cy : Value))]).map Prod.fst = g.actors.take (j + 1)) := Lib.hid (by rw [HTK.out, ← HPJ.out]; simp)
      clear HPL T7 N7 B7 k1 k20 k4 hm HK6 HG6 HR6 HO6 HT6 HY6 HX6
      go_wp2
      go_roundw
      case rel => exact ⟨j + 1, _, _, _, hlt, by go_num, HK7.out, HG7.out, HR7.out, HO7.out, HT7.out, HPJ7.out⟩
      case measure => simp [intOf]; omega
    · obtain rfl : n = j := by omega
      clear hj hlt
      have hPJ := HPJ.out
      rw [List.take_of_length_le (by have := HNA.out; omega)] at hPJ
      have HPJ := Lib.hid hPJ
      have HPL : Hid (ps.length = n) := Lib.hid (by have := congrArg List.length hPJ; rw [List.length_map] at this; have := HNA.out; omega)
      clear hPJ
      obtain ⟨pa0, pc0, rfl⟩ := HT.out.own.slice
      have o1 := HO.out.cell 1 _ rfl
      have y := HGB.out.cell 1 _ rfl
      obtain ⟨i0, hi, hz0, hz1, hz2⟩ := info_parts info_Actor
      go_wp2_with (at_builtin; refine stop_here ?_)
      refine go_on ?_
      clear o1
      refine wpList_app rfl _ _ 22 rfl 0 57 i0 _ 3 48 Try.underlying22 hi hz0 hz1 hz2 rfl (.slice pa0 ps.length pc0) ps.length _ rfl (HT.out.own.1.alloc (.cells #[.string markT, .int .u8 99, .slice none 0 0] 57)) (some ⟨wr.heap.size, 0, none⟩) 1 1 [.string markT, .int .u8 99, .slice none 0 0] rfl rfl (fun h => by cases h) (news_alloc wr [.string markT, .int .u8 99, .slice none 0 0] 57) (by simp [Value.oneCell']) (by have := HPL.out; unfold maxLen; omega) (grow_ok (by have := HPL.out; omega)) (Nat.zero_le _) ?_
      intro v7 w7 k1 k20 _ k4
      have hm : Mods (fun b => (Value.slice pa0 ps.length pc0).ownBlock = some b) wr w7 := ((Mods.refl _ wr).alloc _).grown k20 (fun b hb _ => hb)
      obtain ⟨z4, zf, T7, N7, B7⟩ := HT.out.grow (a := actorMark) (y := .slice none 0 0) (v' := v7) (w2 := w7) HO.out (i := 1) (by decide) (by decide) (by decide) (by show 1 < 5; decide) (.inl ⟨rfl, _, _, rfl⟩) k1 hm (k4.imp id (fun k4 b hb => by rw [k4] at hb; have := Option.some.inj hb; simp at this; omega))
      obtain ⟨sp7, cp7, rfl⟩ := owns_slice k1
      have HK7 := Lib.hid (HK.out.turn T7 (by decide))
      have hG7 := HGB.out.turn T7 (by decide)
      have HG7 := Lib.hid hG7
      have HR7 := Lib.hid (HR.out.turn T7 (by decide))
      obtain ⟨_, hcp7, ba, _, eb7, _⟩ := owns_cell k1 (by simp [actorHd])
      subst eb7
      have hcp7n : n ≤ cp7 := by have := HPL.out; omega
      have y7 := hG7.cell 1 _ rfl
      have o7 := B7.cell 1 _ rfl
      have g7 := B7.frozen 1
      obtain ⟨B8, T8⟩ := B7.set 1 (.slice (some ⟨ba, 0, none⟩) n cp7)
      have HK8 := Lib.hid (HK7.out.turn T8 (by decide))
      have HG8 := Lib.hid (HG7.out.turn T8 (by decide))
      have HR8 := Lib.hid (HR7.out.turn T8 (by decide))
      have HO8 := Lib.hid B8
      have HT8 := Lib.hid (N7.turn T8 (by decide) (by decide))
      clear T7 N7 B7 B8 T8 k1 k20 k4 hm hG7 HK HGB HR HO HT HK7 HG7 HR7 y
      go_wp2_with fail
      rw [HPL.out] at HT8
      rw [HPL.out] at HK8 HG8 HR8 HO8 ⊢
      obtain ⟨w8, hw8⟩ : ∃ x, (w7.setCell ⟨w.heap.size + 2, 1, none⟩ (.slice (some ⟨ba, 0, none⟩) (n + 1) cp7)).setCell ⟨w.heap.size + 2, 1, none⟩ (.slice (some ⟨ba, 0, none⟩) n cp7) = x := ⟨_, rfl⟩
      obtain ⟨q8, hq8⟩ : ∃ x : Col, x = ext q wr.heap.size 4 := ⟨_, rfl⟩
      obtain ⟨pa, hpa⟩ : ∃ x, ps ++ [(actorMark, Value.slice none 0 0)] = x := ⟨_, rfl⟩
      have HPA : Hid (pa.map Prod.fst = g.actors ++ [actorMark]) := Lib.hid (by rw [← hpa, ← HPJ.out]; simp)
      rw [hw8, ← hq8] at HK8 HG8 HR8 HO8 HT8
      rw [hpa] at HT8
      rw [hw8]
      have HTA := HT8
      have HK := HK8
      have HGB := HG8
      have HR := HR8
      have HO : Hid (Blk w8 q8 3 (w.heap.size + 2) 26 #[.string g.name, .slice (some ⟨ba, 0, none⟩) n cp7, .slice none 0 0, .slice none 0 0, .slice none 0 0]) := HO8
      clear hw8 hq8 hpa HT8 HK8 HG8 HR8 HO8 HPJ HPL o7 g7 y7 z4 zf
      obtain ⟨ca, hca⟩ : ∃ x, x = cp7 := ⟨_, rfl⟩
      rw [← hca] at HTA HO hcp7n
      have HCA := Lib.hid hca
      clear hca
      obtain ⟨m, hm⟩ : ∃ x, g.edges.length = x := ⟨_, rfl⟩
      have HNE := Lib.hid hm
      rw [hm] at hsE HGB ⊢
      clear hm
      go_loopw [6] (fun i wl => ∃ (j : Nat) (q : Col) (v : Value) (ps : List (GEdge × Value)), j ≤ m ∧ i = .int .i64 j ∧ Kept w.heap.size q w wl ∧ Blk wl q 9 w.heap.size 26 #[.string g.name, .slice aa n ac, .slice ae m ec, .slice ai g.ins.length ic, .slice ao g.outs.length oc] ∧ Blk wl q 9 (w.heap.size + 1) 26 graphZ ∧ Blk wl q 3 (w.heap.size + 2) 26 #[.string g.name, .slice (some ⟨ba, 0, none⟩) n ca, v, .slice none 0 0, .slice none 0 0] ∧ TailAt edgeHd GEdge.start wl q 6 7 63 5 v ps ∧ ps.map Prod.fst = g.edges.take j ∧ TailAt actorHd GActor.params wl q 4 5 57 3 (.slice (some ⟨ba, 0, none⟩) (n + 1) ca) pa) (fun i _ => m - (intOf i).toNat)
      case atStart => exact ⟨0, _, _, [], Nat.zero_le _, rfl, HK.out, HGB.out, HR.out, HO.out, TailAt.nil, rfl, HTA.out⟩
      case round =>
        clear HK HGB HR HO HTA
        obtain ⟨j, q, v, ps, hj, rfl, hK, hG, hR, hO, hT, hps, hTA⟩ := hrel
        have HK := Lib.hid hK
        have HGB := Lib.hid hG
        have HR := Lib.hid hR
        have HO := Lib.hid hO
        have HT := Lib.hid hT
        have HPJ := Lib.hid hps
        have HTA := Lib.hid hTA
        clear hK hG hR hO hT hps hTA
        by_cases hlt : j < m
        · have hlti : (j : Int) < m := by omega
          have hlt2 : j < g.edges.length := by have := HNE.out; omega
          obtain ⟨b0, off, rfl, hcap, hb0, hrec⟩ := RE.out.at (by omega)
          obtain ⟨cs, hcs, hPR, hcl⟩ := hrec j hlt2
          obtain ⟨xs, rfl, hst⟩ := hPR
          have c0 := cell_later HK.out.below (hcl 0 (by omega))
          have c1 := cell_later HK.out.below (hcl 1 (by omega))
          have c2 := cell_later HK.out.below (hcl 2 (by omega))
          have c3 := cell_later HK.out.below (hcl 3 (by omega))
          have c4 := cell_later HK.out.below (hcl 4 (by omega))
          simp at c0 c1 c2 c3 c4
          have hcapi : (m : Int) ≤ ec := by have := HNE.out; omega
          have hst2 : Has w xs (ivs g.edges[j].start) := hst
          obtain ⟨sa, sc, hxs⟩ := Ints.slice hst2
          subst hxs
          have HST := Lib.hid hst2
          have hpl := HES.out _ (List.getElem_mem hlt2)
          have HTK : Hid (g.edges.take (j + 1) = g.edges.take j ++ [g.edges[j]]) := Lib.hid (List.take_succ_eq_append_getElem hlt2)
          clear hcl hcs hrec hst hst2
          generalize g.edges[j] = a at *
          have y := HGB.out.cell 2 _ rfl
          have hbX := below_alloc wr (.cells #[.int .i64 a.src, .int .i64 a.sport, .int .i64 a.dst, .int .i64 a.dport, .slice sa a.start.length sc] 63)
          have TX := Turn.of_below q 8 hbX
          have HX : Hid (Blk _ (ext q wr.heap.size 8) 8 _ _ _) := Lib.hid ⟨heap_alloc_new wr (.cells #[.int .i64 a.src, .int .i64 a.sport, .int .i64 a.dst, .int .i64 a.dport, .slice sa a.start.length sc] 63), ext_new (Nat.le_refl _)⟩
          have HK2 := Lib.hid (HK.out.turn TX (fun h => h))
          have HG2 := Lib.hid (HGB.out.turn TX (fun h => h))
          have HR2 := Lib.hid (HR.out.turn TX (fun h => h))
          have HO2 := Lib.hid (HO.out.turn TX (fun h => h))
          have HT2 := Lib.hid (HT.out.turn TX (fun h => h) (fun h => h))
          have HTA2 := Lib.hid (HTA.out.turn TX (fun h => h) (fun h => h))
          have x4 := HX.out.cell 4 _ rfl
          clear hbX TX HK HGB HR HO HT HTA
          go_wp2_with fail
          refine (lent_has (HST.out.below HK2.out.below) hpl).mono ?_
          rintro e w5 ⟨gy, cy, rfl, hy, hgy, hb5⟩
          have T5 := Turn.of_below (ext q wr.heap.size 8) 7 hb5
          have HY5 := Lib.hid (Vals.recol hy (ext_new (o := ext q wr.heap.size 8) (c := 7) hgy))
          have HK5 := Lib.hid (HK2.out.turn T5 (fun h => h))
          have HG5 := Lib.hid (HG2.out.turn T5 (fun h => h))
          have HR5 := Lib.hid (HR2.out.turn T5 (fun h => h))
          have HO5 := Lib.hid (HO2.out.turn T5 (fun h => h))
          have HT5 := Lib.hid (HT2.out.turn T5 (fun h => h) (fun h => h))
          have HTA5 := Lib.hid (HTA2.out.turn T5 (fun h => h) (fun h => h))
          have hX5 := HX.out.turn T5 (fun h => h)
          have v4 := hX5.cell 4 _ rfl
          have f4 := hX5.frozen 4
          obtain ⟨b6, T6⟩ := hX5.set 4 (.slice (some ⟨gy, 0, none⟩) a.start.length cy)
          have HX6 := Lib.hid b6
          have HK6 := Lib.hid (HK5.out.turn T6 (by decide))
          have HG6 := Lib.hid (HG5.out.turn T6 (by decide))
          have HR6 := Lib.hid (HR5.out.turn T6 (by decide))
          have HO6 := Lib.hid (HO5.out.turn T6 (by decide))
          have HT6 := Lib.hid (HT5.out.turn T6 (by decide) (by decide))
          have HTA6 := Lib.hid (HTA5.out.turn T6 (by decide) (by decide))
          have HY6 := Lib.hid (HY5.out.turn T6 (by decide))
          clear hy hgy hb5 T5 T6 b6 hX5 HX x4 y c0 c1 c2 c3 c4 HK2 HG2 HR2 HO2 HT2 HK5 HG5 HR5 HO5 HT5 HY5 HTA2 HTA5
          obtain ⟨pa0, pc0, rfl⟩ := HT6.out.own.slice
          have o1 := HO6.out.cell 2 _ rfl
          have u0 := HX6.out.cell 0 _ rfl
          have u1 := HX6.out.cell 1 _ rfl
          have u2 := HX6.out.cell 2 _ rfl
          have u3 := HX6.out.cell 3 _ rfl
          have u4 := HX6.out.cell 4 _ rfl
          have HPL : Hid (ps.length = j) := Lib.hid (by have := congrArg List.length HPJ.out; rw [List.length_map, List.length_take] at this; omega)
          go_wp2_with (at_builtin; refine stop_here ?_)
          refine go_on ?_
          clear v4 f4 o1 u0 u1 u2 u3 u4
          obtain ⟨i0, hi, hz0, hz1, hz2⟩ := info_parts info_Edge
          obtain ⟨w6, hw6⟩ : ∃ x, w5.setCell ⟨wr.heap.size, 4, none⟩ (.slice (some ⟨gy, 0, none⟩) a.start.length cy) = x := ⟨_, rfl⟩
          obtain ⟨q6, hq6⟩ : ∃ x : Col, x = ext (ext q wr.heap.size 8) (wr.alloc (.cells #[.int .i64 a.src, .int .i64 a.sport, .int .i64 a.dst, .int .i64 a.dport, .slice sa a.start.length sc] 63)).heap.size 7 := ⟨_, rfl⟩
          rw [hw6, ← hq6] at HX6 HK6 HG6 HR6 HO6 HT6 HY6 HTA6
          have hs6 : w5.heap.size = w6.heap.size := by rw [← hw6, size_setCell']
          rw [hw6, hs6]
          clear hw6 hq6 hs6
          refine wpList_app rfl _ _ 23 rfl 0 63 i0 _ 5 56 Try.underlying23 hi hz0 hz1 hz2 rfl (.slice pa0 ps.length pc0) ps.length _ rfl (HT6.out.own.1.alloc (.cells #[.int .i64 a.src, .int .i64 a.sport, .int .i64 a.dst, .int .i64 a.dport, .slice (some ⟨gy, 0, none⟩) a.start.length cy] 63)) (some ⟨w6.heap.size, 0, none⟩) 1 1 [.int .i64 a.src, .int .i64 a.sport, .int .i64 a.dst, .int .i64 a.dport, .slice (some ⟨gy, 0, none⟩) a.start.length cy] rfl rfl (fun h => by cases h) (news_alloc w6 [.int .i64 a.src, .int .i64 a.sport, .int .i64 a.dst, .int .i64 a.dport, .slice (some ⟨gy, 0, none⟩) a.start.length cy] 63) (by simp [Value.oneCell']) (by have := HPL.out; unfold maxLen; omega) (grow_ok (by have := HPL.out; omega)) (Nat.zero_le _) ?_
          intro v7 w7 k1 k20 _ k4
          have hm : Mods (fun b => (Value.slice pa0 ps.length pc0).ownBlock = some b) w6 w7 := ((Mods.refl _ w6).alloc _).grown k20 (fun b hb _ => hb)
          obtain ⟨z4, zf, T7, N7, B7⟩ := HT6.out.grow (a := a) (y := .slice (some ⟨gy, 0, none⟩) a.start.length cy) (v' := v7) (w2 := w7) HO6.out (i := 2) (by decide) (by decide) (by decide) (by show 2 < 5; decide) HY6.out k1 hm (k4.imp id (fun k4 b hb => by rw [k4] at hb; have := Option.some.inj hb; simp at this; omega))
          obtain ⟨sp7, cp7, rfl⟩ := owns_slice k1
          have HK7 := Lib.hid (HK6.out.turn T7 (by decide))
          have HG7 := Lib.hid (HG6.out.turn T7 (by decide))
          have HR7 := Lib.hid (HR6.out.turn T7 (by decide))
          have HTA7 := Lib.hid (HTA6.out.turn T7 (by decide) (by decide))
          have HO7 := Lib.hid B7
          have HT7 := Lib.hid N7
          have HPJ7 : Hid ((ps ++ [(a, (.slice (some ⟨gy, 0, none⟩) a.start.length cy : Value))]).map Prod.fst = g.edges.take (j + 1)) := Lib.hid (by rw [HTK.out, ← HPJ.out]; simp)
          clear HPL T7 N7 B7 k1 k20 k4 hm HK6 HG6 HR6 HO6 HT6 HY6 HX6 HTA6
          go_wp2
          go_roundw
          case rel => exact ⟨j + 1, _, _, _, hlt, by go_num, HK7.out, HG7.out, HR7.out, HO7.out, HT7.out, HPJ7.out, HTA7.out⟩
          case measure => simp [intOf]; omega
        · obtain rfl : m = j := by omega
          clear hj hlt
          have hPJ := HPJ.out
          rw [List.take_of_length_le (by have := HNE.out; omega)] at hPJ
          have HPJ := Lib.hid hPJ
          have HPL : Hid (ps.length = m) := Lib.hid (by have := congrArg List.length hPJ; rw [List.length_map] at this; have := HNE.out; omega)
          clear hPJ
          obtain ⟨pa0, pc0, rfl⟩ := HT.out.own.slice
          have o1 := HO.out.cell 2 _ rfl
          have y := HGB.out.cell 2 _ rfl
          obtain ⟨i0, hi, hz0, hz1, hz2⟩ := info_parts info_Edge
          go_wp2_with (at_builtin; refine stop_here ?_)
          refine go_on ?_
          clear o1
          refine wpList_app rfl _ _ 23 rfl 0 63 i0 _ 5 56 Try.underlying23 hi hz0 hz1 hz2 rfl (.slice pa0 ps.length pc0) ps.length _ rfl (HT.out.own.1.alloc (.cells #[.int .i64 (-7770777), .int .i64 0, .int .i64 0, .int .i64 0, .slice none 0 0] 63)) (some ⟨wr.heap.size, 0, none⟩) 1 1 [.int .i64 (-7770777), .int .i64 0, .int .i64 0, .int .i64 0, .slice none 0 0] rfl rfl (fun h => by cases h) (news_alloc wr [.int .i64 (-7770777), .int .i64 0, .int .i64 0, .int .i64 0, .slice none 0 0] 63) (by simp [Value.oneCell']) (by have := HPL.out; unfold maxLen; omega) (grow_ok (by have := HPL.out; omega)) (Nat.zero_le _) ?_
          intro v7 w7 k1 k20 _ k4
          have hm : Mods (fun b => (Value.slice pa0 ps.length pc0).ownBlock = some b) wr w7 := ((Mods.refl _ wr).alloc _).grown k20 (fun b hb _ => hb)
          obtain ⟨z4, zf, T7, N7, B7⟩ := HT.out.grow (a := edgeMark) (y := .slice none 0 0) (v' := v7) (w2 := w7) HO.out (i := 2) (by decide) (by decide) (by decide) (by show 2 < 5; decide) (.inl ⟨rfl, _, _, rfl⟩) k1 hm (k4.imp id (fun k4 b hb => by rw [k4] at hb; have := Option.some.inj hb; simp at this; omega))
          obtain ⟨sp7, cp7, rfl⟩ := owns_slice k1
          have HK7 := Lib.hid (HK.out.turn T7 (by decide))
          have hG7 := HGB.out.turn T7 (by decide)
          have HG7 := Lib.hid hG7
          have HR7 := Lib.hid (HR.out.turn T7 (by decide))
          have HTA7 := Lib.hid (HTA.out.turn T7 (by decide) (by decide))
          obtain ⟨_, hcp7, be, _, eb7, _⟩ := owns_cell k1 (by simp [edgeHd])
          subst eb7
          have hcp7n : m ≤ cp7 := by have := HPL.out; omega
          have y7 := hG7.cell 2 _ rfl
          have o7 := B7.cell 2 _ rfl
          have g7 := B7.frozen 2
          obtain ⟨B8, T8⟩ := B7.set 2 (.slice (some ⟨be, 0, none⟩) m cp7)
          have HK8 := Lib.hid (HK7.out.turn T8 (by decide))
          have HG8 := Lib.hid (HG7.out.turn T8 (by decide))
          have HR8 := Lib.hid (HR7.out.turn T8 (by decide))
          have HTA8 := Lib.hid (HTA7.out.turn T8 (by decide) (by decide))
          have HO8 := Lib.hid B8
          have y9 := HG8.out.cell 3 _ rfl
          have HT8 := Lib.hid (N7.turn T8 (by decide) (by decide))
          clear T7 N7 B7 B8 T8 k1 k20 k4 hm hG7 HK HGB HR HO HT HK7 HG7 HR7 HTA HTA7 y
          go_wp2_with fail
          rw [HPL.out] at HT8
          rw [HPL.out] at HK8 HG8 HR8 HO8 HTA8 ⊢
          have HPE : Hid ((ps ++ [(edgeMark, Value.slice none 0 0)]).map Prod.fst = g.edges ++ [edgeMark]) := Lib.hid (by rw [← HPJ.out]; simp)
          clear y9 o7 g7 y7 z4 zf HPJ
          refine (lentports_any _ _ g.ins (RI.out.below port_steady HK8.out.below) (by omega)).mono ?_
          rintro e w9 ⟨vi, rfl, hri, hli, hb9⟩
          have T9 := fun q => Turn.of_below q 10 hb9
          have HK9 := Lib.hid (HK8.out.turn (T9 _) (fun h => h))
          have HG9 := Lib.hid (HG8.out.turn (T9 _) (fun h => h))
          have HR9 := Lib.hid (HR8.out.turn (T9 _) (fun h => h))
          have hO9 := HO8.out.turn (T9 _) (fun h => h)
          have HA9 := Lib.hid (HTA8.out.turn (T9 _) (fun h => h) (fun h => h))
          have HE9 := Lib.hid (HT8.out.turn (T9 _) (fun h => h) (fun h => h))
          obtain ⟨ii, jc, rfl⟩ := hri.slice
          have HI9 := Lib.hid (RecC.made (o := ext (ext q wr.heap.size 6) _ 10) (c := 10) hri (fun b off n cap e => ext_new (hli b off n cap e)))
          obtain ⟨BX, TX⟩ := hO9.set 3 (.slice ii g.ins.length jc)
          have o9 := hO9.cell 3 _ rfl
          have g9 := hO9.frozen 3
          have HKX := Lib.hid (HK9.out.turn TX (by decide))
          have HGX := Lib.hid (HG9.out.turn TX (by decide))
          have HRX := Lib.hid (HR9.out.turn TX (by decide))
          have HAX := Lib.hid (HA9.out.turn TX (by decide) (by decide))
          have HEX := Lib.hid (HE9.out.turn TX (by decide) (by decide))
          have HIX := Lib.hid (HI9.out.turn TX (by decide))
          have HOX := Lib.hid BX
          have yx := HGX.out.cell 4 _ rfl
          clear T9 HK8 HG8 HR8 HO8 HTA8 HT8 hri hli hb9 hO9 HK9 HG9 HR9 HA9 HE9 HI9 BX TX
          go_wp2_with fail
          clear o9 g9 yx
          obtain ⟨wx, hwx⟩ : ∃ x, w9.setCell ⟨w.heap.size + 2, 3, none⟩ (.slice ii g.ins.length jc) = x := ⟨_, rfl⟩
          obtain ⟨qx, hqx⟩ : ∃ x : Col, x = ext (ext q wr.heap.size 6) ((w7.setCell ⟨w.heap.size + 2, 2, none⟩ (.slice (some ⟨be, 0, none⟩) (m + 1) cp7)).setCell ⟨w.heap.size + 2, 2, none⟩ (.slice (some ⟨be, 0, none⟩) m cp7)).heap.size 10 := ⟨_, rfl⟩
          rw [hwx, ← hqx] at HKX HGX HRX HAX HEX HIX HOX
          rw [hwx]
          clear hwx hqx
          refine (lentports_any _ _ g.outs (RO.out.below port_steady HKX.out.below) (by omega)).mono ?_
          rintro e wy ⟨vo, rfl, hro, hlo, hby⟩
          have T9 := fun q => Turn.of_below q 11 hby
          have HKY := Lib.hid (HKX.out.turn (T9 _) (fun h => h))
          have hRY := HRX.out.turn (T9 _) (fun h => h)
          have hOY := HOX.out.turn (T9 _) (fun h => h)
          have hAY := HAX.out.turn (T9 _) (fun h => h) (fun h => h)
          have hEY := HEX.out.turn (T9 _) (fun h => h) (fun h => h)
          have hIY := HIX.out.turn (T9 _) (fun h => h)
          obtain ⟨io, ko, rfl⟩ := hro.slice
          have hUY := RecC.made (o := ext qx _ 11) (c := 11) hro (fun b off n cap e => ext_new (hlo b off n cap e))
          obtain ⟨BX, TX⟩ := hOY.set 4 (.slice io g.outs.length ko)
          have o9 := hOY.cell 4 _ rfl
          have g9 := hOY.frozen 4
          have hRZ := hRY.turn TX (by decide)
          have HKZ := Lib.hid (HKY.out.turn TX (by decide))
          have HAZ := Lib.hid (hAY.turn TX (by decide) (by decide))
          have HEZ := Lib.hid (hEY.turn TX (by decide) (by decide))
          have HIZ := Lib.hid (hIY.turn TX (by decide))
          have HUZ := Lib.hid (hUY.turn TX (by decide))
          have HRZ := Lib.hid hRZ
          have s0 := BX.cell 0 _ rfl
          have s1 := BX.cell 1 _ rfl
          have s2 := BX.cell 2 _ rfl
          have s3 := BX.cell 3 _ rfl
          have s4 := BX.cell 4 _ rfl
          have z0 := hRZ.cell 0 _ rfl
          have z1 := hRZ.cell 1 _ rfl
          have z2 := hRZ.cell 2 _ rfl
          have z3 := hRZ.cell 3 _ rfl
          have z4 := hRZ.cell 4 _ rfl
          have f0 := hRZ.frozen 0
          have f1 := hRZ.frozen 1
          have f2 := hRZ.frozen 2
          have f3 := hRZ.frozen 3
          have f4 := hRZ.frozen 4
          clear T9 hro hlo hRY hOY hAY hEY hIY hUY BX TX hRZ HKX HRX HOX HAX HEX HIX HGX HKY
          go_wp2
          clear o9 g9 s0 s1 s2 s3 s4 z0 z1 z2 z3 z4 f0 f1 f2 f3 f4
          obtain ⟨wz, hwz⟩ : ∃ x, wy.setCell ⟨w.heap.size + 2, 4, none⟩ (.slice io g.outs.length ko) = x := ⟨_, rfl⟩
          rw [hwz] at HKZ HAZ HEZ HIZ HUZ HRZ ⊢
          clear hwz
          refine bodyPost_ret_by (results_cell_row rfl _ _ _ _ _ _ _ rfl (graph_set HRZ.out.1 _ _ _ _ _) Try.underlying26 rfl (by kernel_rfl)) rfl ?_
          have mm := graph_mods wz (w.heap.size + 1) (.string g.name) (.slice (some ⟨ba, 0, none⟩) n ca) (.slice (some ⟨be, 0, none⟩) m cp7) (.slice ii g.ins.length jc) (.slice io g.outs.length ko)
          have T : Turn (ext qx _ 11) (ext qx _ 11) (fun x => x = 9) wz _ := ⟨mm.mono (fun k _ e => by subst e; exact HRZ.out.2), fun _ _ => rfl⟩
          refine ⟨_, rfl, ⟨_, _, _, _, rfl, ?_, ?_, ?_, ?_⟩, HKZ.out.below.trans (mm.below HKZ.out.size (fun k hk e => by omega))⟩
          · have h1 := TailAt.recs (show ∀ a, (actorHd a).length + 1 = 3 from fun _ => rfl) (HAZ.out.turn T (by decide) (by decide))
            rw [HPA.out] at h1
            have h2 := h1.front
            rw [HNA.out] at h2
            exact h2
          · have h1 := TailAt.recs (show ∀ a, (edgeHd a).length + 1 = 5 from fun _ => rfl) (HEZ.out.turn T (by decide) (by decide))
            rw [HPE.out] at h1
            have h2 := h1.front
            rw [HNE.out] at h2
            exact h2
          · exact (HIZ.out.turn T (by decide)).recs
          · exact (HUZ.out.turn T (by decide)).recs
end Go.Proofs.Ytbmbfifempkhgaa

/- A region that draws its order: reads, then whatever is ready; what only looks at answers, later. No program in sight. -/
namespace Go.Proofs.Ytbmbfifempkhgaa
section
variable {P : Program} {md : Region.Mode} {ops : Array Oper} {Q : Exit → Act → World → Prop} {S : World → Prop}

def closedB (md : Region.Mode) (ops : Array Oper) (listed : Array Bool) : Bool :=
  (List.range ops.size).all fun j => !(listed.getD j false) || (match ops[j]? with | none => true | some o => o.after.all fun e => !(Region.binds md e) || listed.getD e.on false)
theorem closedL_of_B {listed : Array Bool} (h : closedB md ops listed = true) : closedL md ops listed := by
  intro j oj hj hl e he hb
  have hlt := (Array.getElem?_eq_some_iff.1 hj).1
  have h1 := List.all_eq_true.1 h j (List.mem_range.2 hlt)
  rw [hl, hj] at h1
  simp only [Bool.not_true, Bool.false_or] at h1
  have h2 := Array.all_eq_true'.1 h1 e he
  rw [hb] at h2
  simpa using h2
def hbeB (md : Region.Mode) (ops : Array Oper) (reads M : List Nat) : Bool :=
  Region.noSelect ops && (reads.all fun i => anyAt ops i || (List.range ops.size).all fun j => madeB ops j || reads.contains j || M.contains j || behindB md ops ops.size j i)
theorem hbe_of {reads M : List Nat} (h : hbeB md ops reads M = true) : Region.noSelect ops = true ∧ ∀ i ∈ reads, anyAt ops i = false → ∀ j, j < ops.size → madeB ops j = true ∨ reads.contains j = true ∨ M.contains j = true ∨ behindB md ops ops.size j i = true := by
  simp only [hbeB, Bool.and_eq_true, List.all_eq_true, List.mem_range, Bool.or_eq_true] at h
  refine ⟨h.1, fun i hi hany j hj => ?_⟩
  rcases h.2 i hi with h0 | h0
  · rw [hany] at h0; cases h0
  rcases h0 j hj with ((h1 | h1) | h1) | h1
  · exact .inl h1
  · exact .inr (.inl h1)
  · exact .inr (.inr (.inl h1))
  · exact .inr (.inr (.inr h1))

theorem wp_region_drift {id : Nat} {l : List Oper} {a : Act} {w : World} (S : World → Prop) (reads M r : List Nat) (n : Nat) (hm : P.follows .mixedOrders = true)
    (hB : (hbeB .any l.toArray reads M && stageHead .any l.toArray (fun _ => true) r (Array.replicate l.toArray.size false) && r.all fun i => reads.contains i) = true) (hlen : r.length + n = l.length) (hS : S w.drew)
    (h : ∀ Q' : Exit → Act → World → Prop, (∀ a w, Q .normal a w → Q' .normal a w) → (∀ c a a' w, Q' (.panic c) a w → Q' (.panic c) a' w) → wpReads P l.toArray S (fun a' => wpAnyT P .any l.toArray Q' S (bsOf l.toArray reads M) n (setAll (Array.replicate l.length false) r) a' w.drew) (pickOps l.toArray r) a) : (Code.region id l.toArray true).wp P Q a w := by
  refine wp_region_noPanic ?_
  refine wp_region_any hm ?_
  simp only [Bool.and_eq_true] at hB
  obtain ⟨⟨hb, hl⟩, hr⟩ := hB
  obtain ⟨hsel, hbe⟩ := hbe_of hb
  refine wpAny_of_T (S := S) (B := bsOf l.toArray reads M) _ _ _ _ ?_
  have key := wpAnyT_reads (P := P) (md := .any) (Q := NoPanic Q) (S := S) (reads := reads) (M := M) (n := n) hsel (fun c a a' w h => h) hbe r (Array.replicate l.toArray.size false) a { w with drawn := w.drawn + 1 } (fun i hi => by simpa using List.all_eq_true.1 hr i hi)
    (fun j oj _ hl => by rw [getD_replicate_false] at hl; cases hl) hl hS (by simpa using h (NoPanic Q) (fun _ _ h => NoPanic.normal h) (fun c a a' w h => h))
  rw [hlen] at key
  simpa using key
/-- what looks at answers alone, in whatever order -/
theorem wpAnyT_later {reads M : List Nat} {r : List Nat} {n : Nat} {listed : Array Bool} {a : Act} {w : World} (hQ : ∀ c a a' w, Q (.panic c) a w → Q (.panic c) a' w)
    (hB : (hbeB md ops reads M && closedB md ops listed && stageHead md ops (fun _ => true) r listed && r.all fun i => reads.contains i) = true) (hS : S w) (h : wpReads P ops S (fun a' => wpAnyT P md ops Q S (bsOf ops reads M) n (setAll listed r) a' w) (pickOps ops r) a) : wpAnyT P md ops Q S (bsOf ops reads M) (r.length + n) listed a w := by
  simp only [Bool.and_eq_true] at hB
  obtain ⟨⟨⟨hb, hc⟩, hl⟩, hr⟩ := hB
  obtain ⟨hsel, hbe⟩ := hbe_of hb
  exact wpAnyT_reads hsel hQ hbe r listed a w (fun i hi => by simpa using List.all_eq_true.1 hr i hi) (closedL_of_B hc) hl hS h
/-- three are ready -/
theorem wpAnyT_three {B : Nat → Bool} {n i k m : Nat} {listed : Array Bool} {a : Act} {w : World} (hr : Region.ready md ops listed = [i, k, m]) (h : wpList P ops (EndK Q fun a' w' => (B i = true → S w → S w') ∧ wpAnyT P md ops Q S B n (listed.setIfInBounds i true) a' w') (pickOps ops [i]) a w)
    (h' : wpList P ops (EndK Q fun a' w' => (B k = true → S w → S w') ∧ wpAnyT P md ops Q S B n (listed.setIfInBounds k true) a' w') (pickOps ops [k]) a w)
    (h'' : wpList P ops (EndK Q fun a' w' => (B m = true → S w → S w') ∧ wpAnyT P md ops Q S B n (listed.setIfInBounds m true) a' w') (pickOps ops [m]) a w) : wpAnyT P md ops Q S B (n + 1) listed a w := by
  have hi : i ∈ Region.ready md ops listed := by rw [hr]; simp
  have hk : k ∈ Region.ready md ops listed := by rw [hr]; simp
  have hm : m ∈ Region.ready md ops listed := by rw [hr]; simp
  refine ⟨fun h0 => (by rw [h0] at hr; cases hr), fun j hj => ?_⟩
  rw [hr] at hj
  rcases List.mem_cons.1 hj with rfl | hj
  · exact wpOp_of_list (ready_lt hi) h
  rcases List.mem_cons.1 hj with rfl | hj
  · exact wpOp_of_list (ready_lt hk) h'
  · obtain rfl : j = m := by simpa using hj
    exact wpOp_of_list (ready_lt hm) h''
end
end Go.Proofs.Ytbmbfifempkhgaa
