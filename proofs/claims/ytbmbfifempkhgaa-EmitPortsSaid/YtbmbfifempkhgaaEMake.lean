/- emit's Make. -/
import Derived.Test.YtbmbfifempkhgaaEProg
import Derived.Test.YtbmbfifempkhgaaEFirings
import Derived.Test.YtbmbfifempkhgaaERow
import Derived.Test.YtbmbfifempkhgaaNA
namespace Go.Proofs.Ytbmbfifempkhgaa
open Go.RowKit

/-- what Make answers: its program's rows are new -/
def MakeRetF (w : World) (g : GGraph) (p : GPlan) (l : Nest) (e : Ending) (w' : World) : Prop := ∃ v, e = .returned (.tuple #[v, .int .i64 (makeE g p l)]) ∧ (∀ w'', Mods (fun k => k < w.heap.size) w' w'' → HasProg w'' v (makeP g p l)) ∧ Below w.heap.size w w'
/-- what Make answers, as it is read -/
def MakeRet (w : World) (g : GGraph) (p : GPlan) (l : Nest) (e : Ending) (w' : World) : Prop := ∃ v, e = .returned (.tuple #[v, .int .i64 (makeE g p l)]) ∧ HasProg w' v (makeP g p l) ∧ Below w.heap.size w w'

theorem info_Part : (Try.prog.info? 108).map (fun i => (i.zero, i.size, i.bytes)) = some (some (.agg #[.int .u8 0, .slice none 0 0]), 2, 32) := by kernel_rfl
theorem info_Line : (Try.prog.info? 87).map (fun i => (i.zero, i.size, i.bytes)) = some (some (.agg #[.int .i64 0, .int .i64 0, .slice none 0 0]), 3, 40) := by kernel_rfl



set_option maxRecDepth 100000 in
set_option maxHeartbeats 4000000 in
theorem make_fresh (D : Nat) (w : World) (vg vp v : Value) (g : GGraph) (p : GPlan) (l : Nest) (hg : HasGraph w vg g) (hp : HasPlan w vp p) (hv : HasNestD D w v l) (hgs : GSized g) (hns : NSized l) : Calls Try.prog 13 #[vg, vp, v] w (MakeRetF w g p l) := by
  obtain ⟨va, ve, vi, vo, rfl, ra, re, ri, ro⟩ := hg.shape
  obtain ⟨vr, rfl, rr⟩ := hp
  obtain ⟨aa, ac, rfl⟩ := ra.slice
  obtain ⟨ae, ec, rfl⟩ := re.slice
  obtain ⟨ai, ic, rfl⟩ := ri.slice
  obtain ⟨ao, oc, rfl⟩ := ro.slice
  obtain ⟨ar, rc, rfl⟩ := rr.slice
  obtain ⟨la, lc, rfl⟩ := nestD_slice D hv
  have RA := Lib.hid ra
  have RE := Lib.hid re
  have RR := Lib.hid rr
  have HG := Lib.hid hg
  have HP : Hid (HasPlan w (.agg #[.slice ar p.regions.length rc, .int .i64 p.total]) p) := Lib.hid ⟨_, rfl, rr⟩
  have HV := Lib.hid hv
  have HGS := Lib.hid hgs
  have HNS := Lib.hid hns
  clear ra re ri ro rr hg hv hgs hns
  have hb1 := below_alloc w (.cells #[.string g.name, .slice aa g.actors.length ac, .slice ae g.edges.length ec, .slice ai g.ins.length ic, .slice ao g.outs.length oc] 26)
  have T1 := Turn.of_below (fun _ => 0) 9 hb1
  have hG : Blk _ (ext (fun _ => 0) w.heap.size 9) 9 _ _ _ := ⟨heap_alloc_new w (.cells #[.string g.name, .slice aa g.actors.length ac, .slice ae g.edges.length ec, .slice ai g.ins.length ic, .slice ao g.outs.length oc] 26), ext_new (Nat.le_refl _)⟩
  have K1 := (Kept.start w).turn T1 (fun h => h)
  generalize hW1 : w.alloc (.cells #[.string g.name, .slice aa g.actors.length ac, .slice ae g.edges.length ec, .slice ai g.ins.length ic, .slice ao g.outs.length oc] 26) = W1 at *
  have hs1 : W1.heap.size = w.heap.size + 1 := by rw [← hW1]; simp
  have T2 := Turn.of_below (ext (fun _ => 0) w.heap.size 9) 9 (below_alloc W1 (.cells #[.slice ar p.regions.length rc, .int .i64 p.total] 29))
  have hP : Blk _ (ext (ext (fun _ => 0) w.heap.size 9) W1.heap.size 9) 9 _ _ _ := ⟨heap_alloc_new W1 (.cells #[.slice ar p.regions.length rc, .int .i64 p.total] 29), ext_new (Nat.le_refl _)⟩
  generalize ext (fun _ => 0) w.heap.size 9 = q0 at *
  have K2 := K1.turn T2 (fun h => h)
  have hG2 := hG.turn T2 (fun h => h)
  generalize hW2 : W1.alloc (.cells #[.slice ar p.regions.length rc, .int .i64 p.total] 29) = W2 at *
  have hs2 : W2.heap.size = w.heap.size + 2 := by rw [← hW2, World.size_alloc, hs1]
  generalize ext q0 W1.heap.size 9 = q1 at *
  rw [hs1] at hP
  have T3 := Turn.of_below q1 9 (below_alloc W2 (.cells progZ 39))
  have hR : Blk _ (ext q1 W2.heap.size 9) 9 _ _ _ := ⟨heap_alloc_new W2 (.cells progZ 39), ext_new (Nat.le_refl _)⟩
  have HK := Lib.hid (K2.turn T3 (fun h => h))
  have HGB := Lib.hid (hG2.turn T3 (fun h => h))
  have HPB := Lib.hid (hP.turn T3 (fun h => h))
  rw [hs2] at hR HK HGB HPB
  have HR := Lib.hid hR
  generalize ext q1 (w.heap.size + 2) 9 = q at *
  have y0 := HGB.out.cell 0 _ rfl
  have y1 := HGB.out.cell 1 _ rfl
  have y2 := HGB.out.cell 2 _ rfl
  have y3 := HGB.out.cell 3 _ rfl
  have y4 := HGB.out.cell 4 _ rfl
  clear hb1 T1 hG K1 T2 hP K2 hG2 T3 hR
  go_enter Try.func13, Try.ntmps13
  go_wp2_with fail
  clear hW1 hs1 hW2 hs2 y0 y1 y2 y3 y4
  refine (gcheck_any _ _ g (HG.out.below HK.out.below) HGS.out).mono ?_
  rintro e w4 ⟨rfl, hb4⟩
  have T9 := fun q => Turn.of_below q 10 hb4
  replace HK := Lib.hid (HK.out.turn (T9 _) (fun h => h))
  replace HGB := Lib.hid (HGB.out.turn (T9 _) (fun h => h))
  replace HPB := Lib.hid (HPB.out.turn (T9 _) (fun h => h))
  replace HR := Lib.hid (HR.out.turn (T9 _) (fun h => h))
  clear T9 hb4
  by_cases h1 : checkE g = 0
  · rw [h1]
    have HC1 := Lib.hid h1
    clear h1
    go_wp2_with fail
    refine (ncheck_any D _ _ l (nestD_below D HV.out HK.out.below) HNS.out).mono ?_
    rintro e w5 ⟨rfl, hb5⟩
    have T9 := fun q => Turn.of_below q 10 hb5
    replace HK := Lib.hid (HK.out.turn (T9 _) (fun h => h))
    replace HGB := Lib.hid (HGB.out.turn (T9 _) (fun h => h))
    replace HPB := Lib.hid (HPB.out.turn (T9 _) (fun h => h))
    replace HR := Lib.hid (HR.out.turn (T9 _) (fun h => h))
    clear T9 hb5
    by_cases h2 : nestCheckE l = 0
    · rw [h2]
      have HC2 := Lib.hid h2
      clear h2
      have y0 := HGB.out.cell 0 _ rfl
      have y1 := HGB.out.cell 1 _ rfl
      have y2 := HGB.out.cell 2 _ rfl
      have y3 := HGB.out.cell 3 _ rfl
      have y4 := HGB.out.cell 4 _ rfl
      have y5 := HPB.out.cell 0 _ rfl
      have y6 := HPB.out.cell 1 _ rfl
      go_wp2_with fail
      refine (strange_any D _ _ l g.actors.length (nestD_below D HV.out HK.out.below) HNS.out).mono ?_
      rintro e w6 ⟨rfl, hb6⟩
      clear y0 y1 y2 y3 y4 y5 y6
      have T9 := fun q => Turn.of_below q 10 hb6
      replace HK := Lib.hid (HK.out.turn (T9 _) (fun h => h))
      replace HGB := Lib.hid (HGB.out.turn (T9 _) (fun h => h))
      replace HPB := Lib.hid (HPB.out.turn (T9 _) (fun h => h))
      replace HR := Lib.hid (HR.out.turn (T9 _) (fun h => h))
      clear T9 hb6
      by_cases h3 : strangeP l g.actors.length = false
      · rw [h3]
        have HC3 := Lib.hid h3
        clear h3
        have y0 := HGB.out.cell 0 _ rfl
        have y1 := HGB.out.cell 1 _ rfl
        have y2 := HGB.out.cell 2 _ rfl
        have y3 := HGB.out.cell 3 _ rfl
        have y4 := HGB.out.cell 4 _ rfl
        have y5 := HPB.out.cell 0 _ rfl
        have y6 := HPB.out.cell 1 _ rfl
        go_wp2_with fail
        refine (fits_any _ _ _ g p (HG.out.below HK.out.below) (HP.out.below HK.out.below) (by have := (headE_parts (checkE_parts HC1.out).1).2.2.1; omega) (fun e he => by have := starts_of HC1.out e he; omega)).mono ?_
        rintro e w7 ⟨rfl, hb7⟩
        clear y0 y1 y2 y3 y4 y5 y6
        have T9 := fun q => Turn.of_below q 10 hb7
        replace HK := Lib.hid (HK.out.turn (T9 _) (fun h => h))
        replace HGB := Lib.hid (HGB.out.turn (T9 _) (fun h => h))
        replace HPB := Lib.hid (HPB.out.turn (T9 _) (fun h => h))
        replace HR := Lib.hid (HR.out.turn (T9 _) (fun h => h))
        clear T9 hb7
        by_cases h4 : fitsP g p = true
        · rw [h4]
          have HC4 := Lib.hid h4
          clear h4
          have HFO := Lib.hid (firOk_of HC1.out HGS.out)
          have y0 := HGB.out.cell 0 _ rfl
          have y1 := HGB.out.cell 1 _ rfl
          have y2 := HGB.out.cell 2 _ rfl
          have y3 := HGB.out.cell 3 _ rfl
          have y4 := HGB.out.cell 4 _ rfl
          have y5 := HPB.out.cell 0 _ rfl
          have y6 := HPB.out.cell 1 _ rfl
          go_wp2_with fail
          refine (firings_any _ _ g (HG.out.below HK.out.below) HFO.out).mono ?_
          rintro e w8 ⟨vf, vs, o8, rfl, K8, M8⟩
          clear y0 y1 y2 y3 y4 y5 y6
          have hb8 := K8.below
          have T9 := fun q => Turn.of_below q 10 hb8
          replace HK := Lib.hid (HK.out.turn (T9 _) (fun h => h))
          replace HGB := Lib.hid (HGB.out.turn (T9 _) (fun h => h))
          replace HPB := Lib.hid (HPB.out.turn (T9 _) (fun h => h))
          replace HR := Lib.hid (HR.out.turn (T9 _) (fun h => h))
          clear T9 hb8
          have HF := Lib.hid M8.has
          clear K8 M8
          obtain ⟨q8, hq8⟩ : ∃ x : Col, x = ext (ext (ext (ext (ext q (W2.alloc (Obj.cells progZ 39)).heap.size 10) w4.heap.size 10) w5.heap.size 10) w6.heap.size 10) w7.heap.size 10 := ⟨_, rfl⟩
          rw [← hq8] at HK HGB HPB HR
          clear hq8
          obtain ⟨fa, fc, hvf⟩ := HF.out.slice
          subst hvf
          obtain ⟨M, hM⟩ : ∃ x, w8.heap.size = x := ⟨_, rfl⟩
          have hbM := below_alloc w8 (.cells #[.slice none 0 0, .int .i64 0, .int .i64 0, .slice fa (firP g).length fc] 104)
          have HMB : Hid (MkAt _ (ext (fun _ => 0) M 1) M _ [] ((0 : Nat) : Int) ((0 : Nat) : Int) (.slice fa (firP g).length fc)) := Lib.hid ⟨⟨by rw [← hM]; exact heap_alloc_new w8 (.cells #[.slice none 0 0, .int .i64 0, .int .i64 0, .slice fa (firP g).length fc] 104), ext_new (Nat.le_refl _)⟩, Own.nil _ _ _ _ _⟩
          have HKM := Lib.hid ((Kept.start w8).turn (Turn.of_below (fun _ => 0) 1 hbM) (fun h => h))
          rw [hM] at HKM
          obtain ⟨nc1, nc2, nc3⟩ := nest_facts HC2.out
          have HN1 := Lib.hid nc1
          have HLF : Hid (LeafOk (firP g).length l) := Lib.hid (by rw [firP_len]; exact leafOk_strange l _ nc3 HC3.out)
          have HFF : Hid (FOk (firP g)) := Lib.hid ⟨firP_row HFO.out, by rw [firP_len]; have := HFO.out.actors; omega⟩
          have HRL := Lib.hid (rowP_len HFF.out.rows l 0 ([], 0))
          clear hbM
          go_wp2_with fail
          refine (erow_any HFF.out D w8 _ _ M _ _ _ l [] 0 0 (nestD_below D HV.out HK.out.below) HNS.out HLF.out HF.out (by rw [hM]; exact HKM.out) HMB.out (by have := HN1.out; simp only [List.length_nil]; omega) (by omega) (by omega)).mono ?_
          rintro e w9 ⟨rfl, o9, vo9, T9, M9⟩
          have HKN := Lib.hid (HKM.out.turn T9 (by unfold MkC; omega))
          clear T9 HKM HMB
          obtain ⟨rw9, hrw9⟩ : ∃ x, rowP (firP g) l 0 ([], 0) = x := ⟨_, rfl⟩
          rw [hrw9] at M9 HRL
          have HRW := Lib.hid hrw9
          have HM9 := Lib.hid M9
          clear M9 hrw9
          have hrl : rw9.1.length ≤ 10000000 := by have := HRL.out; have := HN1.out; simp only [List.length_nil] at *; omega
          go_wp2_with fail
          refine (put_any w9 o9 M vo9 _ rw9.1 ((0 : Nat) : Int) rw9.2 0 0 0 HM9.out (by omega)).mono ?_
          rintro e wA ⟨rfl, oA, voA, TA, MA⟩
          have hKA := HKN.out.turn TA (by unfold MkC; omega)
          have hbA := hKA.below
          have hRM : w.heap.size + 2 < M := by rw [← hM]; exact HR.out.lt
          have hOB : ∀ k, voA.ownBlock = some k → w.heap.size + 2 < k := fun k hk => by
            by_cases hlt : k < M
            · have e1 := hKA.old k hlt
              have e2 := MA.own.2 k hk
              omega
            · omega
          clear hKA
          rw [← hM] at hbA
          have T9 := fun q => Turn.of_below q 10 hbA
          replace HK := Lib.hid (HK.out.turn (T9 _) (fun h => h))
          replace HGB := Lib.hid (HGB.out.turn (T9 _) (fun h => h))
          replace HPB := Lib.hid (HPB.out.turn (T9 _) (fun h => h))
          replace HR := Lib.hid (HR.out.turn (T9 _) (fun h => h))
          clear T9 hbA
          obtain ⟨OPS, hOPS⟩ : ∃ x : List GOp, rw9.1 ++ [⟨0, 0, 0⟩] = x := ⟨_, rfl⟩
          rw [hOPS] at MA
          have HOP := Lib.hid hOPS
          have HOW := Lib.hid (Own.row MA.own)
          obtain ⟨oa, oc', rfl⟩ := MA.own.slice
          have HOB : Hid (∀ ad, oa = some ad → w.heap.size + 2 < ad.block) := Lib.hid fun ad e => hOB ad.block (by rw [e]; rfl)
          clear hOB hRM
          have m0 := MA.blk.cell 0 _ rfl
          have m2 := MA.blk.cell 2 _ rfl
          have y0 := HGB.out.cell 0 _ rfl
          have y1 := HGB.out.cell 1 _ rfl
          have y2 := HGB.out.cell 2 _ rfl
          have y3 := HGB.out.cell 3 _ rfl
          have y4 := HGB.out.cell 4 _ rfl
          have y5 := HPB.out.cell 0 _ rfl
          have y6 := HPB.out.cell 1 _ rfl
          clear TA MA HKN HM9 hM HF HLF HFF HRL hOPS y0 y2 y5
          go_wp2_with fail
          refine wp_region_lex (fun w' => w'.cell? ⟨w.heap.size + 1, 1, none⟩ = some (.int .i64 p.total) ∧ w'.cell? ⟨M, 2, none⟩ = some (.int .i64 rw9.2) ∧ w'.cell? ⟨w.heap.size, 3, none⟩ = some (.slice ai g.ins.length ic) ∧ w'.cell? ⟨w.heap.size, 4, none⟩ = some (.slice ao g.outs.length oc) ∧ w'.cell? ⟨M, 0, none⟩ = some (.slice oa OPS.length oc')) [0, 1, 2, 3, 4, 5, 6, 7, 8, 9, 10, 11, 12, 13, 14, 15, 16, 17, 18] [19, 20] (by kernel_rfl) (by kernel_rfl) rfl (fun _ _ hx h => ⟨hx.cell h.1, hx.cell h.2.1, hx.cell h.2.2.1, hx.cell h.2.2.2.1, hx.cell h.2.2.2.2⟩) ⟨y6, m2, y3, y4, m0⟩ ?_
          intro Q' hQ'
          simp only [pickOps, List.flatMap_cons, List.flatMap_nil, List.drop_succ_cons, List.drop_zero, List.take_succ_cons, List.take_zero, List.cons_append, List.nil_append, List.append_nil]
          repeat (first
            | (refine wpReads_skip (by rfl) ?_; (try simp only [Act.put, List.setIfInBounds_toArray, List.set_cons_zero, List.set_cons_succ]))
            | (refine wpReads_cons ?_ (by rfl) (by rfl) ?_ ?_; rotate_left; (intro wz hz; (try dsimp only at hz); go_simp; try with_reducible rfl); (try simp only [Act.put, List.setIfInBounds_toArray, List.set_cons_zero, List.set_cons_succ]))
            | (refine wpReads_any ?_ (by rfl) ?_ ?_; rotate_left; (intro wz; go_simp; try with_reducible rfl); (try simp only [Act.put, List.setIfInBounds_toArray, List.set_cons_zero, List.set_cons_succ])))
          refine wpReads_nil ?_
          clear y3 y4 y6 m0 m2
          have y1n := ca (o := .cells #[.int .i64 p.total, .int .i64 rw9.2, .int .i64 g.ins.length, .int .i64 g.outs.length, .slice none 0 0, .slice none 0 0, .slice oa OPS.length oc'] 39) y1
          go_wp2_with fail
          have hbP := below_dr (n := 1) (below_alloc wA (.cells #[.int .i64 p.total, .int .i64 rw9.2, .int .i64 g.ins.length, .int .i64 g.outs.length, .slice none 0 0, .slice none 0 0, .slice oa OPS.length oc'] 39))
          have HKP := Lib.hid ((Kept.start wA).turn (Turn.of_below (fun _ => 0) 3 hbP) (fun h => h))
          have HPR : Hid (Blk ((wA.alloc (.cells #[.int .i64 p.total, .int .i64 rw9.2, .int .i64 g.ins.length, .int .i64 g.outs.length, .slice none 0 0, .slice none 0 0, .slice oa OPS.length oc'] 39)).drewN 1) (ext (fun _ => 0) wA.heap.size 3) 3 wA.heap.size 39 _) := Lib.hid ⟨heap_alloc_new wA _, ext_new (Nat.le_refl _)⟩
          clear hbP y1 y1n
          obtain ⟨n, hn⟩ : ∃ n, g.actors.length = n := ⟨_, rfl⟩
          have HN := Lib.hid hn
          have hn32 := HFO.out.actors
          rw [hn] at hn32 ⊢
          clear hn
          obtain ⟨PB, hPB⟩ : ∃ x, wA.heap.size = x := ⟨_, rfl⟩
          rw [hPB] at HKP HPR ⊢
          go_loopw [72] (fun i wl => ∃ (j : Nat) (q : Col) (vp : Value) (ps : List (GPart × Value)), j ≤ n ∧ i = .int .i64 j ∧ Kept PB q wA wl ∧ TailAt partHd GPart.params wl q 4 5 108 2 vp ps ∧ ps.map Prod.fst = (partsP g.actors).take j ∧ Blk wl q 3 PB 39 #[.int .i64 p.total, .int .i64 rw9.2, .int .i64 g.ins.length, .int .i64 g.outs.length, vp, .slice none 0 0, .slice oa OPS.length oc']) (fun i _ => n - (intOf i).toNat)
          case atStart => exact ⟨0, _, _, [], Nat.zero_le _, rfl, HKP.out, TailAt.nil, rfl, HPR.out⟩
          case round =>
            clear HKP HPR
            obtain ⟨j, q, vp, ps, hj, rfl, hK, hT, hps, hB⟩ := hrel
            have HKR := Lib.hid hK
            have HTA := Lib.hid hT
            have HPR := Lib.hid hB
            have HPS := Lib.hid hps
            clear hK hT hB hps
            have hwA : Below w.heap.size w wr := HK.out.below.trans (HKR.out.below.mono (by rw [← hPB]; exact HK.out.size))
            have HBW := Lib.hid hwA
            clear hwA
            by_cases hlt : j < n
            · have hlti : (j : Int) < n := by omega
              have hlt2 : j < g.actors.length := by have := HN.out; omega
              obtain ⟨b0, off, rfl, hcap, hb0, hrec⟩ := RA.out.at (by omega)
              obtain ⟨cs, hcs, hPR, hcl⟩ := hrec j hlt2
              obtain ⟨xs, rfl, hst⟩ := hPR
              have c0 := cell_later HBW.out (hcl 0 (by omega))
              have c1 := cell_later HBW.out (hcl 1 (by omega))
              have c2 := cell_later HBW.out (hcl 2 (by omega))
              simp at c0 c1 c2
              have hcapi : (n : Int) ≤ ac := by have := HN.out; omega
              have hst2 : Has w xs (ivs g.actors[j].params) := hst
              obtain ⟨sa, sc, hxs⟩ := Ints.slice hst2
              subst hxs
              have HST := Lib.hid hst2
              have hplen := (HFO.out.good _ (List.getElem_mem hlt2)).2
              have HPJ : Hid ((partsP g.actors).take (j + 1) = (partsP g.actors).take j ++ [⟨g.actors[j].tag, g.actors[j].params⟩]) := Lib.hid (by rw [List.take_succ_eq_append_getElem (by simpa [partsP] using hlt2)]; simp [partsP])
              clear hcl hcs hrec hst hst2
              generalize g.actors[j] = a at *
              have hbX := below_alloc wr (.cells #[.string a.name, .int .u8 a.tag, .slice sa a.params.length sc] 57)
              have hX := heap_alloc_new wr (.cells #[.string a.name, .int .u8 a.tag, .slice sa a.params.length sc] 57)
              have x1 := cells_row _ _ hX 1 _ rfl
              have x2 := cells_row _ _ hX 2 _ rfl
              have TX := Turn.of_below q 8 hbX
              have HK2 := Lib.hid (HKR.out.turn TX (fun h => h))
              have HT2 := Lib.hid (HTA.out.turn TX (fun h => h) (fun h => h))
              have HP2 := Lib.hid (HPR.out.turn TX (fun h => h))
              have HBX := Lib.hid (HBW.out.trans (hbX.mono HBW.out.size))
              clear hbX hX TX HKR HTA HPR HBW
              obtain ⟨pa, pc, rfl⟩ := HT2.out.own.slice
              have z4 := HP2.out.cell 4 _ rfl
              go_wp2_with fail
              clear c0 c1 c2
              refine wp_region_rest (fun w' => w'.cell? ⟨PB, 4, none⟩ = some (.slice pa ps.length pc) ∧ w'.cell? ⟨wr.heap.size, 1, none⟩ = some (.int .u8 a.tag) ∧ w'.cell? ⟨wr.heap.size, 2, none⟩ = some (.slice sa a.params.length sc)) [0, 1, 2, 3, 4, 5] [6, 7] 6 (by kernel_rfl) (by kernel_rfl) rfl ⟨z4, x1, x2⟩ ?_
              intro Q' hQ'
              simp only [pickOps, List.flatMap_cons, List.flatMap_nil, List.drop_succ_cons, List.drop_zero, List.take_succ_cons, List.take_zero, List.cons_append, List.nil_append, List.append_nil]
              repeat (first
                | (refine wpReads_skip (by rfl) ?_; (try simp only [Act.put, List.setIfInBounds_toArray, List.set_cons_zero, List.set_cons_succ]))
                | (refine wpReads_cons ?_ (by rfl) (by rfl) ?_ ?_; rotate_left; (intro wz hz; (try dsimp only at hz); go_simp; try with_reducible rfl); (try simp only [Act.put, List.setIfInBounds_toArray, List.set_cons_zero, List.set_cons_succ]))
                | (refine wpReads_any ?_ (by rfl) ?_ ?_; rotate_left; (intro wz; go_simp; try with_reducible rfl); (try simp only [Act.put, List.setIfInBounds_toArray, List.set_cons_zero, List.set_cons_succ])))
              refine wpReads_nil ?_
              refine wpAnyT_one (i := 6) (by kernel_rfl) ?_
              simp only [pickOps, List.flatMap_cons, List.flatMap_nil, List.drop_succ_cons, List.drop_zero, List.take_succ_cons, List.take_zero, List.cons_append, List.nil_append, List.append_nil]
              go_wp2_with fail
              refine (eown_any (o := fun _ => 0) (c := 0) _ sa _ sc a.params (HST.out.below (below_dr (n := 1) HBX.out)) hplen).mono ?_
              rintro e w5 ⟨y, rfl, k5, hb5⟩
              have T5 := fun q => (Turn.of_quiet q (w := wr.alloc (.cells #[.string a.name, .int .u8 a.tag, .slice sa a.params.length sc] 57)) ⟨1, rfl⟩).trans (Turn.of_below q 5 hb5) (fun _ h => h)
              have HK5 := Lib.hid (HK2.out.turn (T5 _) (fun h => h))
              have HT5 := Lib.hid (HT2.out.turn (T5 _) (fun h => h) (fun h => h))
              have HP5 := Lib.hid (HP2.out.turn (T5 _) (fun h => h))
              have HY5 : Hid (Ints w5 _ 5 _ a.params) := Lib.hid (Own.made (ext q wr.heap.size 8) 5 k5).vals
              obtain ⟨ya, yc, rfl⟩ := owns_slice k5
              have v4 := HP5.out.cell 4 _ rfl
              have v1 := cell_later hb5 (show (World.drewN _ 1).cell? _ = _ from x1)
              have v2 := cell_later hb5 (show (World.drewN _ 1).cell? _ = _ from x2)
              clear T5 k5 hb5 HK2 HT2 HP2 HBX x1 x2 z4
              go_wp2_with fail
              refine ⟨fun _ _ => ⟨v4, v1, v2⟩, ?_⟩
              refine wpAnyT_one (i := 7) (by kernel_rfl) ?_
              simp only [pickOps, List.flatMap_cons, List.flatMap_nil, List.drop_succ_cons, List.drop_zero, List.take_succ_cons, List.take_zero, List.cons_append, List.nil_append, List.append_nil]
              go_wp2
              refine ⟨fun _ h => h, ?_⟩
              refine wpAnyT_one (i := 8) (by kernel_rfl) ?_
              simp only [pickOps, List.flatMap_cons, List.flatMap_nil, List.drop_succ_cons, List.drop_zero, List.take_succ_cons, List.take_zero, List.cons_append, List.nil_append, List.append_nil]
              go_wp2
              refine ⟨fun _ h => ⟨ca h.1, ca h.2.1, ca h.2.2⟩, ?_⟩
              refine wpAnyT_one (i := 9) (by kernel_rfl) ?_
              simp only [pickOps, List.flatMap_cons, List.flatMap_nil, List.drop_succ_cons, List.drop_zero, List.take_succ_cons, List.take_zero, List.cons_append, List.nil_append, List.append_nil]
              go_wp2_with (at_builtin; refine stop_here ?_)
              refine go_on ?_
              obtain ⟨i0, hi, hz0, hz1, hz2⟩ := info_parts info_Part
              have hpsl : ps.length = j := by have := congrArg List.length HPS.out; rw [List.length_map, List.length_take] at this; simp [partsP] at this; omega
              refine wpList_app rfl _ _ 35 rfl 0 108 i0 _ 2 32 Try.underlying35 hi hz0 hz1 hz2 rfl (.slice pa ps.length pc) ps.length _ rfl (HT5.out.own.1.alloc (.cells #[.int .u8 a.tag, .slice ya a.params.length yc] 108)) (some ⟨w5.heap.size, 0, none⟩) 1 1 [.int .u8 a.tag, .slice ya a.params.length yc] rfl rfl (fun h => by cases h) (news_alloc w5 [.int .u8 a.tag, .slice ya a.params.length yc] 108) (by simp [Value.oneCell']) (by unfold maxLen; omega) (grow_ok (by omega)) (Nat.zero_le _) ?_
              intro v6 w6 k1 k20 _ k4
              have hm : Mods (fun b => (Value.slice pa ps.length pc).ownBlock = some b) w5 w6 := ((Mods.refl _ w5).alloc _).grown k20 (fun b hb _ => hb)
              obtain ⟨z4, zf, T6, N6, B6⟩ := HT5.out.grow (a := (⟨a.tag, a.params⟩ : GPart)) (y := .slice ya a.params.length yc) (v' := v6) (w2 := w6) HP5.out (i := 4) (by decide) (by decide) (by decide) (by show 4 < 7; decide) HY5.out k1 hm (k4.imp id (fun k4 b hb => by rw [k4] at hb; have := Option.some.inj hb; simp at this; omega))
              obtain ⟨sp6, cp6, rfl⟩ := owns_slice k1
              have HK6 := Lib.hid (HK5.out.turn T6 (by decide))
              have HT6 := Lib.hid N6
              have HP6 := Lib.hid B6
              have HPS6 : Hid ((ps ++ [((⟨a.tag, a.params⟩ : GPart), Value.slice ya a.params.length yc)]).map Prod.fst = (partsP g.actors).take (j + 1)) := Lib.hid (by rw [HPJ.out, ← HPS.out]; simp)
              clear hpsl T6 N6 B6 k1 k20 k4 hm HT5 HP5 HK5 HY5 v1 v2 v4
              refine ⟨(fun h => by cases h), ?_⟩
              refine wpAnyT_list (ks := [10, 11]) (fun _ _ hx h => ⟨hx.cell h.1, hx.cell h.2.1, hx.cell h.2.2⟩) (by kernel_rfl) ?_
              simp only [pickOps, List.flatMap_cons, List.flatMap_nil, List.drop_succ_cons, List.drop_zero, List.take_succ_cons, List.take_zero, List.cons_append, List.nil_append, List.append_nil]
              go_wp2
              go_roundw
              case rel => exact ⟨j + 1, _, _, _, hlt, by go_num, HK6.out, HT6.out, HPS6.out, HP6.out⟩
              case measure => simp [intOf]; omega
            · obtain rfl : n = j := by omega
              clear hj hlt
              have hPS := HPS.out
              rw [List.take_of_length_le (by rw [partsP, List.length_map, HN.out]; exact Nat.le_refl _)] at hPS
              have HPA := Lib.hid hPS
              clear hPS HPS
              have hwA2 : Below wA.heap.size wA wr := by rw [hPB]; exact HKR.out.below
              have y2 := cell_later hwA2 (HGB.out.cell 2 _ rfl)
              clear hwA2 HBW
              go_wp2_with fail
              clear y2
              obtain ⟨E, hE⟩ : ∃ x, g.edges.length = x := ⟨_, rfl⟩
              have HE := Lib.hid hE
              have HRE := Lib.hid (fits_len HC4.out)
              have hE96 := HFO.out.edges
              rw [hE] at hE96 ⊢
              clear hE
              go_loopw [91] (fun i wl => ∃ (j : Nat) (q : Col) (vl : Value) (ls : List (GLine × Value)), j ≤ E ∧ i = .int .i64 j ∧ Kept PB q wA wl ∧ TailAt partHd GPart.params wl q 4 5 108 2 vp ps ∧ TailAt lineHd GLine.start wl q 6 7 87 3 vl ls ∧ ls.map Prod.fst = (linesP p.regions g.edges).take j ∧ Blk wl q 3 PB 39 #[.int .i64 p.total, .int .i64 rw9.2, .int .i64 g.ins.length, .int .i64 g.outs.length, vp, vl, .slice oa OPS.length oc']) (fun i _ => E - (intOf i).toNat)
              case atStart => exact ⟨0, _, _, [], Nat.zero_le _, rfl, HKR.out, HTA.out, TailAt.nil, rfl, HPR.out⟩
              case round =>
                clear HKR HTA HPR
                obtain ⟨j, q, vl, ls, hj, rfl, hK, hT, hL, hls, hB⟩ := hrel
                have HKR := Lib.hid hK
                have HTA := Lib.hid hT
                have HLA := Lib.hid hL
                have HPR := Lib.hid hB
                have HLS := Lib.hid hls
                clear hK hT hL hB hls
                have hwA : Below w.heap.size w wr := HK.out.below.trans (HKR.out.below.mono (by rw [← hPB]; exact HK.out.size))
                have HBW := Lib.hid hwA
                clear hwA
                by_cases hlt : j < E
                · have hlti : (j : Int) < E := by omega
                  have hlt2 : j < g.edges.length := by have := HE.out; omega
                  have hlt3 : j < p.regions.length := by have := HRE.out; omega
                  obtain ⟨b0, off, rfl, hcap, hb0, hrec⟩ := RE.out.at (by omega)
                  obtain ⟨cs, hcs, hPR, hcl⟩ := hrec j hlt2
                  obtain ⟨xs, rfl, hst⟩ := hPR
                  have c0 := cell_later HBW.out (hcl 0 (by omega))
                  have c1 := cell_later HBW.out (hcl 1 (by omega))
                  have c2 := cell_later HBW.out (hcl 2 (by omega))
                  have c3 := cell_later HBW.out (hcl 3 (by omega))
                  have c4 := cell_later HBW.out (hcl 4 (by omega))
                  simp at c0 c1 c2 c3 c4
                  have hcapi : (E : Int) ≤ ec := by have := HE.out; omega
                  have hst2 : Has w xs (ivs g.edges[j].start) := hst
                  obtain ⟨sa, sc, hxs⟩ := Ints.slice hst2
                  subst hxs
                  have HST := Lib.hid hst2
                  have hplen := starts_of HC1.out _ (List.getElem_mem hlt2)
                  have HPJ := Lib.hid (linesP_succ hlt3 hlt2)
                  obtain ⟨br, orr, rfl, hcr, hbr, hrecr⟩ := RR.out.at (by omega)
                  obtain ⟨csr, hcsr, hPRr, hclr⟩ := hrecr j hlt3
                  obtain rfl := hPRr
                  have d0 := cell_later HBW.out (hclr 0 (by omega))
                  have d1 := cell_later HBW.out (hclr 1 (by omega))
                  simp at d0 d1
                  have hcri : (p.regions.length : Int) ≤ rc := by omega
                  have hlt3i : (j : Int) < p.regions.length := by omega
                  have hwA2 : Below wA.heap.size wA wr := by rw [hPB]; exact HKR.out.below
                  have p0 := cell_later hwA2 (HPB.out.cell 0 _ rfl)
                  clear hcl hcs hrec hst hst2 hclr hcsr hrecr hwA2
                  generalize g.edges[j] = a at *
                  generalize p.regions[j] = rg at *
                  have hbX := below_alloc wr (.cells #[.int .i64 a.src, .int .i64 a.sport, .int .i64 a.dst, .int .i64 a.dport, .slice sa a.start.length sc] 63)
                  have hX := heap_alloc_new wr (.cells #[.int .i64 a.src, .int .i64 a.sport, .int .i64 a.dst, .int .i64 a.dport, .slice sa a.start.length sc] 63)
                  have x4 := cells_row _ _ hX 4 _ rfl
                  have TX := Turn.of_below q 8 hbX
                  have HK2 := Lib.hid (HKR.out.turn TX (fun h => h))
                  have HT2 := Lib.hid (HTA.out.turn TX (fun h => h) (fun h => h))
                  have HL2 := Lib.hid (HLA.out.turn TX (fun h => h) (fun h => h))
                  have HP2 := Lib.hid (HPR.out.turn TX (fun h => h))
                  have HBX := Lib.hid (HBW.out.trans (hbX.mono HBW.out.size))
                  have d0' := cell_later hbX d0
                  have d1' := cell_later hbX d1
                  have p0' := cell_later hbX p0
                  clear hbX hX TX HKR HTA HLA HPR HBW d0 d1 p0
                  obtain ⟨pa, pc, rfl⟩ := HL2.out.own.slice
                  have z4 := HP2.out.cell 5 _ rfl
                  go_wp2_with fail
                  clear c0 c1 c2 c3 c4
                  refine wp_region_rest (fun w' => w'.cell? ⟨PB, 5, none⟩ = some (.slice pa ls.length pc) ∧ w'.cell? ⟨w.heap.size + 1, 0, none⟩ = some (.slice (some ⟨br, orr, none⟩) p.regions.length rc) ∧ w'.cell? ⟨br, orr + j * 2, none⟩ = some (.int .i64 rg.base) ∧ w'.cell? ⟨br, orr + j * 2 + 1, none⟩ = some (.int .i64 rg.size) ∧ w'.cell? ⟨wr.heap.size, 4, none⟩ = some (.slice sa a.start.length sc)) [0, 1, 2, 3, 4, 5, 6, 7, 8] [9, 10] 6 (by kernel_rfl) (by kernel_rfl) rfl ⟨z4, p0', d0', d1', x4⟩ ?_
                  intro Q' hQ'
                  simp only [pickOps, List.flatMap_cons, List.flatMap_nil, List.drop_succ_cons, List.drop_zero, List.take_succ_cons, List.take_zero, List.cons_append, List.nil_append, List.append_nil]
                  repeat (first
                    | (refine wpReads_skip (by rfl) ?_; (try simp only [Act.put, List.setIfInBounds_toArray, List.set_cons_zero, List.set_cons_succ]))
                    | (refine wpReads_cons ?_ (by rfl) (by rfl) ?_ ?_; rotate_left; (intro wz hz; (try dsimp only at hz); go_simp; try with_reducible rfl); (try simp only [Act.put, List.setIfInBounds_toArray, List.set_cons_zero, List.set_cons_succ]))
                    | (refine wpReads_any ?_ (by rfl) ?_ ?_; rotate_left; (intro wz; go_simp; try with_reducible rfl); (try simp only [Act.put, List.setIfInBounds_toArray, List.set_cons_zero, List.set_cons_succ])))
                  refine wpReads_nil ?_
                  refine wpAnyT_one (i := 9) (by kernel_rfl) ?_
                  simp only [pickOps, List.flatMap_cons, List.flatMap_nil, List.drop_succ_cons, List.drop_zero, List.take_succ_cons, List.take_zero, List.cons_append, List.nil_append, List.append_nil]
                  go_wp2_with fail
                  refine (eown_any (o := fun _ => 0) (c := 0) _ sa _ sc a.start (HST.out.below (below_dr (n := 1) HBX.out)) (by omega)).mono ?_
                  rintro e w5 ⟨y, rfl, k5, hb5⟩
                  have T5 := fun q => (Turn.of_quiet q (w := wr.alloc (.cells #[.int .i64 a.src, .int .i64 a.sport, .int .i64 a.dst, .int .i64 a.dport, .slice sa a.start.length sc] 63)) ⟨1, rfl⟩).trans (Turn.of_below q 7 hb5) (fun _ h => h)
                  have HK5 := Lib.hid (HK2.out.turn (T5 _) (fun h => h))
                  have HT5 := Lib.hid (HT2.out.turn (T5 _) (fun h => h) (fun h => h))
                  have HL5 := Lib.hid (HL2.out.turn (T5 _) (fun h => h) (fun h => h))
                  have HP5 := Lib.hid (HP2.out.turn (T5 _) (fun h => h))
                  have HY5 : Hid (Ints w5 _ 7 _ a.start) := Lib.hid (Own.made (ext q wr.heap.size 8) 7 k5).vals
                  obtain ⟨ya, yc, rfl⟩ := owns_slice k5
                  have v4 := HP5.out.cell 5 _ rfl
                  have v0 := cell_later hb5 (show (World.drewN _ 1).cell? _ = _ from p0')
                  have v1 := cell_later hb5 (show (World.drewN _ 1).cell? _ = _ from d0')
                  have v2 := cell_later hb5 (show (World.drewN _ 1).cell? _ = _ from d1')
                  have v3 := cell_later hb5 (show (World.drewN _ 1).cell? _ = _ from x4)
                  clear T5 k5 hb5 HK2 HT2 HL2 HP2 HBX p0' d0' d1' x4 z4
                  go_wp2_with fail
                  refine ⟨fun _ _ => ⟨v4, v0, v1, v2, v3⟩, ?_⟩
                  refine wpAnyT_one (i := 10) (by kernel_rfl) ?_
                  simp only [pickOps, List.flatMap_cons, List.flatMap_nil, List.drop_succ_cons, List.drop_zero, List.take_succ_cons, List.take_zero, List.cons_append, List.nil_append, List.append_nil]
                  go_wp2
                  refine ⟨fun _ h => h, ?_⟩
                  refine wpAnyT_one (i := 11) (by kernel_rfl) ?_
                  simp only [pickOps, List.flatMap_cons, List.flatMap_nil, List.drop_succ_cons, List.drop_zero, List.take_succ_cons, List.take_zero, List.cons_append, List.nil_append, List.append_nil]
                  go_wp2
                  refine ⟨fun _ h => ⟨ca h.1, ca h.2.1, ca h.2.2.1, ca h.2.2.2.1, ca h.2.2.2.2⟩, ?_⟩
                  refine wpAnyT_one (i := 12) (by kernel_rfl) ?_
                  simp only [pickOps, List.flatMap_cons, List.flatMap_nil, List.drop_succ_cons, List.drop_zero, List.take_succ_cons, List.take_zero, List.cons_append, List.nil_append, List.append_nil]
                  go_wp2_with (at_builtin; refine stop_here ?_)
                  refine go_on ?_
                  obtain ⟨i0, hi, hz0, hz1, hz2⟩ := info_parts info_Line
                  have hlsl : ls.length = j := by have := congrArg List.length HLS.out; rw [List.length_map, List.length_take] at this; simp [linesP] at this; omega
                  refine wpList_app rfl _ _ 36 rfl 0 87 i0 _ 3 40 Try.underlying36 hi hz0 hz1 hz2 rfl (.slice pa ls.length pc) ls.length _ rfl (HL5.out.own.1.alloc (.cells #[.int .i64 rg.base, .int .i64 rg.size, .slice ya a.start.length yc] 87)) (some ⟨w5.heap.size, 0, none⟩) 1 1 [.int .i64 rg.base, .int .i64 rg.size, .slice ya a.start.length yc] rfl rfl (fun h => by cases h) (news_alloc w5 [.int .i64 rg.base, .int .i64 rg.size, .slice ya a.start.length yc] 87) (by simp [Value.oneCell']) (by unfold maxLen; omega) (grow_ok (by omega)) (Nat.zero_le _) ?_
                  intro v6 w6 k1 k20 _ k4
                  have hm : Mods (fun b => (Value.slice pa ls.length pc).ownBlock = some b) w5 w6 := ((Mods.refl _ w5).alloc _).grown k20 (fun b hb _ => hb)
                  obtain ⟨z4, zf, T6, N6, B6⟩ := HL5.out.grow (a := (⟨rg.base, rg.size, a.start⟩ : GLine)) (y := .slice ya a.start.length yc) (v' := v6) (w2 := w6) HP5.out (i := 5) (by decide) (by decide) (by decide) (by show 5 < 7; decide) HY5.out k1 hm (k4.imp id (fun k4 b hb => by rw [k4] at hb; have := Option.some.inj hb; simp at this; omega))
                  obtain ⟨sp6, cp6, rfl⟩ := owns_slice k1
                  have HK6 := Lib.hid (HK5.out.turn T6 (by decide))
                  have HT6 := Lib.hid (HT5.out.turn T6 (by decide) (by decide))
                  have HL6 := Lib.hid N6
                  have HP6 := Lib.hid B6
                  have HLS6 : Hid ((ls ++ [((⟨rg.base, rg.size, a.start⟩ : GLine), Value.slice ya a.start.length yc)]).map Prod.fst = (linesP p.regions g.edges).take (j + 1)) := Lib.hid (by rw [HPJ.out, ← HLS.out]; simp)
                  clear hlsl T6 N6 B6 k1 k20 k4 hm HT5 HL5 HP5 HK5 HY5 v0 v1 v2 v3 v4
                  refine ⟨(fun h => by cases h), ?_⟩
                  refine wpAnyT_list (ks := [13, 14]) (fun _ _ hx h => ⟨hx.cell h.1, hx.cell h.2.1, hx.cell h.2.2.1, hx.cell h.2.2.2.1, hx.cell h.2.2.2.2⟩) (by kernel_rfl) ?_
                  simp only [pickOps, List.flatMap_cons, List.flatMap_nil, List.drop_succ_cons, List.drop_zero, List.take_succ_cons, List.take_zero, List.cons_append, List.nil_append, List.append_nil]
                  go_wp2
                  go_roundw
                  case rel => exact ⟨j + 1, _, _, _, hlt, by go_num, HK6.out, HT6.out, HL6.out, HLS6.out, HP6.out⟩
                  case measure => simp [intOf]; omega
                · obtain rfl : E = j := by omega
                  clear hj hlt
                  have hLS := HLS.out
                  rw [List.take_of_length_le (by have := HE.out; simp [linesP]; omega)] at hLS
                  have hwA2 : Below wA.heap.size wA wr := by rw [hPB]; exact HKR.out.below
                  have hRB : Blk wr (fun _ => 9) 9 (w.heap.size + 2) 39 progZ := ⟨(hwA2.block _ HR.out.lt).trans HR.out.1, rfl⟩
                  have HRB := Lib.hid hRB
                  have hRP : w.heap.size + 2 < PB := by rw [← hPB]; exact HR.out.lt
                  have hBF : Below w.heap.size w wr := HK.out.below.trans (HKR.out.below.mono (by rw [← hPB]; exact HK.out.size))
                  have hsF : w.heap.size ≤ wr.heap.size := by have := HRB.out.lt; omega
                  have HBF := Lib.hid hBF
                  have HOWr := Lib.hid (HOW.out.below hwA2)
                  clear hwA2 hRB hBF HLS
                  obtain ⟨pa, pc, rfl⟩ := HTA.out.own.slice
                  obtain ⟨la', lc', rfl⟩ := HLA.out.own.slice
                  have s0 := HPR.out.cell 0 _ rfl
                  have s1 := HPR.out.cell 1 _ rfl
                  have s2 := HPR.out.cell 2 _ rfl
                  have s3 := HPR.out.cell 3 _ rfl
                  have s4 := HPR.out.cell 4 _ rfl
                  have s5 := HPR.out.cell 5 _ rfl
                  have s6 := HPR.out.cell 6 _ rfl
                  have z0 := HRB.out.cell 0 _ rfl
                  have z1 := HRB.out.cell 1 _ rfl
                  have z2 := HRB.out.cell 2 _ rfl
                  have z3 := HRB.out.cell 3 _ rfl
                  have z4 := HRB.out.cell 4 _ rfl
                  have z5 := HRB.out.cell 5 _ rfl
                  have z6 := HRB.out.cell 6 _ rfl
                  have f0 := HRB.out.frozen 0
                  have f1 := HRB.out.frozen 1
                  have f2 := HRB.out.frozen 2
                  have f3 := HRB.out.frozen 3
                  have f4 := HRB.out.frozen 4
                  have f5 := HRB.out.frozen 5
                  have f6 := HRB.out.frozen 6
                  have e0 : makeE g p l = 0 := by rw [makeE, if_neg (by simp [HC1.out]), if_neg (by simp [HC2.out]), HC3.out, if_neg (by simp), HC4.out, if_pos rfl]
                  have HE0 := Lib.hid e0
                  have HLS := Lib.hid hLS
                  clear e0 hLS
                  go_wp2
                  refine bodyPost_ret_by (results_row_tmp rfl _ _ _ _ _ _ _ rfl (prog_set HRB.out.1 _ _ _ _ _ _ _) Try.underlying39 rfl (by kernel_rfl)) rfl ?_
                  have T : Turn q q (fun x => x = 0) wr (setProg wr (w.heap.size + 2) (.int .i64 p.total) (.int .i64 rw9.2) (.int .i64 g.ins.length) (.int .i64 g.outs.length) (.slice pa ps.length pc) (.slice la' ls.length lc') (.slice oa OPS.length oc')) := ⟨(prog_mods wr _ _ _ _ _ _ _ _).mono (fun k _ e => by subst e; exact HKR.out.old _ hRP), fun _ _ => rfl⟩
                  refine ⟨_, by rw [HE0.out]; rfl, fun w'' mw => ?_, prog_below HBF.out hsF (by omega) _ _ _ _ _ _ _⟩
                  replace T := T.trans (⟨mw.mono (fun k _ e => HKR.out.old _ (by omega)), fun _ _ => rfl⟩ : Turn q q (fun x => x = 0) _ w'') (fun _ h => h)
                  rw [makeP, if_pos HE0.out]
                  refine ⟨_, _, _, by rw [makeG, HRW.out], ?_, ?_, ?_⟩
                  · have := TailAt.recs (show ∀ a, (partHd a).length + 1 = 2 from fun _ => rfl) (HTA.out.turn T (by decide) (by decide))
                    rw [HPA.out] at this
                    exact this
                  · have := TailAt.recs (show ∀ a, (lineHd a).length + 1 = 3 from fun _ => rfl) (HLA.out.turn T (by decide) (by decide))
                    rw [HLS.out] at this
                    exact this
                  · have := (HOWr.out.mods (prog_mods wr (w.heap.size + 2) (.int .i64 p.total) (.int .i64 rw9.2) (.int .i64 g.ins.length) (.int .i64 g.outs.length) (.slice pa ps.length pc) (.slice la' ls.length lc') (.slice oa OPS.length oc')) (fun ad e1 e2 => by have := HOB.out ad e1; omega)).mods mw (fun ad e1 e2 => by have := HOB.out ad e1; omega)
                    rw [makeG, HRW.out, HOP.out]
                    exact this
        · have e4 : fitsP g p = false := by simpa using h4
          have e : makeE g p l = 210 := by rw [makeE, if_neg (by simp [HC1.out]), if_neg (by simp [HC2.out]), HC3.out, if_neg (by simp), e4, if_neg (by simp)]
          rw [e4]
          clear h4
          have z0 := HR.out.cell 0 _ rfl
          have z1 := HR.out.cell 1 _ rfl
          have z2 := HR.out.cell 2 _ rfl
          have z3 := HR.out.cell 3 _ rfl
          have z4 := HR.out.cell 4 _ rfl
          have z5 := HR.out.cell 5 _ rfl
          have z6 := HR.out.cell 6 _ rfl
          have f0 := HR.out.frozen 0
          have f1 := HR.out.frozen 1
          have f2 := HR.out.frozen 2
          have f3 := HR.out.frozen 3
          have f4 := HR.out.frozen 4
          have f5 := HR.out.frozen 5
          have f6 := HR.out.frozen 6
          go_wp2
          refine bodyPost_ret_by (results_row_tmp rfl _ _ _ _ _ _ _ rfl (prog_set HR.out.1 _ _ _ _ _ _ _) Try.underlying39 rfl (by kernel_rfl)) rfl ?_
          refine ⟨_, by first | rfl | (rw [← e]; rfl), fun w'' _ => ?_, prog_below HK.out.below HK.out.size (by omega) _ _ _ _ _ _ _⟩
          rw [makeP, if_neg (by rw [e]; decide)]
          exact hasProg_zero _
      · have e3 : strangeP l g.actors.length = true := by simpa using h3
        have e : makeE g p l = 100 := by rw [makeE, if_neg (by simp [HC1.out]), if_neg (by simp [HC2.out]), if_pos e3]
        rw [e3]
        clear h3
        have z0 := HR.out.cell 0 _ rfl
        have z1 := HR.out.cell 1 _ rfl
        have z2 := HR.out.cell 2 _ rfl
        have z3 := HR.out.cell 3 _ rfl
        have z4 := HR.out.cell 4 _ rfl
        have z5 := HR.out.cell 5 _ rfl
        have z6 := HR.out.cell 6 _ rfl
        have f0 := HR.out.frozen 0
        have f1 := HR.out.frozen 1
        have f2 := HR.out.frozen 2
        have f3 := HR.out.frozen 3
        have f4 := HR.out.frozen 4
        have f5 := HR.out.frozen 5
        have f6 := HR.out.frozen 6
        go_wp2
        refine bodyPost_ret_by (results_row_tmp rfl _ _ _ _ _ _ _ rfl (prog_set HR.out.1 _ _ _ _ _ _ _) Try.underlying39 rfl (by kernel_rfl)) rfl ?_
        refine ⟨_, by first | rfl | (rw [← e]; rfl), fun w'' _ => ?_, prog_below HK.out.below HK.out.size (by omega) _ _ _ _ _ _ _⟩
        rw [makeP, if_neg (by rw [e]; decide)]
        exact hasProg_zero _
    · have e : makeE g p l = nestCheckE l := by rw [makeE, if_neg (by simp [HC1.out]), if_pos h2]
      obtain ⟨E, hE⟩ : ∃ x, nestCheckE l = x := ⟨_, rfl⟩
      rw [hE] at h2 e ⊢
      clear hE
      have z0 := HR.out.cell 0 _ rfl
      have z1 := HR.out.cell 1 _ rfl
      have z2 := HR.out.cell 2 _ rfl
      have z3 := HR.out.cell 3 _ rfl
      have z4 := HR.out.cell 4 _ rfl
      have z5 := HR.out.cell 5 _ rfl
      have z6 := HR.out.cell 6 _ rfl
      have f0 := HR.out.frozen 0
      have f1 := HR.out.frozen 1
      have f2 := HR.out.frozen 2
      have f3 := HR.out.frozen 3
      have f4 := HR.out.frozen 4
      have f5 := HR.out.frozen 5
      have f6 := HR.out.frozen 6
      go_wp2
      refine bodyPost_ret_by (results_row_tmp rfl _ _ _ _ _ _ _ rfl (prog_set HR.out.1 _ _ _ _ _ _ _) Try.underlying39 rfl (by kernel_rfl)) rfl ?_
      refine ⟨_, by first | rfl | (rw [← e]; rfl), fun w'' _ => ?_, prog_below HK.out.below HK.out.size (by omega) _ _ _ _ _ _ _⟩
      rw [makeP, if_neg (by rw [e]; exact h2)]
      exact hasProg_zero _
  · have e : makeE g p l = checkE g := by rw [makeE, if_pos h1]
    obtain ⟨E, hE⟩ : ∃ x, checkE g = x := ⟨_, rfl⟩
    rw [hE] at h1 e ⊢
    clear hE
    have z0 := HR.out.cell 0 _ rfl
    have z1 := HR.out.cell 1 _ rfl
    have z2 := HR.out.cell 2 _ rfl
    have z3 := HR.out.cell 3 _ rfl
    have z4 := HR.out.cell 4 _ rfl
    have z5 := HR.out.cell 5 _ rfl
    have z6 := HR.out.cell 6 _ rfl
    have f0 := HR.out.frozen 0
    have f1 := HR.out.frozen 1
    have f2 := HR.out.frozen 2
    have f3 := HR.out.frozen 3
    have f4 := HR.out.frozen 4
    have f5 := HR.out.frozen 5
    have f6 := HR.out.frozen 6
    go_wp2
    refine bodyPost_ret_by (results_row_tmp rfl _ _ _ _ _ _ _ rfl (prog_set HR.out.1 _ _ _ _ _ _ _) Try.underlying39 rfl (by kernel_rfl)) rfl ?_
    refine ⟨_, by first | rfl | (rw [← e]; rfl), fun w'' _ => ?_, prog_below HK.out.below HK.out.size (by omega) _ _ _ _ _ _ _⟩
    rw [makeP, if_neg (by rw [e]; exact h1)]
    exact hasProg_zero _
theorem make_any (D : Nat) (w : World) (vg vp v : Value) (g : GGraph) (p : GPlan) (l : Nest) (hg : HasGraph w vg g) (hp : HasPlan w vp p) (hv : HasNestD D w v l) (hgs : GSized g) (hns : NSized l) : Calls Try.prog 13 #[vg, vp, v] w (MakeRet w g p l) := by
  refine (make_fresh D w vg vp v g p l hg hp hv hgs hns).mono ?_
  rintro e w' ⟨v, h1, h2, h3⟩
  exact ⟨v, h1, h2 _ (Mods.refl _ _), h3⟩
end Go.Proofs.Ytbmbfifempkhgaa
