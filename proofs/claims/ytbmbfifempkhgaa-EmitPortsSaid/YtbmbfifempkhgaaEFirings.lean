/- emit's firings. -/
import Derived.Test.YtbmbfifempkhgaaEFa
import Derived.Test.YtbmbfifempkhgaaERowP
import Derived.Test.YtbmbfifempkhgaaOfAll
import Derived.Test.YtbmbfifempkhgaaReg2
import Derived.Test.YtbmbfifempkhgaaGActors
import Derived.Deep.Cut
import Derived.Deep.CutRange
namespace Go.Proofs.Ytbmbfifempkhgaa
open Go.RowKit

/-- what firings answers -/
def FirRet (w : World) (g : GGraph) (e : Ending) (w' : World) : Prop := ∃ v vs o', e = .returned v ∧ Kept w.heap.size o' w w' ∧ OpM w' o' 1 2 v (firP g) vs



set_option maxRecDepth 100000 in
set_option maxHeartbeats 4000000 in
theorem firings_any (w : World) (vg : Value) (g : GGraph) (hg : HasGraph w vg g) (hok : FirOk g) : Calls Try.prog 43 #[vg] w (FirRet w g) := by
  obtain ⟨va, ve, vi, vo, rfl, ra, re, ri, ro⟩ := hg.shape
  obtain ⟨aa, ac, rfl⟩ := ra.slice
  obtain ⟨ae, ec, rfl⟩ := re.slice
  obtain ⟨ai, ic, rfl⟩ := ri.slice
  obtain ⟨ao, oc, rfl⟩ := ro.slice
  have RA := Lib.hid ra
  have RE := Lib.hid re
  have RI := Lib.hid ri
  have RO := Lib.hid ro
  have OK := Lib.hid hok
  have hn32 := hok.actors
  clear ra re ri ro hok hg
  obtain ⟨n, hn⟩ : ∃ n, g.actors.length = n := ⟨_, rfl⟩
  have HN := Lib.hid hn
  rw [hn] at hn32 ⊢
  clear hn
  have hb1 := below_alloc w (.cells #[.string g.name, .slice aa n ac, .slice ae g.edges.length ec, .slice ai g.ins.length ic, .slice ao g.outs.length oc] 26)
  have hG := heap_alloc_new w (.cells #[.string g.name, .slice aa n ac, .slice ae g.edges.length ec, .slice ai g.ins.length ic, .slice ao g.outs.length oc] 26)
  have HK1 := Lib.hid ((Kept.start w).of_below 5 hb1)
  have HG1 : Hid (Blk _ (ext (fun _ => 0) w.heap.size 5) 5 w.heap.size 26 _) := Lib.hid ⟨hG, ext_new (Nat.le_refl _)⟩
  clear hb1 hG
  generalize hW : w.alloc (.cells #[.string g.name, .slice aa n ac, .slice ae g.edges.length ec, .slice ai g.ins.length ic, .slice ao g.outs.length oc] 26) = W at *
  generalize ext (fun _ => 0) w.heap.size 5 = q0 at *
  have m1 := make_opss W n (by omega)
  have hI0 := opM_new W q0 1 2 n (by omega)
  have T1 := (Turn.of_below q0 1 (below_alloc W (.cells (Array.replicate n (.slice none 0 0)) 37)))
  generalize hW1 : W.alloc (.cells (Array.replicate n (.slice none 0 0)) 37) = W1 at *
  obtain ⟨gI, hgI⟩ : ∃ x, W.heap.size = x := ⟨_, rfl⟩
  rw [hgI] at m1 hI0 T1
  have HK2 := HK1.out.turn T1 (fun h => h)
  have HG2 := HG1.out.turn T1 (fun h => h)
  generalize ext q0 gI 1 = q1 at *
  have m2 := make_opss W1 n (by omega)
  have hO0 := opM_new W1 q1 3 4 n (by omega)
  have T2 := (Turn.of_below q1 3 (below_alloc W1 (.cells (Array.replicate n (.slice none 0 0)) 37)))
  generalize hW2 : W1.alloc (.cells (Array.replicate n (.slice none 0 0)) 37) = W2 at *
  obtain ⟨gO, hgO⟩ : ∃ x, W1.heap.size = x := ⟨_, rfl⟩
  rw [hgO] at m2 hO0 T2
  have HK3 := Lib.hid (HK2.turn T2 (fun h => h))
  have HG3 := Lib.hid (HG2.turn T2 (fun h => h))
  have HT3 : Hid (TwoM W2 _ _ _ _ _) := Lib.hid ⟨_, _, hI0.turn T2 (fun h => h) (fun h => h), hO0⟩
  generalize ext q1 gO 3 = q2 at *
  have y1 := HG1.out.cell 1 _ rfl
  have y2 := HG2.cell 1 _ rfl
  have y3 := HG3.out.cell 1 _ rfl
  clear HK1 HG1 hI0 T1 HK2 HG2 hO0 T2 hW1 hW2 hgI hgO
  go_enter Try.func43, Try.ntmps43
  go_wp2_with fail
  clear hW m1 m2 y1 y2 y3
  go_loopw [33] (fun i wr => ∃ (j : Nat) (q : Col), j ≤ n ∧ i = .int .i64 j ∧ Kept w.heap.size q w wr ∧ Blk wr q 5 w.heap.size 26 #[.string g.name, .slice aa n ac, .slice ae g.edges.length ec, .slice ai g.ins.length ic, .slice ao g.outs.length oc] ∧ TwoM wr q (.slice (some ⟨gI, 0, none⟩) n n) (.slice (some ⟨gO, 0, none⟩) n n) (rowJ (insF g) n j) (rowJ (outsF g) n j)) (fun i _ => n - (intOf i).toNat)
  case atStart => exact ⟨0, q2, Nat.zero_le _, rfl, HK3.out, HG3.out, HT3.out⟩
  case round =>
    clear HK3 HG3 HT3
    obtain ⟨j, q, hj, rfl, hK, hGr, hT⟩ := hrel
    have HK := Lib.hid hK
    have HG := Lib.hid hGr
    have HT := Lib.hid hT
    clear hK hGr hT
    by_cases hlt : j < n
    · have hlti : (j : Int) < n := by omega
      have hlt2 : j < g.actors.length := by have := HN.out; omega
      obtain ⟨b0, off, rfl, hcap, hb0, hrec⟩ := RA.out.at (by omega)
      obtain ⟨cs, hcs, hPR, hcl⟩ := hrec j hlt2
      obtain ⟨xs, rfl, hst⟩ := hPR
      have c0 := cell_later HK.out.below (hcl 0 (by omega))
      have c1 := cell_later HK.out.below (hcl 1 (by omega))
      have c2 := cell_later HK.out.below (hcl 2 (by omega))
      simp at c0 c1 c2
      have hcapi : (n : Int) ≤ ac := by have := HN.out; omega
      have hst2 : Has w xs (ivs g.actors[j].params) := hst
      obtain ⟨sa, sc, hxs⟩ := Ints.slice hst2
      subst hxs
      have HST := Lib.hid hst2
      have HGD := Lib.hid (OK.out.good _ (List.getElem_mem hlt2))
      have HFI : Hid (insF g j = rateL (insP g.actors[j].tag g.actors[j].params)) := Lib.hid (by unfold insF; rw [List.getElem?_eq_getElem hlt2])
      have HFO : Hid (outsF g j = rateL (outsP g.actors[j].tag g.actors[j].params)) := Lib.hid (by unfold outsF; rw [List.getElem?_eq_getElem hlt2])
      clear hcl hcs hrec hst hst2
      generalize g.actors[j] = p at *
      have hbX := below_alloc wr (.cells #[.string p.name, .int .u8 p.tag, .slice sa p.params.length sc] 57)
      have hX := heap_alloc_new wr (.cells #[.string p.name, .int .u8 p.tag, .slice sa p.params.length sc] 57)
      have x1 := cells_row _ _ hX 1 _ rfl
      have x2 := cells_row _ _ hX 2 _ rfl
      have TX := Turn.of_below q 5 hbX
      have HK2 := Lib.hid (HK.out.turn TX (fun h => h))
      have HG2 := Lib.hid (HG.out.turn TX (fun h => h))
      have HT2 := Lib.hid (HT.out.turn TX (fun _ _ h => h))
      have HP2 : Hid (Has _ (.slice sa p.params.length sc) (ivs p.params)) := Lib.hid (HST.out.below HK2.out.below)
      clear hbX hX TX HK HG HT
      go_wp2_with fail
      refine (of_ok _ p.tag sa _ sc p.params HGD.out.1 HGD.out.2 HP2.out).mono ?_
      rintro e w5 ⟨vti, vto, rfl, p1, p2, hb5⟩
      obtain ⟨a1, c1', rfl⟩ := owns_slice p1
      obtain ⟨a2, c2', rfl⟩ := owns_slice p2
      have T5 := Turn.of_below (ext q wr.heap.size 5) 5 hb5
      have HK5 := Lib.hid (HK2.out.turn T5 (fun h => h))
      have HG5 := Lib.hid (HG2.out.turn T5 (fun h => h))
      have HT5 := Lib.hid (HT2.out.turn T5 (fun _ _ h => h))
      have HI5 : Hid (Ints w5 _ 5 _ (insP p.tag p.params)) := Lib.hid ((Own.made (ext q wr.heap.size 5) 5 p1).vals)
      have HO5 : Hid (Ints w5 _ 5 _ (outsP p.tag p.params)) := Lib.hid ((Own.made (ext q wr.heap.size 5) 5 p2).vals)
      have HSL := Lib.hid (shape_len HGD.out.1)
      clear p1 p2 hb5 T5 x1 x2 HK2 HG2 HT2 HP2
      generalize ext (ext q wr.heap.size 5) _ 5 = q5 at *
      obtain ⟨lI, hlI⟩ : ∃ x, insP p.tag p.params = x := ⟨_, rfl⟩
      obtain ⟨lO, hlO⟩ : ∃ x, outsP p.tag p.params = x := ⟨_, rfl⟩
      rw [hlI] at HI5 HFI HSL ⊢
      rw [hlO] at HO5 HFO HSL ⊢
      clear hlI hlO
      go_wp2_with fail
      go_cut [33] from 33 to 91 (fun i wx => i = .int .i64 j ∧ ∃ q7, Turn q5 q7 ColM w5 wx ∧ TwoM wx q7 (.slice (some ⟨gI, 0, none⟩) n n) (.slice (some ⟨gO, 0, none⟩) n n) ((rowJ (insF g) n j).set j (zeroL lI.length)) ((rowJ (outsF g) n j).set j (zeroL lO.length)))
      case first =>
        have h16 := HSL.out
        have mkI := fun w => make_ops w lI.length (by omega)
        have mkO := fun w => make_ops w lO.length (by omega)
        have HLI := Lib.hid (rowJ_len (insF g) n j)
        have HLO := Lib.hid (rowJ_len (outsF g) n j)
        refine wp_region_rest (fun _ => True) [0, 1, 2, 3, 4, 5, 7, 8] [6, 9, 10, 11, 12, 13] 6 (by kernel_rfl) (by kernel_rfl) rfl trivial ?_
        intro Q' hQ'
        simp only [pickOps, List.flatMap_cons, List.flatMap_nil, List.drop_succ_cons, List.drop_zero, List.take_succ_cons, List.take_zero, List.cons_append, List.nil_append, List.append_nil]
        repeat (first
          | (refine wpReads_skip (by rfl) ?_; (try simp only [Act.put, List.setIfInBounds_toArray, List.set_cons_zero, List.set_cons_succ]))
          | (refine wpReads_cons ?_ (by rfl) (by rfl) ?_ ?_; rotate_left; (intro wz hz; (try dsimp only at hz); go_simp; try with_reducible rfl); (try simp only [Act.put, List.setIfInBounds_toArray, List.set_cons_zero, List.set_cons_succ]))
          | (refine wpReads_any ?_ (by rfl) ?_ ?_; rotate_left; (intro wz; go_simp; try with_reducible rfl); (try simp only [Act.put, List.setIfInBounds_toArray, List.set_cons_zero, List.set_cons_succ])))
        refine wpReads_nil ?_
        refine wpAnyT_two (i := 6) (k := 9) (by kernel_rfl) ?_ ?_
        · simp only [pickOps, List.flatMap_cons, List.flatMap_nil, List.drop_succ_cons, List.drop_zero, List.take_succ_cons, List.take_zero, List.cons_append, List.nil_append, List.append_nil]
          go_wp2
          refine ⟨fun _ _ => trivial, ?_⟩
          refine wpAnyT_two (i := 9) (k := 10) (by kernel_rfl) ?_ ?_
          · simp only [pickOps, List.flatMap_cons, List.flatMap_nil, List.drop_succ_cons, List.drop_zero, List.take_succ_cons, List.take_zero, List.cons_append, List.nil_append, List.append_nil]
            go_wp2
            refine ⟨fun _ _ => trivial, ?_⟩
            obtain ⟨⟨x1, x2, x3, f1⟩, f2, ⟨y1, y2, y3, f3⟩, f4, q', T7, D7⟩ := makes_A (a := lI.length) (b := lO.length) HT5.out (by rw [HLI.out]; exact hlt) (by rw [HLO.out]; exact hlt) (by omega) (by omega) w5.heap.size rfl
            have HT7 := Lib.hid T7
            have HD7 := Lib.hid D7
            clear T7 D7
            refine wpAnyT_one (i := 10) (by kernel_rfl) ?_
            simp only [pickOps, List.flatMap_cons, List.flatMap_nil, List.drop_succ_cons, List.drop_zero, List.take_succ_cons, List.take_zero, List.cons_append, List.nil_append, List.append_nil]
            go_wp2
            refine ⟨fun _ _ => trivial, ?_⟩
            refine wpAnyT_one (i := 11) (by kernel_rfl) ?_
            simp only [pickOps, List.flatMap_cons, List.flatMap_nil, List.drop_succ_cons, List.drop_zero, List.take_succ_cons, List.take_zero, List.cons_append, List.nil_append, List.append_nil]
            go_wp2
            refine ⟨fun _ _ => trivial, ?_⟩
            refine wpAnyT_one (i := 12) (by kernel_rfl) ?_
            simp only [pickOps, List.flatMap_cons, List.flatMap_nil, List.drop_succ_cons, List.drop_zero, List.take_succ_cons, List.take_zero, List.cons_append, List.nil_append, List.append_nil]
            go_wp2
            refine ⟨fun _ _ => trivial, ?_⟩
            refine wpAnyT_one (i := 13) (by kernel_rfl) ?_
            simp only [pickOps, List.flatMap_cons, List.flatMap_nil, List.drop_succ_cons, List.drop_zero, List.take_succ_cons, List.take_zero, List.cons_append, List.nil_append, List.append_nil]
            go_wp2
            refine ⟨fun _ _ => trivial, ?_⟩
            refine ⟨by kernel_rfl, hQ' _ _ ?_⟩
            go_wp2
            go_meet
            case rel => exact ⟨rfl, q', HT7.out.drew, HD7.out.turn (Turn.of_quiet q' ⟨1, rfl⟩) (fun _ _ h => h)⟩
          · simp only [pickOps, List.flatMap_cons, List.flatMap_nil, List.drop_succ_cons, List.drop_zero, List.take_succ_cons, List.take_zero, List.cons_append, List.nil_append, List.append_nil]
            go_wp2
            refine ⟨fun _ _ => trivial, ?_⟩
            refine wpAnyT_two (i := 9) (k := 11) (by kernel_rfl) ?_ ?_
            · simp only [pickOps, List.flatMap_cons, List.flatMap_nil, List.drop_succ_cons, List.drop_zero, List.take_succ_cons, List.take_zero, List.cons_append, List.nil_append, List.append_nil]
              go_wp2
              refine ⟨fun _ _ => trivial, ?_⟩
              obtain ⟨⟨x1, x2, x3, f1⟩, f2, ⟨y1, y2, y3, f3⟩, f4, q', T7, D7⟩ := makes_A (a := lI.length) (b := lO.length) HT5.out (by rw [HLI.out]; exact hlt) (by rw [HLO.out]; exact hlt) (by omega) (by omega) w5.heap.size rfl
              have HT7 := Lib.hid T7
              have HD7 := Lib.hid D7
              clear T7 D7
              refine wpAnyT_one (i := 11) (by kernel_rfl) ?_
              simp only [pickOps, List.flatMap_cons, List.flatMap_nil, List.drop_succ_cons, List.drop_zero, List.take_succ_cons, List.take_zero, List.cons_append, List.nil_append, List.append_nil]
              go_wp2
              refine ⟨fun _ _ => trivial, ?_⟩
              refine wpAnyT_one (i := 12) (by kernel_rfl) ?_
              simp only [pickOps, List.flatMap_cons, List.flatMap_nil, List.drop_succ_cons, List.drop_zero, List.take_succ_cons, List.take_zero, List.cons_append, List.nil_append, List.append_nil]
              go_wp2
              refine ⟨fun _ _ => trivial, ?_⟩
              refine wpAnyT_one (i := 13) (by kernel_rfl) ?_
              simp only [pickOps, List.flatMap_cons, List.flatMap_nil, List.drop_succ_cons, List.drop_zero, List.take_succ_cons, List.take_zero, List.cons_append, List.nil_append, List.append_nil]
              go_wp2
              refine ⟨fun _ _ => trivial, ?_⟩
              refine ⟨by kernel_rfl, hQ' _ _ ?_⟩
              go_wp2
              go_meet
              case rel => exact ⟨rfl, q', HT7.out.drew, HD7.out.turn (Turn.of_quiet q' ⟨1, rfl⟩) (fun _ _ h => h)⟩
            · obtain ⟨⟨x1, x2, x3, f1⟩, f2, ⟨y1, y2, y3, f3⟩, f4, q', T7, D7⟩ := makes_B (a := lI.length) (b := lO.length) HT5.out (by rw [HLI.out]; exact hlt) (by rw [HLO.out]; exact hlt) (by omega) (by omega) w5.heap.size rfl
              have HT7 := Lib.hid T7
              have HD7 := Lib.hid D7
              clear T7 D7
              simp only [pickOps, List.flatMap_cons, List.flatMap_nil, List.drop_succ_cons, List.drop_zero, List.take_succ_cons, List.take_zero, List.cons_append, List.nil_append, List.append_nil]
              go_wp2
              refine ⟨fun _ _ => trivial, ?_⟩
              refine wpAnyT_one (i := 9) (by kernel_rfl) ?_
              simp only [pickOps, List.flatMap_cons, List.flatMap_nil, List.drop_succ_cons, List.drop_zero, List.take_succ_cons, List.take_zero, List.cons_append, List.nil_append, List.append_nil]
              go_wp2
              refine ⟨fun _ _ => trivial, ?_⟩
              refine wpAnyT_one (i := 12) (by kernel_rfl) ?_
              simp only [pickOps, List.flatMap_cons, List.flatMap_nil, List.drop_succ_cons, List.drop_zero, List.take_succ_cons, List.take_zero, List.cons_append, List.nil_append, List.append_nil]
              go_wp2
              refine ⟨fun _ _ => trivial, ?_⟩
              refine wpAnyT_one (i := 13) (by kernel_rfl) ?_
              simp only [pickOps, List.flatMap_cons, List.flatMap_nil, List.drop_succ_cons, List.drop_zero, List.take_succ_cons, List.take_zero, List.cons_append, List.nil_append, List.append_nil]
              go_wp2
              refine ⟨fun _ _ => trivial, ?_⟩
              refine ⟨by kernel_rfl, hQ' _ _ ?_⟩
              go_wp2
              go_meet
              case rel => exact ⟨rfl, q', HT7.out.drew, HD7.out.turn (Turn.of_quiet q' ⟨1, rfl⟩) (fun _ _ h => h)⟩
        · simp only [pickOps, List.flatMap_cons, List.flatMap_nil, List.drop_succ_cons, List.drop_zero, List.take_succ_cons, List.take_zero, List.cons_append, List.nil_append, List.append_nil]
          go_wp2
          refine ⟨fun _ _ => trivial, ?_⟩
          obtain ⟨⟨x1, x2, x3, f1⟩, f2, ⟨y1, y2, y3, f3⟩, f4, q', T7, D7⟩ := makes_C (a := lI.length) (b := lO.length) HT5.out (by rw [HLI.out]; exact hlt) (by rw [HLO.out]; exact hlt) (by omega) (by omega) w5.heap.size rfl
          have HT7 := Lib.hid T7
          have HD7 := Lib.hid D7
          clear T7 D7
          refine wpAnyT_one (i := 6) (by kernel_rfl) ?_
          simp only [pickOps, List.flatMap_cons, List.flatMap_nil, List.drop_succ_cons, List.drop_zero, List.take_succ_cons, List.take_zero, List.cons_append, List.nil_append, List.append_nil]
          go_wp2
          refine ⟨fun _ _ => trivial, ?_⟩
          refine wpAnyT_one (i := 10) (by kernel_rfl) ?_
          simp only [pickOps, List.flatMap_cons, List.flatMap_nil, List.drop_succ_cons, List.drop_zero, List.take_succ_cons, List.take_zero, List.cons_append, List.nil_append, List.append_nil]
          go_wp2
          refine ⟨fun _ _ => trivial, ?_⟩
          refine wpAnyT_one (i := 11) (by kernel_rfl) ?_
          simp only [pickOps, List.flatMap_cons, List.flatMap_nil, List.drop_succ_cons, List.drop_zero, List.take_succ_cons, List.take_zero, List.cons_append, List.nil_append, List.append_nil]
          go_wp2
          refine ⟨fun _ _ => trivial, ?_⟩
          refine wpAnyT_one (i := 12) (by kernel_rfl) ?_
          simp only [pickOps, List.flatMap_cons, List.flatMap_nil, List.drop_succ_cons, List.drop_zero, List.take_succ_cons, List.take_zero, List.cons_append, List.nil_append, List.append_nil]
          go_wp2
          refine ⟨fun _ _ => trivial, ?_⟩
          refine wpAnyT_one (i := 13) (by kernel_rfl) ?_
          simp only [pickOps, List.flatMap_cons, List.flatMap_nil, List.drop_succ_cons, List.drop_zero, List.take_succ_cons, List.take_zero, List.cons_append, List.nil_append, List.append_nil]
          go_wp2
          refine ⟨fun _ _ => trivial, ?_⟩
          refine ⟨by kernel_rfl, hQ' _ _ ?_⟩
          go_wp2
          go_meet
          case rel => exact ⟨rfl, q', HT7.out.drew, HD7.out.turn (Turn.of_quiet q' ⟨1, rfl⟩) (fun _ _ h => h)⟩
      case rest =>
        obtain ⟨rfl, q7, T7, D7⟩ := hcut
        have HK7 := Lib.hid (HK5.out.turn T7 (by unfold ColM; omega))
        have HG7 := Lib.hid (HG5.out.turn T7 (by unfold ColM; omega))
        have HI7 := Lib.hid (HI5.out.turn T7 (by unfold ColM; omega))
        have HO7 := Lib.hid (HO5.out.turn T7 (by unfold ColM; omega))
        obtain ⟨vsI, vsO, hI7, hO7⟩ := D7
        have HMI := Lib.hid hI7
        have HMO := Lib.hid hO7
        have h16 := HSL.out
        have HLI := Lib.hid (rowJ_len (insF g) n j)
        have HLO := Lib.hid (rowJ_len (outsF g) n j)
        clear T7 hI7 hO7 HK5 HG5 HT5 HI5 HO5 HSL
        go_wp2_with fail
        go_loopw [61] (fun i wl => ∃ (k : Nat), k ≤ lI.length ∧ i = .int .i64 k ∧ Turn q7 q7 (fun x => x = 2) wc wl ∧ OpM wl q7 1 2 (.slice (some ⟨gI, 0, none⟩) n n) ((rowJ (insF g) n j).set j (fillL lI k)) vsI) (fun i _ => lI.length - (intOf i).toNat)
        case atStart => exact ⟨0, Nat.zero_le _, rfl, Turn.refl _ _ _, by rw [fillL_zero]; exact HMI.out⟩
        case round =>
          obtain ⟨k, hk, rfl, hT, hM⟩ := hrel
          by_cases hkl : k < lI.length
          · have hkli : (k : Int) < lI.length := by omega
            have hI8 := HI7.out.turn hT (by decide)
            obtain ⟨bI, oI, rfl, -, hcI, -, -, hcl⟩ := Ints.at hI8 (by omega)
            have z1 := hcl k hkl
            have hcIi : (lI.length : Int) ≤ c1' := by omega
            have hjm : j < ((rowJ (insF g) n j).set j (fillL lI k)).length := by rw [List.length_set, HLI.out]; exact hlt
            have er : rowM ((rowJ (insF g) n j).set j (fillL lI k)) j = fillL lI k := by unfold rowM; rw [List.getElem?_set_self (by rw [HLI.out]; exact hlt)]; rfl
            have hkr : k < (rowM ((rowJ (insF g) n j).set j (fillL lI k)) j).length := by rw [er, fillL_len _ _ hk]; exact hkl
            obtain ⟨G, cp, hG, hcp, hfz, s0, s1, s9⟩ := hM.slot hjm hkr
            obtain ⟨bb, s2⟩ : ∃ bb, wr.cell? ⟨G, k * 3 + 2, none⟩ = some (.int .i64 bb) := ⟨_, s9⟩
            obtain ⟨-, -, gg, eg, r1, -⟩ := hM.row hjm
            cases eg
            rw [hG] at r1
            rw [er, fillL_len _ _ hk] at hG hcp r1
            obtain ⟨M8, T8⟩ := hM.cell (by decide) hjm hG (l' := fillL lI (k + 1)) (u := iv (lI[k]?.getD 0)) (i := k * 3 + 2) (by rw [show ((rowJ (insF g) n j).set j (fillL lI k))[j]?.getD [] = fillL lI k from er, fillL_len _ _ hk, fillL_len _ _ hkl]) (by rw [show ((rowJ (insF g) n j).set j (fillL lI k))[j]?.getD [] = fillL lI k from er]; exact fillL_succ lI k hkl)
            rw [List.set_set] at M8
            obtain ⟨xk, hxk⟩ : ∃ x, lI[k]?.getD 0 = x := ⟨_, rfl⟩
            rw [hxk] at z1 M8 T8
            clear hxk
            have HM8 := Lib.hid M8
            have HT8 := Lib.hid (hT.trans T8 (fun _ h => h))
            have hcpi : (lI.length : Int) ≤ cp := by omega
            have f2 := hfz (k * 3 + 2)
            clear hT hM hI8 hcl er hG s0 s1 s9 M8 T8 hfz hkr hjm
            go_wp2
            go_roundw
            case rel => exact ⟨k + 1, hkl, by go_num, HT8.out, HM8.out⟩
            case measure => simp [intOf]; omega
          · obtain rfl : k = lI.length := by omega
            have HM9 := Lib.hid hM
            have HK9 := Lib.hid (HK7.out.turn hT (by decide))
            have HG9 := Lib.hid (HG7.out.turn hT (by decide))
            have HO9 := Lib.hid (HO7.out.turn hT (by decide))
            have HMO9 := Lib.hid (HMO.out.turn hT (by decide) (by decide))
            clear hT hM HK7 HG7 HO7 HMO HI7 HMI hk hkl
            have hlOn := h16.2
            go_wp2_with fail
            clear HLI
            obtain ⟨w9, rfl⟩ : ∃ x, x = wr := ⟨_, rfl⟩
            go_loopw [77] (fun i wl => ∃ (k : Nat), k ≤ lO.length ∧ i = .int .i64 k ∧ Turn q7 q7 (fun x => x = 4) w9 wl ∧ OpM wl q7 3 4 (.slice (some ⟨gO, 0, none⟩) n n) ((rowJ (outsF g) n j).set j (fillL lO k)) vsO) (fun i _ => lO.length - (intOf i).toNat)
            case atStart => exact ⟨0, Nat.zero_le _, rfl, Turn.refl _ _ _, by rw [fillL_zero]; exact HMO9.out⟩
            case round =>
              obtain ⟨k, hk, rfl, hT, hM⟩ := hrel
              by_cases hkl : k < lO.length
              · have hkli : (k : Int) < lO.length := by omega
                have hI8 := HO9.out.turn hT (by decide)
                obtain ⟨bI, oI, rfl, -, hcI, -, -, hcl⟩ := Ints.at hI8 (by omega)
                have z1 := hcl k hkl
                have hcIi : (lO.length : Int) ≤ c2' := by omega
                have hjm : j < ((rowJ (outsF g) n j).set j (fillL lO k)).length := by rw [List.length_set, HLO.out]; exact hlt
                have er : rowM ((rowJ (outsF g) n j).set j (fillL lO k)) j = fillL lO k := by unfold rowM; rw [List.getElem?_set_self (by rw [HLO.out]; exact hlt)]; rfl
                have hkr : k < (rowM ((rowJ (outsF g) n j).set j (fillL lO k)) j).length := by rw [er, fillL_len _ _ hk]; exact hkl
                obtain ⟨G, cp, hG, hcp, hfz, s0, s1, s9⟩ := hM.slot hjm hkr
                obtain ⟨bb, s2⟩ : ∃ bb, wr.cell? ⟨G, k * 3 + 2, none⟩ = some (.int .i64 bb) := ⟨_, s9⟩
                obtain ⟨-, -, gg, eg, r1, -⟩ := hM.row hjm
                cases eg
                rw [hG] at r1
                rw [er, fillL_len _ _ hk] at hG hcp r1
                obtain ⟨M8, T8⟩ := hM.cell (by decide) hjm hG (l' := fillL lO (k + 1)) (u := iv (lO[k]?.getD 0)) (i := k * 3 + 2) (by rw [show ((rowJ (outsF g) n j).set j (fillL lO k))[j]?.getD [] = fillL lO k from er, fillL_len _ _ hk, fillL_len _ _ hkl]) (by rw [show ((rowJ (outsF g) n j).set j (fillL lO k))[j]?.getD [] = fillL lO k from er]; exact fillL_succ lO k hkl)
                rw [List.set_set] at M8
                obtain ⟨xk, hxk⟩ : ∃ x, lO[k]?.getD 0 = x := ⟨_, rfl⟩
                rw [hxk] at z1 M8 T8
                clear hxk
                have HM8 := Lib.hid M8
                have HT8 := Lib.hid (hT.trans T8 (fun _ h => h))
                have hcpi : (lO.length : Int) ≤ cp := by omega
                have f2 := hfz (k * 3 + 2)
                clear hT hM hI8 hcl er hG s0 s1 s9 M8 T8 hfz hkr hjm
                go_wp2
                go_roundw
                case rel => exact ⟨k + 1, hkl, by go_num, HT8.out, HM8.out⟩
                case measure => simp [intOf]; omega
              · obtain rfl : k = lO.length := by omega
                have HKa := Lib.hid (HK9.out.turn hT (by decide))
                have HGa := Lib.hid (HG9.out.turn hT (by decide))
                have hMI := HM9.out.turn hT (by decide) (by decide)
                rw [fillL_all, ← HFI.out] at hMI
                rw [fillL_all, ← HFO.out] at hM
                have HTa : Hid (TwoM wr q7 (.slice (some ⟨gI, 0, none⟩) n n) (.slice (some ⟨gO, 0, none⟩) n n) (rowJ (insF g) n (j + 1)) (rowJ (outsF g) n (j + 1))) := Lib.hid ⟨vsI, vsO, hMI, hM⟩
                clear hT hM hMI HK9 HG9 HM9 HO9 HMO9 hk hkl HFI HFO
                go_wp2
                go_roundw
                case rel => exact ⟨j + 1, q7, hlt, by go_num, HKa.out, HGa.out, HTa.out⟩
                case measure => simp [intOf]; omega
    · obtain rfl : n = j := by omega
      clear hj hlt
      have y4 := HG.out.cell 2 _ rfl
      have HTM : Hid (TwoM wr q (.slice (some ⟨gI, 0, none⟩) n n) (.slice (some ⟨gO, 0, none⟩) n n) (putAll (eDst g) 3 (matI0 g) 0) (putAll (eSrc g) 6 (matO0 g) 0)) := Lib.hid (by rw [putAll, putAll, matI0, matO0, HN.out]; exact HT.out)
      clear HT
      go_wp2_with fail
      clear y4
      obtain ⟨E, hE⟩ : ∃ x, g.edges.length = x := ⟨_, rfl⟩
      have HE := Lib.hid hE
      rw [hE] at HG ⊢
      clear hE
      have hE96 : E ≤ 96 := by rw [← HE.out]; exact OK.out.edges
      go_loopw [95] (fun i wl => ∃ (j : Nat) (q : Col), j ≤ E ∧ i = .int .i64 j ∧ Kept w.heap.size q w wl ∧ Blk wl q 5 w.heap.size 26 #[.string g.name, .slice aa n ac, .slice ae E ec, .slice ai g.ins.length ic, .slice ao g.outs.length oc] ∧ TwoM wl q (.slice (some ⟨gI, 0, none⟩) n n) (.slice (some ⟨gO, 0, none⟩) n n) (putAll (eDst g) 3 (matI0 g) j) (putAll (eSrc g) 6 (matO0 g) j)) (fun i _ => E - (intOf i).toNat)
      case atStart => exact ⟨0, q, Nat.zero_le _, rfl, HK.out, HG.out, HTM.out⟩
      case round =>
        clear HK HG HTM
        obtain ⟨j, q, hj, rfl, hK, hGr, hT⟩ := hrel
        have HK := Lib.hid hK
        have HG := Lib.hid hGr
        have HT := Lib.hid hT
        clear hK hGr hT
        by_cases hlt : j < E
        · have hlti : (j : Int) < E := by omega
          have hlt2 : j < g.edges.length := by rw [HE.out]; exact hlt
          obtain ⟨be, oe, rfl, hce, hbe, hrece⟩ := RE.out.at (by omega)
          obtain ⟨cse, hcse, hPE, hcle⟩ := hrece j hlt2
          obtain ⟨xs, rfl, hst⟩ := hPE
          have c0 := cell_later HK.out.below (hcle 0 (by omega))
          have c1 := cell_later HK.out.below (hcle 1 (by omega))
          have c2 := cell_later HK.out.below (hcle 2 (by omega))
          have c3 := cell_later HK.out.below (hcle 3 (by omega))
          have c4 := cell_later HK.out.below (hcle 4 (by omega))
          simp at c0 c1 c2 c3 c4
          have hcei : (E : Int) ≤ ec := by have := HE.out; omega
          obtain ⟨sa, sc, hxs⟩ := Ints.slice hst
          subst hxs
          have hS := OK.out.src _ (List.getElem_mem hlt2)
          have hD := OK.out.dst _ (List.getElem_mem hlt2)
          have e1 : eSrc g j = some (g.edges[j].src, g.edges[j].sport) := by unfold eSrc; rw [List.getElem?_eq_getElem hlt2]
          have e2 : eDst g j = some (g.edges[j].dst, g.edges[j].dport) := by unfold eDst; rw [List.getElem?_eq_getElem hlt2]
          clear hcle hcse hrece hst
          generalize g.edges[j] = p at *
          obtain ⟨s1, h1⟩ : ∃ k : Nat, p.src = k := ⟨p.src.toNat, by have := hS.1; omega⟩
          obtain ⟨s2, h2⟩ : ∃ k : Nat, p.sport = k := ⟨p.sport.toNat, by have := hS.2.2.1; omega⟩
          obtain ⟨d1, h3⟩ : ∃ k : Nat, p.dst = k := ⟨p.dst.toNat, by have := hD.1; omega⟩
          obtain ⟨d2, h4⟩ : ∃ k : Nat, p.dport = k := ⟨p.dport.toNat, by have := hD.2.2.1; omega⟩
          rw [h1] at c0 e1 hS
          rw [h2] at c1 e1 hS
          rw [h3] at c2 e2 hD
          rw [h4] at c3 e2 hD
          have hs1 : s1 < n := by have := hS.2.1; have := HN.out; omega
          have hd1 : d1 < n := by have := hD.2.1; have := HN.out; omega
          have hs2 : s2 < (rowM (putAll (eSrc g) 6 (matO0 g) j) s1).length := by
            rw [putAll_row, matO0_row g (by rw [HN.out]; exact hs1)]
            have := hS.2.2.2
            rw [Int.toNat_natCast] at this
            omega
          have hd2 : d2 < (rowM (putAll (eDst g) 3 (matI0 g) j) d1).length := by
            rw [putAll_row, matI0_row g (by rw [HN.out]; exact hd1)]
            have := hD.2.2.2
            rw [Int.toNat_natCast] at this
            omega
          have E1 := Lib.hid (putAll_succ (kd := 6) (m := matO0 g) e1)
          have E2 := Lib.hid (putAll_succ (kd := 3) (m := matI0 g) e2)
          clear hS hD e1 e2 h1 h2 h3 h4
          have hbX := below_alloc wr (.cells #[.int .i64 s1, .int .i64 s2, .int .i64 d1, .int .i64 d2, .slice sa p.start.length sc] 63)
          have hX := heap_alloc_new wr (.cells #[.int .i64 s1, .int .i64 s2, .int .i64 d1, .int .i64 d2, .slice sa p.start.length sc] 63)
          have hX : Blk _ (ext q wr.heap.size 5) 5 _ _ _ := ⟨hX, ext_new (Nat.le_refl _)⟩
          have TX := Turn.of_below q 5 hbX
          have HK2 := Lib.hid (HK.out.turn TX (fun h => h))
          have HG2 := Lib.hid (HG.out.turn TX (fun h => h))
          have HT2 := Lib.hid (HT.out.turn TX (fun _ _ h => h))
          have HX2 := Lib.hid hX
          have x0 := hX.cell 0 _ rfl
          have x1 := hX.cell 1 _ rfl
          clear hbX hX TX HK HG HT
          go_wp2_with fail
          obtain ⟨G, LL, cp, y1, hkk, hcp, hcall⟩ := on_O HT2.out (a := s1) (k := s2) (by rw [putAll_len, matO0_len, HN.out]; exact hs1) hs2
          have hkki : (s2 : Int) < LL := by omega
          have hcpi : (LL : Int) ≤ cp := by omega
          have hai : (s1 : Int) < n := by omega
          refine wp_region_lex (fun w' => w'.cell? ⟨wr.heap.size, 0, none⟩ = some (.int .i64 s1) ∧ w'.cell? ⟨wr.heap.size, 1, none⟩ = some (.int .i64 s2) ∧ w'.cell? ⟨gO, s1, none⟩ = some (.slice (some ⟨G, 0, none⟩) LL cp)) [0, 1, 2, 3, 4, 5, 6, 7, 8, 9] [10] (by kernel_rfl) (by kernel_rfl) rfl (fun _ _ hx h => ⟨hx.cell h.1, hx.cell h.2.1, hx.cell h.2.2⟩) ⟨x0, x1, y1⟩ ?_
          intro Q' hQ'
          simp only [pickOps, List.flatMap_cons, List.flatMap_nil, List.drop_succ_cons, List.drop_zero, List.take_succ_cons, List.take_zero, List.cons_append, List.nil_append, List.append_nil]
          repeat (first
            | (refine wpReads_skip (by rfl) ?_; (try simp only [Act.put, List.setIfInBounds_toArray, List.set_cons_zero, List.set_cons_succ]))
            | (refine wpReads_cons ?_ (by rfl) (by rfl) ?_ ?_; rotate_left; (intro wz hz; (try dsimp only at hz); go_simp; try with_reducible rfl); (try simp only [Act.put, List.setIfInBounds_toArray, List.set_cons_zero, List.set_cons_succ]))
            | (refine wpReads_any ?_ (by rfl) ?_ ?_; rotate_left; (intro wz; go_simp; try with_reducible rfl); (try simp only [Act.put, List.setIfInBounds_toArray, List.set_cons_zero, List.set_cons_succ])))
          refine wpReads_nil ?_
          go_wp2_with fail
          refine (hcall 6 j).mono ?_
          rintro e w5 ⟨rfl, T5, D5⟩
          have T6 := ((Turn.of_quiet (ext q wr.heap.size 5) ⟨1, rfl⟩).mono (D := ColM) (fun _ h => h.elim)).trans T5 (fun _ h => h)
          have HK5 := Lib.hid (HK2.out.turn T6 (by unfold ColM; omega))
          have HG5 := Lib.hid (HG2.out.turn T6 (by unfold ColM; omega))
          have HX5 := Lib.hid (HX2.out.turn T6 (by unfold ColM; omega))
          have HT5 := Lib.hid D5
          have x2 := HX5.out.cell 2 _ rfl
          have x3 := HX5.out.cell 3 _ rfl
          clear T5 D5 T6 HK2 HG2 HX2 HT2 x0 x1 y1 hcall hkk hkki hcp hcpi
          generalize ext q wr.heap.size 5 = q5 at *
          go_wp2_with fail
          obtain ⟨G, LL, cp, y1, hkk, hcp, hcall⟩ := on_I HT5.out (a := d1) (k := d2) (by rw [putAll_len, matI0_len, HN.out]; exact hd1) hd2
          have hkki : (d2 : Int) < LL := by omega
          have hcpi : (LL : Int) ≤ cp := by omega
          have hai : (d1 : Int) < n := by omega
          refine wp_region_lex (fun w' => w'.cell? ⟨wr.heap.size, 2, none⟩ = some (.int .i64 d1) ∧ w'.cell? ⟨wr.heap.size, 3, none⟩ = some (.int .i64 d2) ∧ w'.cell? ⟨gI, d1, none⟩ = some (.slice (some ⟨G, 0, none⟩) LL cp)) [0, 1, 2, 3, 4, 5, 6, 7, 8, 9] [10] (by kernel_rfl) (by kernel_rfl) rfl (fun _ _ hx h => ⟨hx.cell h.1, hx.cell h.2.1, hx.cell h.2.2⟩) ⟨x2, x3, y1⟩ ?_
          intro Q' hQ'
          simp only [pickOps, List.flatMap_cons, List.flatMap_nil, List.drop_succ_cons, List.drop_zero, List.take_succ_cons, List.take_zero, List.cons_append, List.nil_append, List.append_nil]
          repeat (first
            | (refine wpReads_skip (by rfl) ?_; (try simp only [Act.put, List.setIfInBounds_toArray, List.set_cons_zero, List.set_cons_succ]))
            | (refine wpReads_cons ?_ (by rfl) (by rfl) ?_ ?_; rotate_left; (intro wz hz; (try dsimp only at hz); go_simp; try with_reducible rfl); (try simp only [Act.put, List.setIfInBounds_toArray, List.set_cons_zero, List.set_cons_succ]))
            | (refine wpReads_any ?_ (by rfl) ?_ ?_; rotate_left; (intro wz; go_simp; try with_reducible rfl); (try simp only [Act.put, List.setIfInBounds_toArray, List.set_cons_zero, List.set_cons_succ])))
          refine wpReads_nil ?_
          go_wp2_with fail
          refine (hcall 3 j).mono ?_
          rintro e w5 ⟨rfl, T5, D5⟩
          have T6 := ((Turn.of_quiet q5 ⟨1, rfl⟩).mono (D := ColM) (fun _ h => h.elim)).trans T5 (fun _ h => h)
          have HK7 := Lib.hid (HK5.out.turn T6 (by unfold ColM; omega))
          have HG7 := Lib.hid (HG5.out.turn T6 (by unfold ColM; omega))
          have HT7 : Hid (TwoM w5 q5 (.slice (some ⟨gI, 0, none⟩) n n) (.slice (some ⟨gO, 0, none⟩) n n) (putAll (eDst g) 3 (matI0 g) (j + 1)) (putAll (eSrc g) 6 (matO0 g) (j + 1))) := Lib.hid (by rw [E1.out, E2.out, Int.toNat_natCast, Int.toNat_natCast, Int.toNat_natCast, Int.toNat_natCast]; exact D5)
          clear T5 D5 T6 HK5 HG5 HX5 HT5 x2 x3 y1 hcall hkk hkki hcp hcpi
          go_wp2
          go_roundw
          case rel => exact ⟨j + 1, q5, hlt, by go_num, HK7.out, HG7.out, HT7.out⟩
          case measure => simp [intOf]; omega
        · obtain rfl : E = j := by omega
          clear hj hlt
          have y5 := HG.out.cell 3 _ rfl
          have HT3 : Hid (TwoM wr q (.slice (some ⟨gI, 0, none⟩) n n) (.slice (some ⟨gO, 0, none⟩) n n) (putAll (pAt g.ins) 4 (matI1 g) 0) (matO1 g)) := Lib.hid (by rw [putAll, matI1, matO1, HE.out]; exact HT.out)
          clear HT
          go_wp2_with fail
          clear y5
          obtain ⟨I, hI⟩ : ∃ x, g.ins.length = x := ⟨_, rfl⟩
          have HI := Lib.hid hI
          rw [hI] at HG ⊢
          clear hI
          have hIb : I ≤ 16 := by rw [← HI.out]; exact OK.out.ins
          go_loopw [126] (fun i wl => ∃ (j : Nat) (q : Col), j ≤ I ∧ i = .int .i64 j ∧ Kept w.heap.size q w wl ∧ Blk wl q 5 w.heap.size 26 #[.string g.name, .slice aa n ac, .slice ae E ec, .slice ai I ic, .slice ao g.outs.length oc] ∧ TwoM wl q (.slice (some ⟨gI, 0, none⟩) n n) (.slice (some ⟨gO, 0, none⟩) n n) (putAll (pAt g.ins) 4 (matI1 g) j) (matO1 g)) (fun i _ => I - (intOf i).toNat)
          case atStart => exact ⟨0, q, Nat.zero_le _, rfl, HK.out, HG.out, HT3.out⟩
          case round =>
            clear HK HG HT3
            obtain ⟨j, q, hj, rfl, hK, hGr, hT⟩ := hrel
            have HK := Lib.hid hK
            have HG := Lib.hid hGr
            have HT := Lib.hid hT
            clear hK hGr hT
            by_cases hlt : j < I
            · have hlti : (j : Int) < I := by omega
              have hlt2 : j < g.ins.length := by rw [HI.out]; exact hlt
              obtain ⟨be, oe, rfl, hce, hbe, hrece⟩ := RI.out.at (by omega)
              obtain ⟨cse, hcse, hPE, hcle⟩ := hrece j hlt2
              obtain rfl := hPE
              have c0 := cell_later HK.out.below (hcle 0 (by omega))
              have c1 := cell_later HK.out.below (hcle 1 (by omega))
              have c2 := cell_later HK.out.below (hcle 2 (by omega))
              simp at c0 c1 c2
              have hcei : (I : Int) ≤ ic := by have := HI.out; omega
              have hS := OK.out.pin _ (List.getElem_mem hlt2)
              have e1 : pAt g.ins j = some (g.ins[j].actor, g.ins[j].port) := by unfold pAt; rw [List.getElem?_eq_getElem hlt2]
              clear hcle hcse hrece
              generalize g.ins[j] = p at *
              obtain ⟨s1, h1⟩ : ∃ k : Nat, p.actor = k := ⟨p.actor.toNat, by have := hS.1; omega⟩
              obtain ⟨s2, h2⟩ : ∃ k : Nat, p.port = k := ⟨p.port.toNat, by have := hS.2.2.1; omega⟩
              rw [h1] at c1 e1 hS
              rw [h2] at c2 e1 hS
              have hs1 : s1 < n := by have := hS.2.1; have := HN.out; omega
              have hs2 : s2 < (rowM (putAll (pAt g.ins) 4 (matI1 g) j) s1).length := by
                rw [putAll_row, matI1_row g (by rw [HN.out]; exact hs1)]
                have := hS.2.2.2
                rw [Int.toNat_natCast] at this
                omega
              have E1 := Lib.hid (putAll_succ (kd := 4) (m := matI1 g) e1)
              clear hS e1 h1 h2
              have hbX := below_alloc wr (.cells #[.string p.name, .int .i64 s1, .int .i64 s2] 65)
              have hX := heap_alloc_new wr (.cells #[.string p.name, .int .i64 s1, .int .i64 s2] 65)
              have hX : Blk _ (ext q wr.heap.size 5) 5 _ _ _ := ⟨hX, ext_new (Nat.le_refl _)⟩
              have TX := Turn.of_below q 5 hbX
              have HK2 := Lib.hid (HK.out.turn TX (fun h => h))
              have HG2 := Lib.hid (HG.out.turn TX (fun h => h))
              have HT2 := Lib.hid (HT.out.turn TX (fun _ _ h => h))
              have x1 := hX.cell 1 _ rfl
              have x2 := hX.cell 2 _ rfl
              clear hbX hX TX HK HG HT
              go_wp2_with fail
              obtain ⟨G, LL, cp, y1, hkk, hcp, hcall⟩ := on_I HT2.out (a := s1) (k := s2) (by rw [putAll_len, matI1_len, HN.out]; exact hs1) hs2
              have hkki : (s2 : Int) < LL := by omega
              have hcpi : (LL : Int) ≤ cp := by omega
              have hai : (s1 : Int) < n := by omega
              refine wp_region_lex (fun w' => w'.cell? ⟨wr.heap.size, 1, none⟩ = some (.int .i64 s1) ∧ w'.cell? ⟨wr.heap.size, 2, none⟩ = some (.int .i64 s2) ∧ w'.cell? ⟨gI, s1, none⟩ = some (.slice (some ⟨G, 0, none⟩) LL cp)) [0, 1, 2, 3, 4, 5, 6, 7, 8, 9] [10] (by kernel_rfl) (by kernel_rfl) rfl (fun _ _ hx h => ⟨hx.cell h.1, hx.cell h.2.1, hx.cell h.2.2⟩) ⟨x1, x2, y1⟩ ?_
              intro Q' hQ'
              simp only [pickOps, List.flatMap_cons, List.flatMap_nil, List.drop_succ_cons, List.drop_zero, List.take_succ_cons, List.take_zero, List.cons_append, List.nil_append, List.append_nil]
              repeat (first
                | (refine wpReads_skip (by rfl) ?_; (try simp only [Act.put, List.setIfInBounds_toArray, List.set_cons_zero, List.set_cons_succ]))
                | (refine wpReads_cons ?_ (by rfl) (by rfl) ?_ ?_; rotate_left; (intro wz hz; (try dsimp only at hz); go_simp; try with_reducible rfl); (try simp only [Act.put, List.setIfInBounds_toArray, List.set_cons_zero, List.set_cons_succ]))
                | (refine wpReads_any ?_ (by rfl) ?_ ?_; rotate_left; (intro wz; go_simp; try with_reducible rfl); (try simp only [Act.put, List.setIfInBounds_toArray, List.set_cons_zero, List.set_cons_succ])))
              refine wpReads_nil ?_
              go_wp2_with fail
              refine (hcall 4 j).mono ?_
              rintro e w5 ⟨rfl, T5, D5⟩
              have T6 := ((Turn.of_quiet (ext q wr.heap.size 5) ⟨1, rfl⟩).mono (D := ColM) (fun _ h => h.elim)).trans T5 (fun _ h => h)
              have HK5 := Lib.hid (HK2.out.turn T6 (by unfold ColM; omega))
              have HG5 := Lib.hid (HG2.out.turn T6 (by unfold ColM; omega))
              have HT5 : Hid (TwoM w5 (ext q wr.heap.size 5) (.slice (some ⟨gI, 0, none⟩) n n) (.slice (some ⟨gO, 0, none⟩) n n) (putAll (pAt g.ins) 4 (matI1 g) (j + 1)) (matO1 g)) := Lib.hid (by rw [E1.out, Int.toNat_natCast, Int.toNat_natCast]; exact D5)
              clear T5 D5 T6 HK2 HG2 HT2 x1 x2 y1 hcall hkk hkki hcp hcpi
              go_wp2
              go_roundw
              case rel => exact ⟨j + 1, _, hlt, by go_num, HK5.out, HG5.out, HT5.out⟩
              case measure => simp [intOf]; omega
            · obtain rfl : I = j := by omega
              clear hj hlt
              have y5 := HG.out.cell 4 _ rfl
              have HT3 : Hid (TwoM wr q (.slice (some ⟨gI, 0, none⟩) n n) (.slice (some ⟨gO, 0, none⟩) n n) (matI2 g) (putAll (pAt g.outs) 7 (matO1 g) 0)) := Lib.hid (by rw [putAll, matI2, HI.out]; exact HT.out)
              clear HT
              go_wp2_with fail
              clear y5
              obtain ⟨U, hU⟩ : ∃ x, g.outs.length = x := ⟨_, rfl⟩
              have HU := Lib.hid hU
              rw [hU] at HG ⊢
              clear hU
              have hUb : U ≤ 16 := by rw [← HU.out]; exact OK.out.outs
              go_loopw [146] (fun i wl => ∃ (j : Nat) (q : Col), j ≤ U ∧ i = .int .i64 j ∧ Kept w.heap.size q w wl ∧ Blk wl q 5 w.heap.size 26 #[.string g.name, .slice aa n ac, .slice ae E ec, .slice ai I ic, .slice ao U oc] ∧ TwoM wl q (.slice (some ⟨gI, 0, none⟩) n n) (.slice (some ⟨gO, 0, none⟩) n n) (matI2 g) (putAll (pAt g.outs) 7 (matO1 g) j)) (fun i _ => U - (intOf i).toNat)
              case atStart => exact ⟨0, q, Nat.zero_le _, rfl, HK.out, HG.out, HT3.out⟩
              case round =>
                clear HK HG HT3
                obtain ⟨j, q, hj, rfl, hK, hGr, hT⟩ := hrel
                have HK := Lib.hid hK
                have HG := Lib.hid hGr
                have HT := Lib.hid hT
                clear hK hGr hT
                by_cases hlt : j < U
                · have hlti : (j : Int) < U := by omega
                  have hlt2 : j < g.outs.length := by rw [HU.out]; exact hlt
                  obtain ⟨be, oe, rfl, hce, hbe, hrece⟩ := RO.out.at (by omega)
                  obtain ⟨cse, hcse, hPE, hcle⟩ := hrece j hlt2
                  obtain rfl := hPE
                  have c0 := cell_later HK.out.below (hcle 0 (by omega))
                  have c1 := cell_later HK.out.below (hcle 1 (by omega))
                  have c2 := cell_later HK.out.below (hcle 2 (by omega))
                  simp at c0 c1 c2
                  have hcei : (U : Int) ≤ oc := by have := HU.out; omega
                  have hS := OK.out.pout _ (List.getElem_mem hlt2)
                  have e1 : pAt g.outs j = some (g.outs[j].actor, g.outs[j].port) := by unfold pAt; rw [List.getElem?_eq_getElem hlt2]
                  clear hcle hcse hrece
                  generalize g.outs[j] = p at *
                  obtain ⟨s1, h1⟩ : ∃ k : Nat, p.actor = k := ⟨p.actor.toNat, by have := hS.1; omega⟩
                  obtain ⟨s2, h2⟩ : ∃ k : Nat, p.port = k := ⟨p.port.toNat, by have := hS.2.2.1; omega⟩
                  rw [h1] at c1 e1 hS
                  rw [h2] at c2 e1 hS
                  have hs1 : s1 < n := by have := hS.2.1; have := HN.out; omega
                  have hs2 : s2 < (rowM (putAll (pAt g.outs) 7 (matO1 g) j) s1).length := by
                    rw [putAll_row, matO1_row g (by rw [HN.out]; exact hs1)]
                    have := hS.2.2.2
                    rw [Int.toNat_natCast] at this
                    omega
                  have E1 := Lib.hid (putAll_succ (kd := 7) (m := matO1 g) e1)
                  clear hS e1 h1 h2
                  have hbX := below_alloc wr (.cells #[.string p.name, .int .i64 s1, .int .i64 s2] 65)
                  have hX := heap_alloc_new wr (.cells #[.string p.name, .int .i64 s1, .int .i64 s2] 65)
                  have hX : Blk _ (ext q wr.heap.size 5) 5 _ _ _ := ⟨hX, ext_new (Nat.le_refl _)⟩
                  have TX := Turn.of_below q 5 hbX
                  have HK2 := Lib.hid (HK.out.turn TX (fun h => h))
                  have HG2 := Lib.hid (HG.out.turn TX (fun h => h))
                  have HT2 := Lib.hid (HT.out.turn TX (fun _ _ h => h))
                  have x1 := hX.cell 1 _ rfl
                  have x2 := hX.cell 2 _ rfl
                  clear hbX hX TX HK HG HT
                  go_wp2_with fail
                  obtain ⟨G, LL, cp, y1, hkk, hcp, hcall⟩ := on_O HT2.out (a := s1) (k := s2) (by rw [putAll_len, matO1_len, HN.out]; exact hs1) hs2
                  have hkki : (s2 : Int) < LL := by omega
                  have hcpi : (LL : Int) ≤ cp := by omega
                  have hai : (s1 : Int) < n := by omega
                  refine wp_region_lex (fun w' => w'.cell? ⟨wr.heap.size, 1, none⟩ = some (.int .i64 s1) ∧ w'.cell? ⟨wr.heap.size, 2, none⟩ = some (.int .i64 s2) ∧ w'.cell? ⟨gO, s1, none⟩ = some (.slice (some ⟨G, 0, none⟩) LL cp)) [0, 1, 2, 3, 4, 5, 6, 7, 8, 9] [10] (by kernel_rfl) (by kernel_rfl) rfl (fun _ _ hx h => ⟨hx.cell h.1, hx.cell h.2.1, hx.cell h.2.2⟩) ⟨x1, x2, y1⟩ ?_
                  intro Q' hQ'
                  simp only [pickOps, List.flatMap_cons, List.flatMap_nil, List.drop_succ_cons, List.drop_zero, List.take_succ_cons, List.take_zero, List.cons_append, List.nil_append, List.append_nil]
                  repeat (first
                    | (refine wpReads_skip (by rfl) ?_; (try simp only [Act.put, List.setIfInBounds_toArray, List.set_cons_zero, List.set_cons_succ]))
                    | (refine wpReads_cons ?_ (by rfl) (by rfl) ?_ ?_; rotate_left; (intro wz hz; (try dsimp only at hz); go_simp; try with_reducible rfl); (try simp only [Act.put, List.setIfInBounds_toArray, List.set_cons_zero, List.set_cons_succ]))
                    | (refine wpReads_any ?_ (by rfl) ?_ ?_; rotate_left; (intro wz; go_simp; try with_reducible rfl); (try simp only [Act.put, List.setIfInBounds_toArray, List.set_cons_zero, List.set_cons_succ])))
                  refine wpReads_nil ?_
                  go_wp2_with fail
                  refine (hcall 7 j).mono ?_
                  rintro e w5 ⟨rfl, T5, D5⟩
                  have T6 := ((Turn.of_quiet (ext q wr.heap.size 5) ⟨1, rfl⟩).mono (D := ColM) (fun _ h => h.elim)).trans T5 (fun _ h => h)
                  have HK5 := Lib.hid (HK2.out.turn T6 (by unfold ColM; omega))
                  have HG5 := Lib.hid (HG2.out.turn T6 (by unfold ColM; omega))
                  have HT5 : Hid (TwoM w5 (ext q wr.heap.size 5) (.slice (some ⟨gI, 0, none⟩) n n) (.slice (some ⟨gO, 0, none⟩) n n) (matI2 g) (putAll (pAt g.outs) 7 (matO1 g) (j + 1))) := Lib.hid (by rw [E1.out, Int.toNat_natCast, Int.toNat_natCast]; exact D5)
                  clear T5 D5 T6 HK2 HG2 HT2 x1 x2 y1 hcall hkk hkki hcp hcpi
                  go_wp2
                  go_roundw
                  case rel => exact ⟨j + 1, _, hlt, by go_num, HK5.out, HG5.out, HT5.out⟩
                  case measure => simp [intOf]; omega
                · obtain rfl : U = j := by omega
                  clear hj hlt
                  have y5 := HG.out.cell 1 _ rfl
                  have HT3 : Hid (TwoM wr q (.slice (some ⟨gI, 0, none⟩) n n) (.slice (some ⟨gO, 0, none⟩) n n) (finM (matI2 g) (matO2 g) 0) (matO2 g)) := Lib.hid (by rw [finM, matO2, HU.out]; exact HT.out)
                  clear HT
                  go_wp2_with fail
                  clear y5
                  go_loopw [166] (fun i wl => ∃ (j : Nat) (q : Col), j ≤ n ∧ i = .int .i64 j ∧ Kept w.heap.size q w wl ∧ TwoM wl q (.slice (some ⟨gI, 0, none⟩) n n) (.slice (some ⟨gO, 0, none⟩) n n) (finM (matI2 g) (matO2 g) j) (matO2 g)) (fun i _ => n - (intOf i).toNat)
                  case atStart => exact ⟨0, q, Nat.zero_le _, rfl, HK.out, HT3.out⟩
                  case round =>
                    clear HK HG HT3
                    obtain ⟨j, q, hj, rfl, hK, hT⟩ := hrel
                    have HK := Lib.hid hK
                    have HT := Lib.hid hT
                    clear hK hT
                    by_cases hlt : j < n
                    · have hlti : (j : Int) < n := by omega
                      have hjn : j < g.actors.length := by rw [HN.out]; exact hlt
                      have hjI : j < (finM (matI2 g) (matO2 g) j).length := by rw [finM_len, matI2_len]; exact hjn
                      have hjO : j < (matO2 g).length := by rw [matO2_len]; exact hjn
                      have er : (finM (matI2 g) (matO2 g) j)[j]?.getD [] = rowM (matI2 g) j := by
                        have := finM_row (matI2 g) (matO2 g) j (by rw [matI2_len]; exact hjn) j
                        rw [if_neg (by omega)] at this
                        exact this
                      have hlI : (rowM (matI2 g) j).length ≤ 16 := by rw [matI2_row g hjn]; exact insF_len OK.out j
                      have hlO : (rowM (matO2 g) j).length ≤ 16 := by rw [matO2_row g hjn]; exact outsF_len OK.out j
                      have EF : Hid (finM (matI2 g) (matO2 g) (j + 1) = (finM (matI2 g) (matO2 g) j).set j (rowM (matI2 g) j ++ [⟨5, j, 0⟩] ++ rowM (matO2 g) j)) := Lib.hid rfl
                      have ER := Lib.hid er
                      obtain ⟨vsI, vsO, hI, hO⟩ := HT.out
                      obtain ⟨-, -, gg, eg, r1, f1⟩ := hI.row hjI
                      cases eg
                      have hown := (hI.rows j hjI).1
                      rw [er] at hown
                      obtain ⟨sa, sc, hr⟩ := owns_slice hown
                      rw [hr] at r1 hown
                      have HR := Lib.hid hr
                      have HM := Lib.hid hI
                      have HO := Lib.hid hO
                      have HW := Lib.hid hown
                      obtain ⟨LI, hLI⟩ : ∃ x, rowM (matI2 g) j = x := ⟨_, rfl⟩
                      obtain ⟨LO, hLO⟩ : ∃ x, rowM (matO2 g) j = x := ⟨_, rfl⟩
                      rw [hLI] at hlI ER EF HR HW r1
                      rw [hLO] at hlO EF
                      have HLO := Lib.hid hLO
                      obtain ⟨i0, hi, hz0, hz1, hz2⟩ := info_parts info_Op
                      clear hI hO hr hown er hLI hLO HT
                      go_wp2_with (at_builtin; refine stop_here ?_)
                      refine go_on ?_
                      refine wpList_app rfl _ _ 37 rfl 0 61 i0 _ 3 24 Try.underlying37 hi hz0 hz1 hz2 rfl (.slice sa LI.length sc) LI.length _ rfl (HW.out.alloc (.cells #[.int .u8 5, .int .i64 j, .int .i64 0] 61)) (some ⟨wr.heap.size, 0, none⟩) 1 1 [.int .u8 5, .int .i64 j, .int .i64 0] rfl rfl (fun h => by cases h) (news_alloc wr [.int .u8 5, .int .i64 j, .int .i64 0] 61) (by simp [Value.oneCell']) (by unfold maxLen; omega) (grow_ok (by omega)) (Nat.zero_le _) ?_
                      intro v5 w5 k1 k20 _ k4
                      have hm : Mods (fun b => (vsI[j]?.getD undef).ownBlock = some b) wr w5 := by rw [HR.out]; exact ((Mods.refl _ wr).alloc _).grown k20 (fun b hb _ => hb)
                      obtain ⟨⟨x1, x2, x3, z0⟩, zf, T5, N5⟩ := HM.out.grow (news := [⟨5, j, 0⟩]) (v' := v5) (w2 := w5) (by decide) hjI ER.out k1 hm (by rw [HR.out]; exact k4.imp id (fun k4 b hb => by rw [k4] at hb; have := Option.some.inj hb; simp at this; omega))
                      obtain ⟨s5, c5, rfl⟩ := owns_slice k1
                      have HT5 := Lib.hid T5
                      have HM5 := Lib.hid N5
                      have HO5 := Lib.hid (HO.out.turn T5 (by decide) (by decide))
                      have HK5 := Lib.hid (HK.out.turn T5 (by decide))
                      clear T5 N5 k1 k20 k4 hm r1 f1 HK HM HO HR HW
                      go_wp2_with fail
                      clear z0 zf
                      obtain ⟨o5, ho5⟩ : ∃ x, ext q wr.heap.size 2 = x := ⟨_, rfl⟩
                      rw [ho5] at HM5 HO5 HK5 HT5
                      obtain ⟨w6, hw6⟩ : ∃ x, w5.setCell ⟨gI, j, none⟩ (Value.slice s5 (LI.length + 1) c5) = x := ⟨_, rfl⟩
                      rw [hw6] at HM5 HO5 HK5 HT5 ⊢
                      clear ho5 hw6
                      have hjI5 : j < ((finM (matI2 g) (matO2 g) j).set j (LI ++ [⟨5, j, 0⟩])).length := by rw [List.length_set]; exact hjI
                      have er5 : ((finM (matI2 g) (matO2 g) j).set j (LI ++ [⟨5, j, 0⟩]))[j]?.getD [] = LI ++ [⟨5, j, 0⟩] := by rw [List.getElem?_set_self hjI]; rfl
                      have hvs : (vsI.set j (Value.slice s5 (LI.length + 1) c5))[j]?.getD undef = Value.slice s5 (LI.length + 1) c5 := by
                        have := HM5.out.len
                        rw [List.length_set, List.length_set] at this
                        rw [List.getElem?_set_self (by omega)]; rfl
                      have hM6 := HM5.out.turn (Turn.of_quiet o5 (w' := w6.drew) ⟨1, rfl⟩) (fun h => h) (fun h => h)
                      have hO6 := HO5.out.turn (Turn.of_quiet o5 (w' := w6.drew) ⟨1, rfl⟩) (fun h => h) (fun h => h)
                      obtain ⟨-, -, gg, eg, z1, -⟩ := HM5.out.row hjI5
                      cases eg
                      obtain ⟨-, -, gg, eg, z2, -⟩ := HO5.out.row hjO
                      cases eg
                      have hown := (hM6.rows j hjI5).1
                      rw [er5, hvs, List.length_append] at hown
                      rw [hvs] at z1
                      have hrow := Own.row (hO6.rows j hjO)
                      have erO : (matO2 g)[j]?.getD [] = LO := HLO.out
                      rw [erO] at hrow
                      obtain ⟨so, co, hso, hso0, -, hsc⟩ := hrow
                      rw [hso] at z2
                      have HW := Lib.hid hown
                      have HM6 := Lib.hid hM6
                      have HO6 := Lib.hid hO6
                      have ER5 := Lib.hid er5
                      have HVS := Lib.hid hvs
                      have HSC := Lib.hid hsc
                      have HS0 := Lib.hid hso0
                      clear hown hM6 hO6 er5 hvs hsc hso0 hso erO HM5 HO5
                      refine wp_region_lex (fun w' => w'.cell? ⟨gI, j, none⟩ = some (.slice s5 (LI.length + 1) c5) ∧ w'.cell? ⟨gO, j, none⟩ = some (.slice so LO.length co)) [0, 1, 2, 3, 4, 5, 6, 7, 8, 9] [10, 11, 12] (by kernel_rfl) (by kernel_rfl) rfl (fun _ _ hx h => ⟨hx.cell h.1, hx.cell h.2⟩) ⟨z1, z2⟩ ?_
                      intro Q' hQ'
                      simp only [pickOps, List.flatMap_cons, List.flatMap_nil, List.drop_succ_cons, List.drop_zero, List.take_succ_cons, List.take_zero, List.cons_append, List.nil_append, List.append_nil]
                      repeat (first
                        | (refine wpReads_skip (by rfl) ?_; (try simp only [Act.put, List.setIfInBounds_toArray, List.set_cons_zero, List.set_cons_succ]))
                        | (refine wpReads_cons ?_ (by rfl) (by rfl) ?_ ?_; rotate_left; (intro wz hz; (try dsimp only at hz); go_simp; try with_reducible rfl); (try simp only [Act.put, List.setIfInBounds_toArray, List.set_cons_zero, List.set_cons_succ]))
                        | (refine wpReads_any ?_ (by rfl) ?_ ?_; rotate_left; (intro wz; go_simp; try with_reducible rfl); (try simp only [Act.put, List.setIfInBounds_toArray, List.set_cons_zero, List.set_cons_succ])))
                      refine wpReads_nil ?_
                      go_wp2_with (at_builtin; refine stop_here ?_)
                      refine go_on ?_
                      refine wpList_app rfl _ _ 37 rfl 0 61 i0 _ 3 24 Try.underlying37 hi hz0 hz1 hz2 rfl (.slice s5 (LI.length + 1) c5) (LI.length + 1) _ rfl HW.out so LO.length co (opsV LO) rfl (opsV_len LO) HS0.out HSC.out (opsV_one LO) (by unfold maxLen; omega) (grow_ok (by omega)) (Nat.zero_le _) ?_
                      intro v7 w7 k1 k20 _ k4
                      have hm : Mods (fun b => ((vsI.set j (Value.slice s5 (LI.length + 1) c5))[j]?.getD undef).ownBlock = some b) w6.drew w7 := by rw [HVS.out]; exact (Mods.refl _ w6.drew).grown k20 (fun b hb _ => hb)
                      obtain ⟨⟨x1, x2, x3, z0⟩, zf, T5, N5⟩ := HM6.out.grow (news := LO) (v' := v7) (w2 := w7) (by decide) hjI5 ER5.out (by rw [List.length_append]; exact k1) hm (by rw [HVS.out]; exact k4.imp id (fun k4 b hb => by rw [k4] at hb; have := Option.some.inj hb; omega))
                      obtain ⟨s7, c7, rfl⟩ := owns_slice k1
                      have HO7 := Lib.hid (HO6.out.turn T5 (by decide) (by decide))
                      have HK7 := Lib.hid ((HK5.out.turn (Turn.of_quiet o5 (w' := w6.drew) ⟨1, rfl⟩) (fun h => h)).turn T5 (by decide))
                      rw [List.set_set, ← EF.out] at N5
                      have HT7 : Hid (TwoM _ _ (.slice (some ⟨gI, 0, none⟩) n n) (.slice (some ⟨gO, 0, none⟩) n n) (finM (matI2 g) (matO2 g) (j + 1)) (matO2 g)) := Lib.hid ⟨_, _, N5, HO7.out⟩
                      clear T5 N5 k1 k20 k4 hm z1 z2 HM6 HO6 HK5 HT5 HW HSC HS0 HVS ER5 EF HO7
                      go_wp2
                      go_roundw
                      case rel => exact ⟨j + 1, _, hlt, by go_num, HK7.out, HT7.out⟩
                      case measure => simp [intOf]; omega
                    · obtain rfl : n = j := by omega
                      obtain ⟨vsI, vsO, hI, hO⟩ := HT.out
                      have HM : Hid (OpM wr q 1 2 (.slice (some ⟨gI, 0, none⟩) n n) (firP g) vsI) := Lib.hid (by unfold firP; rw [HN.out]; exact hI)
                      clear hI hO
                      go_wp2
                      go_ret
                      exact ⟨_, _, _, rfl, HK.out, HM.out⟩
end Go.Proofs.Ytbmbfifempkhgaa
