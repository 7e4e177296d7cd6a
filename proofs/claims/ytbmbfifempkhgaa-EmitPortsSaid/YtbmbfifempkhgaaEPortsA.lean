/- EmitPorts: lent, and made. -/
import Derived.Test.YtbmbfifempkhgaaENa
import Derived.Test.YtbmbfifempkhgaaEPLaw
import Derived.Test.YtbmbfifempkhgaaELa
import Derived.Test.YtbmbfifempkhgaaReg5
import Derived.Test.YtbmbfifempkhgaaOfAll
import Derived.Deep.Cut
import Derived.Deep.CutRange
namespace Go.Proofs.Ytbmbfifempkhgaa
open Go.RowKit

/-- a program in a block -/
theorem agg_seven {a b c d x y z a' b' c' d' x' y' z' : Value} (h : Value.agg #[a, b, c, d, x, y, z] = Value.agg #[a', b', c', d', x', y', z']) : x = x' ∧ y = y' ∧ z = z' := by
  injection h with h
  injection h with h
  simp only [List.cons.injEq, and_true] at h
  exact h.2.2.2.2
def ProgAt (w : World) (X : Nat) (P : GProg) : Prop := ∃ vp vl vo, w.heap[X]? = some (.cells #[.int .i64 P.memory, .int .i64 P.counters, .int .i64 P.ins, .int .i64 P.outs, vp, vl, vo] 39 (0, 0)) ∧ HasProg w (.agg #[.int .i64 P.memory, .int .i64 P.counters, .int .i64 P.ins, .int .i64 P.outs, vp, vl, vo]) P
theorem ProgAt.below {w w' : World} {X : Nat} {P : GProg} (h : ProgAt w X P) (hb : Below w.heap.size w w') : ProgAt w' X P := by
  obtain ⟨vp, vl, vo, h1, h2⟩ := h
  exact ⟨vp, vl, vo, (hb.block _ (block_lt h1)).trans h1, h2.below hb⟩
/-- what is in a block's program -/
theorem ProgAt.row {w : World} {X : Nat} {P : GProg} (h : ProgAt w X P) : ∃ vp vl ao co, w.heap[X]? = some (.cells #[.int .i64 P.memory, .int .i64 P.counters, .int .i64 P.ins, .int .i64 P.outs, vp, vl, .slice ao P.ops.length co] 39 (0, 0)) ∧ HasRow w (.slice ao P.ops.length co) P.ops := by
  obtain ⟨vp, vl, vo, h1, vp', vl', vo', e, _, _, h4⟩ := h
  obtain ⟨-, -, rfl⟩ := agg_seven e
  obtain ⟨ao, co, rfl⟩ := h4.slice
  exact ⟨vp, vl, ao, co, h1, h4⟩
theorem opAt_len {m : List (List GOp)} {k i : Nat} {y : GOp} (h : opAt m k i = some y) : i < (rowM m k).length := (List.getElem?_eq_some_iff.1 h).1
/-- what the operations of one firing are -/
theorem firing_ops {g : GGraph} (hc : checkE g = 0) (hf : FirOk g) {k : Nat} (hk : k < g.actors.length) {L : List GOp} (hL : L = rowM (matI2 g) k ++ [⟨5, k, 0⟩] ++ rowM (matO2 g) k ++ [⟨0, 0, 0⟩]) :
    L.length = (insP g.actors[k].tag g.actors[k].params).length + (outsP g.actors[k].tag g.actors[k].params).length + 2 ∧ L[(insP g.actors[k].tag g.actors[k].params).length]? = some ⟨5, k, 0⟩ ∧
    (∀ (j : Nat) (r : Int), (insP g.actors[k].tag g.actors[k].params)[j]? = some r → ∃ y, L[j]? = some y ∧ y.b = r ∧ RightIn g k j y) ∧
    (∀ (j : Nat) (r : Int), (outsP g.actors[k].tag g.actors[k].params)[j]? = some r → ∃ y, L[(insP g.actors[k].tag g.actors[k].params).length + 1 + j]? = some y ∧ y.b = r ∧ RightOut g k j y) := by
  have e1 : (rowM (matI2 g) k).length = (insP g.actors[k].tag g.actors[k].params).length := by
    rw [matI2_row g hk]; unfold insF; rw [List.getElem?_eq_getElem hk]; simp [rateL]
  have e2 : (rowM (matO2 g) k).length = (outsP g.actors[k].tag g.actors[k].params).length := by
    rw [matO2_row g hk]; unfold outsF; rw [List.getElem?_eq_getElem hk]; simp [rateL]
  subst hL
  refine ⟨by simp only [List.length_append, List.length_cons, List.length_nil]; omega, ?_, fun j r hr => ?_, fun j r hr => ?_⟩
  · rw [← e1, List.append_assoc, List.append_assoc, List.getElem?_append_right (Nat.le_refl _), Nat.sub_self]; rfl
  · obtain ⟨y, h1, h2, h3⟩ := right_in hc hf hk hr
    have hl := opAt_len h1
    refine ⟨y, ?_, h2, h3⟩
    rw [List.append_assoc, List.append_assoc, List.getElem?_append_left hl]
    exact h1
  · obtain ⟨y, h1, h2, h3⟩ := right_out hc hf hk hr
    have hl := opAt_len h1
    refine ⟨y, ?_, h2, h3⟩
    rw [← e1, List.append_assoc, List.getElem?_append_right (by simp only [List.length_append, List.length_cons, List.length_nil]; omega)]
    simp only [List.length_append, List.length_cons, List.length_nil]
    rw [show (rowM (matI2 g) k).length + 1 + j - ((rowM (matI2 g) k).length + (0 + 1)) = j by omega, List.getElem?_append_left hl]
    exact h1
theorem HasRow.op {w : World} {ao : Option Addr} {n cap : Nat} {l : List GOp} (h : HasRow w (.slice ao n cap) l) {j : Nat} {y : GOp} (hy : l[j]? = some y) : n ≤ cap ∧ j < n ∧ ∃ b off, ao = some ⟨b, off, none⟩ ∧ w.cell? ⟨b, off + j * 3, none⟩ = some (.int .u8 y.kind) ∧ w.cell? ⟨b, off + j * 3 + 1, none⟩ = some (.int .i64 y.a) ∧ w.cell? ⟨b, off + j * 3 + 2, none⟩ = some (.int .i64 y.b) := by
  obtain ⟨hj, rfl⟩ := List.getElem?_eq_some_iff.1 hy
  obtain ⟨h1, h2, b, off, h3, h4⟩ := h.at hj
  exact ⟨h2, by omega, b, off, h3, h4 j hj⟩



set_option maxRecDepth 100000 in
set_option maxHeartbeats 4000000 in
theorem ports_all (w : World) (vg vp : Value) (g : GGraph) (p : GPlan) (a : Int) (hg : HasGraph w vg g) (hp : HasPlan w vp p) (hgs : GSized g) (hgr : Great g) (hrl : p.regions.length ≤ 17600000000000) (ha : -9223372036854775808 ≤ a ∧ a ≤ 9223372036854775807) : Calls Try.prog 4 #[vg, vp, .int .i64 a] w (Tells (.bool true) w) := by
  obtain ⟨va, ve, vi, vo, rfl, ra, re, ri, ro⟩ := hg.shape
  obtain ⟨vr, rfl, rr⟩ := hp
  obtain ⟨aa, ac, rfl⟩ := ra.slice
  obtain ⟨ae, ec, rfl⟩ := re.slice
  obtain ⟨ai, ic, rfl⟩ := ri.slice
  obtain ⟨ao, oc, rfl⟩ := ro.slice
  obtain ⟨ar, rc, rfl⟩ := rr.slice
  have RG := Lib.hid hg
  have RP : Hid (HasPlan w (.agg #[.slice ar p.regions.length rc, .int .i64 p.total]) p) := Lib.hid ⟨_, rfl, rr⟩
  have HGS := Lib.hid hgs
  have HGR := Lib.hid hgr
  have HA := Lib.hid ha
  have RA := Lib.hid ra
  have RE := Lib.hid re
  have RI := Lib.hid ri
  have RO := Lib.hid ro
  have hb1 := below_alloc w (.cells #[.string g.name, .slice aa g.actors.length ac, .slice ae g.edges.length ec, .slice ai g.ins.length ic, .slice ao g.outs.length oc] 26)
  have h1 := heap_alloc_new w (.cells #[.string g.name, .slice aa g.actors.length ac, .slice ae g.edges.length ec, .slice ai g.ins.length ic, .slice ao g.outs.length oc] 26)
  have hs1 : (w.alloc (.cells #[.string g.name, .slice aa g.actors.length ac, .slice ae g.edges.length ec, .slice ai g.ins.length ic, .slice ao g.outs.length oc] 26)).heap.size = w.heap.size + 1 := by simp
  have hb2 := below_alloc (w.alloc (.cells #[.string g.name, .slice aa g.actors.length ac, .slice ae g.edges.length ec, .slice ai g.ins.length ic, .slice ao g.outs.length oc] 26)) (.cells #[.slice ar p.regions.length rc, .int .i64 p.total] 29)
  have h2 := heap_alloc_new (w.alloc (.cells #[.string g.name, .slice aa g.actors.length ac, .slice ae g.edges.length ec, .slice ai g.ins.length ic, .slice ao g.outs.length oc] 26)) (.cells #[.slice ar p.regions.length rc, .int .i64 p.total] 29)
  have h3 := block_alloc h1 (.cells #[.slice ar p.regions.length rc, .int .i64 p.total] 29)
  have HT := Lib.hid (((Then.refl w).step hb1).step hb2)
  rw [hs1] at h2
  obtain ⟨W, hW⟩ : ∃ x, (w.alloc (.cells #[.string g.name, .slice aa g.actors.length ac, .slice ae g.edges.length ec, .slice ai g.ins.length ic, .slice ao g.outs.length oc] 26)).alloc (.cells #[.slice ar p.regions.length rc, .int .i64 p.total] 29) = x := ⟨_, rfl⟩
  rw [hW] at h2 h3 HT
  have HGB := Lib.hid h3
  have HPB := Lib.hid h2
  have y0 := cells_row _ _ h3 0 _ rfl
  have y1 := cells_row _ _ h3 1 _ rfl
  have y2 := cells_row _ _ h3 2 _ rfl
  have y3 := cells_row _ _ h3 3 _ rfl
  have y4 := cells_row _ _ h3 4 _ rfl
  clear ra re ri ro rr hg hgs hgr ha hb1 hb2 h1 h2 h3 hs1
  go_enter Try.func4, Try.ntmps4
  go_wp2_with fail
  clear hW y0 y1 y2 y3 y4
  refine (heavy_graph _ _ g (RG.out.below HT.out.below) HGR.out).mono ?_
  rintro e wc ⟨b, rfl, hbl, hb⟩
  replace HT := Lib.hid (HT.out.step hb)
  replace HGB := Lib.hid ((hb.block _ (block_lt HGB.out)).trans HGB.out)
  replace HPB := Lib.hid ((hb.block _ (block_lt HPB.out)).trans HPB.out)
  clear hb
  have p0 := cells_row _ _ HPB.out 0 _ rfl
  cases b with
  | true =>
    go_wp2
    go_ret
    exact ⟨rfl, HT.out.below⟩
  | false =>
    have HH := Lib.hid (hbl rfl)
    clear hbl
    by_cases hr : 65536 < p.regions.length
    · have hri : (65536 : Int) < p.regions.length := by omega
      go_wp2
      go_ret
      exact ⟨rfl, HT.out.below⟩
    have hri : ¬ (65536 : Int) < p.regions.length := by omega
    have HRL := Lib.hid hr
    have HPS := Lib.hid HGR.out.params
    have HES := Lib.hid HGR.out.starts
    clear hr
    go_wp2_with fail
    clear hri p0
    go_cut [7, 8] from 26 to 36 (fun pp ee wx => ∃ X, pp = .pointer (some ⟨X, 0, none⟩) ∧ ee = .int .i64 (makeE g p (leaf1 1 a)) ∧ Then w wx ∧ wx.heap[w.heap.size]? = some (.cells #[.string g.name, .slice aa g.actors.length ac, .slice ae g.edges.length ec, .slice ai g.ins.length ic, .slice ao g.outs.length oc] 26 (0, 0)) ∧ ProgAt wx X (makeP g p (leaf1 1 a)))
    case first =>
      have hb : Below wc.heap.size wc wc.drew := below_dr (n := 1) (Below.refl _ _)
      replace HT := Lib.hid (HT.out.step hb)
      replace HGB := Lib.hid ((hb.block _ (block_lt HGB.out)).trans HGB.out)
      replace HPB := Lib.hid ((hb.block _ (block_lt HPB.out)).trans HPB.out)
      clear hb
      refine wp_region_drift (fun w' => w'.cell? ⟨w.heap.size, 0, none⟩ = some (.string g.name) ∧ w'.cell? ⟨w.heap.size, 1, none⟩ = some (.slice aa g.actors.length ac) ∧ w'.cell? ⟨w.heap.size, 2, none⟩ = some (.slice ae g.edges.length ec) ∧ w'.cell? ⟨w.heap.size, 3, none⟩ = some (.slice ai g.ins.length ic) ∧ w'.cell? ⟨w.heap.size, 4, none⟩ = some (.slice ao g.outs.length oc) ∧ w'.cell? ⟨w.heap.size + 1, 0, none⟩ = some (.slice ar p.regions.length rc) ∧ w'.cell? ⟨w.heap.size + 1, 1, none⟩ = some (.int .i64 p.total)) [0, 2, 4, 5, 8, 9, 10] [1, 3, 7] [0, 2, 4, 5] 10 (by kernel_rfl) (by kernel_rfl) rfl ⟨cells_row _ _ HGB.out 0 _ rfl, cells_row _ _ HGB.out 1 _ rfl, cells_row _ _ HGB.out 2 _ rfl, cells_row _ _ HGB.out 3 _ rfl, cells_row _ _ HGB.out 4 _ rfl, cells_row _ _ HPB.out 0 _ rfl, cells_row _ _ HPB.out 1 _ rfl⟩ ?_
      intro Q' hQ' hQ2
      simp only [pickOps, List.flatMap_cons, List.flatMap_nil, List.drop_succ_cons, List.drop_zero, List.take_succ_cons, List.take_zero, List.cons_append, List.nil_append, List.append_nil]
      repeat (first
        | (refine wpReads_skip (by rfl) ?_; (try simp only [Act.put, List.setIfInBounds_toArray, List.set_cons_zero, List.set_cons_succ]))
        | (refine wpReads_cons ?_ (by rfl) (by rfl) ?_ ?_; rotate_left; (intro wz hz; (try dsimp only at hz); go_simp; try with_reducible rfl); (try simp only [Act.put, List.setIfInBounds_toArray, List.set_cons_zero, List.set_cons_succ]))
        | (refine wpReads_any ?_ (by rfl) ?_ ?_; rotate_left; (intro wz; go_simp; try with_reducible rfl); (try simp only [Act.put, List.setIfInBounds_toArray, List.set_cons_zero, List.set_cons_succ])))
      refine wpReads_nil ?_
      obtain ⟨wd, hwd⟩ : ∃ x, wc.drew = x := ⟨_, rfl⟩
      rw [hwd] at HT HGB HPB ⊢
      clear hwd
      obtain ⟨wc, hwc⟩ : ∃ x, x = wd := ⟨_, rfl⟩
      subst hwc
      refine wpAnyT_three (i := 1) (k := 6) (m := 11) (by kernel_rfl) ?_ ?_ ?_
      · skip
        simp only [pickOps, List.flatMap_cons, List.flatMap_nil, List.drop_succ_cons, List.drop_zero, List.take_succ_cons, List.take_zero, List.append_nil]
        go_wp2_with fail
        refine (lentgraph_any _ _ g (RG.out.below HT.out.below) HH.out HPS.out HES.out).mono ?_
        rintro e wc ⟨vgl, rfl, hgl, hb⟩
        replace HT := Lib.hid (HT.out.step hb)
        replace HGB := Lib.hid ((hb.block _ (block_lt HGB.out)).trans HGB.out)
        replace HPB := Lib.hid ((hb.block _ (block_lt HPB.out)).trans HPB.out)
        try replace HGL := Lib.hid (HGL.out.below hb)
        try replace HPL := Lib.hid (HPL.out.below hb)
        try replace HNL := Lib.hid (nestD_below 1 HNL.out hb)
        try replace HX := Lib.hid ((hb.block _ (block_lt HX.out)).trans HX.out)
        have HGL := Lib.hid hgl
        clear hgl hb
        go_wp2_with fail
        refine ⟨fun _ _ => ⟨cells_row _ _ HGB.out 0 _ rfl, cells_row _ _ HGB.out 1 _ rfl, cells_row _ _ HGB.out 2 _ rfl, cells_row _ _ HGB.out 3 _ rfl, cells_row _ _ HGB.out 4 _ rfl, cells_row _ _ HPB.out 0 _ rfl, cells_row _ _ HPB.out 1 _ rfl⟩, ?_⟩
        refine wpAnyT_three (i := 3) (k := 6) (m := 11) (by kernel_rfl) ?_ ?_ ?_
        · skip
          simp only [pickOps, List.flatMap_cons, List.flatMap_nil, List.drop_succ_cons, List.drop_zero, List.take_succ_cons, List.take_zero, List.append_nil]
          go_wp2_with fail
          refine (lentplan_any _ _ p (RP.out.below HT.out.below) (by have := HRL.out; omega)).mono ?_
          rintro e wc ⟨vpl, rfl, hpl, hb⟩
          replace HT := Lib.hid (HT.out.step hb)
          replace HGB := Lib.hid ((hb.block _ (block_lt HGB.out)).trans HGB.out)
          replace HPB := Lib.hid ((hb.block _ (block_lt HPB.out)).trans HPB.out)
          try replace HGL := Lib.hid (HGL.out.below hb)
          try replace HPL := Lib.hid (HPL.out.below hb)
          try replace HNL := Lib.hid (nestD_below 1 HNL.out hb)
          try replace HX := Lib.hid ((hb.block _ (block_lt HX.out)).trans HX.out)
          have HPL := Lib.hid hpl
          clear hpl hb
          go_wp2_with fail
          refine ⟨fun _ _ => ⟨cells_row _ _ HGB.out 0 _ rfl, cells_row _ _ HGB.out 1 _ rfl, cells_row _ _ HGB.out 2 _ rfl, cells_row _ _ HGB.out 3 _ rfl, cells_row _ _ HGB.out 4 _ rfl, cells_row _ _ HPB.out 0 _ rfl, cells_row _ _ HPB.out 1 _ rfl⟩, ?_⟩
          refine wpAnyT_two (i := 6) (k := 11) (by kernel_rfl) ?_ ?_
          · skip
            simp only [pickOps, List.flatMap_cons, List.flatMap_nil, List.drop_succ_cons, List.drop_zero, List.take_succ_cons, List.take_zero, List.append_nil]
            have hb := below_alloc wc (.cells #[.int .i64 1, .int .i64 a, .slice none 0 0] 51)
            have hl := leaf_has wc 1 a
            go_wp2
            replace HT := Lib.hid (HT.out.step hb)
            replace HGB := Lib.hid ((hb.block _ (block_lt HGB.out)).trans HGB.out)
            replace HPB := Lib.hid ((hb.block _ (block_lt HPB.out)).trans HPB.out)
            try replace HGL := Lib.hid (HGL.out.below hb)
            try replace HPL := Lib.hid (HPL.out.below hb)
            try replace HNL := Lib.hid (nestD_below 1 HNL.out hb)
            try replace HX := Lib.hid ((hb.block _ (block_lt HX.out)).trans HX.out)
            have HNL := Lib.hid hl
            clear hb hl
            refine ⟨fun _ _ => ⟨cells_row _ _ HGB.out 0 _ rfl, cells_row _ _ HGB.out 1 _ rfl, cells_row _ _ HGB.out 2 _ rfl, cells_row _ _ HGB.out 3 _ rfl, cells_row _ _ HGB.out 4 _ rfl, cells_row _ _ HPB.out 0 _ rfl, cells_row _ _ HPB.out 1 _ rfl⟩, ?_⟩
            obtain ⟨wd, hwd⟩ : ∃ x, wc.alloc (.cells #[.int .i64 1, .int .i64 a, .slice none 0 0] 51) = x := ⟨_, rfl⟩
            rw [hwd] at HT HGB HPB HNL ⊢
            try rw [hwd] at HGL
            try rw [hwd] at HPL
            try rw [hwd] at HX
            clear hwd
            obtain ⟨wc, hwc⟩ : ∃ x, x = wd := ⟨_, rfl⟩
            subst hwc
            refine wpAnyT_two (i := 7) (k := 11) (by kernel_rfl) ?_ ?_
            · skip
              simp only [pickOps, List.flatMap_cons, List.flatMap_nil, List.drop_succ_cons, List.drop_zero, List.take_succ_cons, List.take_zero, List.append_nil]
              go_wp2_with fail
              try have HXL := Lib.hid (block_lt HX.out)
              refine (make_fresh 1 _ _ _ _ g p (leaf1 1 a) HGL.out HPL.out HNL.out HGS.out (leaf_sized 1 a)).mono ?_
              rintro e wm ⟨v4, rfl, hpf, hb⟩
              obtain ⟨vp, vl, vo, rfl, rp, rl, ro⟩ := hpf _ (Mods.refl _ _)
              obtain ⟨ap, cp, rfl⟩ := rp.slice
              obtain ⟨al, cl, rfl⟩ := rl.slice
              obtain ⟨ao2, co, rfl⟩ := ro.slice
              have HPF := Lib.hid hpf
              clear rp rl ro hpf HGL HPL HNL
              replace HT := Lib.hid (HT.out.step hb)
              replace HGB := Lib.hid ((hb.block _ (block_lt HGB.out)).trans HGB.out)
              replace HPB := Lib.hid ((hb.block _ (block_lt HPB.out)).trans HPB.out)
              try replace HGL := Lib.hid (HGL.out.below hb)
              try replace HPL := Lib.hid (HPL.out.below hb)
              try replace HNL := Lib.hid (nestD_below 1 HNL.out hb)
              try replace HX := Lib.hid ((hb.block _ (block_lt HX.out)).trans HX.out)
              clear hb
              go_wp2_with fail
              refine ⟨fun _ _ => ⟨cells_row _ _ HGB.out 0 _ rfl, cells_row _ _ HGB.out 1 _ rfl, cells_row _ _ HGB.out 2 _ rfl, cells_row _ _ HGB.out 3 _ rfl, cells_row _ _ HGB.out 4 _ rfl, cells_row _ _ HPB.out 0 _ rfl, cells_row _ _ HPB.out 1 _ rfl⟩, ?_⟩
              refine wpAnyT_later (r := [8, 9, 10]) (n := 3) hQ2 (by kernel_rfl) ⟨cells_row _ _ HGB.out 0 _ rfl, cells_row _ _ HGB.out 1 _ rfl, cells_row _ _ HGB.out 2 _ rfl, cells_row _ _ HGB.out 3 _ rfl, cells_row _ _ HGB.out 4 _ rfl, cells_row _ _ HPB.out 0 _ rfl, cells_row _ _ HPB.out 1 _ rfl⟩ ?_
              simp only [pickOps, List.flatMap_cons, List.flatMap_nil, List.drop_succ_cons, List.drop_zero, List.take_succ_cons, List.take_zero, List.cons_append, List.nil_append, List.append_nil]
              repeat (first
                | (refine wpReads_skip (by rfl) ?_; (try simp only [Act.put, List.setIfInBounds_toArray, List.set_cons_zero, List.set_cons_succ]))
                | (refine wpReads_cons ?_ (by rfl) (by rfl) ?_ ?_; rotate_left; (intro wz hz; (try dsimp only at hz); go_simp; try with_reducible rfl); (try simp only [Act.put, List.setIfInBounds_toArray, List.set_cons_zero, List.set_cons_succ]))
                | (refine wpReads_any ?_ (by rfl) ?_ ?_; rotate_left; (intro wz; go_simp; try with_reducible rfl); (try simp only [Act.put, List.setIfInBounds_toArray, List.set_cons_zero, List.set_cons_succ])))
              refine wpReads_nil ?_
              clear hQ2
              refine wpAnyT_list (ks := [11, 12, 13]) (fun _ _ hx h => ⟨hx.cell h.1, hx.cell h.2.1, hx.cell h.2.2.1, hx.cell h.2.2.2.1, hx.cell h.2.2.2.2.1, hx.cell h.2.2.2.2.2.1, hx.cell h.2.2.2.2.2.2⟩) (by kernel_rfl) ?_
              simp only [pickOps, List.flatMap_cons, List.flatMap_nil, List.drop_succ_cons, List.drop_zero, List.take_succ_cons, List.take_zero, List.cons_append, List.nil_append, List.append_nil]
              go_wp2
              go_meet
              case rel => exact ⟨wm.heap.size, rfl, rfl, HT.out.step (below_alloc wm (.cells #[.int .i64 (makeP g p (leaf1 1 a)).memory, .int .i64 (makeP g p (leaf1 1 a)).counters, .int .i64 (makeP g p (leaf1 1 a)).ins, .int .i64 (makeP g p (leaf1 1 a)).outs, .slice ap (makeP g p (leaf1 1 a)).parts.length cp, .slice al (makeP g p (leaf1 1 a)).lines.length cl, .slice ao2 (makeP g p (leaf1 1 a)).ops.length co] 39)), block_alloc HGB.out _, _, _, _, heap_alloc_new wm _, HPF.out _ ((Mods.refl _ wm).alloc _)⟩
            · skip
              simp only [pickOps, List.flatMap_cons, List.flatMap_nil, List.drop_succ_cons, List.drop_zero, List.take_succ_cons, List.take_zero, List.append_nil]
              have hb := below_alloc wc (.cells progZ 39)
              have hx := heap_alloc_new wc (.cells progZ 39)
              have hxw := block_lt HPB.out
              go_wp2
              replace HT := Lib.hid (HT.out.step hb)
              replace HGB := Lib.hid ((hb.block _ (block_lt HGB.out)).trans HGB.out)
              replace HPB := Lib.hid ((hb.block _ (block_lt HPB.out)).trans HPB.out)
              try replace HGL := Lib.hid (HGL.out.below hb)
              try replace HPL := Lib.hid (HPL.out.below hb)
              try replace HNL := Lib.hid (nestD_below 1 HNL.out hb)
              try replace HX := Lib.hid ((hb.block _ (block_lt HX.out)).trans HX.out)
              have HX := Lib.hid hx
              have HXW : Hid (w.heap.size + 1 < wc.heap.size) := Lib.hid hxw
              clear hb hx hxw
              refine ⟨fun _ _ => ⟨cells_row _ _ HGB.out 0 _ rfl, cells_row _ _ HGB.out 1 _ rfl, cells_row _ _ HGB.out 2 _ rfl, cells_row _ _ HGB.out 3 _ rfl, cells_row _ _ HGB.out 4 _ rfl, cells_row _ _ HPB.out 0 _ rfl, cells_row _ _ HPB.out 1 _ rfl⟩, ?_⟩
              obtain ⟨wd, hwd⟩ : ∃ x, wc.alloc (.cells progZ 39) = x := ⟨_, rfl⟩
              rw [hwd] at HT HGB HPB HX ⊢
              try rw [hwd] at HGL
              try rw [hwd] at HPL
              try rw [hwd] at HNL
              clear hwd
              obtain ⟨X, hX⟩ : ∃ x, wc.heap.size = x := ⟨_, rfl⟩
              rw [hX] at HX HXW ⊢
              clear hX
              obtain ⟨wc, hwc⟩ : ∃ x, x = wd := ⟨_, rfl⟩
              subst hwc
              refine wpAnyT_one (i := 7) (by kernel_rfl) ?_
              simp only [pickOps, List.flatMap_cons, List.flatMap_nil, List.drop_succ_cons, List.drop_zero, List.take_succ_cons, List.take_zero, List.append_nil]
              go_wp2_with fail
              try have HXL := Lib.hid (block_lt HX.out)
              refine (make_fresh 1 _ _ _ _ g p (leaf1 1 a) HGL.out HPL.out HNL.out HGS.out (leaf_sized 1 a)).mono ?_
              rintro e wm ⟨v4, rfl, hpf, hb⟩
              obtain ⟨vp, vl, vo, rfl, rp, rl, ro⟩ := hpf _ (Mods.refl _ _)
              obtain ⟨ap, cp, rfl⟩ := rp.slice
              obtain ⟨al, cl, rfl⟩ := rl.slice
              obtain ⟨ao2, co, rfl⟩ := ro.slice
              have HPF := Lib.hid hpf
              clear rp rl ro hpf HGL HPL HNL
              replace HT := Lib.hid (HT.out.step hb)
              replace HGB := Lib.hid ((hb.block _ (block_lt HGB.out)).trans HGB.out)
              replace HPB := Lib.hid ((hb.block _ (block_lt HPB.out)).trans HPB.out)
              try replace HGL := Lib.hid (HGL.out.below hb)
              try replace HPL := Lib.hid (HPL.out.below hb)
              try replace HNL := Lib.hid (nestD_below 1 HNL.out hb)
              try replace HX := Lib.hid ((hb.block _ (block_lt HX.out)).trans HX.out)
              clear hb
              go_wp2_with fail
              refine ⟨fun _ _ => ⟨cells_row _ _ HGB.out 0 _ rfl, cells_row _ _ HGB.out 1 _ rfl, cells_row _ _ HGB.out 2 _ rfl, cells_row _ _ HGB.out 3 _ rfl, cells_row _ _ HGB.out 4 _ rfl, cells_row _ _ HPB.out 0 _ rfl, cells_row _ _ HPB.out 1 _ rfl⟩, ?_⟩
              refine wpAnyT_later (r := [8, 9, 10]) (n := 2) hQ2 (by kernel_rfl) ⟨cells_row _ _ HGB.out 0 _ rfl, cells_row _ _ HGB.out 1 _ rfl, cells_row _ _ HGB.out 2 _ rfl, cells_row _ _ HGB.out 3 _ rfl, cells_row _ _ HGB.out 4 _ rfl, cells_row _ _ HPB.out 0 _ rfl, cells_row _ _ HPB.out 1 _ rfl⟩ ?_
              simp only [pickOps, List.flatMap_cons, List.flatMap_nil, List.drop_succ_cons, List.drop_zero, List.take_succ_cons, List.take_zero, List.cons_append, List.nil_append, List.append_nil]
              repeat (first
                | (refine wpReads_skip (by rfl) ?_; (try simp only [Act.put, List.setIfInBounds_toArray, List.set_cons_zero, List.set_cons_succ]))
                | (refine wpReads_cons ?_ (by rfl) (by rfl) ?_ ?_; rotate_left; (intro wz hz; (try dsimp only at hz); go_simp; try with_reducible rfl); (try simp only [Act.put, List.setIfInBounds_toArray, List.set_cons_zero, List.set_cons_succ]))
                | (refine wpReads_any ?_ (by rfl) ?_ ?_; rotate_left; (intro wz; go_simp; try with_reducible rfl); (try simp only [Act.put, List.setIfInBounds_toArray, List.set_cons_zero, List.set_cons_succ])))
              refine wpReads_nil ?_
              clear hQ2
              refine wpAnyT_list (ks := [12, 13]) (fun _ _ hx h => ⟨hx.cell h.1, hx.cell h.2.1, hx.cell h.2.2.1, hx.cell h.2.2.2.1, hx.cell h.2.2.2.2.1, hx.cell h.2.2.2.2.2.1, hx.cell h.2.2.2.2.2.2⟩) (by kernel_rfl) ?_
              simp only [pickOps, List.flatMap_cons, List.flatMap_nil, List.drop_succ_cons, List.drop_zero, List.take_succ_cons, List.take_zero, List.cons_append, List.nil_append, List.append_nil]
              have z0 := cells_row _ _ HX.out 0 _ rfl
              have z1 := cells_row _ _ HX.out 1 _ rfl
              have z2 := cells_row _ _ HX.out 2 _ rfl
              have z3 := cells_row _ _ HX.out 3 _ rfl
              have z4 := cells_row _ _ HX.out 4 _ rfl
              have z5 := cells_row _ _ HX.out 5 _ rfl
              have z6 := cells_row _ _ HX.out 6 _ rfl
              have f0 := frozen_of_block HX.out 0
              have f1 := frozen_of_block HX.out 1
              have f2 := frozen_of_block HX.out 2
              have f3 := frozen_of_block HX.out 3
              have f4 := frozen_of_block HX.out 4
              have f5 := frozen_of_block HX.out 5
              have f6 := frozen_of_block HX.out 6
              go_wp2
              have mm := prog_mods wm X (.int .i64 (makeP g p (leaf1 1 a)).memory) (.int .i64 (makeP g p (leaf1 1 a)).counters) (.int .i64 (makeP g p (leaf1 1 a)).ins) (.int .i64 (makeP g p (leaf1 1 a)).outs) (.slice ap (makeP g p (leaf1 1 a)).parts.length cp) (.slice al (makeP g p (leaf1 1 a)).lines.length cl) (.slice ao2 (makeP g p (leaf1 1 a)).ops.length co)
              go_meet
              case rel => exact ⟨X, rfl, rfl, ⟨HT.out.below.trans (mm.below HT.out.size (fun k hk e => by have := HXW.out; omega)), Nat.le_trans HT.out.size mm.size⟩, block_mods HGB.out mm (by have := HXW.out; omega), _, _, _, prog_set HX.out _ _ _ _ _ _ _, HPF.out _ (mm.mono (fun k _ e => by subst e; exact HXL.out))⟩
          · skip
            simp only [pickOps, List.flatMap_cons, List.flatMap_nil, List.drop_succ_cons, List.drop_zero, List.take_succ_cons, List.take_zero, List.append_nil]
            have hb := below_alloc wc (.cells progZ 39)
            have hx := heap_alloc_new wc (.cells progZ 39)
            have hxw := block_lt HPB.out
            go_wp2
            replace HT := Lib.hid (HT.out.step hb)
            replace HGB := Lib.hid ((hb.block _ (block_lt HGB.out)).trans HGB.out)
            replace HPB := Lib.hid ((hb.block _ (block_lt HPB.out)).trans HPB.out)
            try replace HGL := Lib.hid (HGL.out.below hb)
            try replace HPL := Lib.hid (HPL.out.below hb)
            try replace HNL := Lib.hid (nestD_below 1 HNL.out hb)
            try replace HX := Lib.hid ((hb.block _ (block_lt HX.out)).trans HX.out)
            have HX := Lib.hid hx
            have HXW : Hid (w.heap.size + 1 < wc.heap.size) := Lib.hid hxw
            clear hb hx hxw
            refine ⟨fun _ _ => ⟨cells_row _ _ HGB.out 0 _ rfl, cells_row _ _ HGB.out 1 _ rfl, cells_row _ _ HGB.out 2 _ rfl, cells_row _ _ HGB.out 3 _ rfl, cells_row _ _ HGB.out 4 _ rfl, cells_row _ _ HPB.out 0 _ rfl, cells_row _ _ HPB.out 1 _ rfl⟩, ?_⟩
            obtain ⟨wd, hwd⟩ : ∃ x, wc.alloc (.cells progZ 39) = x := ⟨_, rfl⟩
            rw [hwd] at HT HGB HPB HX ⊢
            try rw [hwd] at HGL
            try rw [hwd] at HPL
            try rw [hwd] at HNL
            clear hwd
            obtain ⟨X, hX⟩ : ∃ x, wc.heap.size = x := ⟨_, rfl⟩
            rw [hX] at HX HXW ⊢
            clear hX
            obtain ⟨wc, hwc⟩ : ∃ x, x = wd := ⟨_, rfl⟩
            subst hwc
            refine wpAnyT_one (i := 6) (by kernel_rfl) ?_
            simp only [pickOps, List.flatMap_cons, List.flatMap_nil, List.drop_succ_cons, List.drop_zero, List.take_succ_cons, List.take_zero, List.append_nil]
            have hb := below_alloc wc (.cells #[.int .i64 1, .int .i64 a, .slice none 0 0] 51)
            have hl := leaf_has wc 1 a
            go_wp2
            replace HT := Lib.hid (HT.out.step hb)
            replace HGB := Lib.hid ((hb.block _ (block_lt HGB.out)).trans HGB.out)
            replace HPB := Lib.hid ((hb.block _ (block_lt HPB.out)).trans HPB.out)
            try replace HGL := Lib.hid (HGL.out.below hb)
            try replace HPL := Lib.hid (HPL.out.below hb)
            try replace HNL := Lib.hid (nestD_below 1 HNL.out hb)
            try replace HX := Lib.hid ((hb.block _ (block_lt HX.out)).trans HX.out)
            have HNL := Lib.hid hl
            clear hb hl
            refine ⟨fun _ _ => ⟨cells_row _ _ HGB.out 0 _ rfl, cells_row _ _ HGB.out 1 _ rfl, cells_row _ _ HGB.out 2 _ rfl, cells_row _ _ HGB.out 3 _ rfl, cells_row _ _ HGB.out 4 _ rfl, cells_row _ _ HPB.out 0 _ rfl, cells_row _ _ HPB.out 1 _ rfl⟩, ?_⟩
            obtain ⟨wd, hwd⟩ : ∃ x, wc.alloc (.cells #[.int .i64 1, .int .i64 a, .slice none 0 0] 51) = x := ⟨_, rfl⟩
            rw [hwd] at HT HGB HPB HNL ⊢
            try rw [hwd] at HGL
            try rw [hwd] at HPL
            try rw [hwd] at HX
            clear hwd
            obtain ⟨wc, hwc⟩ : ∃ x, x = wd := ⟨_, rfl⟩
            subst hwc
            refine wpAnyT_one (i := 7) (by kernel_rfl) ?_
            simp only [pickOps, List.flatMap_cons, List.flatMap_nil, List.drop_succ_cons, List.drop_zero, List.take_succ_cons, List.take_zero, List.append_nil]
            go_wp2_with fail
            try have HXL := Lib.hid (block_lt HX.out)
            refine (make_fresh 1 _ _ _ _ g p (leaf1 1 a) HGL.out HPL.out HNL.out HGS.out (leaf_sized 1 a)).mono ?_
            rintro e wm ⟨v4, rfl, hpf, hb⟩
            obtain ⟨vp, vl, vo, rfl, rp, rl, ro⟩ := hpf _ (Mods.refl _ _)
            obtain ⟨ap, cp, rfl⟩ := rp.slice
            obtain ⟨al, cl, rfl⟩ := rl.slice
            obtain ⟨ao2, co, rfl⟩ := ro.slice
            have HPF := Lib.hid hpf
            clear rp rl ro hpf HGL HPL HNL
            replace HT := Lib.hid (HT.out.step hb)
            replace HGB := Lib.hid ((hb.block _ (block_lt HGB.out)).trans HGB.out)
            replace HPB := Lib.hid ((hb.block _ (block_lt HPB.out)).trans HPB.out)
            try replace HGL := Lib.hid (HGL.out.below hb)
            try replace HPL := Lib.hid (HPL.out.below hb)
            try replace HNL := Lib.hid (nestD_below 1 HNL.out hb)
            try replace HX := Lib.hid ((hb.block _ (block_lt HX.out)).trans HX.out)
            clear hb
            go_wp2_with fail
            refine ⟨fun _ _ => ⟨cells_row _ _ HGB.out 0 _ rfl, cells_row _ _ HGB.out 1 _ rfl, cells_row _ _ HGB.out 2 _ rfl, cells_row _ _ HGB.out 3 _ rfl, cells_row _ _ HGB.out 4 _ rfl, cells_row _ _ HPB.out 0 _ rfl, cells_row _ _ HPB.out 1 _ rfl⟩, ?_⟩
            refine wpAnyT_later (r := [8, 9, 10]) (n := 2) hQ2 (by kernel_rfl) ⟨cells_row _ _ HGB.out 0 _ rfl, cells_row _ _ HGB.out 1 _ rfl, cells_row _ _ HGB.out 2 _ rfl, cells_row _ _ HGB.out 3 _ rfl, cells_row _ _ HGB.out 4 _ rfl, cells_row _ _ HPB.out 0 _ rfl, cells_row _ _ HPB.out 1 _ rfl⟩ ?_
            simp only [pickOps, List.flatMap_cons, List.flatMap_nil, List.drop_succ_cons, List.drop_zero, List.take_succ_cons, List.take_zero, List.cons_append, List.nil_append, List.append_nil]
            repeat (first
              | (refine wpReads_skip (by rfl) ?_; (try simp only [Act.put, List.setIfInBounds_toArray, List.set_cons_zero, List.set_cons_succ]))
              | (refine wpReads_cons ?_ (by rfl) (by rfl) ?_ ?_; rotate_left; (intro wz hz; (try dsimp only at hz); go_simp; try with_reducible rfl); (try simp only [Act.put, List.setIfInBounds_toArray, List.set_cons_zero, List.set_cons_succ]))
              | (refine wpReads_any ?_ (by rfl) ?_ ?_; rotate_left; (intro wz; go_simp; try with_reducible rfl); (try simp only [Act.put, List.setIfInBounds_toArray, List.set_cons_zero, List.set_cons_succ])))
            refine wpReads_nil ?_
            clear hQ2
            refine wpAnyT_list (ks := [12, 13]) (fun _ _ hx h => ⟨hx.cell h.1, hx.cell h.2.1, hx.cell h.2.2.1, hx.cell h.2.2.2.1, hx.cell h.2.2.2.2.1, hx.cell h.2.2.2.2.2.1, hx.cell h.2.2.2.2.2.2⟩) (by kernel_rfl) ?_
            simp only [pickOps, List.flatMap_cons, List.flatMap_nil, List.drop_succ_cons, List.drop_zero, List.take_succ_cons, List.take_zero, List.cons_append, List.nil_append, List.append_nil]
            have z0 := cells_row _ _ HX.out 0 _ rfl
            have z1 := cells_row _ _ HX.out 1 _ rfl
            have z2 := cells_row _ _ HX.out 2 _ rfl
            have z3 := cells_row _ _ HX.out 3 _ rfl
            have z4 := cells_row _ _ HX.out 4 _ rfl
            have z5 := cells_row _ _ HX.out 5 _ rfl
            have z6 := cells_row _ _ HX.out 6 _ rfl
            have f0 := frozen_of_block HX.out 0
            have f1 := frozen_of_block HX.out 1
            have f2 := frozen_of_block HX.out 2
            have f3 := frozen_of_block HX.out 3
            have f4 := frozen_of_block HX.out 4
            have f5 := frozen_of_block HX.out 5
            have f6 := frozen_of_block HX.out 6
            go_wp2
            have mm := prog_mods wm X (.int .i64 (makeP g p (leaf1 1 a)).memory) (.int .i64 (makeP g p (leaf1 1 a)).counters) (.int .i64 (makeP g p (leaf1 1 a)).ins) (.int .i64 (makeP g p (leaf1 1 a)).outs) (.slice ap (makeP g p (leaf1 1 a)).parts.length cp) (.slice al (makeP g p (leaf1 1 a)).lines.length cl) (.slice ao2 (makeP g p (leaf1 1 a)).ops.length co)
            go_meet
            case rel => exact ⟨X, rfl, rfl, ⟨HT.out.below.trans (mm.below HT.out.size (fun k hk e => by have := HXW.out; omega)), Nat.le_trans HT.out.size mm.size⟩, block_mods HGB.out mm (by have := HXW.out; omega), _, _, _, prog_set HX.out _ _ _ _ _ _ _, HPF.out _ (mm.mono (fun k _ e => by subst e; exact HXL.out))⟩
        · skip
          simp only [pickOps, List.flatMap_cons, List.flatMap_nil, List.drop_succ_cons, List.drop_zero, List.take_succ_cons, List.take_zero, List.append_nil]
          have hb := below_alloc wc (.cells #[.int .i64 1, .int .i64 a, .slice none 0 0] 51)
          have hl := leaf_has wc 1 a
          go_wp2
          replace HT := Lib.hid (HT.out.step hb)
          replace HGB := Lib.hid ((hb.block _ (block_lt HGB.out)).trans HGB.out)
          replace HPB := Lib.hid ((hb.block _ (block_lt HPB.out)).trans HPB.out)
          try replace HGL := Lib.hid (HGL.out.below hb)
          try replace HPL := Lib.hid (HPL.out.below hb)
          try replace HNL := Lib.hid (nestD_below 1 HNL.out hb)
          try replace HX := Lib.hid ((hb.block _ (block_lt HX.out)).trans HX.out)
          have HNL := Lib.hid hl
          clear hb hl
          refine ⟨fun _ _ => ⟨cells_row _ _ HGB.out 0 _ rfl, cells_row _ _ HGB.out 1 _ rfl, cells_row _ _ HGB.out 2 _ rfl, cells_row _ _ HGB.out 3 _ rfl, cells_row _ _ HGB.out 4 _ rfl, cells_row _ _ HPB.out 0 _ rfl, cells_row _ _ HPB.out 1 _ rfl⟩, ?_⟩
          obtain ⟨wd, hwd⟩ : ∃ x, wc.alloc (.cells #[.int .i64 1, .int .i64 a, .slice none 0 0] 51) = x := ⟨_, rfl⟩
          rw [hwd] at HT HGB HPB HNL ⊢
          try rw [hwd] at HGL
          try rw [hwd] at HPL
          try rw [hwd] at HX
          clear hwd
          obtain ⟨wc, hwc⟩ : ∃ x, x = wd := ⟨_, rfl⟩
          subst hwc
          refine wpAnyT_two (i := 3) (k := 11) (by kernel_rfl) ?_ ?_
          · skip
            simp only [pickOps, List.flatMap_cons, List.flatMap_nil, List.drop_succ_cons, List.drop_zero, List.take_succ_cons, List.take_zero, List.append_nil]
            go_wp2_with fail
            refine (lentplan_any _ _ p (RP.out.below HT.out.below) (by have := HRL.out; omega)).mono ?_
            rintro e wc ⟨vpl, rfl, hpl, hb⟩
            replace HT := Lib.hid (HT.out.step hb)
            replace HGB := Lib.hid ((hb.block _ (block_lt HGB.out)).trans HGB.out)
            replace HPB := Lib.hid ((hb.block _ (block_lt HPB.out)).trans HPB.out)
            try replace HGL := Lib.hid (HGL.out.below hb)
            try replace HPL := Lib.hid (HPL.out.below hb)
            try replace HNL := Lib.hid (nestD_below 1 HNL.out hb)
            try replace HX := Lib.hid ((hb.block _ (block_lt HX.out)).trans HX.out)
            have HPL := Lib.hid hpl
            clear hpl hb
            go_wp2_with fail
            refine ⟨fun _ _ => ⟨cells_row _ _ HGB.out 0 _ rfl, cells_row _ _ HGB.out 1 _ rfl, cells_row _ _ HGB.out 2 _ rfl, cells_row _ _ HGB.out 3 _ rfl, cells_row _ _ HGB.out 4 _ rfl, cells_row _ _ HPB.out 0 _ rfl, cells_row _ _ HPB.out 1 _ rfl⟩, ?_⟩
            refine wpAnyT_two (i := 7) (k := 11) (by kernel_rfl) ?_ ?_
            · skip
              simp only [pickOps, List.flatMap_cons, List.flatMap_nil, List.drop_succ_cons, List.drop_zero, List.take_succ_cons, List.take_zero, List.append_nil]
              go_wp2_with fail
              try have HXL := Lib.hid (block_lt HX.out)
              refine (make_fresh 1 _ _ _ _ g p (leaf1 1 a) HGL.out HPL.out HNL.out HGS.out (leaf_sized 1 a)).mono ?_
              rintro e wm ⟨v4, rfl, hpf, hb⟩
              obtain ⟨vp, vl, vo, rfl, rp, rl, ro⟩ := hpf _ (Mods.refl _ _)
              obtain ⟨ap, cp, rfl⟩ := rp.slice
              obtain ⟨al, cl, rfl⟩ := rl.slice
              obtain ⟨ao2, co, rfl⟩ := ro.slice
              have HPF := Lib.hid hpf
              clear rp rl ro hpf HGL HPL HNL
              replace HT := Lib.hid (HT.out.step hb)
              replace HGB := Lib.hid ((hb.block _ (block_lt HGB.out)).trans HGB.out)
              replace HPB := Lib.hid ((hb.block _ (block_lt HPB.out)).trans HPB.out)
              try replace HGL := Lib.hid (HGL.out.below hb)
              try replace HPL := Lib.hid (HPL.out.below hb)
              try replace HNL := Lib.hid (nestD_below 1 HNL.out hb)
              try replace HX := Lib.hid ((hb.block _ (block_lt HX.out)).trans HX.out)
              clear hb
              go_wp2_with fail
              refine ⟨fun _ _ => ⟨cells_row _ _ HGB.out 0 _ rfl, cells_row _ _ HGB.out 1 _ rfl, cells_row _ _ HGB.out 2 _ rfl, cells_row _ _ HGB.out 3 _ rfl, cells_row _ _ HGB.out 4 _ rfl, cells_row _ _ HPB.out 0 _ rfl, cells_row _ _ HPB.out 1 _ rfl⟩, ?_⟩
              refine wpAnyT_later (r := [8, 9, 10]) (n := 3) hQ2 (by kernel_rfl) ⟨cells_row _ _ HGB.out 0 _ rfl, cells_row _ _ HGB.out 1 _ rfl, cells_row _ _ HGB.out 2 _ rfl, cells_row _ _ HGB.out 3 _ rfl, cells_row _ _ HGB.out 4 _ rfl, cells_row _ _ HPB.out 0 _ rfl, cells_row _ _ HPB.out 1 _ rfl⟩ ?_
              simp only [pickOps, List.flatMap_cons, List.flatMap_nil, List.drop_succ_cons, List.drop_zero, List.take_succ_cons, List.take_zero, List.cons_append, List.nil_append, List.append_nil]
              repeat (first
                | (refine wpReads_skip (by rfl) ?_; (try simp only [Act.put, List.setIfInBounds_toArray, List.set_cons_zero, List.set_cons_succ]))
                | (refine wpReads_cons ?_ (by rfl) (by rfl) ?_ ?_; rotate_left; (intro wz hz; (try dsimp only at hz); go_simp; try with_reducible rfl); (try simp only [Act.put, List.setIfInBounds_toArray, List.set_cons_zero, List.set_cons_succ]))
                | (refine wpReads_any ?_ (by rfl) ?_ ?_; rotate_left; (intro wz; go_simp; try with_reducible rfl); (try simp only [Act.put, List.setIfInBounds_toArray, List.set_cons_zero, List.set_cons_succ])))
              refine wpReads_nil ?_
              clear hQ2
              refine wpAnyT_list (ks := [11, 12, 13]) (fun _ _ hx h => ⟨hx.cell h.1, hx.cell h.2.1, hx.cell h.2.2.1, hx.cell h.2.2.2.1, hx.cell h.2.2.2.2.1, hx.cell h.2.2.2.2.2.1, hx.cell h.2.2.2.2.2.2⟩) (by kernel_rfl) ?_
              simp only [pickOps, List.flatMap_cons, List.flatMap_nil, List.drop_succ_cons, List.drop_zero, List.take_succ_cons, List.take_zero, List.cons_append, List.nil_append, List.append_nil]
              go_wp2
              go_meet
              case rel => exact ⟨wm.heap.size, rfl, rfl, HT.out.step (below_alloc wm (.cells #[.int .i64 (makeP g p (leaf1 1 a)).memory, .int .i64 (makeP g p (leaf1 1 a)).counters, .int .i64 (makeP g p (leaf1 1 a)).ins, .int .i64 (makeP g p (leaf1 1 a)).outs, .slice ap (makeP g p (leaf1 1 a)).parts.length cp, .slice al (makeP g p (leaf1 1 a)).lines.length cl, .slice ao2 (makeP g p (leaf1 1 a)).ops.length co] 39)), block_alloc HGB.out _, _, _, _, heap_alloc_new wm _, HPF.out _ ((Mods.refl _ wm).alloc _)⟩
            · skip
              simp only [pickOps, List.flatMap_cons, List.flatMap_nil, List.drop_succ_cons, List.drop_zero, List.take_succ_cons, List.take_zero, List.append_nil]
              have hb := below_alloc wc (.cells progZ 39)
              have hx := heap_alloc_new wc (.cells progZ 39)
              have hxw := block_lt HPB.out
              go_wp2
              replace HT := Lib.hid (HT.out.step hb)
              replace HGB := Lib.hid ((hb.block _ (block_lt HGB.out)).trans HGB.out)
              replace HPB := Lib.hid ((hb.block _ (block_lt HPB.out)).trans HPB.out)
              try replace HGL := Lib.hid (HGL.out.below hb)
              try replace HPL := Lib.hid (HPL.out.below hb)
              try replace HNL := Lib.hid (nestD_below 1 HNL.out hb)
              try replace HX := Lib.hid ((hb.block _ (block_lt HX.out)).trans HX.out)
              have HX := Lib.hid hx
              have HXW : Hid (w.heap.size + 1 < wc.heap.size) := Lib.hid hxw
              clear hb hx hxw
              refine ⟨fun _ _ => ⟨cells_row _ _ HGB.out 0 _ rfl, cells_row _ _ HGB.out 1 _ rfl, cells_row _ _ HGB.out 2 _ rfl, cells_row _ _ HGB.out 3 _ rfl, cells_row _ _ HGB.out 4 _ rfl, cells_row _ _ HPB.out 0 _ rfl, cells_row _ _ HPB.out 1 _ rfl⟩, ?_⟩
              obtain ⟨wd, hwd⟩ : ∃ x, wc.alloc (.cells progZ 39) = x := ⟨_, rfl⟩
              rw [hwd] at HT HGB HPB HX ⊢
              try rw [hwd] at HGL
              try rw [hwd] at HPL
              try rw [hwd] at HNL
              clear hwd
              obtain ⟨X, hX⟩ : ∃ x, wc.heap.size = x := ⟨_, rfl⟩
              rw [hX] at HX HXW ⊢
              clear hX
              obtain ⟨wc, hwc⟩ : ∃ x, x = wd := ⟨_, rfl⟩
              subst hwc
              refine wpAnyT_one (i := 7) (by kernel_rfl) ?_
              simp only [pickOps, List.flatMap_cons, List.flatMap_nil, List.drop_succ_cons, List.drop_zero, List.take_succ_cons, List.take_zero, List.append_nil]
              go_wp2_with fail
              try have HXL := Lib.hid (block_lt HX.out)
              refine (make_fresh 1 _ _ _ _ g p (leaf1 1 a) HGL.out HPL.out HNL.out HGS.out (leaf_sized 1 a)).mono ?_
              rintro e wm ⟨v4, rfl, hpf, hb⟩
              obtain ⟨vp, vl, vo, rfl, rp, rl, ro⟩ := hpf _ (Mods.refl _ _)
              obtain ⟨ap, cp, rfl⟩ := rp.slice
              obtain ⟨al, cl, rfl⟩ := rl.slice
              obtain ⟨ao2, co, rfl⟩ := ro.slice
              have HPF := Lib.hid hpf
              clear rp rl ro hpf HGL HPL HNL
              replace HT := Lib.hid (HT.out.step hb)
              replace HGB := Lib.hid ((hb.block _ (block_lt HGB.out)).trans HGB.out)
              replace HPB := Lib.hid ((hb.block _ (block_lt HPB.out)).trans HPB.out)
              try replace HGL := Lib.hid (HGL.out.below hb)
              try replace HPL := Lib.hid (HPL.out.below hb)
              try replace HNL := Lib.hid (nestD_below 1 HNL.out hb)
              try replace HX := Lib.hid ((hb.block _ (block_lt HX.out)).trans HX.out)
              clear hb
              go_wp2_with fail
              refine ⟨fun _ _ => ⟨cells_row _ _ HGB.out 0 _ rfl, cells_row _ _ HGB.out 1 _ rfl, cells_row _ _ HGB.out 2 _ rfl, cells_row _ _ HGB.out 3 _ rfl, cells_row _ _ HGB.out 4 _ rfl, cells_row _ _ HPB.out 0 _ rfl, cells_row _ _ HPB.out 1 _ rfl⟩, ?_⟩
              refine wpAnyT_later (r := [8, 9, 10]) (n := 2) hQ2 (by kernel_rfl) ⟨cells_row _ _ HGB.out 0 _ rfl, cells_row _ _ HGB.out 1 _ rfl, cells_row _ _ HGB.out 2 _ rfl, cells_row _ _ HGB.out 3 _ rfl, cells_row _ _ HGB.out 4 _ rfl, cells_row _ _ HPB.out 0 _ rfl, cells_row _ _ HPB.out 1 _ rfl⟩ ?_
              simp only [pickOps, List.flatMap_cons, List.flatMap_nil, List.drop_succ_cons, List.drop_zero, List.take_succ_cons, List.take_zero, List.cons_append, List.nil_append, List.append_nil]
              repeat (first
                | (refine wpReads_skip (by rfl) ?_; (try simp only [Act.put, List.setIfInBounds_toArray, List.set_cons_zero, List.set_cons_succ]))
                | (refine wpReads_cons ?_ (by rfl) (by rfl) ?_ ?_; rotate_left; (intro wz hz; (try dsimp only at hz); go_simp; try with_reducible rfl); (try simp only [Act.put, List.setIfInBounds_toArray, List.set_cons_zero, List.set_cons_succ]))
                | (refine wpReads_any ?_ (by rfl) ?_ ?_; rotate_left; (intro wz; go_simp; try with_reducible rfl); (try simp only [Act.put, List.setIfInBounds_toArray, List.set_cons_zero, List.set_cons_succ])))
              refine wpReads_nil ?_
              clear hQ2
              refine wpAnyT_list (ks := [12, 13]) (fun _ _ hx h => ⟨hx.cell h.1, hx.cell h.2.1, hx.cell h.2.2.1, hx.cell h.2.2.2.1, hx.cell h.2.2.2.2.1, hx.cell h.2.2.2.2.2.1, hx.cell h.2.2.2.2.2.2⟩) (by kernel_rfl) ?_
              simp only [pickOps, List.flatMap_cons, List.flatMap_nil, List.drop_succ_cons, List.drop_zero, List.take_succ_cons, List.take_zero, List.cons_append, List.nil_append, List.append_nil]
              have z0 := cells_row _ _ HX.out 0 _ rfl
              have z1 := cells_row _ _ HX.out 1 _ rfl
              have z2 := cells_row _ _ HX.out 2 _ rfl
              have z3 := cells_row _ _ HX.out 3 _ rfl
              have z4 := cells_row _ _ HX.out 4 _ rfl
              have z5 := cells_row _ _ HX.out 5 _ rfl
              have z6 := cells_row _ _ HX.out 6 _ rfl
              have f0 := frozen_of_block HX.out 0
              have f1 := frozen_of_block HX.out 1
              have f2 := frozen_of_block HX.out 2
              have f3 := frozen_of_block HX.out 3
              have f4 := frozen_of_block HX.out 4
              have f5 := frozen_of_block HX.out 5
              have f6 := frozen_of_block HX.out 6
              go_wp2
              have mm := prog_mods wm X (.int .i64 (makeP g p (leaf1 1 a)).memory) (.int .i64 (makeP g p (leaf1 1 a)).counters) (.int .i64 (makeP g p (leaf1 1 a)).ins) (.int .i64 (makeP g p (leaf1 1 a)).outs) (.slice ap (makeP g p (leaf1 1 a)).parts.length cp) (.slice al (makeP g p (leaf1 1 a)).lines.length cl) (.slice ao2 (makeP g p (leaf1 1 a)).ops.length co)
              go_meet
              case rel => exact ⟨X, rfl, rfl, ⟨HT.out.below.trans (mm.below HT.out.size (fun k hk e => by have := HXW.out; omega)), Nat.le_trans HT.out.size mm.size⟩, block_mods HGB.out mm (by have := HXW.out; omega), _, _, _, prog_set HX.out _ _ _ _ _ _ _, HPF.out _ (mm.mono (fun k _ e => by subst e; exact HXL.out))⟩
          · skip
            simp only [pickOps, List.flatMap_cons, List.flatMap_nil, List.drop_succ_cons, List.drop_zero, List.take_succ_cons, List.take_zero, List.append_nil]
            have hb := below_alloc wc (.cells progZ 39)
            have hx := heap_alloc_new wc (.cells progZ 39)
            have hxw := block_lt HPB.out
            go_wp2
            replace HT := Lib.hid (HT.out.step hb)
            replace HGB := Lib.hid ((hb.block _ (block_lt HGB.out)).trans HGB.out)
            replace HPB := Lib.hid ((hb.block _ (block_lt HPB.out)).trans HPB.out)
            try replace HGL := Lib.hid (HGL.out.below hb)
            try replace HPL := Lib.hid (HPL.out.below hb)
            try replace HNL := Lib.hid (nestD_below 1 HNL.out hb)
            try replace HX := Lib.hid ((hb.block _ (block_lt HX.out)).trans HX.out)
            have HX := Lib.hid hx
            have HXW : Hid (w.heap.size + 1 < wc.heap.size) := Lib.hid hxw
            clear hb hx hxw
            refine ⟨fun _ _ => ⟨cells_row _ _ HGB.out 0 _ rfl, cells_row _ _ HGB.out 1 _ rfl, cells_row _ _ HGB.out 2 _ rfl, cells_row _ _ HGB.out 3 _ rfl, cells_row _ _ HGB.out 4 _ rfl, cells_row _ _ HPB.out 0 _ rfl, cells_row _ _ HPB.out 1 _ rfl⟩, ?_⟩
            obtain ⟨wd, hwd⟩ : ∃ x, wc.alloc (.cells progZ 39) = x := ⟨_, rfl⟩
            rw [hwd] at HT HGB HPB HX ⊢
            try rw [hwd] at HGL
            try rw [hwd] at HPL
            try rw [hwd] at HNL
            clear hwd
            obtain ⟨X, hX⟩ : ∃ x, wc.heap.size = x := ⟨_, rfl⟩
            rw [hX] at HX HXW ⊢
            clear hX
            obtain ⟨wc, hwc⟩ : ∃ x, x = wd := ⟨_, rfl⟩
            subst hwc
            refine wpAnyT_one (i := 3) (by kernel_rfl) ?_
            simp only [pickOps, List.flatMap_cons, List.flatMap_nil, List.drop_succ_cons, List.drop_zero, List.take_succ_cons, List.take_zero, List.append_nil]
            go_wp2_with fail
            refine (lentplan_any _ _ p (RP.out.below HT.out.below) (by have := HRL.out; omega)).mono ?_
            rintro e wc ⟨vpl, rfl, hpl, hb⟩
            replace HT := Lib.hid (HT.out.step hb)
            replace HGB := Lib.hid ((hb.block _ (block_lt HGB.out)).trans HGB.out)
            replace HPB := Lib.hid ((hb.block _ (block_lt HPB.out)).trans HPB.out)
            try replace HGL := Lib.hid (HGL.out.below hb)
            try replace HPL := Lib.hid (HPL.out.below hb)
            try replace HNL := Lib.hid (nestD_below 1 HNL.out hb)
            try replace HX := Lib.hid ((hb.block _ (block_lt HX.out)).trans HX.out)
            have HPL := Lib.hid hpl
            clear hpl hb
            go_wp2_with fail
            refine ⟨fun _ _ => ⟨cells_row _ _ HGB.out 0 _ rfl, cells_row _ _ HGB.out 1 _ rfl, cells_row _ _ HGB.out 2 _ rfl, cells_row _ _ HGB.out 3 _ rfl, cells_row _ _ HGB.out 4 _ rfl, cells_row _ _ HPB.out 0 _ rfl, cells_row _ _ HPB.out 1 _ rfl⟩, ?_⟩
            refine wpAnyT_one (i := 7) (by kernel_rfl) ?_
            simp only [pickOps, List.flatMap_cons, List.flatMap_nil, List.drop_succ_cons, List.drop_zero, List.take_succ_cons, List.take_zero, List.append_nil]
            go_wp2_with fail
            try have HXL := Lib.hid (block_lt HX.out)
            refine (make_fresh 1 _ _ _ _ g p (leaf1 1 a) HGL.out HPL.out HNL.out HGS.out (leaf_sized 1 a)).mono ?_
            rintro e wm ⟨v4, rfl, hpf, hb⟩
            obtain ⟨vp, vl, vo, rfl, rp, rl, ro⟩ := hpf _ (Mods.refl _ _)
            obtain ⟨ap, cp, rfl⟩ := rp.slice
            obtain ⟨al, cl, rfl⟩ := rl.slice
            obtain ⟨ao2, co, rfl⟩ := ro.slice
            have HPF := Lib.hid hpf
            clear rp rl ro hpf HGL HPL HNL
            replace HT := Lib.hid (HT.out.step hb)
            replace HGB := Lib.hid ((hb.block _ (block_lt HGB.out)).trans HGB.out)
            replace HPB := Lib.hid ((hb.block _ (block_lt HPB.out)).trans HPB.out)
            try replace HGL := Lib.hid (HGL.out.below hb)
            try replace HPL := Lib.hid (HPL.out.below hb)
            try replace HNL := Lib.hid (nestD_below 1 HNL.out hb)
            try replace HX := Lib.hid ((hb.block _ (block_lt HX.out)).trans HX.out)
            clear hb
            go_wp2_with fail
            refine ⟨fun _ _ => ⟨cells_row _ _ HGB.out 0 _ rfl, cells_row _ _ HGB.out 1 _ rfl, cells_row _ _ HGB.out 2 _ rfl, cells_row _ _ HGB.out 3 _ rfl, cells_row _ _ HGB.out 4 _ rfl, cells_row _ _ HPB.out 0 _ rfl, cells_row _ _ HPB.out 1 _ rfl⟩, ?_⟩
            refine wpAnyT_later (r := [8, 9, 10]) (n := 2) hQ2 (by kernel_rfl) ⟨cells_row _ _ HGB.out 0 _ rfl, cells_row _ _ HGB.out 1 _ rfl, cells_row _ _ HGB.out 2 _ rfl, cells_row _ _ HGB.out 3 _ rfl, cells_row _ _ HGB.out 4 _ rfl, cells_row _ _ HPB.out 0 _ rfl, cells_row _ _ HPB.out 1 _ rfl⟩ ?_
            simp only [pickOps, List.flatMap_cons, List.flatMap_nil, List.drop_succ_cons, List.drop_zero, List.take_succ_cons, List.take_zero, List.cons_append, List.nil_append, List.append_nil]
            repeat (first
              | (refine wpReads_skip (by rfl) ?_; (try simp only [Act.put, List.setIfInBounds_toArray, List.set_cons_zero, List.set_cons_succ]))
              | (refine wpReads_cons ?_ (by rfl) (by rfl) ?_ ?_; rotate_left; (intro wz hz; (try dsimp only at hz); go_simp; try with_reducible rfl); (try simp only [Act.put, List.setIfInBounds_toArray, List.set_cons_zero, List.set_cons_succ]))
              | (refine wpReads_any ?_ (by rfl) ?_ ?_; rotate_left; (intro wz; go_simp; try with_reducible rfl); (try simp only [Act.put, List.setIfInBounds_toArray, List.set_cons_zero, List.set_cons_succ])))
            refine wpReads_nil ?_
            clear hQ2
            refine wpAnyT_list (ks := [12, 13]) (fun _ _ hx h => ⟨hx.cell h.1, hx.cell h.2.1, hx.cell h.2.2.1, hx.cell h.2.2.2.1, hx.cell h.2.2.2.2.1, hx.cell h.2.2.2.2.2.1, hx.cell h.2.2.2.2.2.2⟩) (by kernel_rfl) ?_
            simp only [pickOps, List.flatMap_cons, List.flatMap_nil, List.drop_succ_cons, List.drop_zero, List.take_succ_cons, List.take_zero, List.cons_append, List.nil_append, List.append_nil]
            have z0 := cells_row _ _ HX.out 0 _ rfl
            have z1 := cells_row _ _ HX.out 1 _ rfl
            have z2 := cells_row _ _ HX.out 2 _ rfl
            have z3 := cells_row _ _ HX.out 3 _ rfl
            have z4 := cells_row _ _ HX.out 4 _ rfl
            have z5 := cells_row _ _ HX.out 5 _ rfl
            have z6 := cells_row _ _ HX.out 6 _ rfl
            have f0 := frozen_of_block HX.out 0
            have f1 := frozen_of_block HX.out 1
            have f2 := frozen_of_block HX.out 2
            have f3 := frozen_of_block HX.out 3
            have f4 := frozen_of_block HX.out 4
            have f5 := frozen_of_block HX.out 5
            have f6 := frozen_of_block HX.out 6
            go_wp2
            have mm := prog_mods wm X (.int .i64 (makeP g p (leaf1 1 a)).memory) (.int .i64 (makeP g p (leaf1 1 a)).counters) (.int .i64 (makeP g p (leaf1 1 a)).ins) (.int .i64 (makeP g p (leaf1 1 a)).outs) (.slice ap (makeP g p (leaf1 1 a)).parts.length cp) (.slice al (makeP g p (leaf1 1 a)).lines.length cl) (.slice ao2 (makeP g p (leaf1 1 a)).ops.length co)
            go_meet
            case rel => exact ⟨X, rfl, rfl, ⟨HT.out.below.trans (mm.below HT.out.size (fun k hk e => by have := HXW.out; omega)), Nat.le_trans HT.out.size mm.size⟩, block_mods HGB.out mm (by have := HXW.out; omega), _, _, _, prog_set HX.out _ _ _ _ _ _ _, HPF.out _ (mm.mono (fun k _ e => by subst e; exact HXL.out))⟩
        · skip
          simp only [pickOps, List.flatMap_cons, List.flatMap_nil, List.drop_succ_cons, List.drop_zero, List.take_succ_cons, List.take_zero, List.append_nil]
          have hb := below_alloc wc (.cells progZ 39)
          have hx := heap_alloc_new wc (.cells progZ 39)
          have hxw := block_lt HPB.out
          go_wp2
          replace HT := Lib.hid (HT.out.step hb)
          replace HGB := Lib.hid ((hb.block _ (block_lt HGB.out)).trans HGB.out)
          replace HPB := Lib.hid ((hb.block _ (block_lt HPB.out)).trans HPB.out)
          try replace HGL := Lib.hid (HGL.out.below hb)
          try replace HPL := Lib.hid (HPL.out.below hb)
          try replace HNL := Lib.hid (nestD_below 1 HNL.out hb)
          try replace HX := Lib.hid ((hb.block _ (block_lt HX.out)).trans HX.out)
          have HX := Lib.hid hx
          have HXW : Hid (w.heap.size + 1 < wc.heap.size) := Lib.hid hxw
          clear hb hx hxw
          refine ⟨fun _ _ => ⟨cells_row _ _ HGB.out 0 _ rfl, cells_row _ _ HGB.out 1 _ rfl, cells_row _ _ HGB.out 2 _ rfl, cells_row _ _ HGB.out 3 _ rfl, cells_row _ _ HGB.out 4 _ rfl, cells_row _ _ HPB.out 0 _ rfl, cells_row _ _ HPB.out 1 _ rfl⟩, ?_⟩
          obtain ⟨wd, hwd⟩ : ∃ x, wc.alloc (.cells progZ 39) = x := ⟨_, rfl⟩
          rw [hwd] at HT HGB HPB HX ⊢
          try rw [hwd] at HGL
          try rw [hwd] at HPL
          try rw [hwd] at HNL
          clear hwd
          obtain ⟨X, hX⟩ : ∃ x, wc.heap.size = x := ⟨_, rfl⟩
          rw [hX] at HX HXW ⊢
          clear hX
          obtain ⟨wc, hwc⟩ : ∃ x, x = wd := ⟨_, rfl⟩
          subst hwc
          refine wpAnyT_two (i := 3) (k := 6) (by kernel_rfl) ?_ ?_
          · skip
            simp only [pickOps, List.flatMap_cons, List.flatMap_nil, List.drop_succ_cons, List.drop_zero, List.take_succ_cons, List.take_zero, List.append_nil]
            go_wp2_with fail
            refine (lentplan_any _ _ p (RP.out.below HT.out.below) (by have := HRL.out; omega)).mono ?_
            rintro e wc ⟨vpl, rfl, hpl, hb⟩
            replace HT := Lib.hid (HT.out.step hb)
            replace HGB := Lib.hid ((hb.block _ (block_lt HGB.out)).trans HGB.out)
            replace HPB := Lib.hid ((hb.block _ (block_lt HPB.out)).trans HPB.out)
            try replace HGL := Lib.hid (HGL.out.below hb)
            try replace HPL := Lib.hid (HPL.out.below hb)
            try replace HNL := Lib.hid (nestD_below 1 HNL.out hb)
            try replace HX := Lib.hid ((hb.block _ (block_lt HX.out)).trans HX.out)
            have HPL := Lib.hid hpl
            clear hpl hb
            go_wp2_with fail
            refine ⟨fun _ _ => ⟨cells_row _ _ HGB.out 0 _ rfl, cells_row _ _ HGB.out 1 _ rfl, cells_row _ _ HGB.out 2 _ rfl, cells_row _ _ HGB.out 3 _ rfl, cells_row _ _ HGB.out 4 _ rfl, cells_row _ _ HPB.out 0 _ rfl, cells_row _ _ HPB.out 1 _ rfl⟩, ?_⟩
            refine wpAnyT_one (i := 6) (by kernel_rfl) ?_
            simp only [pickOps, List.flatMap_cons, List.flatMap_nil, List.drop_succ_cons, List.drop_zero, List.take_succ_cons, List.take_zero, List.append_nil]
            have hb := below_alloc wc (.cells #[.int .i64 1, .int .i64 a, .slice none 0 0] 51)
            have hl := leaf_has wc 1 a
            go_wp2
            replace HT := Lib.hid (HT.out.step hb)
            replace HGB := Lib.hid ((hb.block _ (block_lt HGB.out)).trans HGB.out)
            replace HPB := Lib.hid ((hb.block _ (block_lt HPB.out)).trans HPB.out)
            try replace HGL := Lib.hid (HGL.out.below hb)
            try replace HPL := Lib.hid (HPL.out.below hb)
            try replace HNL := Lib.hid (nestD_below 1 HNL.out hb)
            try replace HX := Lib.hid ((hb.block _ (block_lt HX.out)).trans HX.out)
            have HNL := Lib.hid hl
            clear hb hl
            refine ⟨fun _ _ => ⟨cells_row _ _ HGB.out 0 _ rfl, cells_row _ _ HGB.out 1 _ rfl, cells_row _ _ HGB.out 2 _ rfl, cells_row _ _ HGB.out 3 _ rfl, cells_row _ _ HGB.out 4 _ rfl, cells_row _ _ HPB.out 0 _ rfl, cells_row _ _ HPB.out 1 _ rfl⟩, ?_⟩
            obtain ⟨wd, hwd⟩ : ∃ x, wc.alloc (.cells #[.int .i64 1, .int .i64 a, .slice none 0 0] 51) = x := ⟨_, rfl⟩
            rw [hwd] at HT HGB HPB HNL ⊢
            try rw [hwd] at HGL
            try rw [hwd] at HPL
            try rw [hwd] at HX
            clear hwd
            obtain ⟨wc, hwc⟩ : ∃ x, x = wd := ⟨_, rfl⟩
            subst hwc
            refine wpAnyT_one (i := 7) (by kernel_rfl) ?_
            simp only [pickOps, List.flatMap_cons, List.flatMap_nil, List.drop_succ_cons, List.drop_zero, List.take_succ_cons, List.take_zero, List.append_nil]
            go_wp2_with fail
            try have HXL := Lib.hid (block_lt HX.out)
            refine (make_fresh 1 _ _ _ _ g p (leaf1 1 a) HGL.out HPL.out HNL.out HGS.out (leaf_sized 1 a)).mono ?_
            rintro e wm ⟨v4, rfl, hpf, hb⟩
            obtain ⟨vp, vl, vo, rfl, rp, rl, ro⟩ := hpf _ (Mods.refl _ _)
            obtain ⟨ap, cp, rfl⟩ := rp.slice
            obtain ⟨al, cl, rfl⟩ := rl.slice
            obtain ⟨ao2, co, rfl⟩ := ro.slice
            have HPF := Lib.hid hpf
            clear rp rl ro hpf HGL HPL HNL
            replace HT := Lib.hid (HT.out.step hb)
            replace HGB := Lib.hid ((hb.block _ (block_lt HGB.out)).trans HGB.out)
            replace HPB := Lib.hid ((hb.block _ (block_lt HPB.out)).trans HPB.out)
            try replace HGL := Lib.hid (HGL.out.below hb)
            try replace HPL := Lib.hid (HPL.out.below hb)
            try replace HNL := Lib.hid (nestD_below 1 HNL.out hb)
            try replace HX := Lib.hid ((hb.block _ (block_lt HX.out)).trans HX.out)
            clear hb
            go_wp2_with fail
            refine ⟨fun _ _ => ⟨cells_row _ _ HGB.out 0 _ rfl, cells_row _ _ HGB.out 1 _ rfl, cells_row _ _ HGB.out 2 _ rfl, cells_row _ _ HGB.out 3 _ rfl, cells_row _ _ HGB.out 4 _ rfl, cells_row _ _ HPB.out 0 _ rfl, cells_row _ _ HPB.out 1 _ rfl⟩, ?_⟩
            refine wpAnyT_later (r := [8, 9, 10]) (n := 2) hQ2 (by kernel_rfl) ⟨cells_row _ _ HGB.out 0 _ rfl, cells_row _ _ HGB.out 1 _ rfl, cells_row _ _ HGB.out 2 _ rfl, cells_row _ _ HGB.out 3 _ rfl, cells_row _ _ HGB.out 4 _ rfl, cells_row _ _ HPB.out 0 _ rfl, cells_row _ _ HPB.out 1 _ rfl⟩ ?_
            simp only [pickOps, List.flatMap_cons, List.flatMap_nil, List.drop_succ_cons, List.drop_zero, List.take_succ_cons, List.take_zero, List.cons_append, List.nil_append, List.append_nil]
            repeat (first
              | (refine wpReads_skip (by rfl) ?_; (try simp only [Act.put, List.setIfInBounds_toArray, List.set_cons_zero, List.set_cons_succ]))
              | (refine wpReads_cons ?_ (by rfl) (by rfl) ?_ ?_; rotate_left; (intro wz hz; (try dsimp only at hz); go_simp; try with_reducible rfl); (try simp only [Act.put, List.setIfInBounds_toArray, List.set_cons_zero, List.set_cons_succ]))
              | (refine wpReads_any ?_ (by rfl) ?_ ?_; rotate_left; (intro wz; go_simp; try with_reducible rfl); (try simp only [Act.put, List.setIfInBounds_toArray, List.set_cons_zero, List.set_cons_succ])))
            refine wpReads_nil ?_
            clear hQ2
            refine wpAnyT_list (ks := [12, 13]) (fun _ _ hx h => ⟨hx.cell h.1, hx.cell h.2.1, hx.cell h.2.2.1, hx.cell h.2.2.2.1, hx.cell h.2.2.2.2.1, hx.cell h.2.2.2.2.2.1, hx.cell h.2.2.2.2.2.2⟩) (by kernel_rfl) ?_
            simp only [pickOps, List.flatMap_cons, List.flatMap_nil, List.drop_succ_cons, List.drop_zero, List.take_succ_cons, List.take_zero, List.cons_append, List.nil_append, List.append_nil]
            have z0 := cells_row _ _ HX.out 0 _ rfl
            have z1 := cells_row _ _ HX.out 1 _ rfl
            have z2 := cells_row _ _ HX.out 2 _ rfl
            have z3 := cells_row _ _ HX.out 3 _ rfl
            have z4 := cells_row _ _ HX.out 4 _ rfl
            have z5 := cells_row _ _ HX.out 5 _ rfl
            have z6 := cells_row _ _ HX.out 6 _ rfl
            have f0 := frozen_of_block HX.out 0
            have f1 := frozen_of_block HX.out 1
            have f2 := frozen_of_block HX.out 2
            have f3 := frozen_of_block HX.out 3
            have f4 := frozen_of_block HX.out 4
            have f5 := frozen_of_block HX.out 5
            have f6 := frozen_of_block HX.out 6
            go_wp2
            have mm := prog_mods wm X (.int .i64 (makeP g p (leaf1 1 a)).memory) (.int .i64 (makeP g p (leaf1 1 a)).counters) (.int .i64 (makeP g p (leaf1 1 a)).ins) (.int .i64 (makeP g p (leaf1 1 a)).outs) (.slice ap (makeP g p (leaf1 1 a)).parts.length cp) (.slice al (makeP g p (leaf1 1 a)).lines.length cl) (.slice ao2 (makeP g p (leaf1 1 a)).ops.length co)
            go_meet
            case rel => exact ⟨X, rfl, rfl, ⟨HT.out.below.trans (mm.below HT.out.size (fun k hk e => by have := HXW.out; omega)), Nat.le_trans HT.out.size mm.size⟩, block_mods HGB.out mm (by have := HXW.out; omega), _, _, _, prog_set HX.out _ _ _ _ _ _ _, HPF.out _ (mm.mono (fun k _ e => by subst e; exact HXL.out))⟩
          · skip
            simp only [pickOps, List.flatMap_cons, List.flatMap_nil, List.drop_succ_cons, List.drop_zero, List.take_succ_cons, List.take_zero, List.append_nil]
            have hb := below_alloc wc (.cells #[.int .i64 1, .int .i64 a, .slice none 0 0] 51)
            have hl := leaf_has wc 1 a
            go_wp2
            replace HT := Lib.hid (HT.out.step hb)
            replace HGB := Lib.hid ((hb.block _ (block_lt HGB.out)).trans HGB.out)
            replace HPB := Lib.hid ((hb.block _ (block_lt HPB.out)).trans HPB.out)
            try replace HGL := Lib.hid (HGL.out.below hb)
            try replace HPL := Lib.hid (HPL.out.below hb)
            try replace HNL := Lib.hid (nestD_below 1 HNL.out hb)
            try replace HX := Lib.hid ((hb.block _ (block_lt HX.out)).trans HX.out)
            have HNL := Lib.hid hl
            clear hb hl
            refine ⟨fun _ _ => ⟨cells_row _ _ HGB.out 0 _ rfl, cells_row _ _ HGB.out 1 _ rfl, cells_row _ _ HGB.out 2 _ rfl, cells_row _ _ HGB.out 3 _ rfl, cells_row _ _ HGB.out 4 _ rfl, cells_row _ _ HPB.out 0 _ rfl, cells_row _ _ HPB.out 1 _ rfl⟩, ?_⟩
            obtain ⟨wd, hwd⟩ : ∃ x, wc.alloc (.cells #[.int .i64 1, .int .i64 a, .slice none 0 0] 51) = x := ⟨_, rfl⟩
            rw [hwd] at HT HGB HPB HNL ⊢
            try rw [hwd] at HGL
            try rw [hwd] at HPL
            try rw [hwd] at HX
            clear hwd
            obtain ⟨wc, hwc⟩ : ∃ x, x = wd := ⟨_, rfl⟩
            subst hwc
            refine wpAnyT_one (i := 3) (by kernel_rfl) ?_
            simp only [pickOps, List.flatMap_cons, List.flatMap_nil, List.drop_succ_cons, List.drop_zero, List.take_succ_cons, List.take_zero, List.append_nil]
            go_wp2_with fail
            refine (lentplan_any _ _ p (RP.out.below HT.out.below) (by have := HRL.out; omega)).mono ?_
            rintro e wc ⟨vpl, rfl, hpl, hb⟩
            replace HT := Lib.hid (HT.out.step hb)
            replace HGB := Lib.hid ((hb.block _ (block_lt HGB.out)).trans HGB.out)
            replace HPB := Lib.hid ((hb.block _ (block_lt HPB.out)).trans HPB.out)
            try replace HGL := Lib.hid (HGL.out.below hb)
            try replace HPL := Lib.hid (HPL.out.below hb)
            try replace HNL := Lib.hid (nestD_below 1 HNL.out hb)
            try replace HX := Lib.hid ((hb.block _ (block_lt HX.out)).trans HX.out)
            have HPL := Lib.hid hpl
            clear hpl hb
            go_wp2_with fail
            refine ⟨fun _ _ => ⟨cells_row _ _ HGB.out 0 _ rfl, cells_row _ _ HGB.out 1 _ rfl, cells_row _ _ HGB.out 2 _ rfl, cells_row _ _ HGB.out 3 _ rfl, cells_row _ _ HGB.out 4 _ rfl, cells_row _ _ HPB.out 0 _ rfl, cells_row _ _ HPB.out 1 _ rfl⟩, ?_⟩
            refine wpAnyT_one (i := 7) (by kernel_rfl) ?_
            simp only [pickOps, List.flatMap_cons, List.flatMap_nil, List.drop_succ_cons, List.drop_zero, List.take_succ_cons, List.take_zero, List.append_nil]
            go_wp2_with fail
            try have HXL := Lib.hid (block_lt HX.out)
            refine (make_fresh 1 _ _ _ _ g p (leaf1 1 a) HGL.out HPL.out HNL.out HGS.out (leaf_sized 1 a)).mono ?_
            rintro e wm ⟨v4, rfl, hpf, hb⟩
            obtain ⟨vp, vl, vo, rfl, rp, rl, ro⟩ := hpf _ (Mods.refl _ _)
            obtain ⟨ap, cp, rfl⟩ := rp.slice
            obtain ⟨al, cl, rfl⟩ := rl.slice
            obtain ⟨ao2, co, rfl⟩ := ro.slice
            have HPF := Lib.hid hpf
            clear rp rl ro hpf HGL HPL HNL
            replace HT := Lib.hid (HT.out.step hb)
            replace HGB := Lib.hid ((hb.block _ (block_lt HGB.out)).trans HGB.out)
            replace HPB := Lib.hid ((hb.block _ (block_lt HPB.out)).trans HPB.out)
            try replace HGL := Lib.hid (HGL.out.below hb)
            try replace HPL := Lib.hid (HPL.out.below hb)
            try replace HNL := Lib.hid (nestD_below 1 HNL.out hb)
            try replace HX := Lib.hid ((hb.block _ (block_lt HX.out)).trans HX.out)
            clear hb
            go_wp2_with fail
            refine ⟨fun _ _ => ⟨cells_row _ _ HGB.out 0 _ rfl, cells_row _ _ HGB.out 1 _ rfl, cells_row _ _ HGB.out 2 _ rfl, cells_row _ _ HGB.out 3 _ rfl, cells_row _ _ HGB.out 4 _ rfl, cells_row _ _ HPB.out 0 _ rfl, cells_row _ _ HPB.out 1 _ rfl⟩, ?_⟩
            refine wpAnyT_later (r := [8, 9, 10]) (n := 2) hQ2 (by kernel_rfl) ⟨cells_row _ _ HGB.out 0 _ rfl, cells_row _ _ HGB.out 1 _ rfl, cells_row _ _ HGB.out 2 _ rfl, cells_row _ _ HGB.out 3 _ rfl, cells_row _ _ HGB.out 4 _ rfl, cells_row _ _ HPB.out 0 _ rfl, cells_row _ _ HPB.out 1 _ rfl⟩ ?_
            simp only [pickOps, List.flatMap_cons, List.flatMap_nil, List.drop_succ_cons, List.drop_zero, List.take_succ_cons, List.take_zero, List.cons_append, List.nil_append, List.append_nil]
            repeat (first
              | (refine wpReads_skip (by rfl) ?_; (try simp only [Act.put, List.setIfInBounds_toArray, List.set_cons_zero, List.set_cons_succ]))
              | (refine wpReads_cons ?_ (by rfl) (by rfl) ?_ ?_; rotate_left; (intro wz hz; (try dsimp only at hz); go_simp; try with_reducible rfl); (try simp only [Act.put, List.setIfInBounds_toArray, List.set_cons_zero, List.set_cons_succ]))
              | (refine wpReads_any ?_ (by rfl) ?_ ?_; rotate_left; (intro wz; go_simp; try with_reducible rfl); (try simp only [Act.put, List.setIfInBounds_toArray, List.set_cons_zero, List.set_cons_succ])))
            refine wpReads_nil ?_
            clear hQ2
            refine wpAnyT_list (ks := [12, 13]) (fun _ _ hx h => ⟨hx.cell h.1, hx.cell h.2.1, hx.cell h.2.2.1, hx.cell h.2.2.2.1, hx.cell h.2.2.2.2.1, hx.cell h.2.2.2.2.2.1, hx.cell h.2.2.2.2.2.2⟩) (by kernel_rfl) ?_
            simp only [pickOps, List.flatMap_cons, List.flatMap_nil, List.drop_succ_cons, List.drop_zero, List.take_succ_cons, List.take_zero, List.cons_append, List.nil_append, List.append_nil]
            have z0 := cells_row _ _ HX.out 0 _ rfl
            have z1 := cells_row _ _ HX.out 1 _ rfl
            have z2 := cells_row _ _ HX.out 2 _ rfl
            have z3 := cells_row _ _ HX.out 3 _ rfl
            have z4 := cells_row _ _ HX.out 4 _ rfl
            have z5 := cells_row _ _ HX.out 5 _ rfl
            have z6 := cells_row _ _ HX.out 6 _ rfl
            have f0 := frozen_of_block HX.out 0
            have f1 := frozen_of_block HX.out 1
            have f2 := frozen_of_block HX.out 2
            have f3 := frozen_of_block HX.out 3
            have f4 := frozen_of_block HX.out 4
            have f5 := frozen_of_block HX.out 5
            have f6 := frozen_of_block HX.out 6
            go_wp2
            have mm := prog_mods wm X (.int .i64 (makeP g p (leaf1 1 a)).memory) (.int .i64 (makeP g p (leaf1 1 a)).counters) (.int .i64 (makeP g p (leaf1 1 a)).ins) (.int .i64 (makeP g p (leaf1 1 a)).outs) (.slice ap (makeP g p (leaf1 1 a)).parts.length cp) (.slice al (makeP g p (leaf1 1 a)).lines.length cl) (.slice ao2 (makeP g p (leaf1 1 a)).ops.length co)
            go_meet
            case rel => exact ⟨X, rfl, rfl, ⟨HT.out.below.trans (mm.below HT.out.size (fun k hk e => by have := HXW.out; omega)), Nat.le_trans HT.out.size mm.size⟩, block_mods HGB.out mm (by have := HXW.out; omega), _, _, _, prog_set HX.out _ _ _ _ _ _ _, HPF.out _ (mm.mono (fun k _ e => by subst e; exact HXL.out))⟩
      · skip
        simp only [pickOps, List.flatMap_cons, List.flatMap_nil, List.drop_succ_cons, List.drop_zero, List.take_succ_cons, List.take_zero, List.append_nil]
        have hb := below_alloc wc (.cells #[.int .i64 1, .int .i64 a, .slice none 0 0] 51)
        have hl := leaf_has wc 1 a
        go_wp2
        replace HT := Lib.hid (HT.out.step hb)
        replace HGB := Lib.hid ((hb.block _ (block_lt HGB.out)).trans HGB.out)
        replace HPB := Lib.hid ((hb.block _ (block_lt HPB.out)).trans HPB.out)
        try replace HGL := Lib.hid (HGL.out.below hb)
        try replace HPL := Lib.hid (HPL.out.below hb)
        try replace HNL := Lib.hid (nestD_below 1 HNL.out hb)
        try replace HX := Lib.hid ((hb.block _ (block_lt HX.out)).trans HX.out)
        have HNL := Lib.hid hl
        clear hb hl
        refine ⟨fun _ _ => ⟨cells_row _ _ HGB.out 0 _ rfl, cells_row _ _ HGB.out 1 _ rfl, cells_row _ _ HGB.out 2 _ rfl, cells_row _ _ HGB.out 3 _ rfl, cells_row _ _ HGB.out 4 _ rfl, cells_row _ _ HPB.out 0 _ rfl, cells_row _ _ HPB.out 1 _ rfl⟩, ?_⟩
        obtain ⟨wd, hwd⟩ : ∃ x, wc.alloc (.cells #[.int .i64 1, .int .i64 a, .slice none 0 0] 51) = x := ⟨_, rfl⟩
        rw [hwd] at HT HGB HPB HNL ⊢
        try rw [hwd] at HGL
        try rw [hwd] at HPL
        try rw [hwd] at HX
        clear hwd
        obtain ⟨wc, hwc⟩ : ∃ x, x = wd := ⟨_, rfl⟩
        subst hwc
        refine wpAnyT_two (i := 1) (k := 11) (by kernel_rfl) ?_ ?_
        · skip
          simp only [pickOps, List.flatMap_cons, List.flatMap_nil, List.drop_succ_cons, List.drop_zero, List.take_succ_cons, List.take_zero, List.append_nil]
          go_wp2_with fail
          refine (lentgraph_any _ _ g (RG.out.below HT.out.below) HH.out HPS.out HES.out).mono ?_
          rintro e wc ⟨vgl, rfl, hgl, hb⟩
          replace HT := Lib.hid (HT.out.step hb)
          replace HGB := Lib.hid ((hb.block _ (block_lt HGB.out)).trans HGB.out)
          replace HPB := Lib.hid ((hb.block _ (block_lt HPB.out)).trans HPB.out)
          try replace HGL := Lib.hid (HGL.out.below hb)
          try replace HPL := Lib.hid (HPL.out.below hb)
          try replace HNL := Lib.hid (nestD_below 1 HNL.out hb)
          try replace HX := Lib.hid ((hb.block _ (block_lt HX.out)).trans HX.out)
          have HGL := Lib.hid hgl
          clear hgl hb
          go_wp2_with fail
          refine ⟨fun _ _ => ⟨cells_row _ _ HGB.out 0 _ rfl, cells_row _ _ HGB.out 1 _ rfl, cells_row _ _ HGB.out 2 _ rfl, cells_row _ _ HGB.out 3 _ rfl, cells_row _ _ HGB.out 4 _ rfl, cells_row _ _ HPB.out 0 _ rfl, cells_row _ _ HPB.out 1 _ rfl⟩, ?_⟩
          refine wpAnyT_two (i := 3) (k := 11) (by kernel_rfl) ?_ ?_
          · skip
            simp only [pickOps, List.flatMap_cons, List.flatMap_nil, List.drop_succ_cons, List.drop_zero, List.take_succ_cons, List.take_zero, List.append_nil]
            go_wp2_with fail
            refine (lentplan_any _ _ p (RP.out.below HT.out.below) (by have := HRL.out; omega)).mono ?_
            rintro e wc ⟨vpl, rfl, hpl, hb⟩
            replace HT := Lib.hid (HT.out.step hb)
            replace HGB := Lib.hid ((hb.block _ (block_lt HGB.out)).trans HGB.out)
            replace HPB := Lib.hid ((hb.block _ (block_lt HPB.out)).trans HPB.out)
            try replace HGL := Lib.hid (HGL.out.below hb)
            try replace HPL := Lib.hid (HPL.out.below hb)
            try replace HNL := Lib.hid (nestD_below 1 HNL.out hb)
            try replace HX := Lib.hid ((hb.block _ (block_lt HX.out)).trans HX.out)
            have HPL := Lib.hid hpl
            clear hpl hb
            go_wp2_with fail
            refine ⟨fun _ _ => ⟨cells_row _ _ HGB.out 0 _ rfl, cells_row _ _ HGB.out 1 _ rfl, cells_row _ _ HGB.out 2 _ rfl, cells_row _ _ HGB.out 3 _ rfl, cells_row _ _ HGB.out 4 _ rfl, cells_row _ _ HPB.out 0 _ rfl, cells_row _ _ HPB.out 1 _ rfl⟩, ?_⟩
            refine wpAnyT_two (i := 7) (k := 11) (by kernel_rfl) ?_ ?_
            · skip
              simp only [pickOps, List.flatMap_cons, List.flatMap_nil, List.drop_succ_cons, List.drop_zero, List.take_succ_cons, List.take_zero, List.append_nil]
              go_wp2_with fail
              try have HXL := Lib.hid (block_lt HX.out)
              refine (make_fresh 1 _ _ _ _ g p (leaf1 1 a) HGL.out HPL.out HNL.out HGS.out (leaf_sized 1 a)).mono ?_
              rintro e wm ⟨v4, rfl, hpf, hb⟩
              obtain ⟨vp, vl, vo, rfl, rp, rl, ro⟩ := hpf _ (Mods.refl _ _)
              obtain ⟨ap, cp, rfl⟩ := rp.slice
              obtain ⟨al, cl, rfl⟩ := rl.slice
              obtain ⟨ao2, co, rfl⟩ := ro.slice
              have HPF := Lib.hid hpf
              clear rp rl ro hpf HGL HPL HNL
              replace HT := Lib.hid (HT.out.step hb)
              replace HGB := Lib.hid ((hb.block _ (block_lt HGB.out)).trans HGB.out)
              replace HPB := Lib.hid ((hb.block _ (block_lt HPB.out)).trans HPB.out)
              try replace HGL := Lib.hid (HGL.out.below hb)
              try replace HPL := Lib.hid (HPL.out.below hb)
              try replace HNL := Lib.hid (nestD_below 1 HNL.out hb)
              try replace HX := Lib.hid ((hb.block _ (block_lt HX.out)).trans HX.out)
              clear hb
              go_wp2_with fail
              refine ⟨fun _ _ => ⟨cells_row _ _ HGB.out 0 _ rfl, cells_row _ _ HGB.out 1 _ rfl, cells_row _ _ HGB.out 2 _ rfl, cells_row _ _ HGB.out 3 _ rfl, cells_row _ _ HGB.out 4 _ rfl, cells_row _ _ HPB.out 0 _ rfl, cells_row _ _ HPB.out 1 _ rfl⟩, ?_⟩
              refine wpAnyT_later (r := [8, 9, 10]) (n := 3) hQ2 (by kernel_rfl) ⟨cells_row _ _ HGB.out 0 _ rfl, cells_row _ _ HGB.out 1 _ rfl, cells_row _ _ HGB.out 2 _ rfl, cells_row _ _ HGB.out 3 _ rfl, cells_row _ _ HGB.out 4 _ rfl, cells_row _ _ HPB.out 0 _ rfl, cells_row _ _ HPB.out 1 _ rfl⟩ ?_
              simp only [pickOps, List.flatMap_cons, List.flatMap_nil, List.drop_succ_cons, List.drop_zero, List.take_succ_cons, List.take_zero, List.cons_append, List.nil_append, List.append_nil]
              repeat (first
                | (refine wpReads_skip (by rfl) ?_; (try simp only [Act.put, List.setIfInBounds_toArray, List.set_cons_zero, List.set_cons_succ]))
                | (refine wpReads_cons ?_ (by rfl) (by rfl) ?_ ?_; rotate_left; (intro wz hz; (try dsimp only at hz); go_simp; try with_reducible rfl); (try simp only [Act.put, List.setIfInBounds_toArray, List.set_cons_zero, List.set_cons_succ]))
                | (refine wpReads_any ?_ (by rfl) ?_ ?_; rotate_left; (intro wz; go_simp; try with_reducible rfl); (try simp only [Act.put, List.setIfInBounds_toArray, List.set_cons_zero, List.set_cons_succ])))
              refine wpReads_nil ?_
              clear hQ2
              refine wpAnyT_list (ks := [11, 12, 13]) (fun _ _ hx h => ⟨hx.cell h.1, hx.cell h.2.1, hx.cell h.2.2.1, hx.cell h.2.2.2.1, hx.cell h.2.2.2.2.1, hx.cell h.2.2.2.2.2.1, hx.cell h.2.2.2.2.2.2⟩) (by kernel_rfl) ?_
              simp only [pickOps, List.flatMap_cons, List.flatMap_nil, List.drop_succ_cons, List.drop_zero, List.take_succ_cons, List.take_zero, List.cons_append, List.nil_append, List.append_nil]
              go_wp2
              go_meet
              case rel => exact ⟨wm.heap.size, rfl, rfl, HT.out.step (below_alloc wm (.cells #[.int .i64 (makeP g p (leaf1 1 a)).memory, .int .i64 (makeP g p (leaf1 1 a)).counters, .int .i64 (makeP g p (leaf1 1 a)).ins, .int .i64 (makeP g p (leaf1 1 a)).outs, .slice ap (makeP g p (leaf1 1 a)).parts.length cp, .slice al (makeP g p (leaf1 1 a)).lines.length cl, .slice ao2 (makeP g p (leaf1 1 a)).ops.length co] 39)), block_alloc HGB.out _, _, _, _, heap_alloc_new wm _, HPF.out _ ((Mods.refl _ wm).alloc _)⟩
            · skip
              simp only [pickOps, List.flatMap_cons, List.flatMap_nil, List.drop_succ_cons, List.drop_zero, List.take_succ_cons, List.take_zero, List.append_nil]
              have hb := below_alloc wc (.cells progZ 39)
              have hx := heap_alloc_new wc (.cells progZ 39)
              have hxw := block_lt HPB.out
              go_wp2
              replace HT := Lib.hid (HT.out.step hb)
              replace HGB := Lib.hid ((hb.block _ (block_lt HGB.out)).trans HGB.out)
              replace HPB := Lib.hid ((hb.block _ (block_lt HPB.out)).trans HPB.out)
              try replace HGL := Lib.hid (HGL.out.below hb)
              try replace HPL := Lib.hid (HPL.out.below hb)
              try replace HNL := Lib.hid (nestD_below 1 HNL.out hb)
              try replace HX := Lib.hid ((hb.block _ (block_lt HX.out)).trans HX.out)
              have HX := Lib.hid hx
              have HXW : Hid (w.heap.size + 1 < wc.heap.size) := Lib.hid hxw
              clear hb hx hxw
              refine ⟨fun _ _ => ⟨cells_row _ _ HGB.out 0 _ rfl, cells_row _ _ HGB.out 1 _ rfl, cells_row _ _ HGB.out 2 _ rfl, cells_row _ _ HGB.out 3 _ rfl, cells_row _ _ HGB.out 4 _ rfl, cells_row _ _ HPB.out 0 _ rfl, cells_row _ _ HPB.out 1 _ rfl⟩, ?_⟩
              obtain ⟨wd, hwd⟩ : ∃ x, wc.alloc (.cells progZ 39) = x := ⟨_, rfl⟩
              rw [hwd] at HT HGB HPB HX ⊢
              try rw [hwd] at HGL
              try rw [hwd] at HPL
              try rw [hwd] at HNL
              clear hwd
              obtain ⟨X, hX⟩ : ∃ x, wc.heap.size = x := ⟨_, rfl⟩
              rw [hX] at HX HXW ⊢
              clear hX
              obtain ⟨wc, hwc⟩ : ∃ x, x = wd := ⟨_, rfl⟩
              subst hwc
              refine wpAnyT_one (i := 7) (by kernel_rfl) ?_
              simp only [pickOps, List.flatMap_cons, List.flatMap_nil, List.drop_succ_cons, List.drop_zero, List.take_succ_cons, List.take_zero, List.append_nil]
              go_wp2_with fail
              try have HXL := Lib.hid (block_lt HX.out)
              refine (make_fresh 1 _ _ _ _ g p (leaf1 1 a) HGL.out HPL.out HNL.out HGS.out (leaf_sized 1 a)).mono ?_
              rintro e wm ⟨v4, rfl, hpf, hb⟩
              obtain ⟨vp, vl, vo, rfl, rp, rl, ro⟩ := hpf _ (Mods.refl _ _)
              obtain ⟨ap, cp, rfl⟩ := rp.slice
              obtain ⟨al, cl, rfl⟩ := rl.slice
              obtain ⟨ao2, co, rfl⟩ := ro.slice
              have HPF := Lib.hid hpf
              clear rp rl ro hpf HGL HPL HNL
              replace HT := Lib.hid (HT.out.step hb)
              replace HGB := Lib.hid ((hb.block _ (block_lt HGB.out)).trans HGB.out)
              replace HPB := Lib.hid ((hb.block _ (block_lt HPB.out)).trans HPB.out)
              try replace HGL := Lib.hid (HGL.out.below hb)
              try replace HPL := Lib.hid (HPL.out.below hb)
              try replace HNL := Lib.hid (nestD_below 1 HNL.out hb)
              try replace HX := Lib.hid ((hb.block _ (block_lt HX.out)).trans HX.out)
              clear hb
              go_wp2_with fail
              refine ⟨fun _ _ => ⟨cells_row _ _ HGB.out 0 _ rfl, cells_row _ _ HGB.out 1 _ rfl, cells_row _ _ HGB.out 2 _ rfl, cells_row _ _ HGB.out 3 _ rfl, cells_row _ _ HGB.out 4 _ rfl, cells_row _ _ HPB.out 0 _ rfl, cells_row _ _ HPB.out 1 _ rfl⟩, ?_⟩
              refine wpAnyT_later (r := [8, 9, 10]) (n := 2) hQ2 (by kernel_rfl) ⟨cells_row _ _ HGB.out 0 _ rfl, cells_row _ _ HGB.out 1 _ rfl, cells_row _ _ HGB.out 2 _ rfl, cells_row _ _ HGB.out 3 _ rfl, cells_row _ _ HGB.out 4 _ rfl, cells_row _ _ HPB.out 0 _ rfl, cells_row _ _ HPB.out 1 _ rfl⟩ ?_
              simp only [pickOps, List.flatMap_cons, List.flatMap_nil, List.drop_succ_cons, List.drop_zero, List.take_succ_cons, List.take_zero, List.cons_append, List.nil_append, List.append_nil]
              repeat (first
                | (refine wpReads_skip (by rfl) ?_; (try simp only [Act.put, List.setIfInBounds_toArray, List.set_cons_zero, List.set_cons_succ]))
                | (refine wpReads_cons ?_ (by rfl) (by rfl) ?_ ?_; rotate_left; (intro wz hz; (try dsimp only at hz); go_simp; try with_reducible rfl); (try simp only [Act.put, List.setIfInBounds_toArray, List.set_cons_zero, List.set_cons_succ]))
                | (refine wpReads_any ?_ (by rfl) ?_ ?_; rotate_left; (intro wz; go_simp; try with_reducible rfl); (try simp only [Act.put, List.setIfInBounds_toArray, List.set_cons_zero, List.set_cons_succ])))
              refine wpReads_nil ?_
              clear hQ2
              refine wpAnyT_list (ks := [12, 13]) (fun _ _ hx h => ⟨hx.cell h.1, hx.cell h.2.1, hx.cell h.2.2.1, hx.cell h.2.2.2.1, hx.cell h.2.2.2.2.1, hx.cell h.2.2.2.2.2.1, hx.cell h.2.2.2.2.2.2⟩) (by kernel_rfl) ?_
              simp only [pickOps, List.flatMap_cons, List.flatMap_nil, List.drop_succ_cons, List.drop_zero, List.take_succ_cons, List.take_zero, List.cons_append, List.nil_append, List.append_nil]
              have z0 := cells_row _ _ HX.out 0 _ rfl
              have z1 := cells_row _ _ HX.out 1 _ rfl
              have z2 := cells_row _ _ HX.out 2 _ rfl
              have z3 := cells_row _ _ HX.out 3 _ rfl
              have z4 := cells_row _ _ HX.out 4 _ rfl
              have z5 := cells_row _ _ HX.out 5 _ rfl
              have z6 := cells_row _ _ HX.out 6 _ rfl
              have f0 := frozen_of_block HX.out 0
              have f1 := frozen_of_block HX.out 1
              have f2 := frozen_of_block HX.out 2
              have f3 := frozen_of_block HX.out 3
              have f4 := frozen_of_block HX.out 4
              have f5 := frozen_of_block HX.out 5
              have f6 := frozen_of_block HX.out 6
              go_wp2
              have mm := prog_mods wm X (.int .i64 (makeP g p (leaf1 1 a)).memory) (.int .i64 (makeP g p (leaf1 1 a)).counters) (.int .i64 (makeP g p (leaf1 1 a)).ins) (.int .i64 (makeP g p (leaf1 1 a)).outs) (.slice ap (makeP g p (leaf1 1 a)).parts.length cp) (.slice al (makeP g p (leaf1 1 a)).lines.length cl) (.slice ao2 (makeP g p (leaf1 1 a)).ops.length co)
              go_meet
              case rel => exact ⟨X, rfl, rfl, ⟨HT.out.below.trans (mm.below HT.out.size (fun k hk e => by have := HXW.out; omega)), Nat.le_trans HT.out.size mm.size⟩, block_mods HGB.out mm (by have := HXW.out; omega), _, _, _, prog_set HX.out _ _ _ _ _ _ _, HPF.out _ (mm.mono (fun k _ e => by subst e; exact HXL.out))⟩
          · skip
            simp only [pickOps, List.flatMap_cons, List.flatMap_nil, List.drop_succ_cons, List.drop_zero, List.take_succ_cons, List.take_zero, List.append_nil]
            have hb := below_alloc wc (.cells progZ 39)
            have hx := heap_alloc_new wc (.cells progZ 39)
            have hxw := block_lt HPB.out
            go_wp2
            replace HT := Lib.hid (HT.out.step hb)
            replace HGB := Lib.hid ((hb.block _ (block_lt HGB.out)).trans HGB.out)
            replace HPB := Lib.hid ((hb.block _ (block_lt HPB.out)).trans HPB.out)
            try replace HGL := Lib.hid (HGL.out.below hb)
            try replace HPL := Lib.hid (HPL.out.below hb)
            try replace HNL := Lib.hid (nestD_below 1 HNL.out hb)
            try replace HX := Lib.hid ((hb.block _ (block_lt HX.out)).trans HX.out)
            have HX := Lib.hid hx
            have HXW : Hid (w.heap.size + 1 < wc.heap.size) := Lib.hid hxw
            clear hb hx hxw
            refine ⟨fun _ _ => ⟨cells_row _ _ HGB.out 0 _ rfl, cells_row _ _ HGB.out 1 _ rfl, cells_row _ _ HGB.out 2 _ rfl, cells_row _ _ HGB.out 3 _ rfl, cells_row _ _ HGB.out 4 _ rfl, cells_row _ _ HPB.out 0 _ rfl, cells_row _ _ HPB.out 1 _ rfl⟩, ?_⟩
            obtain ⟨wd, hwd⟩ : ∃ x, wc.alloc (.cells progZ 39) = x := ⟨_, rfl⟩
            rw [hwd] at HT HGB HPB HX ⊢
            try rw [hwd] at HGL
            try rw [hwd] at HPL
            try rw [hwd] at HNL
            clear hwd
            obtain ⟨X, hX⟩ : ∃ x, wc.heap.size = x := ⟨_, rfl⟩
            rw [hX] at HX HXW ⊢
            clear hX
            obtain ⟨wc, hwc⟩ : ∃ x, x = wd := ⟨_, rfl⟩
            subst hwc
            refine wpAnyT_one (i := 3) (by kernel_rfl) ?_
            simp only [pickOps, List.flatMap_cons, List.flatMap_nil, List.drop_succ_cons, List.drop_zero, List.take_succ_cons, List.take_zero, List.append_nil]
            go_wp2_with fail
            refine (lentplan_any _ _ p (RP.out.below HT.out.below) (by have := HRL.out; omega)).mono ?_
            rintro e wc ⟨vpl, rfl, hpl, hb⟩
            replace HT := Lib.hid (HT.out.step hb)
            replace HGB := Lib.hid ((hb.block _ (block_lt HGB.out)).trans HGB.out)
            replace HPB := Lib.hid ((hb.block _ (block_lt HPB.out)).trans HPB.out)
            try replace HGL := Lib.hid (HGL.out.below hb)
            try replace HPL := Lib.hid (HPL.out.below hb)
            try replace HNL := Lib.hid (nestD_below 1 HNL.out hb)
            try replace HX := Lib.hid ((hb.block _ (block_lt HX.out)).trans HX.out)
            have HPL := Lib.hid hpl
            clear hpl hb
            go_wp2_with fail
            refine ⟨fun _ _ => ⟨cells_row _ _ HGB.out 0 _ rfl, cells_row _ _ HGB.out 1 _ rfl, cells_row _ _ HGB.out 2 _ rfl, cells_row _ _ HGB.out 3 _ rfl, cells_row _ _ HGB.out 4 _ rfl, cells_row _ _ HPB.out 0 _ rfl, cells_row _ _ HPB.out 1 _ rfl⟩, ?_⟩
            refine wpAnyT_one (i := 7) (by kernel_rfl) ?_
            simp only [pickOps, List.flatMap_cons, List.flatMap_nil, List.drop_succ_cons, List.drop_zero, List.take_succ_cons, List.take_zero, List.append_nil]
            go_wp2_with fail
            try have HXL := Lib.hid (block_lt HX.out)
            refine (make_fresh 1 _ _ _ _ g p (leaf1 1 a) HGL.out HPL.out HNL.out HGS.out (leaf_sized 1 a)).mono ?_
            rintro e wm ⟨v4, rfl, hpf, hb⟩
            obtain ⟨vp, vl, vo, rfl, rp, rl, ro⟩ := hpf _ (Mods.refl _ _)
            obtain ⟨ap, cp, rfl⟩ := rp.slice
            obtain ⟨al, cl, rfl⟩ := rl.slice
            obtain ⟨ao2, co, rfl⟩ := ro.slice
            have HPF := Lib.hid hpf
            clear rp rl ro hpf HGL HPL HNL
            replace HT := Lib.hid (HT.out.step hb)
            replace HGB := Lib.hid ((hb.block _ (block_lt HGB.out)).trans HGB.out)
            replace HPB := Lib.hid ((hb.block _ (block_lt HPB.out)).trans HPB.out)
            try replace HGL := Lib.hid (HGL.out.below hb)
            try replace HPL := Lib.hid (HPL.out.below hb)
            try replace HNL := Lib.hid (nestD_below 1 HNL.out hb)
            try replace HX := Lib.hid ((hb.block _ (block_lt HX.out)).trans HX.out)
            clear hb
            go_wp2_with fail
            refine ⟨fun _ _ => ⟨cells_row _ _ HGB.out 0 _ rfl, cells_row _ _ HGB.out 1 _ rfl, cells_row _ _ HGB.out 2 _ rfl, cells_row _ _ HGB.out 3 _ rfl, cells_row _ _ HGB.out 4 _ rfl, cells_row _ _ HPB.out 0 _ rfl, cells_row _ _ HPB.out 1 _ rfl⟩, ?_⟩
            refine wpAnyT_later (r := [8, 9, 10]) (n := 2) hQ2 (by kernel_rfl) ⟨cells_row _ _ HGB.out 0 _ rfl, cells_row _ _ HGB.out 1 _ rfl, cells_row _ _ HGB.out 2 _ rfl, cells_row _ _ HGB.out 3 _ rfl, cells_row _ _ HGB.out 4 _ rfl, cells_row _ _ HPB.out 0 _ rfl, cells_row _ _ HPB.out 1 _ rfl⟩ ?_
            simp only [pickOps, List.flatMap_cons, List.flatMap_nil, List.drop_succ_cons, List.drop_zero, List.take_succ_cons, List.take_zero, List.cons_append, List.nil_append, List.append_nil]
            repeat (first
              | (refine wpReads_skip (by rfl) ?_; (try simp only [Act.put, List.setIfInBounds_toArray, List.set_cons_zero, List.set_cons_succ]))
              | (refine wpReads_cons ?_ (by rfl) (by rfl) ?_ ?_; rotate_left; (intro wz hz; (try dsimp only at hz); go_simp; try with_reducible rfl); (try simp only [Act.put, List.setIfInBounds_toArray, List.set_cons_zero, List.set_cons_succ]))
              | (refine wpReads_any ?_ (by rfl) ?_ ?_; rotate_left; (intro wz; go_simp; try with_reducible rfl); (try simp only [Act.put, List.setIfInBounds_toArray, List.set_cons_zero, List.set_cons_succ])))
            refine wpReads_nil ?_
            clear hQ2
            refine wpAnyT_list (ks := [12, 13]) (fun _ _ hx h => ⟨hx.cell h.1, hx.cell h.2.1, hx.cell h.2.2.1, hx.cell h.2.2.2.1, hx.cell h.2.2.2.2.1, hx.cell h.2.2.2.2.2.1, hx.cell h.2.2.2.2.2.2⟩) (by kernel_rfl) ?_
            simp only [pickOps, List.flatMap_cons, List.flatMap_nil, List.drop_succ_cons, List.drop_zero, List.take_succ_cons, List.take_zero, List.cons_append, List.nil_append, List.append_nil]
            have z0 := cells_row _ _ HX.out 0 _ rfl
            have z1 := cells_row _ _ HX.out 1 _ rfl
            have z2 := cells_row _ _ HX.out 2 _ rfl
            have z3 := cells_row _ _ HX.out 3 _ rfl
            have z4 := cells_row _ _ HX.out 4 _ rfl
            have z5 := cells_row _ _ HX.out 5 _ rfl
            have z6 := cells_row _ _ HX.out 6 _ rfl
            have f0 := frozen_of_block HX.out 0
            have f1 := frozen_of_block HX.out 1
            have f2 := frozen_of_block HX.out 2
            have f3 := frozen_of_block HX.out 3
            have f4 := frozen_of_block HX.out 4
            have f5 := frozen_of_block HX.out 5
            have f6 := frozen_of_block HX.out 6
            go_wp2
            have mm := prog_mods wm X (.int .i64 (makeP g p (leaf1 1 a)).memory) (.int .i64 (makeP g p (leaf1 1 a)).counters) (.int .i64 (makeP g p (leaf1 1 a)).ins) (.int .i64 (makeP g p (leaf1 1 a)).outs) (.slice ap (makeP g p (leaf1 1 a)).parts.length cp) (.slice al (makeP g p (leaf1 1 a)).lines.length cl) (.slice ao2 (makeP g p (leaf1 1 a)).ops.length co)
            go_meet
            case rel => exact ⟨X, rfl, rfl, ⟨HT.out.below.trans (mm.below HT.out.size (fun k hk e => by have := HXW.out; omega)), Nat.le_trans HT.out.size mm.size⟩, block_mods HGB.out mm (by have := HXW.out; omega), _, _, _, prog_set HX.out _ _ _ _ _ _ _, HPF.out _ (mm.mono (fun k _ e => by subst e; exact HXL.out))⟩
        · skip
          simp only [pickOps, List.flatMap_cons, List.flatMap_nil, List.drop_succ_cons, List.drop_zero, List.take_succ_cons, List.take_zero, List.append_nil]
          have hb := below_alloc wc (.cells progZ 39)
          have hx := heap_alloc_new wc (.cells progZ 39)
          have hxw := block_lt HPB.out
          go_wp2
          replace HT := Lib.hid (HT.out.step hb)
          replace HGB := Lib.hid ((hb.block _ (block_lt HGB.out)).trans HGB.out)
          replace HPB := Lib.hid ((hb.block _ (block_lt HPB.out)).trans HPB.out)
          try replace HGL := Lib.hid (HGL.out.below hb)
          try replace HPL := Lib.hid (HPL.out.below hb)
          try replace HNL := Lib.hid (nestD_below 1 HNL.out hb)
          try replace HX := Lib.hid ((hb.block _ (block_lt HX.out)).trans HX.out)
          have HX := Lib.hid hx
          have HXW : Hid (w.heap.size + 1 < wc.heap.size) := Lib.hid hxw
          clear hb hx hxw
          refine ⟨fun _ _ => ⟨cells_row _ _ HGB.out 0 _ rfl, cells_row _ _ HGB.out 1 _ rfl, cells_row _ _ HGB.out 2 _ rfl, cells_row _ _ HGB.out 3 _ rfl, cells_row _ _ HGB.out 4 _ rfl, cells_row _ _ HPB.out 0 _ rfl, cells_row _ _ HPB.out 1 _ rfl⟩, ?_⟩
          obtain ⟨wd, hwd⟩ : ∃ x, wc.alloc (.cells progZ 39) = x := ⟨_, rfl⟩
          rw [hwd] at HT HGB HPB HX ⊢
          try rw [hwd] at HGL
          try rw [hwd] at HPL
          try rw [hwd] at HNL
          clear hwd
          obtain ⟨X, hX⟩ : ∃ x, wc.heap.size = x := ⟨_, rfl⟩
          rw [hX] at HX HXW ⊢
          clear hX
          obtain ⟨wc, hwc⟩ : ∃ x, x = wd := ⟨_, rfl⟩
          subst hwc
          refine wpAnyT_one (i := 1) (by kernel_rfl) ?_
          simp only [pickOps, List.flatMap_cons, List.flatMap_nil, List.drop_succ_cons, List.drop_zero, List.take_succ_cons, List.take_zero, List.append_nil]
          go_wp2_with fail
          refine (lentgraph_any _ _ g (RG.out.below HT.out.below) HH.out HPS.out HES.out).mono ?_
          rintro e wc ⟨vgl, rfl, hgl, hb⟩
          replace HT := Lib.hid (HT.out.step hb)
          replace HGB := Lib.hid ((hb.block _ (block_lt HGB.out)).trans HGB.out)
          replace HPB := Lib.hid ((hb.block _ (block_lt HPB.out)).trans HPB.out)
          try replace HGL := Lib.hid (HGL.out.below hb)
          try replace HPL := Lib.hid (HPL.out.below hb)
          try replace HNL := Lib.hid (nestD_below 1 HNL.out hb)
          try replace HX := Lib.hid ((hb.block _ (block_lt HX.out)).trans HX.out)
          have HGL := Lib.hid hgl
          clear hgl hb
          go_wp2_with fail
          refine ⟨fun _ _ => ⟨cells_row _ _ HGB.out 0 _ rfl, cells_row _ _ HGB.out 1 _ rfl, cells_row _ _ HGB.out 2 _ rfl, cells_row _ _ HGB.out 3 _ rfl, cells_row _ _ HGB.out 4 _ rfl, cells_row _ _ HPB.out 0 _ rfl, cells_row _ _ HPB.out 1 _ rfl⟩, ?_⟩
          refine wpAnyT_one (i := 3) (by kernel_rfl) ?_
          simp only [pickOps, List.flatMap_cons, List.flatMap_nil, List.drop_succ_cons, List.drop_zero, List.take_succ_cons, List.take_zero, List.append_nil]
          go_wp2_with fail
          refine (lentplan_any _ _ p (RP.out.below HT.out.below) (by have := HRL.out; omega)).mono ?_
          rintro e wc ⟨vpl, rfl, hpl, hb⟩
          replace HT := Lib.hid (HT.out.step hb)
          replace HGB := Lib.hid ((hb.block _ (block_lt HGB.out)).trans HGB.out)
          replace HPB := Lib.hid ((hb.block _ (block_lt HPB.out)).trans HPB.out)
          try replace HGL := Lib.hid (HGL.out.below hb)
          try replace HPL := Lib.hid (HPL.out.below hb)
          try replace HNL := Lib.hid (nestD_below 1 HNL.out hb)
          try replace HX := Lib.hid ((hb.block _ (block_lt HX.out)).trans HX.out)
          have HPL := Lib.hid hpl
          clear hpl hb
          go_wp2_with fail
          refine ⟨fun _ _ => ⟨cells_row _ _ HGB.out 0 _ rfl, cells_row _ _ HGB.out 1 _ rfl, cells_row _ _ HGB.out 2 _ rfl, cells_row _ _ HGB.out 3 _ rfl, cells_row _ _ HGB.out 4 _ rfl, cells_row _ _ HPB.out 0 _ rfl, cells_row _ _ HPB.out 1 _ rfl⟩, ?_⟩
          refine wpAnyT_one (i := 7) (by kernel_rfl) ?_
          simp only [pickOps, List.flatMap_cons, List.flatMap_nil, List.drop_succ_cons, List.drop_zero, List.take_succ_cons, List.take_zero, List.append_nil]
          go_wp2_with fail
          try have HXL := Lib.hid (block_lt HX.out)
          refine (make_fresh 1 _ _ _ _ g p (leaf1 1 a) HGL.out HPL.out HNL.out HGS.out (leaf_sized 1 a)).mono ?_
          rintro e wm ⟨v4, rfl, hpf, hb⟩
          obtain ⟨vp, vl, vo, rfl, rp, rl, ro⟩ := hpf _ (Mods.refl _ _)
          obtain ⟨ap, cp, rfl⟩ := rp.slice
          obtain ⟨al, cl, rfl⟩ := rl.slice
          obtain ⟨ao2, co, rfl⟩ := ro.slice
          have HPF := Lib.hid hpf
          clear rp rl ro hpf HGL HPL HNL
          replace HT := Lib.hid (HT.out.step hb)
          replace HGB := Lib.hid ((hb.block _ (block_lt HGB.out)).trans HGB.out)
          replace HPB := Lib.hid ((hb.block _ (block_lt HPB.out)).trans HPB.out)
          try replace HGL := Lib.hid (HGL.out.below hb)
          try replace HPL := Lib.hid (HPL.out.below hb)
          try replace HNL := Lib.hid (nestD_below 1 HNL.out hb)
          try replace HX := Lib.hid ((hb.block _ (block_lt HX.out)).trans HX.out)
          clear hb
          go_wp2_with fail
          refine ⟨fun _ _ => ⟨cells_row _ _ HGB.out 0 _ rfl, cells_row _ _ HGB.out 1 _ rfl, cells_row _ _ HGB.out 2 _ rfl, cells_row _ _ HGB.out 3 _ rfl, cells_row _ _ HGB.out 4 _ rfl, cells_row _ _ HPB.out 0 _ rfl, cells_row _ _ HPB.out 1 _ rfl⟩, ?_⟩
          refine wpAnyT_later (r := [8, 9, 10]) (n := 2) hQ2 (by kernel_rfl) ⟨cells_row _ _ HGB.out 0 _ rfl, cells_row _ _ HGB.out 1 _ rfl, cells_row _ _ HGB.out 2 _ rfl, cells_row _ _ HGB.out 3 _ rfl, cells_row _ _ HGB.out 4 _ rfl, cells_row _ _ HPB.out 0 _ rfl, cells_row _ _ HPB.out 1 _ rfl⟩ ?_
          simp only [pickOps, List.flatMap_cons, List.flatMap_nil, List.drop_succ_cons, List.drop_zero, List.take_succ_cons, List.take_zero, List.cons_append, List.nil_append, List.append_nil]
          repeat (first
            | (refine wpReads_skip (by rfl) ?_; (try simp only [Act.put, List.setIfInBounds_toArray, List.set_cons_zero, List.set_cons_succ]))
            | (refine wpReads_cons ?_ (by rfl) (by rfl) ?_ ?_; rotate_left; (intro wz hz; (try dsimp only at hz); go_simp; try with_reducible rfl); (try simp only [Act.put, List.setIfInBounds_toArray, List.set_cons_zero, List.set_cons_succ]))
            | (refine wpReads_any ?_ (by rfl) ?_ ?_; rotate_left; (intro wz; go_simp; try with_reducible rfl); (try simp only [Act.put, List.setIfInBounds_toArray, List.set_cons_zero, List.set_cons_succ])))
          refine wpReads_nil ?_
          clear hQ2
          refine wpAnyT_list (ks := [12, 13]) (fun _ _ hx h => ⟨hx.cell h.1, hx.cell h.2.1, hx.cell h.2.2.1, hx.cell h.2.2.2.1, hx.cell h.2.2.2.2.1, hx.cell h.2.2.2.2.2.1, hx.cell h.2.2.2.2.2.2⟩) (by kernel_rfl) ?_
          simp only [pickOps, List.flatMap_cons, List.flatMap_nil, List.drop_succ_cons, List.drop_zero, List.take_succ_cons, List.take_zero, List.cons_append, List.nil_append, List.append_nil]
          have z0 := cells_row _ _ HX.out 0 _ rfl
          have z1 := cells_row _ _ HX.out 1 _ rfl
          have z2 := cells_row _ _ HX.out 2 _ rfl
          have z3 := cells_row _ _ HX.out 3 _ rfl
          have z4 := cells_row _ _ HX.out 4 _ rfl
          have z5 := cells_row _ _ HX.out 5 _ rfl
          have z6 := cells_row _ _ HX.out 6 _ rfl
          have f0 := frozen_of_block HX.out 0
          have f1 := frozen_of_block HX.out 1
          have f2 := frozen_of_block HX.out 2
          have f3 := frozen_of_block HX.out 3
          have f4 := frozen_of_block HX.out 4
          have f5 := frozen_of_block HX.out 5
          have f6 := frozen_of_block HX.out 6
          go_wp2
          have mm := prog_mods wm X (.int .i64 (makeP g p (leaf1 1 a)).memory) (.int .i64 (makeP g p (leaf1 1 a)).counters) (.int .i64 (makeP g p (leaf1 1 a)).ins) (.int .i64 (makeP g p (leaf1 1 a)).outs) (.slice ap (makeP g p (leaf1 1 a)).parts.length cp) (.slice al (makeP g p (leaf1 1 a)).lines.length cl) (.slice ao2 (makeP g p (leaf1 1 a)).ops.length co)
          go_meet
          case rel => exact ⟨X, rfl, rfl, ⟨HT.out.below.trans (mm.below HT.out.size (fun k hk e => by have := HXW.out; omega)), Nat.le_trans HT.out.size mm.size⟩, block_mods HGB.out mm (by have := HXW.out; omega), _, _, _, prog_set HX.out _ _ _ _ _ _ _, HPF.out _ (mm.mono (fun k _ e => by subst e; exact HXL.out))⟩
      · skip
        simp only [pickOps, List.flatMap_cons, List.flatMap_nil, List.drop_succ_cons, List.drop_zero, List.take_succ_cons, List.take_zero, List.append_nil]
        have hb := below_alloc wc (.cells progZ 39)
        have hx := heap_alloc_new wc (.cells progZ 39)
        have hxw := block_lt HPB.out
        go_wp2
        replace HT := Lib.hid (HT.out.step hb)
        replace HGB := Lib.hid ((hb.block _ (block_lt HGB.out)).trans HGB.out)
        replace HPB := Lib.hid ((hb.block _ (block_lt HPB.out)).trans HPB.out)
        try replace HGL := Lib.hid (HGL.out.below hb)
        try replace HPL := Lib.hid (HPL.out.below hb)
        try replace HNL := Lib.hid (nestD_below 1 HNL.out hb)
        try replace HX := Lib.hid ((hb.block _ (block_lt HX.out)).trans HX.out)
        have HX := Lib.hid hx
        have HXW : Hid (w.heap.size + 1 < wc.heap.size) := Lib.hid hxw
        clear hb hx hxw
        refine ⟨fun _ _ => ⟨cells_row _ _ HGB.out 0 _ rfl, cells_row _ _ HGB.out 1 _ rfl, cells_row _ _ HGB.out 2 _ rfl, cells_row _ _ HGB.out 3 _ rfl, cells_row _ _ HGB.out 4 _ rfl, cells_row _ _ HPB.out 0 _ rfl, cells_row _ _ HPB.out 1 _ rfl⟩, ?_⟩
        obtain ⟨wd, hwd⟩ : ∃ x, wc.alloc (.cells progZ 39) = x := ⟨_, rfl⟩
        rw [hwd] at HT HGB HPB HX ⊢
        try rw [hwd] at HGL
        try rw [hwd] at HPL
        try rw [hwd] at HNL
        clear hwd
        obtain ⟨X, hX⟩ : ∃ x, wc.heap.size = x := ⟨_, rfl⟩
        rw [hX] at HX HXW ⊢
        clear hX
        obtain ⟨wc, hwc⟩ : ∃ x, x = wd := ⟨_, rfl⟩
        subst hwc
        refine wpAnyT_two (i := 1) (k := 6) (by kernel_rfl) ?_ ?_
        · skip
          simp only [pickOps, List.flatMap_cons, List.flatMap_nil, List.drop_succ_cons, List.drop_zero, List.take_succ_cons, List.take_zero, List.append_nil]
          go_wp2_with fail
          refine (lentgraph_any _ _ g (RG.out.below HT.out.below) HH.out HPS.out HES.out).mono ?_
          rintro e wc ⟨vgl, rfl, hgl, hb⟩
          replace HT := Lib.hid (HT.out.step hb)
          replace HGB := Lib.hid ((hb.block _ (block_lt HGB.out)).trans HGB.out)
          replace HPB := Lib.hid ((hb.block _ (block_lt HPB.out)).trans HPB.out)
          try replace HGL := Lib.hid (HGL.out.below hb)
          try replace HPL := Lib.hid (HPL.out.below hb)
          try replace HNL := Lib.hid (nestD_below 1 HNL.out hb)
          try replace HX := Lib.hid ((hb.block _ (block_lt HX.out)).trans HX.out)
          have HGL := Lib.hid hgl
          clear hgl hb
          go_wp2_with fail
          refine ⟨fun _ _ => ⟨cells_row _ _ HGB.out 0 _ rfl, cells_row _ _ HGB.out 1 _ rfl, cells_row _ _ HGB.out 2 _ rfl, cells_row _ _ HGB.out 3 _ rfl, cells_row _ _ HGB.out 4 _ rfl, cells_row _ _ HPB.out 0 _ rfl, cells_row _ _ HPB.out 1 _ rfl⟩, ?_⟩
          refine wpAnyT_two (i := 3) (k := 6) (by kernel_rfl) ?_ ?_
          · skip
            simp only [pickOps, List.flatMap_cons, List.flatMap_nil, List.drop_succ_cons, List.drop_zero, List.take_succ_cons, List.take_zero, List.append_nil]
            go_wp2_with fail
            refine (lentplan_any _ _ p (RP.out.below HT.out.below) (by have := HRL.out; omega)).mono ?_
            rintro e wc ⟨vpl, rfl, hpl, hb⟩
            replace HT := Lib.hid (HT.out.step hb)
            replace HGB := Lib.hid ((hb.block _ (block_lt HGB.out)).trans HGB.out)
            replace HPB := Lib.hid ((hb.block _ (block_lt HPB.out)).trans HPB.out)
            try replace HGL := Lib.hid (HGL.out.below hb)
            try replace HPL := Lib.hid (HPL.out.below hb)
            try replace HNL := Lib.hid (nestD_below 1 HNL.out hb)
            try replace HX := Lib.hid ((hb.block _ (block_lt HX.out)).trans HX.out)
            have HPL := Lib.hid hpl
            clear hpl hb
            go_wp2_with fail
            refine ⟨fun _ _ => ⟨cells_row _ _ HGB.out 0 _ rfl, cells_row _ _ HGB.out 1 _ rfl, cells_row _ _ HGB.out 2 _ rfl, cells_row _ _ HGB.out 3 _ rfl, cells_row _ _ HGB.out 4 _ rfl, cells_row _ _ HPB.out 0 _ rfl, cells_row _ _ HPB.out 1 _ rfl⟩, ?_⟩
            refine wpAnyT_one (i := 6) (by kernel_rfl) ?_
            simp only [pickOps, List.flatMap_cons, List.flatMap_nil, List.drop_succ_cons, List.drop_zero, List.take_succ_cons, List.take_zero, List.append_nil]
            have hb := below_alloc wc (.cells #[.int .i64 1, .int .i64 a, .slice none 0 0] 51)
            have hl := leaf_has wc 1 a
            go_wp2
            replace HT := Lib.hid (HT.out.step hb)
            replace HGB := Lib.hid ((hb.block _ (block_lt HGB.out)).trans HGB.out)
            replace HPB := Lib.hid ((hb.block _ (block_lt HPB.out)).trans HPB.out)
            try replace HGL := Lib.hid (HGL.out.below hb)
            try replace HPL := Lib.hid (HPL.out.below hb)
            try replace HNL := Lib.hid (nestD_below 1 HNL.out hb)
            try replace HX := Lib.hid ((hb.block _ (block_lt HX.out)).trans HX.out)
            have HNL := Lib.hid hl
            clear hb hl
            refine ⟨fun _ _ => ⟨cells_row _ _ HGB.out 0 _ rfl, cells_row _ _ HGB.out 1 _ rfl, cells_row _ _ HGB.out 2 _ rfl, cells_row _ _ HGB.out 3 _ rfl, cells_row _ _ HGB.out 4 _ rfl, cells_row _ _ HPB.out 0 _ rfl, cells_row _ _ HPB.out 1 _ rfl⟩, ?_⟩
            obtain ⟨wd, hwd⟩ : ∃ x, wc.alloc (.cells #[.int .i64 1, .int .i64 a, .slice none 0 0] 51) = x := ⟨_, rfl⟩
            rw [hwd] at HT HGB HPB HNL ⊢
            try rw [hwd] at HGL
            try rw [hwd] at HPL
            try rw [hwd] at HX
            clear hwd
            obtain ⟨wc, hwc⟩ : ∃ x, x = wd := ⟨_, rfl⟩
            subst hwc
            refine wpAnyT_one (i := 7) (by kernel_rfl) ?_
            simp only [pickOps, List.flatMap_cons, List.flatMap_nil, List.drop_succ_cons, List.drop_zero, List.take_succ_cons, List.take_zero, List.append_nil]
            go_wp2_with fail
            try have HXL := Lib.hid (block_lt HX.out)
            refine (make_fresh 1 _ _ _ _ g p (leaf1 1 a) HGL.out HPL.out HNL.out HGS.out (leaf_sized 1 a)).mono ?_
            rintro e wm ⟨v4, rfl, hpf, hb⟩
            obtain ⟨vp, vl, vo, rfl, rp, rl, ro⟩ := hpf _ (Mods.refl _ _)
            obtain ⟨ap, cp, rfl⟩ := rp.slice
            obtain ⟨al, cl, rfl⟩ := rl.slice
            obtain ⟨ao2, co, rfl⟩ := ro.slice
            have HPF := Lib.hid hpf
            clear rp rl ro hpf HGL HPL HNL
            replace HT := Lib.hid (HT.out.step hb)
            replace HGB := Lib.hid ((hb.block _ (block_lt HGB.out)).trans HGB.out)
            replace HPB := Lib.hid ((hb.block _ (block_lt HPB.out)).trans HPB.out)
            try replace HGL := Lib.hid (HGL.out.below hb)
            try replace HPL := Lib.hid (HPL.out.below hb)
            try replace HNL := Lib.hid (nestD_below 1 HNL.out hb)
            try replace HX := Lib.hid ((hb.block _ (block_lt HX.out)).trans HX.out)
            clear hb
            go_wp2_with fail
            refine ⟨fun _ _ => ⟨cells_row _ _ HGB.out 0 _ rfl, cells_row _ _ HGB.out 1 _ rfl, cells_row _ _ HGB.out 2 _ rfl, cells_row _ _ HGB.out 3 _ rfl, cells_row _ _ HGB.out 4 _ rfl, cells_row _ _ HPB.out 0 _ rfl, cells_row _ _ HPB.out 1 _ rfl⟩, ?_⟩
            refine wpAnyT_later (r := [8, 9, 10]) (n := 2) hQ2 (by kernel_rfl) ⟨cells_row _ _ HGB.out 0 _ rfl, cells_row _ _ HGB.out 1 _ rfl, cells_row _ _ HGB.out 2 _ rfl, cells_row _ _ HGB.out 3 _ rfl, cells_row _ _ HGB.out 4 _ rfl, cells_row _ _ HPB.out 0 _ rfl, cells_row _ _ HPB.out 1 _ rfl⟩ ?_
            simp only [pickOps, List.flatMap_cons, List.flatMap_nil, List.drop_succ_cons, List.drop_zero, List.take_succ_cons, List.take_zero, List.cons_append, List.nil_append, List.append_nil]
            repeat (first
              | (refine wpReads_skip (by rfl) ?_; (try simp only [Act.put, List.setIfInBounds_toArray, List.set_cons_zero, List.set_cons_succ]))
              | (refine wpReads_cons ?_ (by rfl) (by rfl) ?_ ?_; rotate_left; (intro wz hz; (try dsimp only at hz); go_simp; try with_reducible rfl); (try simp only [Act.put, List.setIfInBounds_toArray, List.set_cons_zero, List.set_cons_succ]))
              | (refine wpReads_any ?_ (by rfl) ?_ ?_; rotate_left; (intro wz; go_simp; try with_reducible rfl); (try simp only [Act.put, List.setIfInBounds_toArray, List.set_cons_zero, List.set_cons_succ])))
            refine wpReads_nil ?_
            clear hQ2
            refine wpAnyT_list (ks := [12, 13]) (fun _ _ hx h => ⟨hx.cell h.1, hx.cell h.2.1, hx.cell h.2.2.1, hx.cell h.2.2.2.1, hx.cell h.2.2.2.2.1, hx.cell h.2.2.2.2.2.1, hx.cell h.2.2.2.2.2.2⟩) (by kernel_rfl) ?_
            simp only [pickOps, List.flatMap_cons, List.flatMap_nil, List.drop_succ_cons, List.drop_zero, List.take_succ_cons, List.take_zero, List.cons_append, List.nil_append, List.append_nil]
            have z0 := cells_row _ _ HX.out 0 _ rfl
            have z1 := cells_row _ _ HX.out 1 _ rfl
            have z2 := cells_row _ _ HX.out 2 _ rfl
            have z3 := cells_row _ _ HX.out 3 _ rfl
            have z4 := cells_row _ _ HX.out 4 _ rfl
            have z5 := cells_row _ _ HX.out 5 _ rfl
            have z6 := cells_row _ _ HX.out 6 _ rfl
            have f0 := frozen_of_block HX.out 0
            have f1 := frozen_of_block HX.out 1
            have f2 := frozen_of_block HX.out 2
            have f3 := frozen_of_block HX.out 3
            have f4 := frozen_of_block HX.out 4
            have f5 := frozen_of_block HX.out 5
            have f6 := frozen_of_block HX.out 6
            go_wp2
            have mm := prog_mods wm X (.int .i64 (makeP g p (leaf1 1 a)).memory) (.int .i64 (makeP g p (leaf1 1 a)).counters) (.int .i64 (makeP g p (leaf1 1 a)).ins) (.int .i64 (makeP g p (leaf1 1 a)).outs) (.slice ap (makeP g p (leaf1 1 a)).parts.length cp) (.slice al (makeP g p (leaf1 1 a)).lines.length cl) (.slice ao2 (makeP g p (leaf1 1 a)).ops.length co)
            go_meet
            case rel => exact ⟨X, rfl, rfl, ⟨HT.out.below.trans (mm.below HT.out.size (fun k hk e => by have := HXW.out; omega)), Nat.le_trans HT.out.size mm.size⟩, block_mods HGB.out mm (by have := HXW.out; omega), _, _, _, prog_set HX.out _ _ _ _ _ _ _, HPF.out _ (mm.mono (fun k _ e => by subst e; exact HXL.out))⟩
          · skip
            simp only [pickOps, List.flatMap_cons, List.flatMap_nil, List.drop_succ_cons, List.drop_zero, List.take_succ_cons, List.take_zero, List.append_nil]
            have hb := below_alloc wc (.cells #[.int .i64 1, .int .i64 a, .slice none 0 0] 51)
            have hl := leaf_has wc 1 a
            go_wp2
            replace HT := Lib.hid (HT.out.step hb)
            replace HGB := Lib.hid ((hb.block _ (block_lt HGB.out)).trans HGB.out)
            replace HPB := Lib.hid ((hb.block _ (block_lt HPB.out)).trans HPB.out)
            try replace HGL := Lib.hid (HGL.out.below hb)
            try replace HPL := Lib.hid (HPL.out.below hb)
            try replace HNL := Lib.hid (nestD_below 1 HNL.out hb)
            try replace HX := Lib.hid ((hb.block _ (block_lt HX.out)).trans HX.out)
            have HNL := Lib.hid hl
            clear hb hl
            refine ⟨fun _ _ => ⟨cells_row _ _ HGB.out 0 _ rfl, cells_row _ _ HGB.out 1 _ rfl, cells_row _ _ HGB.out 2 _ rfl, cells_row _ _ HGB.out 3 _ rfl, cells_row _ _ HGB.out 4 _ rfl, cells_row _ _ HPB.out 0 _ rfl, cells_row _ _ HPB.out 1 _ rfl⟩, ?_⟩
            obtain ⟨wd, hwd⟩ : ∃ x, wc.alloc (.cells #[.int .i64 1, .int .i64 a, .slice none 0 0] 51) = x := ⟨_, rfl⟩
            rw [hwd] at HT HGB HPB HNL ⊢
            try rw [hwd] at HGL
            try rw [hwd] at HPL
            try rw [hwd] at HX
            clear hwd
            obtain ⟨wc, hwc⟩ : ∃ x, x = wd := ⟨_, rfl⟩
            subst hwc
            refine wpAnyT_one (i := 3) (by kernel_rfl) ?_
            simp only [pickOps, List.flatMap_cons, List.flatMap_nil, List.drop_succ_cons, List.drop_zero, List.take_succ_cons, List.take_zero, List.append_nil]
            go_wp2_with fail
            refine (lentplan_any _ _ p (RP.out.below HT.out.below) (by have := HRL.out; omega)).mono ?_
            rintro e wc ⟨vpl, rfl, hpl, hb⟩
            replace HT := Lib.hid (HT.out.step hb)
            replace HGB := Lib.hid ((hb.block _ (block_lt HGB.out)).trans HGB.out)
            replace HPB := Lib.hid ((hb.block _ (block_lt HPB.out)).trans HPB.out)
            try replace HGL := Lib.hid (HGL.out.below hb)
            try replace HPL := Lib.hid (HPL.out.below hb)
            try replace HNL := Lib.hid (nestD_below 1 HNL.out hb)
            try replace HX := Lib.hid ((hb.block _ (block_lt HX.out)).trans HX.out)
            have HPL := Lib.hid hpl
            clear hpl hb
            go_wp2_with fail
            refine ⟨fun _ _ => ⟨cells_row _ _ HGB.out 0 _ rfl, cells_row _ _ HGB.out 1 _ rfl, cells_row _ _ HGB.out 2 _ rfl, cells_row _ _ HGB.out 3 _ rfl, cells_row _ _ HGB.out 4 _ rfl, cells_row _ _ HPB.out 0 _ rfl, cells_row _ _ HPB.out 1 _ rfl⟩, ?_⟩
            refine wpAnyT_one (i := 7) (by kernel_rfl) ?_
            simp only [pickOps, List.flatMap_cons, List.flatMap_nil, List.drop_succ_cons, List.drop_zero, List.take_succ_cons, List.take_zero, List.append_nil]
            go_wp2_with fail
            try have HXL := Lib.hid (block_lt HX.out)
            refine (make_fresh 1 _ _ _ _ g p (leaf1 1 a) HGL.out HPL.out HNL.out HGS.out (leaf_sized 1 a)).mono ?_
            rintro e wm ⟨v4, rfl, hpf, hb⟩
            obtain ⟨vp, vl, vo, rfl, rp, rl, ro⟩ := hpf _ (Mods.refl _ _)
            obtain ⟨ap, cp, rfl⟩ := rp.slice
            obtain ⟨al, cl, rfl⟩ := rl.slice
            obtain ⟨ao2, co, rfl⟩ := ro.slice
            have HPF := Lib.hid hpf
            clear rp rl ro hpf HGL HPL HNL
            replace HT := Lib.hid (HT.out.step hb)
            replace HGB := Lib.hid ((hb.block _ (block_lt HGB.out)).trans HGB.out)
            replace HPB := Lib.hid ((hb.block _ (block_lt HPB.out)).trans HPB.out)
            try replace HGL := Lib.hid (HGL.out.below hb)
            try replace HPL := Lib.hid (HPL.out.below hb)
            try replace HNL := Lib.hid (nestD_below 1 HNL.out hb)
            try replace HX := Lib.hid ((hb.block _ (block_lt HX.out)).trans HX.out)
            clear hb
            go_wp2_with fail
            refine ⟨fun _ _ => ⟨cells_row _ _ HGB.out 0 _ rfl, cells_row _ _ HGB.out 1 _ rfl, cells_row _ _ HGB.out 2 _ rfl, cells_row _ _ HGB.out 3 _ rfl, cells_row _ _ HGB.out 4 _ rfl, cells_row _ _ HPB.out 0 _ rfl, cells_row _ _ HPB.out 1 _ rfl⟩, ?_⟩
            refine wpAnyT_later (r := [8, 9, 10]) (n := 2) hQ2 (by kernel_rfl) ⟨cells_row _ _ HGB.out 0 _ rfl, cells_row _ _ HGB.out 1 _ rfl, cells_row _ _ HGB.out 2 _ rfl, cells_row _ _ HGB.out 3 _ rfl, cells_row _ _ HGB.out 4 _ rfl, cells_row _ _ HPB.out 0 _ rfl, cells_row _ _ HPB.out 1 _ rfl⟩ ?_
            simp only [pickOps, List.flatMap_cons, List.flatMap_nil, List.drop_succ_cons, List.drop_zero, List.take_succ_cons, List.take_zero, List.cons_append, List.nil_append, List.append_nil]
            repeat (first
              | (refine wpReads_skip (by rfl) ?_; (try simp only [Act.put, List.setIfInBounds_toArray, List.set_cons_zero, List.set_cons_succ]))
              | (refine wpReads_cons ?_ (by rfl) (by rfl) ?_ ?_; rotate_left; (intro wz hz; (try dsimp only at hz); go_simp; try with_reducible rfl); (try simp only [Act.put, List.setIfInBounds_toArray, List.set_cons_zero, List.set_cons_succ]))
              | (refine wpReads_any ?_ (by rfl) ?_ ?_; rotate_left; (intro wz; go_simp; try with_reducible rfl); (try simp only [Act.put, List.setIfInBounds_toArray, List.set_cons_zero, List.set_cons_succ])))
            refine wpReads_nil ?_
            clear hQ2
            refine wpAnyT_list (ks := [12, 13]) (fun _ _ hx h => ⟨hx.cell h.1, hx.cell h.2.1, hx.cell h.2.2.1, hx.cell h.2.2.2.1, hx.cell h.2.2.2.2.1, hx.cell h.2.2.2.2.2.1, hx.cell h.2.2.2.2.2.2⟩) (by kernel_rfl) ?_
            simp only [pickOps, List.flatMap_cons, List.flatMap_nil, List.drop_succ_cons, List.drop_zero, List.take_succ_cons, List.take_zero, List.cons_append, List.nil_append, List.append_nil]
            have z0 := cells_row _ _ HX.out 0 _ rfl
            have z1 := cells_row _ _ HX.out 1 _ rfl
            have z2 := cells_row _ _ HX.out 2 _ rfl
            have z3 := cells_row _ _ HX.out 3 _ rfl
            have z4 := cells_row _ _ HX.out 4 _ rfl
            have z5 := cells_row _ _ HX.out 5 _ rfl
            have z6 := cells_row _ _ HX.out 6 _ rfl
            have f0 := frozen_of_block HX.out 0
            have f1 := frozen_of_block HX.out 1
            have f2 := frozen_of_block HX.out 2
            have f3 := frozen_of_block HX.out 3
            have f4 := frozen_of_block HX.out 4
            have f5 := frozen_of_block HX.out 5
            have f6 := frozen_of_block HX.out 6
            go_wp2
            have mm := prog_mods wm X (.int .i64 (makeP g p (leaf1 1 a)).memory) (.int .i64 (makeP g p (leaf1 1 a)).counters) (.int .i64 (makeP g p (leaf1 1 a)).ins) (.int .i64 (makeP g p (leaf1 1 a)).outs) (.slice ap (makeP g p (leaf1 1 a)).parts.length cp) (.slice al (makeP g p (leaf1 1 a)).lines.length cl) (.slice ao2 (makeP g p (leaf1 1 a)).ops.length co)
            go_meet
            case rel => exact ⟨X, rfl, rfl, ⟨HT.out.below.trans (mm.below HT.out.size (fun k hk e => by have := HXW.out; omega)), Nat.le_trans HT.out.size mm.size⟩, block_mods HGB.out mm (by have := HXW.out; omega), _, _, _, prog_set HX.out _ _ _ _ _ _ _, HPF.out _ (mm.mono (fun k _ e => by subst e; exact HXL.out))⟩
        · skip
          simp only [pickOps, List.flatMap_cons, List.flatMap_nil, List.drop_succ_cons, List.drop_zero, List.take_succ_cons, List.take_zero, List.append_nil]
          have hb := below_alloc wc (.cells #[.int .i64 1, .int .i64 a, .slice none 0 0] 51)
          have hl := leaf_has wc 1 a
          go_wp2
          replace HT := Lib.hid (HT.out.step hb)
          replace HGB := Lib.hid ((hb.block _ (block_lt HGB.out)).trans HGB.out)
          replace HPB := Lib.hid ((hb.block _ (block_lt HPB.out)).trans HPB.out)
          try replace HGL := Lib.hid (HGL.out.below hb)
          try replace HPL := Lib.hid (HPL.out.below hb)
          try replace HNL := Lib.hid (nestD_below 1 HNL.out hb)
          try replace HX := Lib.hid ((hb.block _ (block_lt HX.out)).trans HX.out)
          have HNL := Lib.hid hl
          clear hb hl
          refine ⟨fun _ _ => ⟨cells_row _ _ HGB.out 0 _ rfl, cells_row _ _ HGB.out 1 _ rfl, cells_row _ _ HGB.out 2 _ rfl, cells_row _ _ HGB.out 3 _ rfl, cells_row _ _ HGB.out 4 _ rfl, cells_row _ _ HPB.out 0 _ rfl, cells_row _ _ HPB.out 1 _ rfl⟩, ?_⟩
          obtain ⟨wd, hwd⟩ : ∃ x, wc.alloc (.cells #[.int .i64 1, .int .i64 a, .slice none 0 0] 51) = x := ⟨_, rfl⟩
          rw [hwd] at HT HGB HPB HNL ⊢
          try rw [hwd] at HGL
          try rw [hwd] at HPL
          try rw [hwd] at HX
          clear hwd
          obtain ⟨wc, hwc⟩ : ∃ x, x = wd := ⟨_, rfl⟩
          subst hwc
          refine wpAnyT_one (i := 1) (by kernel_rfl) ?_
          simp only [pickOps, List.flatMap_cons, List.flatMap_nil, List.drop_succ_cons, List.drop_zero, List.take_succ_cons, List.take_zero, List.append_nil]
          go_wp2_with fail
          refine (lentgraph_any _ _ g (RG.out.below HT.out.below) HH.out HPS.out HES.out).mono ?_
          rintro e wc ⟨vgl, rfl, hgl, hb⟩
          replace HT := Lib.hid (HT.out.step hb)
          replace HGB := Lib.hid ((hb.block _ (block_lt HGB.out)).trans HGB.out)
          replace HPB := Lib.hid ((hb.block _ (block_lt HPB.out)).trans HPB.out)
          try replace HGL := Lib.hid (HGL.out.below hb)
          try replace HPL := Lib.hid (HPL.out.below hb)
          try replace HNL := Lib.hid (nestD_below 1 HNL.out hb)
          try replace HX := Lib.hid ((hb.block _ (block_lt HX.out)).trans HX.out)
          have HGL := Lib.hid hgl
          clear hgl hb
          go_wp2_with fail
          refine ⟨fun _ _ => ⟨cells_row _ _ HGB.out 0 _ rfl, cells_row _ _ HGB.out 1 _ rfl, cells_row _ _ HGB.out 2 _ rfl, cells_row _ _ HGB.out 3 _ rfl, cells_row _ _ HGB.out 4 _ rfl, cells_row _ _ HPB.out 0 _ rfl, cells_row _ _ HPB.out 1 _ rfl⟩, ?_⟩
          refine wpAnyT_one (i := 3) (by kernel_rfl) ?_
          simp only [pickOps, List.flatMap_cons, List.flatMap_nil, List.drop_succ_cons, List.drop_zero, List.take_succ_cons, List.take_zero, List.append_nil]
          go_wp2_with fail
          refine (lentplan_any _ _ p (RP.out.below HT.out.below) (by have := HRL.out; omega)).mono ?_
          rintro e wc ⟨vpl, rfl, hpl, hb⟩
          replace HT := Lib.hid (HT.out.step hb)
          replace HGB := Lib.hid ((hb.block _ (block_lt HGB.out)).trans HGB.out)
          replace HPB := Lib.hid ((hb.block _ (block_lt HPB.out)).trans HPB.out)
          try replace HGL := Lib.hid (HGL.out.below hb)
          try replace HPL := Lib.hid (HPL.out.below hb)
          try replace HNL := Lib.hid (nestD_below 1 HNL.out hb)
          try replace HX := Lib.hid ((hb.block _ (block_lt HX.out)).trans HX.out)
          have HPL := Lib.hid hpl
          clear hpl hb
          go_wp2_with fail
          refine ⟨fun _ _ => ⟨cells_row _ _ HGB.out 0 _ rfl, cells_row _ _ HGB.out 1 _ rfl, cells_row _ _ HGB.out 2 _ rfl, cells_row _ _ HGB.out 3 _ rfl, cells_row _ _ HGB.out 4 _ rfl, cells_row _ _ HPB.out 0 _ rfl, cells_row _ _ HPB.out 1 _ rfl⟩, ?_⟩
          refine wpAnyT_one (i := 7) (by kernel_rfl) ?_
          simp only [pickOps, List.flatMap_cons, List.flatMap_nil, List.drop_succ_cons, List.drop_zero, List.take_succ_cons, List.take_zero, List.append_nil]
          go_wp2_with fail
          try have HXL := Lib.hid (block_lt HX.out)
          refine (make_fresh 1 _ _ _ _ g p (leaf1 1 a) HGL.out HPL.out HNL.out HGS.out (leaf_sized 1 a)).mono ?_
          rintro e wm ⟨v4, rfl, hpf, hb⟩
          obtain ⟨vp, vl, vo, rfl, rp, rl, ro⟩ := hpf _ (Mods.refl _ _)
          obtain ⟨ap, cp, rfl⟩ := rp.slice
          obtain ⟨al, cl, rfl⟩ := rl.slice
          obtain ⟨ao2, co, rfl⟩ := ro.slice
          have HPF := Lib.hid hpf
          clear rp rl ro hpf HGL HPL HNL
          replace HT := Lib.hid (HT.out.step hb)
          replace HGB := Lib.hid ((hb.block _ (block_lt HGB.out)).trans HGB.out)
          replace HPB := Lib.hid ((hb.block _ (block_lt HPB.out)).trans HPB.out)
          try replace HGL := Lib.hid (HGL.out.below hb)
          try replace HPL := Lib.hid (HPL.out.below hb)
          try replace HNL := Lib.hid (nestD_below 1 HNL.out hb)
          try replace HX := Lib.hid ((hb.block _ (block_lt HX.out)).trans HX.out)
          clear hb
          go_wp2_with fail
          refine ⟨fun _ _ => ⟨cells_row _ _ HGB.out 0 _ rfl, cells_row _ _ HGB.out 1 _ rfl, cells_row _ _ HGB.out 2 _ rfl, cells_row _ _ HGB.out 3 _ rfl, cells_row _ _ HGB.out 4 _ rfl, cells_row _ _ HPB.out 0 _ rfl, cells_row _ _ HPB.out 1 _ rfl⟩, ?_⟩
          refine wpAnyT_later (r := [8, 9, 10]) (n := 2) hQ2 (by kernel_rfl) ⟨cells_row _ _ HGB.out 0 _ rfl, cells_row _ _ HGB.out 1 _ rfl, cells_row _ _ HGB.out 2 _ rfl, cells_row _ _ HGB.out 3 _ rfl, cells_row _ _ HGB.out 4 _ rfl, cells_row _ _ HPB.out 0 _ rfl, cells_row _ _ HPB.out 1 _ rfl⟩ ?_
          simp only [pickOps, List.flatMap_cons, List.flatMap_nil, List.drop_succ_cons, List.drop_zero, List.take_succ_cons, List.take_zero, List.cons_append, List.nil_append, List.append_nil]
          repeat (first
            | (refine wpReads_skip (by rfl) ?_; (try simp only [Act.put, List.setIfInBounds_toArray, List.set_cons_zero, List.set_cons_succ]))
            | (refine wpReads_cons ?_ (by rfl) (by rfl) ?_ ?_; rotate_left; (intro wz hz; (try dsimp only at hz); go_simp; try with_reducible rfl); (try simp only [Act.put, List.setIfInBounds_toArray, List.set_cons_zero, List.set_cons_succ]))
            | (refine wpReads_any ?_ (by rfl) ?_ ?_; rotate_left; (intro wz; go_simp; try with_reducible rfl); (try simp only [Act.put, List.setIfInBounds_toArray, List.set_cons_zero, List.set_cons_succ])))
          refine wpReads_nil ?_
          clear hQ2
          refine wpAnyT_list (ks := [12, 13]) (fun _ _ hx h => ⟨hx.cell h.1, hx.cell h.2.1, hx.cell h.2.2.1, hx.cell h.2.2.2.1, hx.cell h.2.2.2.2.1, hx.cell h.2.2.2.2.2.1, hx.cell h.2.2.2.2.2.2⟩) (by kernel_rfl) ?_
          simp only [pickOps, List.flatMap_cons, List.flatMap_nil, List.drop_succ_cons, List.drop_zero, List.take_succ_cons, List.take_zero, List.cons_append, List.nil_append, List.append_nil]
          have z0 := cells_row _ _ HX.out 0 _ rfl
          have z1 := cells_row _ _ HX.out 1 _ rfl
          have z2 := cells_row _ _ HX.out 2 _ rfl
          have z3 := cells_row _ _ HX.out 3 _ rfl
          have z4 := cells_row _ _ HX.out 4 _ rfl
          have z5 := cells_row _ _ HX.out 5 _ rfl
          have z6 := cells_row _ _ HX.out 6 _ rfl
          have f0 := frozen_of_block HX.out 0
          have f1 := frozen_of_block HX.out 1
          have f2 := frozen_of_block HX.out 2
          have f3 := frozen_of_block HX.out 3
          have f4 := frozen_of_block HX.out 4
          have f5 := frozen_of_block HX.out 5
          have f6 := frozen_of_block HX.out 6
          go_wp2
          have mm := prog_mods wm X (.int .i64 (makeP g p (leaf1 1 a)).memory) (.int .i64 (makeP g p (leaf1 1 a)).counters) (.int .i64 (makeP g p (leaf1 1 a)).ins) (.int .i64 (makeP g p (leaf1 1 a)).outs) (.slice ap (makeP g p (leaf1 1 a)).parts.length cp) (.slice al (makeP g p (leaf1 1 a)).lines.length cl) (.slice ao2 (makeP g p (leaf1 1 a)).ops.length co)
          go_meet
          case rel => exact ⟨X, rfl, rfl, ⟨HT.out.below.trans (mm.below HT.out.size (fun k hk e => by have := HXW.out; omega)), Nat.le_trans HT.out.size mm.size⟩, block_mods HGB.out mm (by have := HXW.out; omega), _, _, _, prog_set HX.out _ _ _ _ _ _ _, HPF.out _ (mm.mono (fun k _ e => by subst e; exact HXL.out))⟩
    case rest =>
      obtain ⟨X, rfl, rfl, hT, hG, hP⟩ := hcut
      have HT := Lib.hid hT
      have HGB := Lib.hid hG
      have HP := Lib.hid hP
      clear hT hG hP
      obtain ⟨E, hE⟩ : ∃ x, makeE g p (leaf1 1 a) = x := ⟨_, rfl⟩
      by_cases h0 : E = 0
      · subst h0
        obtain ⟨k, hk, hkl, hck, hops⟩ := one_firing hE
        subst hk
        rw [hE]
        have HFO := Lib.hid (firOk_of hck HGS.out)
        obtain ⟨f1, f2, f3, f4⟩ := firing_ops hck HFO.out hkl hops
        have HF1 := Lib.hid f1
        have HF2 := Lib.hid f2
        have HF3 := Lib.hid f3
        have HF4 := Lib.hid f4
        have HSL := Lib.hid (shape_len (HFO.out.good _ (List.getElem_mem hkl)).1)
        have HGD := Lib.hid (HFO.out.good _ (List.getElem_mem hkl))
        obtain ⟨ba, oa, rfl, hca, hba, hra⟩ := RA.out.at (by omega)
        obtain ⟨cs, hcs, hPR, hcl⟩ := hra k hkl
        obtain ⟨xs, rfl, hst⟩ := hPR
        have c1 := cell_later HT.out.below (hcl 1 (by omega))
        have c2 := cell_later HT.out.below (hcl 2 (by omega))
        simp at c1 c2
        have hst2 : Has w xs (ivs g.actors[k].params) := hst
        obtain ⟨sa, sc, hxs⟩ := Ints.slice hst2
        subst hxs
        have HST := Lib.hid hst2
        obtain ⟨tag, htag⟩ : ∃ x, g.actors[k].tag = x := ⟨_, rfl⟩
        obtain ⟨ps, hps⟩ : ∃ x, g.actors[k].params = x := ⟨_, rfl⟩
        rw [htag] at c1 HF1 HF2 HF3 HF4 HSL HGD
        rw [hps] at c2 HF1 HF2 HF3 HF4 HSL HGD HST
        clear f1 f2 f3 f4 hops hcl hcs hra hst hst2 htag hps hba
        obtain ⟨n, hn⟩ : ∃ x, g.actors.length = x := ⟨_, rfl⟩
        rw [hn] at hkl hca HGB
        clear hn
        have hki : (k : Int) < n := by omega
        have hk0 : ¬ (k : Int) < 0 := by omega
        have hkg : ¬ (n : Int) ≤ k := by omega
        have hcai : (n : Int) ≤ ac := by omega
        have g1 := cells_row _ _ HGB.out 1 _ rfl
        have HE0 := Lib.hid hE
        have HCK := Lib.hid hck
        clear hE hck
        go_wp2_with fail
        have hbd : Below wc.heap.size wc wc.drew := below_dr (n := 1) (Below.refl _ _)
        refine wp_region_drift (fun w' => w'.cell? ⟨w.heap.size, 1, none⟩ = some (.slice (some ⟨ba, oa, none⟩) n ac) ∧ w'.cell? ⟨ba, oa + k * 3 + 1, none⟩ = some (.int .u8 tag) ∧ w'.cell? ⟨ba, oa + k * 3 + 2, none⟩ = some (.slice sa ps.length sc)) [0, 1, 2, 3, 4, 5, 6, 7, 8, 9, 10, 11, 14, 15, 16, 17] [12] [0, 1, 2, 3, 4, 5, 6, 7, 8, 9, 10, 11] 9 (by kernel_rfl) (by kernel_rfl) rfl ⟨g1, c1, c2⟩ ?_
        intro Q' hQ' hQ2
        simp only [pickOps, List.flatMap_cons, List.flatMap_nil, List.drop_succ_cons, List.drop_zero, List.take_succ_cons, List.take_zero, List.cons_append, List.nil_append, List.append_nil]
        repeat (first
          | (refine wpReads_skip (by rfl) ?_; (try simp only [Act.put, List.setIfInBounds_toArray, List.set_cons_zero, List.set_cons_succ]))
          | (refine wpReads_cons ?_ (by rfl) (by rfl) ?_ ?_; rotate_left; (intro wz hz; (try dsimp only at hz); go_simp; try with_reducible rfl); (try simp only [Act.put, List.setIfInBounds_toArray, List.set_cons_zero, List.set_cons_succ]))
          | (refine wpReads_any ?_ (by rfl) ?_ ?_; rotate_left; (intro wz; go_simp; try with_reducible rfl); (try simp only [Act.put, List.setIfInBounds_toArray, List.set_cons_zero, List.set_cons_succ])))
        refine wpReads_nil ?_
        refine wpAnyT_one (i := 12) (by kernel_rfl) ?_
        simp only [pickOps, List.flatMap_cons, List.flatMap_nil, List.drop_succ_cons, List.drop_zero, List.take_succ_cons, List.take_zero, List.append_nil]
        go_wp2_with fail
        refine (rints_any (o := fun _ => 0) (c := 0) _ sa _ sc ps (HST.out.below (below_dr (n := 1) HT.out.below)) HGD.out.2).mono ?_
        rintro e w5 ⟨v5, rfl, k5, hb5⟩
        have hb : Below wc.heap.size wc w5 := hbd.trans hb5
        have HH5 := Lib.hid (Own.made (fun _ => 0) 0 k5).vals.has
        obtain ⟨a5, cc5, rfl⟩ := owns_slice k5
        replace c1 := cell_later hb c1
        replace c2 := cell_later hb c2
        replace g1 := cell_later hb g1
        replace HT := Lib.hid (HT.out.step hb)
        replace HGB := Lib.hid ((hb.block _ (block_lt HGB.out)).trans HGB.out)
        replace HP := Lib.hid (HP.out.below hb)
        clear hb hb5 k5 hbd
        go_wp2_with fail
        refine ⟨fun _ _ => ⟨g1, c1, c2⟩, ?_⟩
        refine wpAnyT_one (i := 13) (by kernel_rfl) ?_
        simp only [pickOps, List.flatMap_cons, List.flatMap_nil, List.drop_succ_cons, List.drop_zero, List.take_succ_cons, List.take_zero, List.append_nil]
        go_wp2_with fail
        refine (of_ok _ tag a5 _ cc5 ps HGD.out.1 HGD.out.2 HH5.out).mono ?_
        rintro e wB ⟨vti, vto, rfl, p1, p2, hb⟩
        have HI5 := Lib.hid (Own.made (fun _ => 0) 0 p1).vals.has
        have HO5 := Lib.hid (Own.made (fun _ => 0) 0 p2).vals.has
        obtain ⟨a1, d1, rfl⟩ := owns_slice p1
        obtain ⟨a2, d2, rfl⟩ := owns_slice p2
        replace c1 := cell_later hb c1
        replace c2 := cell_later hb c2
        replace g1 := cell_later hb g1
        replace HT := Lib.hid (HT.out.step hb)
        replace HGB := Lib.hid ((hb.block _ (block_lt HGB.out)).trans HGB.out)
        replace HP := Lib.hid (HP.out.below hb)
        clear hb p1 p2 HH5
        go_wp2_with fail
        refine ⟨(fun h => by cases h), ?_⟩
        refine wpAnyT_later (r := [14, 15, 16, 17]) (n := 3) hQ2 (by kernel_rfl) ⟨g1, c1, c2⟩ ?_
        simp only [pickOps, List.flatMap_cons, List.flatMap_nil, List.drop_succ_cons, List.drop_zero, List.take_succ_cons, List.take_zero, List.cons_append, List.nil_append, List.append_nil]
        repeat (first
          | (refine wpReads_skip (by rfl) ?_; (try simp only [Act.put, List.setIfInBounds_toArray, List.set_cons_zero, List.set_cons_succ]))
          | (refine wpReads_cons ?_ (by rfl) (by rfl) ?_ ?_; rotate_left; (intro wz hz; (try dsimp only at hz); go_simp; try with_reducible rfl); (try simp only [Act.put, List.setIfInBounds_toArray, List.set_cons_zero, List.set_cons_succ]))
          | (refine wpReads_any ?_ (by rfl) ?_ ?_; rotate_left; (intro wz; go_simp; try with_reducible rfl); (try simp only [Act.put, List.setIfInBounds_toArray, List.set_cons_zero, List.set_cons_succ])))
        refine wpReads_nil ?_
        clear hQ2
        refine wpAnyT_list (ks := [18, 19, 20]) (fun _ _ hx h => ⟨hx.cell h.1, hx.cell h.2.1, hx.cell h.2.2⟩) (by kernel_rfl) ?_
        simp only [pickOps, List.flatMap_cons, List.flatMap_nil, List.drop_succ_cons, List.drop_zero, List.take_succ_cons, List.take_zero, List.cons_append, List.nil_append, List.append_nil]
        obtain ⟨insL, hinsL⟩ : ∃ x, insP tag ps = x := ⟨_, rfl⟩
        obtain ⟨outsL, houtsL⟩ : ∃ x, outsP tag ps = x := ⟨_, rfl⟩
        rw [hinsL] at HF1 HF2 HF3 HF4 HSL HI5 ⊢
        rw [houtsL] at HF1 HF4 HSL HO5 ⊢
        clear hinsL houtsL c1 c2 g1 HGD HST HFO HE0
        obtain ⟨vp, vl, aop, cop, hX, hrow⟩ := HP.out.row
        obtain ⟨PO, hPO⟩ : ∃ x, makeP g p (leaf1 1 k) = x := ⟨_, rfl⟩
        rw [hPO] at HF1 HF2 HF3 HF4 hX hrow
        clear hPO HP
        have HX := Lib.hid hX
        have HRW := Lib.hid hrow
        obtain ⟨hc9, hj9, bo, oo, rfl, o1, o2, o3⟩ := hrow.op HF2.out
        have hlen := HF1.out
        have h16 := HSL.out
        have hcopi : (PO.ops.length : Int) ≤ cop := by omega
        have hjoi : (insL.length : Int) < PO.ops.length := by omega
        have z6 := cells_row _ _ hX 6 _ rfl
        have hw1 : IntKind.i64.wrap ((insL.length : Int) + outsL.length) = (insL.length : Int) + outsL.length := IntWalk.i64_in _ (by omega)
        have hw2 : IntKind.i64.wrap ((insL.length : Int) + outsL.length + 2) = (PO.ops.length : Int) := by rw [IntWalk.i64_in _ (by omega)]; omega
        clear hX hrow
        go_wp2_with fail
        clear o1 o2 o3 z6 hw1 hw2 hjoi hc9 hj9 HF1 HF2
        go_loopw [12] (fun i wl => ∃ (j : Nat), j ≤ insL.length ∧ i = .int .i64 j ∧ Then wB wl) (fun i _ => insL.length - (intOf i).toNat)
        case atStart => exact ⟨0, Nat.zero_le _, rfl, Then.refl _⟩
        case round =>
          obtain ⟨j, hj, rfl, hT9⟩ := hrel
          have HT9 := Lib.hid hT9
          clear hT9
          by_cases hlt : j < insL.length
          · have hlti : (j : Int) < insL.length := by omega
            obtain ⟨r, hr⟩ : ∃ r, insL[j]? = some r := ⟨insL[j], by simp [hlt]⟩
            obtain ⟨y, hy, hyb, hR⟩ := HF3.out j r hr
            obtain ⟨hcq, hjq, bq, oq, eq, o1, o2, o3⟩ := (HRW.out.below HT9.out.below).op hy
            cases eq
            have hjqi : (j : Int) < PO.ops.length := by omega
            have z6 := cell_later HT9.out.below (cells_row _ _ HX.out 6 _ rfl)
            have hTw : Below w.heap.size w wr := HT.out.below.trans (HT9.out.below.mono HT.out.size)
            obtain ⟨bI, oI, rfl, -, hcI, -, -, hcl⟩ := Ints.at (HI5.out.below HT9.out.below) (by omega)
            have zr := hcl j hlt
            rw [hr, Option.getD_some] at zr
            have hcIi : (insL.length : Int) ≤ d1 := by omega
            obtain ⟨ky, ay, cy⟩ := y
            dsimp only at hyb hR o1 o2 o3
            subst hyb
            obtain ⟨r, hrr⟩ : ∃ x, x = cy := ⟨_, rfl⟩
            subst hrr
            clear hcl hy hr
            rcases hR with ⟨hk3, t, ht, hya, hd1, hd2⟩ | ⟨hk3, t, ht, hya, hd1, hd2⟩
            · dsimp only at hk3 hya
              subst hk3 hya
              obtain ⟨be, oe, rfl, hce, hbe, hrece⟩ := RE.out.at (by omega)
              obtain ⟨cse, hcse, hPE, hcle⟩ := hrece t ht
              obtain ⟨xs, rfl, hst⟩ := hPE
              have e2 := ca (o := .cells #[.int .u8 3, .int .i64 t, .int .i64 r] 61) (cell_later hTw (hcle 2 (by omega)))
              have e3 := ca (o := .cells #[.int .u8 3, .int .i64 t, .int .i64 r] 61) (cell_later hTw (hcle 3 (by omega)))
              simp at e2 e3
              rw [hd1] at e2
              rw [hd2] at e3
              have g2 := ca (o := .cells #[.int .u8 3, .int .i64 t, .int .i64 r] 61) (cell_later HT9.out.below (cells_row _ _ HGB.out 2 _ rfl))
              have hti : (t : Int) < g.edges.length := by omega
              have hcei : (g.edges.length : Int) ≤ ec := by omega
              clear hcle hcse hrece hst hTw
              have hbX := below_alloc wr (.cells #[.int .u8 3, .int .i64 t, .int .i64 r] 61)
              have hX := heap_alloc_new wr (.cells #[.int .u8 3, .int .i64 t, .int .i64 r] 61)
              have x0 := cells_row _ _ hX 0 _ rfl
              have x1 := cells_row _ _ hX 1 _ rfl
              have x2 := cells_row _ _ hX 2 _ rfl
              have z1 := ca (o := .cells #[.int .u8 3, .int .i64 t, .int .i64 r] 61) zr
              have HT8 := Lib.hid (HT9.out.step (below_dr (n := 1) hbX))
              clear hbX hX zr
              go_wp2_with fail
              clear o1 o2 o3 z6 e2 e3 g2 x0 x1
              refine wp_region_lex (fun w' => w'.cell? ⟨wr.heap.size, 2, none⟩ = some (.int .i64 r) ∧ w'.cell? ⟨bI, oI + j, none⟩ = some (.int .i64 r)) [0, 1, 2, 3, 4, 5, 6, 7, 8, 9, 10] [] (by kernel_rfl) (by kernel_rfl) rfl (fun _ _ hx h => ⟨hx.cell h.1, hx.cell h.2⟩) ⟨x2, z1⟩ ?_
              intro Q' hQ'
              simp only [pickOps, List.flatMap_cons, List.flatMap_nil, List.drop_succ_cons, List.drop_zero, List.take_succ_cons, List.take_zero, List.cons_append, List.nil_append, List.append_nil]
              have hne : (r != r) = false := by simp
              repeat (first
                | (refine wpReads_skip (by rfl) ?_; (try simp only [Act.put, List.setIfInBounds_toArray, List.set_cons_zero, List.set_cons_succ]))
                | (refine wpReads_cons ?_ (by rfl) (by rfl) ?_ ?_; rotate_left; (intro wz hz; (try dsimp only at hz); go_simp; try with_reducible rfl); (try simp only [Act.put, List.setIfInBounds_toArray, List.set_cons_zero, List.set_cons_succ]))
                | (refine wpReads_any ?_ (by rfl) ?_ ?_; rotate_left; (intro wz; go_simp; try with_reducible rfl); (try simp only [Act.put, List.setIfInBounds_toArray, List.set_cons_zero, List.set_cons_succ])))
              refine wpReads_nil ?_
              go_wp2
              go_roundw
              case rel => exact ⟨j + 1, hlt, by go_num, HT8.out⟩
              case measure => simp [intOf]; omega
            · dsimp only at hk3 hya
              subst hk3 hya
              obtain ⟨be, oe, rfl, hce, hbe, hrece⟩ := RI.out.at (by omega)
              obtain ⟨cse, hcse, hPE, hcle⟩ := hrece t ht
              obtain rfl := hPE
              have e2 := ca (o := .cells #[.int .u8 4, .int .i64 t, .int .i64 r] 61) (cell_later hTw (hcle 1 (by omega)))
              have e3 := ca (o := .cells #[.int .u8 4, .int .i64 t, .int .i64 r] 61) (cell_later hTw (hcle 2 (by omega)))
              simp at e2 e3
              rw [hd1] at e2
              rw [hd2] at e3
              have g2 := ca (o := .cells #[.int .u8 4, .int .i64 t, .int .i64 r] 61) (cell_later HT9.out.below (cells_row _ _ HGB.out 3 _ rfl))
              have hti : (t : Int) < g.ins.length := by omega
              have hcei : (g.ins.length : Int) ≤ ic := by omega
              clear hcle hcse hrece hTw
              have hbX := below_alloc wr (.cells #[.int .u8 4, .int .i64 t, .int .i64 r] 61)
              have hX := heap_alloc_new wr (.cells #[.int .u8 4, .int .i64 t, .int .i64 r] 61)
              have x0 := cells_row _ _ hX 0 _ rfl
              have x1 := cells_row _ _ hX 1 _ rfl
              have x2 := cells_row _ _ hX 2 _ rfl
              have z1 := ca (o := .cells #[.int .u8 4, .int .i64 t, .int .i64 r] 61) zr
              have HT8 := Lib.hid (HT9.out.step (below_dr (n := 1) hbX))
              clear hbX hX zr
              go_wp2_with fail
              clear o1 o2 o3 z6 e2 e3 g2 x0 x1
              refine wp_region_lex (fun w' => w'.cell? ⟨wr.heap.size, 2, none⟩ = some (.int .i64 r) ∧ w'.cell? ⟨bI, oI + j, none⟩ = some (.int .i64 r)) [0, 1, 2, 3, 4, 5, 6, 7, 8, 9, 10] [] (by kernel_rfl) (by kernel_rfl) rfl (fun _ _ hx h => ⟨hx.cell h.1, hx.cell h.2⟩) ⟨x2, z1⟩ ?_
              intro Q' hQ'
              simp only [pickOps, List.flatMap_cons, List.flatMap_nil, List.drop_succ_cons, List.drop_zero, List.take_succ_cons, List.take_zero, List.cons_append, List.nil_append, List.append_nil]
              have hne : (r != r) = false := by simp
              repeat (first
                | (refine wpReads_skip (by rfl) ?_; (try simp only [Act.put, List.setIfInBounds_toArray, List.set_cons_zero, List.set_cons_succ]))
                | (refine wpReads_cons ?_ (by rfl) (by rfl) ?_ ?_; rotate_left; (intro wz hz; (try dsimp only at hz); go_simp; try with_reducible rfl); (try simp only [Act.put, List.setIfInBounds_toArray, List.set_cons_zero, List.set_cons_succ]))
                | (refine wpReads_any ?_ (by rfl) ?_ ?_; rotate_left; (intro wz; go_simp; try with_reducible rfl); (try simp only [Act.put, List.setIfInBounds_toArray, List.set_cons_zero, List.set_cons_succ])))
              refine wpReads_nil ?_
              go_wp2
              go_roundw
              case rel => exact ⟨j + 1, hlt, by go_num, HT8.out⟩
              case measure => simp [intOf]; omega
          · obtain rfl : insL.length = j := by omega
            clear hj hlt
            have hw3 : IntKind.i64.wrap ((insL.length : Int) + 1) = (insL.length : Int) + 1 := IntWalk.i64_in _ (by omega)
            go_wp2_with fail
            go_loopw [15] (fun i wl => ∃ (j : Nat), j ≤ outsL.length ∧ i = .int .i64 j ∧ Then wB wl) (fun i _ => outsL.length - (intOf i).toNat)
            case atStart => exact ⟨0, Nat.zero_le _, rfl, HT9.out⟩
            case round =>
              clear HT9
              obtain ⟨j, hj, rfl, hT9⟩ := hrel
              have HT9 := Lib.hid hT9
              clear hT9
              by_cases hlt : j < outsL.length
              · have hlti : (j : Int) < outsL.length := by omega
                obtain ⟨r, hr⟩ : ∃ r, outsL[j]? = some r := ⟨outsL[j], by simp [hlt]⟩
                obtain ⟨y, hy, hyb, hR⟩ := HF4.out j r hr
                obtain ⟨Q, hQn⟩ : ∃ x, insL.length + 1 + j = x := ⟨_, rfl⟩
                have hw4 : IntKind.i64.wrap ((insL.length : Int) + 1 + j) = (Q : Int) := by rw [IntWalk.i64_in _ (by omega)]; omega
                rw [hQn] at hy
                clear hQn
                obtain ⟨hcq, hjq, bq, oq, eq, o1, o2, o3⟩ := (HRW.out.below HT9.out.below).op hy
                cases eq
                have hjqi : (Q : Int) < PO.ops.length := by omega
                have z6 := cell_later HT9.out.below (cells_row _ _ HX.out 6 _ rfl)
                have hTw : Below w.heap.size w wr := HT.out.below.trans (HT9.out.below.mono HT.out.size)
                obtain ⟨bI, oI, rfl, -, hcI, -, -, hcl⟩ := Ints.at (HO5.out.below HT9.out.below) (by omega)
                have zr := hcl j hlt
                rw [hr, Option.getD_some] at zr
                have hcIi : (outsL.length : Int) ≤ d2 := by omega
                obtain ⟨ky, ay, cy⟩ := y
                dsimp only at hyb hR o1 o2 o3
                subst hyb
                obtain ⟨r, hrr⟩ : ∃ x, x = cy := ⟨_, rfl⟩
                subst hrr
                clear hcl hy hr
                rcases hR with ⟨hk3, t, ht, hya, hd1, hd2⟩ | ⟨hk3, t, ht, hya, hd1, hd2⟩
                · dsimp only at hk3 hya
                  subst hk3 hya
                  obtain ⟨be, oe, rfl, hce, hbe, hrece⟩ := RE.out.at (by omega)
                  obtain ⟨cse, hcse, hPE, hcle⟩ := hrece t ht
                  obtain ⟨xs, rfl, hst⟩ := hPE
                  have e2 := ca (o := .cells #[.int .u8 6, .int .i64 t, .int .i64 r] 61) (cell_later hTw (hcle 0 (by omega)))
                  have e3 := ca (o := .cells #[.int .u8 6, .int .i64 t, .int .i64 r] 61) (cell_later hTw (hcle 1 (by omega)))
                  simp at e2 e3
                  rw [hd1] at e2
                  rw [hd2] at e3
                  have g2 := ca (o := .cells #[.int .u8 6, .int .i64 t, .int .i64 r] 61) (cell_later HT9.out.below (cells_row _ _ HGB.out 2 _ rfl))
                  have hti : (t : Int) < g.edges.length := by omega
                  have hcei : (g.edges.length : Int) ≤ ec := by omega
                  clear hcle hcse hrece hst hTw
                  have hbX := below_alloc wr (.cells #[.int .u8 6, .int .i64 t, .int .i64 r] 61)
                  have hX := heap_alloc_new wr (.cells #[.int .u8 6, .int .i64 t, .int .i64 r] 61)
                  have x0 := cells_row _ _ hX 0 _ rfl
                  have x1 := cells_row _ _ hX 1 _ rfl
                  have x2 := cells_row _ _ hX 2 _ rfl
                  have z1 := ca (o := .cells #[.int .u8 6, .int .i64 t, .int .i64 r] 61) zr
                  have HT8 := Lib.hid (HT9.out.step (below_dr (n := 1) hbX))
                  clear hbX hX zr
                  go_wp2_with fail
                  clear o1 o2 o3 z6 e2 e3 g2 x0 x1
                  refine wp_region_lex (fun w' => w'.cell? ⟨wr.heap.size, 2, none⟩ = some (.int .i64 r) ∧ w'.cell? ⟨bI, oI + j, none⟩ = some (.int .i64 r)) [0, 1, 2, 3, 4, 5, 6, 7, 8, 9, 10] [] (by kernel_rfl) (by kernel_rfl) rfl (fun _ _ hx h => ⟨hx.cell h.1, hx.cell h.2⟩) ⟨x2, z1⟩ ?_
                  intro Q' hQ'
                  simp only [pickOps, List.flatMap_cons, List.flatMap_nil, List.drop_succ_cons, List.drop_zero, List.take_succ_cons, List.take_zero, List.cons_append, List.nil_append, List.append_nil]
                  have hne : (r != r) = false := by simp
                  repeat (first
                    | (refine wpReads_skip (by rfl) ?_; (try simp only [Act.put, List.setIfInBounds_toArray, List.set_cons_zero, List.set_cons_succ]))
                    | (refine wpReads_cons ?_ (by rfl) (by rfl) ?_ ?_; rotate_left; (intro wz hz; (try dsimp only at hz); go_simp; try with_reducible rfl); (try simp only [Act.put, List.setIfInBounds_toArray, List.set_cons_zero, List.set_cons_succ]))
                    | (refine wpReads_any ?_ (by rfl) ?_ ?_; rotate_left; (intro wz; go_simp; try with_reducible rfl); (try simp only [Act.put, List.setIfInBounds_toArray, List.set_cons_zero, List.set_cons_succ])))
                  refine wpReads_nil ?_
                  go_wp2
                  go_roundw
                  case rel => exact ⟨j + 1, hlt, by go_num, HT8.out⟩
                  case measure => simp [intOf]; omega
                · dsimp only at hk3 hya
                  subst hk3 hya
                  obtain ⟨be, oe, rfl, hce, hbe, hrece⟩ := RO.out.at (by omega)
                  obtain ⟨cse, hcse, hPE, hcle⟩ := hrece t ht
                  obtain rfl := hPE
                  have e2 := ca (o := .cells #[.int .u8 7, .int .i64 t, .int .i64 r] 61) (cell_later hTw (hcle 1 (by omega)))
                  have e3 := ca (o := .cells #[.int .u8 7, .int .i64 t, .int .i64 r] 61) (cell_later hTw (hcle 2 (by omega)))
                  simp at e2 e3
                  rw [hd1] at e2
                  rw [hd2] at e3
                  have g2 := ca (o := .cells #[.int .u8 7, .int .i64 t, .int .i64 r] 61) (cell_later HT9.out.below (cells_row _ _ HGB.out 4 _ rfl))
                  have hti : (t : Int) < g.outs.length := by omega
                  have hcei : (g.outs.length : Int) ≤ oc := by omega
                  clear hcle hcse hrece hTw
                  have hbX := below_alloc wr (.cells #[.int .u8 7, .int .i64 t, .int .i64 r] 61)
                  have hX := heap_alloc_new wr (.cells #[.int .u8 7, .int .i64 t, .int .i64 r] 61)
                  have x0 := cells_row _ _ hX 0 _ rfl
                  have x1 := cells_row _ _ hX 1 _ rfl
                  have x2 := cells_row _ _ hX 2 _ rfl
                  have z1 := ca (o := .cells #[.int .u8 7, .int .i64 t, .int .i64 r] 61) zr
                  have HT8 := Lib.hid (HT9.out.step (below_dr (n := 1) hbX))
                  clear hbX hX zr
                  go_wp2_with fail
                  clear o1 o2 o3 z6 e2 e3 g2 x0 x1
                  refine wp_region_lex (fun w' => w'.cell? ⟨wr.heap.size, 2, none⟩ = some (.int .i64 r) ∧ w'.cell? ⟨bI, oI + j, none⟩ = some (.int .i64 r)) [0, 1, 2, 3, 4, 5, 6, 7, 8, 9, 10] [] (by kernel_rfl) (by kernel_rfl) rfl (fun _ _ hx h => ⟨hx.cell h.1, hx.cell h.2⟩) ⟨x2, z1⟩ ?_
                  intro Q' hQ'
                  simp only [pickOps, List.flatMap_cons, List.flatMap_nil, List.drop_succ_cons, List.drop_zero, List.take_succ_cons, List.take_zero, List.cons_append, List.nil_append, List.append_nil]
                  have hne : (r != r) = false := by simp
                  repeat (first
                    | (refine wpReads_skip (by rfl) ?_; (try simp only [Act.put, List.setIfInBounds_toArray, List.set_cons_zero, List.set_cons_succ]))
                    | (refine wpReads_cons ?_ (by rfl) (by rfl) ?_ ?_; rotate_left; (intro wz hz; (try dsimp only at hz); go_simp; try with_reducible rfl); (try simp only [Act.put, List.setIfInBounds_toArray, List.set_cons_zero, List.set_cons_succ]))
                    | (refine wpReads_any ?_ (by rfl) ?_ ?_; rotate_left; (intro wz; go_simp; try with_reducible rfl); (try simp only [Act.put, List.setIfInBounds_toArray, List.set_cons_zero, List.set_cons_succ])))
                  refine wpReads_nil ?_
                  go_wp2
                  go_roundw
                  case rel => exact ⟨j + 1, hlt, by go_num, HT8.out⟩
                  case measure => simp [intOf]; omega
              · obtain rfl : outsL.length = j := by omega
                go_wp2_with fail
                refine (awake_yes _).mono ?_
                rintro e w9 ⟨rfl, hb⟩
                have HTF := Lib.hid ((HT.out.step (HT9.out.below.mono (Nat.le_refl _))).step hb)
                go_wp2
                go_ret
                exact ⟨rfl, HTF.out.below⟩
      · have h0i : (E != 0) = true := by simpa using h0
        rw [hE]
        have HE0 := Lib.hid hE
        clear hE
        go_wp2_with fail
        refine (awake_yes _).mono ?_
        rintro e w5 ⟨rfl, hb⟩
        have hz := HP.out.below hb
        rw [makeP, if_neg (by rw [HE0.out]; exact h0)] at hz
        obtain ⟨vp, vl, ao9, co, h1, -⟩ := hz.row
        have z6 := cells_row _ _ h1 6 _ rfl
        have HT9 := Lib.hid (HT.out.step hb)
        clear hz h1 hb HP
        go_wp2
        go_ret
        exact ⟨rfl, HT9.out.below⟩
end Go.Proofs.Ytbmbfifempkhgaa
