/- dyn's New. -/
import Derived.Test.YtaholpfikcdhbaaGreatDynRoomZ7
import Derived.Test.YtaholpfikcdhbaaGreatDynRoomZ5
import Derived.Test.YtaholpfikcdhbaaGreatDynRoomZ1
import Derived.Test.YtaholpfikcdhbaaGreatDynRoomZ3
import Derived.Test.YtaholpfikcdhbaaGreatDynRoomZ2
import Derived.Test.YtaholpfikcdhbaaGreatDynRoomZ6
namespace Go.Proofs.YtaholpfikcdhbaaGreat
open Go.RowKit
def DNewRet (w : World) (o : Col) (R : Nat) (g : GGraph) (caps : List Int) (e : Ending) (w' : World) : Prop :=
 (newE g caps ≠ 0 → e = .returned (.tuple #[.pointer none, .int .i64 (newE g caps)]) ∧ Below w.heap.size w w') ∧
 (newE g caps = 0 → ∃ b o' qs v, e = .returned (.tuple #[.pointer (some ⟨b, 0, none⟩), .int .i64 0]) ∧ Turn o o' (fun _ => False) w w' ∧ RigOk w' o' R b g caps 256 (fun _ => 256) qs v.tb ⟨newRig g, none⟩ v ∧ GOk g caps ∧ ∀ k, w.heap.size ≤ k → R ≤ o' k ∧ o' k < R + 6010)
theorem dnew_no {w w' : World} {o : Col} {R : Nat} {g : GGraph} {caps : List Int} {E : Int} (hE : newE g caps = E) (h0 : E ≠ 0) (hb : Below w.heap.size w w') : DNewRet w o R g caps (.returned (.tuple #[.pointer none, .int .i64 E])) w' :=
 ⟨fun _ => ⟨by rw [hE], hb⟩, fun h => absurd (hE.symm.trans h) h0⟩
theorem dnew_yes {w w' : World} {o q : Col} {R b : Nat} {g : GGraph} {caps : List Int} {qs : Ptrs} {v : RVals} (hR : 1 ≤ R) (hE : newE g caps = 0) (K : Kept w.heap.size q w w') (h : RigOk w' q R b g caps 256 (fun _ => 256) qs v.tb ⟨newRig g, none⟩ v) (hG : GOk g caps) : DNewRet w o R g caps (.returned (.tuple #[.pointer (some ⟨b, 0, none⟩), .int .i64 0])) w' := by
 refine ⟨fun h => absurd hE h, fun _ => ⟨b, fun k => if k < w.heap.size then o k else if R ≤ q k ∧ q k < R + 6000 then q k else R + 6009, qs, v, rfl, ⟨Mods.of_below K.below _, fun k hk => by simp [hk]⟩, h.recol (fun k hk => ?_), hG, fun k hk => ?_⟩⟩
 ·
  have : ¬ k < w.heap.size := fun hlt => by
   have := K.old k hlt
   unfold MineR at hk
   omega
  unfold MineR at hk
  simp only [if_neg this]
  rw [if_pos (by omega)]
 ·
  simp only [if_neg (Nat.not_lt.2 hk)]
  split <;> omega
structure NewAt (w0 w : World) (q : Col) (R b X : Nat) (g : GGraph) (caps : List Int) (qs : Ptrs) (nT nE nI nO F B : Nat) (v : RVals) (gv : Array Value) : Prop where
 kept : Kept w0.heap.size q w0 w
 graph : Blk w q (R + 6000) X 26 gv
 half : HalfR w q R b g caps qs nT nE nI nO F B v
theorem NewAt.turn {w0 w w' : World} {q q' : Col} {C : Nat → Prop} {R b X : Nat} {g : GGraph} {caps : List Int} {qs : Ptrs} {nT nE nI nO F B : Nat} {v : RVals} {gv : Array Value} (h : NewAt w0 w q R b X g caps qs nT nE nI nO F B v gv) (T : Turn q q' C w w') (hC0 : ¬ C 0) (hX : ¬ C (R + 6000)) (hC : ∀ k, C k → MineR R k → R + 100 + 64 * nT ≤ k ∧ k < R + 4000) : NewAt w0 w' q' R b X g caps qs nT nE nI nO F B v gv :=
 ⟨h.kept.turn T hC0, h.graph.turn T hX, h.half.turn T hC⟩
theorem NewAt.later {w0 w w' : World} {q : Col} {R b X : Nat} {g : GGraph} {caps : List Int} {qs : Ptrs} {nT nE nI nO F B : Nat} {v : RVals} {gv : Array Value} (h : NewAt w0 w q R b X g caps qs nT nE nI nO F B v gv) (c : Nat) (hb : Below w.heap.size w w') : NewAt w0 w' (ext q w.heap.size c) R b X g caps qs nT nE nI nO F B v gv := h.turn (Turn.of_below q c hb) (fun h => h) (fun h => h) (fun _ h => h.elim)
theorem start_half {w : World} {q : Col} {R : Nat} (g : GGraph) (caps : List Int) (hf : g.actors.length ≤ 32 ∧ g.edges.length ≤ 96 ∧ g.ins.length ≤ 16 ∧ g.outs.length ≤ 16) : HalfR (w.alloc (.cells #[.slice none 0 0, .slice none 0 0, .slice none 0 0, .slice none 0 0, .int .i64 (-1)] 91)) (ext q w.heap.size R) R w.heap.size g caps (fun _ => 0) 0 0 0 0 0 0 ⟨.slice none 0 0, .slice none 0 0, .slice none 0 0, .slice none 0 0, fun _ => 0, fun _ => ⟨0, .nilIface, .nilIface, .nilIface, .nilIface, 0, [], .nilIface, []⟩, fun _ => .nilIface⟩ :=
 ⟨blk_new q R _ _, Own.nil _ _ _ _ _, Own.nil _ _ _ _ _, Own.nil _ _ _ _ _, Own.nil _ _ _ _ _, fun t ht => by omega, fun d hd => by omega, fun d _ hd => by omega, ⟨by omega, by omega, by omega, by omega⟩, hf⟩
set_option maxRecDepth 100000 in
set_option maxHeartbeats 4000000 in
theorem dnew_any (w : World) (o : Col) (R : Nat) (hR : 1 ≤ R) (v : Value) (g : GGraph) (caps : List Int) {ca : Option Addr} {nc cc : Nat} (hv : HasGraph w v g) (hz : GSized g) (hc : Has w (.slice ca nc cc) (ivs caps)) (hcb : caps.length ≤ 17600000000000)
  (hfp : ∀ a ∈ g.actors, ∀ x ∈ a.params, Fits x) (hfs : ∀ e ∈ g.edges, ∀ x ∈ e.start, Fits x) (hfc : ∀ c ∈ caps, Fits c) : Calls Tryz.prog 25 #[v, .slice ca nc cc] w (DNewRet w o R g caps) := by
 obtain ⟨va, ve, vi, vo, rfl, ra, re, ri, ro⟩ := hv.shape
 obtain ⟨aa, ac, rfl⟩ := ra.slice
 obtain ⟨ae, ec, rfl⟩ := re.slice
 obtain ⟨ai, ic, rfl⟩ := ri.slice
 obtain ⟨ao, oc, rfl⟩ := ro.slice
 obtain rfl : nc = caps.length := by simpa using Vals.len hc
 have HG := Lib.hid hv
 have HRA := Lib.hid ra
 have HRE := Lib.hid re
 have HRI := Lib.hid ri
 have HRO := Lib.hid ro
 have HZ := Lib.hid hz
 have HC := Lib.hid hc
 have HFP := Lib.hid hfp
 have HFS := Lib.hid hfs
 have HFC := Lib.hid hfc
 clear hv ra re ri ro hz hc hfp hfs hfc
 have hb1 := below_alloc w (.cells #[.string g.name, .slice aa g.actors.length ac, .slice ae g.edges.length ec, .slice ai g.ins.length ic, .slice ao g.outs.length oc] 26)
 have T1 := Turn.of_below (fun _ => 0) (R + 6000) hb1
 have hX := blk_new (w := w) (fun _ => 0) (R + 6000) #[.string g.name, .slice aa g.actors.length ac, .slice ae g.edges.length ec, .slice ai g.ins.length ic, .slice ao g.outs.length oc] 26
 have K1 := (Kept.start w).turn T1 (fun h => h)
 have HX := Lib.hid hX
 have HK := Lib.hid K1
 have x0 := hX.cell 0 _ rfl
 have x1 := hX.cell 1 _ rfl
 have x2 := hX.cell 2 _ rfl
 have x3 := hX.cell 3 _ rfl
 have x4 := hX.cell 4 _ rfl
 generalize ext (fun _ => 0) w.heap.size (R + 6000) = q0 at *
 clear T1 hX K1 hb1
 obtain ⟨E, hE⟩ : ∃ x, checkE g = x := ⟨_, rfl⟩
 have HE := Lib.hid hE
 clear hE
 by_cases h0 : E ≠ 0
 ·
  have hb : (E != 0) = true := by rw [bne_iff_ne]; exact h0
  have H0 := Lib.hid h0
  clear h0
  go_enter Tryz.func25, Tryz.ntmps25
  go_wp2_with fail
  refine (gcheck_any _ _ g (HG.out.below HK.out.below) HZ.out).mono ?_
  rintro e w2 ⟨rfl, hb2⟩
  rw [HE.out]
  have HB2 := Lib.hid (HK.out.below.trans (hb2.mono HK.out.size))
  clear hb2
  go_wp2
  go_ret2
  exact dnew_no (by unfold newE; rw [HE.out, if_pos H0.out]) H0.out HB2.out
 obtain rfl : E = 0 := by simpa using h0
 clear h0
 by_cases h1 : ¬ caps.length = g.edges.length
 ·
  have hb : ((caps.length : Int) != (g.edges.length : Int)) = true := by rw [bne_iff_ne]; omega
  have H1 := Lib.hid h1
  clear h1
  go_enter Tryz.func25, Tryz.ntmps25
  go_wp2_with fail
  refine (gcheck_any _ _ g (HG.out.below HK.out.below) HZ.out).mono ?_
  rintro e w2 ⟨rfl, hb2⟩
  rw [HE.out]
  have HB2 := Lib.hid (HK.out.below.trans (hb2.mono HK.out.size))
  have x2 := (HX.out.turn (Turn.of_below q0 0 hb2) (fun h => h)).cell 2 _ rfl
  clear hb2
  go_wp2
  go_ret2
  exact dnew_no (by unfold newE; rw [if_neg (by rw [HE.out]; decide), if_pos H1.out]) (by decide) HB2.out
 have h1 : caps.length = g.edges.length := Decidable.not_not.1 h1
 have hb : ((caps.length : Int) != (g.edges.length : Int)) = false := by rw [bne_eq_false_iff_eq]; omega
 have H1 := Lib.hid h1
 have HS := Lib.hid (sound_of HE.out)
 have hf := head_few HS.out.head
 have HF := Lib.hid hf
 clear hf h1
 go_enter Tryz.func25, Tryz.ntmps25
 go_wp2_with fail
 refine (gcheck_any _ _ g (HG.out.below HK.out.below) HZ.out).mono ?_
 rintro e w2 ⟨rfl, hb2⟩
 rw [HE.out]
 have T2 := Turn.of_below q0 (R + 6001) hb2
 have HK2 := Lib.hid (HK.out.turn T2 (fun h => h))
 have hX2 := HX.out.turn T2 (fun h => h)
 have HX2 := Lib.hid hX2
 have x1 := hX2.cell 1 _ rfl
 have x2 := hX2.cell 2 _ rfl
 generalize ext q0 _ (R + 6001) = q2 at *
 clear T2 hX2 hb2 HK HX x0 x3 x4
 have T3 := Turn.of_below q2 R (below_alloc w2 (.cells #[.slice none 0 0, .slice none 0 0, .slice none 0 0, .slice none 0 0, .int .i64 (-1)] 91))
 have HN := Lib.hid (NewAt.mk (HK2.out.turn T3 (fun h => h)) (HX2.out.turn T3 (fun h => h)) (start_half (w := w2) (q := q2) (R := R) g caps HF.out))
 have x1 := HN.out.graph.cell 1 _ rfl
 generalize ext q2 _ R = q3 at *
 generalize (⟨.slice none 0 0, .slice none 0 0, .slice none 0 0, .slice none 0 0, fun _ => 0, fun _ => ⟨0, .nilIface, .nilIface, .nilIface, .nilIface, 0, [], .nilIface, []⟩, fun _ => .nilIface⟩ : RVals) = v0 at *
 clear T3 HK2 HX2
 go_wp2_with fail
 obtain ⟨w3, hw3⟩ : ∃ x, w2.alloc (.cells #[.slice none 0 0, .slice none 0 0, .slice none 0 0, .slice none 0 0, .int .i64 (-1)] 91) = x := ⟨_, rfl⟩
 rw [hw3] at HN x1 ⊢
 obtain ⟨b, hbe⟩ : ∃ x, w2.heap.size = x := ⟨_, rfl⟩
 rw [hbe] at HN ⊢
 clear hbe hw3 hb x2
 go_loopw [41] (fun i wz => ∃ (k : Nat) (q : Col) (v : RVals), k ≤ g.actors.length ∧ i = .int .i64 k ∧ NewAt w wz q R b w.heap.size g caps (fun _ => 0) k 0 0 0 0 0 v #[.string g.name, .slice aa g.actors.length ac, .slice ae g.edges.length ec, .slice ai g.ins.length ic, .slice ao g.outs.length oc]) (fun i _ => g.actors.length - (intOf i).toNat)
 case atStart => exact ⟨0, _, v0, Nat.zero_le _, rfl, HN.out⟩
 case round =>
  clear HN x1
  obtain ⟨k, q, v, hk, rfl, hN⟩ := hrel
  have HN := Lib.hid hN
  clear hN
  by_cases hlt : k < g.actors.length
  ·
   have hlti : (k : Int) < g.actors.length := by omega
   obtain ⟨b0, off, rfl, hcap, hb0, hrec⟩ := HRA.out.at (by omega)
   obtain ⟨cs, hcs, hPR, hcl⟩ := hrec k hlt
   obtain ⟨xs, rfl, hst⟩ := hPR
   have c0 := cell_later HN.out.kept.below (hcl 0 (by omega))
   have c1 := cell_later HN.out.kept.below (hcl 1 (by omega))
   have c2 := cell_later HN.out.kept.below (hcl 2 (by omega))
   simp at c0 c1 c2
   have hcapi : (g.actors.length : Int) ≤ ac := by omega
   obtain ⟨sa, sc, hxs⟩ := Ints.slice hst
   subst hxs
   have HST := Lib.hid hst
   clear hrec hcl hcs hst hb0 hcap
   have hba := List.getElem_mem hlt
   have hgo := HS.out.good _ hba
   have hag : g.actors[k]? = some g.actors[k] := List.getElem?_eq_getElem hlt
   have hrI : ratesI g k = insP g.actors[k].tag g.actors[k].params := by unfold ratesI; rw [hag]
   have hrO : ratesO g k = outsP g.actors[k].tag g.actors[k].params := by unfold ratesO; rw [hag]
   have hlens := shape_len hgo
   rw [← hrI, ← hrO] at hlens
   have HGO := Lib.hid hgo
   have HAG := Lib.hid hag
   have HRTI := Lib.hid hrI
   have HRTO := Lib.hid hrO
   have HLE := Lib.hid hlens
   have HFPA := Lib.hid (HFP.out _ hba)
   obtain ⟨a, hae⟩ : ∃ a, g.actors[k] = a := ⟨_, rfl⟩
   rw [hae] at c0 c1 c2 HST HGO HAG HRTI HRTO HFPA
   clear hba hgo hag hrI hrO hlens
   go_wp2_with fail
   obtain ⟨w4, hw4⟩ : ∃ x, wr.alloc (.cells #[.string a.name, .int .u8 a.tag, .slice sa a.params.length sc] 96) = x := ⟨_, rfl⟩
   have HN4 := Lib.hid (HN.out.later (R + 6001) (below_alloc wr (.cells #[.string a.name, .int .u8 a.tag, .slice sa a.params.length sc] 96)))
   rw [hw4] at HN4 ⊢
   generalize ext q wr.heap.size (R + 6001) = q4 at *
   clear hw4 HN c0 c1 c2
   obtain ⟨M, hM⟩ : ∃ M, R + 100 + 64 * k = M := ⟨_, rfl⟩
   have HM := Lib.hid hM
   clear hM
   refine (New_act q4 (M + 1) (M + 2) (by omega) HGO.out HFPA.out (HST.out.below HN4.out.kept.below)).mono ?_
   rintro e w5 ⟨bp, q5, rfl, T5, hA⟩
   have HN5 := Lib.hid (HN4.out.turn T5 (fun h => h) (fun h => h) (fun _ h => h.elim))
   have T6 := Turn.of_below q5 M (below_alloc w5 (.cells #[.pointer (some ⟨bp, 0, none⟩), .slice none 0 0, .slice none 0 0, .slice none 0 0, .slice none 0 0, .slice none 0 0, .slice none 0 0, .int .i64 0, .bool false, .int .i64 0] 103))
   have HB6 := Lib.hid (blk_new (w := w5) q5 M #[.pointer (some ⟨bp, 0, none⟩), .slice none 0 0, .slice none 0 0, .slice none 0 0, .slice none 0 0, .slice none 0 0, .slice none 0 0, .int .i64 0, .bool false, .int .i64 0] 103)
   have HA6 := Lib.hid (hA.turn T6 (fun h => h) (fun h => h))
   have HN6 := Lib.hid (HN5.out.turn T6 (fun h => h) (fun h => h) (fun _ h => h.elim))
   generalize ext q5 w5.heap.size M = q6 at *
   clear T5 hA T6 HN4 HN5
   go_wp2_with fail
   obtain ⟨w6, hw6⟩ : ∃ x, w5.alloc (.cells #[.pointer (some ⟨bp, 0, none⟩), .slice none 0 0, .slice none 0 0, .slice none 0 0, .slice none 0 0, .slice none 0 0, .slice none 0 0, .int .i64 0, .bool false, .int .i64 0] 103) = x := ⟨_, rfl⟩
   obtain ⟨tb, htb⟩ : ∃ x, w5.heap.size = x := ⟨_, rfl⟩
   rw [hw6] at HB6 HA6 HN6 ⊢
   rw [htb] at HB6 ⊢
   clear hw6 htb
   refine (Shape_act HA6.out).mono ?_
   intro e w7 hRt
   obtain ⟨vi, vo, q7, rfl, T7, oi, oo⟩ := rated_col q6 M hRt
   rw [← HRTI.out] at oi
   rw [← HRTO.out] at oo
   obtain ⟨ia, ic, rfl⟩ := oi.slice
   obtain ⟨oa, occ, rfl⟩ := oo.slice
   have hB7 := HB6.out.turn T7 (fun h => h)
   have c3 := hB7.cell 3 _ rfl
   have c4 := hB7.cell 4 _ rfl
   have f3 := hB7.frozen 3
   have f4 := hB7.frozen 4
   obtain ⟨hB8, S8⟩ := hB7.set 3 (.slice ia (ratesI g k).length ic)
   obtain ⟨hB9, S9⟩ := hB8.set 4 (.slice oa (ratesO g k).length occ)
   have T9 := S8.trans S9 (fun _ h => h)
   have hmt : ∀ c, c = M → MineR R c → R + 100 + 64 * k ≤ c ∧ c < R + 4000 := fun c hc hm => by have := HM.out; have := HF.out.1; omega
   have HMT := Lib.hid hmt
   have HOI := Lib.hid (oi.turn T9 (by omega))
   have HOO := Lib.hid (oo.turn T9 (by omega))
   have HA9 := Lib.hid ((HA6.out.turn T7 (fun h => h) (fun h => h)).turn T9 (by omega) (by omega))
   have HN9 := Lib.hid ((HN6.out.turn T7 (fun h => h) (fun h => h) (fun _ h => h.elim)).turn T9 (by have := HM.out; omega) (by have := HM.out; have := HF.out.1; omega) hmt)
   have hB9' : Blk _ q7 M tb 103 #[.pointer (some ⟨bp, 0, none⟩), .slice none 0 0, .slice none 0 0, .slice ia (ratesI g k).length ic, .slice oa (ratesO g k).length occ, .slice none 0 0, .slice none 0 0, .int .i64 0, .bool false, .int .i64 0] := hB9
   have HB9 := Lib.hid hB9'
   clear T7 oi oo hB7 hB8 S8 hB9 hB9' S9 T9 hmt HB6 HA6 HN6 hRt
   obtain ⟨nI, hnI⟩ : ∃ x, (ratesI g k).length = x := ⟨_, rfl⟩
   obtain ⟨nO, hnO⟩ : ∃ x, (ratesO g k).length = x := ⟨_, rfl⟩
   have HNI := Lib.hid hnI
   have HNO := Lib.hid hnO
   rw [hnI] at HB9 HOI HLE ⊢
   rw [hnO] at HB9 HOO HLE ⊢
   rw [hnO] at HOI
   rw [hnI] at HOO
   rw [hnI, hnO] at HA9 HN9
   clear hnI hnO
   go_wp2_with fail
   obtain ⟨w8, hw8⟩ : ∃ x, (w7.setCell ⟨tb, 3, none⟩ (.slice ia nI ic)).setCell ⟨tb, 4, none⟩ (.slice oa nO occ) = x := ⟨_, rfl⟩
   rw [hw8] at HB9 HOI HOO HA9 HN9 ⊢
   clear hw8 c3 c4 f3 f4
   have c3 := HB9.out.cell 3 _ rfl
   have c4 := HB9.out.cell 4 _ rfl
   have hmi := mk_srcs nI (by have := HLE.out; omega)
   have hmo := mk_snks nO (by have := HLE.out; omega)
   obtain ⟨zi, hzi⟩ : ∃ x, (List.replicate nI Value.nilIface).toArray = x := ⟨_, rfl⟩
   obtain ⟨zo, hzo⟩ : ∃ x, (List.replicate nO Value.nilIface).toArray = x := ⟨_, rfl⟩
   rw [hzi] at hmi
   rw [hzo] at hmo
   have HZI := Lib.hid hzi
   have HZO := Lib.hid hzo
   clear hzi hzo
   go_cut [70] from 70 to 88 (fun _ wx => Ported q7 w8 M tb nI nO (.pointer (some ⟨bp, 0, none⟩)) (.slice ia nI ic) (.slice oa nO occ) wx)
   case first =>
    refine wp_region_drift (fun w' => w'.cell? ⟨tb, 3, none⟩ = some (.slice ia nI ic) ∧ w'.cell? ⟨tb, 4, none⟩ = some (.slice oa nO occ)) [0, 1, 2, 3, 4, 5, 6, 8, 9, 10, 11, 12, 14, 15] [7, 13, 16] [0, 1, 2, 3, 4, 5, 6, 8, 9, 10, 11, 12] 8 (by kernel_rfl) (by kernel_rfl) rfl ⟨c3, c4⟩ ?_
    intro Q' hQ' hQ2
    simp only [pickOps, List.flatMap_cons, List.flatMap_nil, List.drop_succ_cons, List.drop_zero, List.take_succ_cons, List.take_zero, List.cons_append, List.nil_append, List.append_nil]
    repeat (first
     | (refine wpReads_skip (by rfl) ?_; (try simp only [Act.put, List.setIfInBounds_toArray, List.set_cons_zero, List.set_cons_succ]))
     | (refine wpReads_cons ?_ (by rfl) (by rfl) ?_ ?_; rotate_left; (intro wz hz; (try dsimp only at hz); go_simp; try with_reducible rfl); (try simp only [Act.put, List.setIfInBounds_toArray, List.set_cons_zero, List.set_cons_succ]))
     | (refine wpReads_any ?_ (by rfl) ?_ ?_; rotate_left; (intro wz; go_simp; try with_reducible rfl); (try simp only [Act.put, List.setIfInBounds_toArray, List.set_cons_zero, List.set_cons_succ])))
    refine wpReads_nil ?_
    obtain ⟨wd, hwd⟩ : ∃ x, w8.drew = x := ⟨_, rfl⟩
    have T0 : Turn q7 q7 (fun _ => False) w8 wd := by rw [← hwd]; exact (Turn.refl q7 _ w8).drew
    have B0 := HB9.out.turn T0 (fun h => h)
    have TD := T0.mono (D := fun c => c = M) (fun _ h => h.elim)
    rw [hwd]
    have pa := Lib.hid (ported_a TD B0 HZI.out HZO.out)
    have pb := Lib.hid (ported_b TD B0 HZI.out HZO.out)
    have pc := Lib.hid (ported_c TD B0 HZI.out HZO.out)
    have B1 := B0.turn (Turn.of_below q7 (M + 5) (below_alloc wd (.cells zi 116))) (fun h => h)
    have B3 := B0.turn (Turn.of_below q7 (M + 6) (below_alloc wd (.cells zo 114))) (fun h => h)
    have B2 := B1.turn (Turn.of_below (ext q7 wd.heap.size (M + 5)) (M + 6) (below_alloc (wd.alloc (.cells zi 116)) (.cells zo 114))) (fun h => h)
    have B4 := B3.turn (Turn.of_below (ext q7 wd.heap.size (M + 6)) (M + 5) (below_alloc (wd.alloc (.cells zo 114)) (.cells zi 116))) (fun h => h)
    have HB1 := Lib.hid B1
    have HB2 := Lib.hid B2
    have HB3 := Lib.hid B3
    have HB4 := Lib.hid B4
    clear T0 B0 TD hwd B1 B2 B3 B4 c3 c4
    have s1 : (wd.alloc (.cells zi 116)).cell? ⟨tb, 3, none⟩ = some (.slice ia nI ic) ∧ (wd.alloc (.cells zi 116)).cell? ⟨tb, 4, none⟩ = some (.slice oa nO occ) := ⟨HB1.out.cell 3 _ rfl, HB1.out.cell 4 _ rfl⟩
    have s2 : ((wd.alloc (.cells zi 116)).alloc (.cells zo 114)).cell? ⟨tb, 3, none⟩ = some (.slice ia nI ic) ∧ ((wd.alloc (.cells zi 116)).alloc (.cells zo 114)).cell? ⟨tb, 4, none⟩ = some (.slice oa nO occ) := ⟨HB2.out.cell 3 _ rfl, HB2.out.cell 4 _ rfl⟩
    have s3 : (wd.alloc (.cells zo 114)).cell? ⟨tb, 3, none⟩ = some (.slice ia nI ic) ∧ (wd.alloc (.cells zo 114)).cell? ⟨tb, 4, none⟩ = some (.slice oa nO occ) := ⟨HB3.out.cell 3 _ rfl, HB3.out.cell 4 _ rfl⟩
    have s4 : ((wd.alloc (.cells zo 114)).alloc (.cells zi 116)).cell? ⟨tb, 3, none⟩ = some (.slice ia nI ic) ∧ ((wd.alloc (.cells zo 114)).alloc (.cells zi 116)).cell? ⟨tb, 4, none⟩ = some (.slice oa nO occ) := ⟨HB4.out.cell 3 _ rfl, HB4.out.cell 4 _ rfl⟩
    have HS1 := Lib.hid s1
    have HS2 := Lib.hid s2
    have HS3 := Lib.hid s3
    have HS4 := Lib.hid s4
    clear s1 s2 s3 s4
    refine wpAnyT_two (i := 7) (k := 13) (by kernel_rfl) ?_ ?_
    ·
     simp only [pickOps, List.flatMap_cons, List.flatMap_nil, List.drop_succ_cons, List.drop_zero, List.take_succ_cons, List.take_zero, List.append_nil]
     go_wp2_with fail
     refine ⟨by intros; exact HS1.out, ?_⟩
     refine wpAnyT_later (r := [14, 15]) (n := 5) hQ2 (by kernel_rfl) HS1.out ?_
     simp only [pickOps, List.flatMap_cons, List.flatMap_nil, List.drop_succ_cons, List.drop_zero, List.take_succ_cons, List.take_zero, List.cons_append, List.nil_append, List.append_nil]
     repeat (first
      | (refine wpReads_skip (by rfl) ?_; (try simp only [Act.put, List.setIfInBounds_toArray, List.set_cons_zero, List.set_cons_succ]))
      | (refine wpReads_cons ?_ (by rfl) (by rfl) ?_ ?_; rotate_left; (intro wz hz; (try dsimp only at hz); go_simp; try with_reducible rfl); (try simp only [Act.put, List.setIfInBounds_toArray, List.set_cons_zero, List.set_cons_succ]))
      | (refine wpReads_any ?_ (by rfl) ?_ ?_; rotate_left; (intro wz; go_simp; try with_reducible rfl); (try simp only [Act.put, List.setIfInBounds_toArray, List.set_cons_zero, List.set_cons_succ])))
     refine wpReads_nil ?_
     refine wpAnyT_two (i := 13) (k := 16) (by kernel_rfl) ?_ ?_
     ·
      simp only [pickOps, List.flatMap_cons, List.flatMap_nil, List.drop_succ_cons, List.drop_zero, List.take_succ_cons, List.take_zero, List.append_nil]
      go_wp2_with fail
      refine ⟨by intros; exact HS2.out, ?_⟩
      refine wpAnyT_one (i := 16) (by kernel_rfl) ?_
      simp only [pickOps, List.flatMap_cons, List.flatMap_nil, List.drop_succ_cons, List.drop_zero, List.take_succ_cons, List.take_zero, List.append_nil]
      have z1 := HB2.out.cell 1 _ rfl
      have g1 := HB2.out.frozen 1
      have z2 := HB2.out.cell 2 _ rfl
      have g2 := HB2.out.frozen 2
      obtain ⟨B5, -⟩ := HB2.out.set 1 (.slice (some ⟨wd.heap.size, 0, none⟩) nI nI)
      have s5 := And.intro (B5.cell 3 (.slice ia nI ic) rfl) (B5.cell 4 (.slice oa nO occ) rfl)
      have HS5 := Lib.hid s5
      clear s5 B5
      go_wp2_with fail
      refine ⟨by intros; exact HS5.out, ?_⟩
      clear hQ2
      refine wpAnyT_list (ks := [17, 18, 19]) (fun _ _ hx h => ⟨hx.cell h.1, hx.cell h.2⟩) (by kernel_rfl) ?_
      simp only [pickOps, List.flatMap_cons, List.flatMap_nil, List.drop_succ_cons, List.drop_zero, List.take_succ_cons, List.take_zero, List.cons_append, List.nil_append, List.append_nil]
      go_wp2
      go_meet
      case rel => exact pa.out
     ·
      simp only [pickOps, List.flatMap_cons, List.flatMap_nil, List.drop_succ_cons, List.drop_zero, List.take_succ_cons, List.take_zero, List.append_nil]
      have z1 := HB1.out.cell 1 _ rfl
      have g1 := HB1.out.frozen 1
      obtain ⟨B5, -⟩ := HB1.out.set 1 (.slice (some ⟨wd.heap.size, 0, none⟩) nI nI)
      have s5 := And.intro (B5.cell 3 (.slice ia nI ic) rfl) (B5.cell 4 (.slice oa nO occ) rfl)
      have HS5 := Lib.hid s5
      have B6 := B5.turn (Turn.of_below (ext q7 wd.heap.size (M + 5)) (M + 6) (below_alloc _ (.cells zo 114))) (fun h => h)
      have HS6 := Lib.hid (And.intro (B6.cell 3 (.slice ia nI ic) rfl) (B6.cell 4 (.slice oa nO occ) rfl))
      have z2 := B6.cell 2 _ rfl
      have g2 := B6.frozen 2
      clear s5 B5 B6
      go_wp2_with fail
      refine ⟨by intros; exact HS5.out, ?_⟩
      refine wpAnyT_one (i := 13) (by kernel_rfl) ?_
      simp only [pickOps, List.flatMap_cons, List.flatMap_nil, List.drop_succ_cons, List.drop_zero, List.take_succ_cons, List.take_zero, List.append_nil]
      go_wp2_with fail
      refine ⟨by intros; exact HS6.out, ?_⟩
      clear hQ2
      refine wpAnyT_list (ks := [17, 18, 19]) (fun _ _ hx h => ⟨hx.cell h.1, hx.cell h.2⟩) (by kernel_rfl) ?_
      simp only [pickOps, List.flatMap_cons, List.flatMap_nil, List.drop_succ_cons, List.drop_zero, List.take_succ_cons, List.take_zero, List.cons_append, List.nil_append, List.append_nil]
      go_wp2
      go_meet
      case rel => exact pb.out
    ·
     simp only [pickOps, List.flatMap_cons, List.flatMap_nil, List.drop_succ_cons, List.drop_zero, List.take_succ_cons, List.take_zero, List.append_nil]
     go_wp2_with fail
     refine ⟨by intros; exact HS3.out, ?_⟩
     refine wpAnyT_one (i := 7) (by kernel_rfl) ?_
     simp only [pickOps, List.flatMap_cons, List.flatMap_nil, List.drop_succ_cons, List.drop_zero, List.take_succ_cons, List.take_zero, List.append_nil]
     have hmi2 := mk_srcs nI (by have := HLE.out; omega)
     rw [HZI.out] at hmi2
     go_wp2_with fail
     refine ⟨by intros; exact HS4.out, ?_⟩
     refine wpAnyT_later (r := [14, 15]) (n := 4) hQ2 (by kernel_rfl) HS4.out ?_
     simp only [pickOps, List.flatMap_cons, List.flatMap_nil, List.drop_succ_cons, List.drop_zero, List.take_succ_cons, List.take_zero, List.cons_append, List.nil_append, List.append_nil]
     repeat (first
      | (refine wpReads_skip (by rfl) ?_; (try simp only [Act.put, List.setIfInBounds_toArray, List.set_cons_zero, List.set_cons_succ]))
      | (refine wpReads_cons ?_ (by rfl) (by rfl) ?_ ?_; rotate_left; (intro wz hz; (try dsimp only at hz); go_simp; try with_reducible rfl); (try simp only [Act.put, List.setIfInBounds_toArray, List.set_cons_zero, List.set_cons_succ]))
      | (refine wpReads_any ?_ (by rfl) ?_ ?_; rotate_left; (intro wz; go_simp; try with_reducible rfl); (try simp only [Act.put, List.setIfInBounds_toArray, List.set_cons_zero, List.set_cons_succ])))
     refine wpReads_nil ?_
     refine wpAnyT_one (i := 16) (by kernel_rfl) ?_
     simp only [pickOps, List.flatMap_cons, List.flatMap_nil, List.drop_succ_cons, List.drop_zero, List.take_succ_cons, List.take_zero, List.append_nil]
     have z1 := HB4.out.cell 1 _ rfl
     have g1 := HB4.out.frozen 1
     have z2 := HB4.out.cell 2 _ rfl
     have g2 := HB4.out.frozen 2
     obtain ⟨B5, -⟩ := HB4.out.set 1 (.slice (some ⟨wd.heap.size + 1, 0, none⟩) nI nI)
     have HS5 := Lib.hid (And.intro (B5.cell 3 (.slice ia nI ic) rfl) (B5.cell 4 (.slice oa nO occ) rfl))
     clear B5
     go_wp2_with fail
     refine ⟨by intros; exact HS5.out, ?_⟩
     clear hQ2
     refine wpAnyT_list (ks := [17, 18, 19]) (fun _ _ hx h => ⟨hx.cell h.1, hx.cell h.2⟩) (by kernel_rfl) ?_
     simp only [pickOps, List.flatMap_cons, List.flatMap_nil, List.drop_succ_cons, List.drop_zero, List.take_succ_cons, List.take_zero, List.cons_append, List.nil_append, List.append_nil]
     go_wp2
     go_meet
     case rel => exact pc.out
   case rest =>
    clear c3 c4 hmi hmo
    obtain ⟨q8, gs, gd, T8, hB, hSb, hDb⟩ := hcut
    have HB8 := Lib.hid hB
    have HSB := Lib.hid hSb
    have HDB := Lib.hid hDb
    have HOI8 := Lib.hid (HOI.out.turn T8 (by omega))
    have HOO8 := Lib.hid (HOO.out.turn T8 (by omega))
    have HA8 := Lib.hid (HA9.out.turn T8 (by omega) (by omega))
    have HN8 := Lib.hid (HN9.out.turn T8 (by have := HM.out; omega) (by have := HM.out; have := HF.out.1; omega) HMT.out)
    clear T8 hB hSb hDb HOI HOO HA9 HN9 HB9
    go_wp2_with fail
    refine (tbegin_new HB8.out (by have := HLE.out; omega)).mono ?_
    rintro e wb ⟨q9, hh, rfl, T9, hB9, hH⟩
    have hOI9 := HOI8.out.turn T9 (by omega)
    have hOO9 := HOO8.out.turn T9 (by omega)
    have hA9 := HA8.out.turn T9 (by omega) (by omega)
    have hN9 := HN8.out.turn T9 (by have := HM.out; omega) (by have := HM.out; have := HF.out.1; omega) HMT.out
    have hS9 := HSB.out.turn T9 (by omega)
    have hD9 := HDB.out.turn T9 (by omega)
    have hbn := below_alloc wb (.cells #[.pointer (some ⟨tb, 0, none⟩)] 92)
    have Tn := Turn.of_below q9 (R + 6001) hbn
    have hB' := hB9.turn Tn (fun h => h)
    have hH' := hH.turn Tn (fun h => h)
    have hOI' := hOI9.turn Tn (fun h => h)
    have hOO' := hOO9.turn Tn (fun h => h)
    have hA' := hA9.turn Tn (fun h => h) (fun h => h)
    have hN' := hN9.turn Tn (fun h => h) (fun h => h) (fun _ h => h.elim)
    have hS' := hS9.turn Tn (fun h => h)
    have hD' := hD9.turn Tn (fun h => h)
    have hrb := hN9.half.blk
    unfold rigV at hrb
    have c0 := hrb.cell 0 _ rfl
    change wb.cell? _ = some v.tasks at c0
    have hown := hN'.half.tasks
    obtain ⟨ta, tc, hta⟩ := hown.slice
    rw [hta] at c0
    obtain ⟨i0, hi, hz0, hz1, hz2⟩ := info_parts info_ptask
    have HI := Lib.hid hi
    have HOWN := Lib.hid hown
    have HTA := Lib.hid hta
    have HBX := Lib.hid hB'
    have HHX := Lib.hid hH'
    have HOIX := Lib.hid hOI'
    have HOOX := Lib.hid hOO'
    have HAX := Lib.hid hA'
    have HNX := Lib.hid hN'
    have HSX := Lib.hid hS'
    have HDX := Lib.hid hD'
    generalize ext q9 wb.heap.size (R + 6001) = qx at *
    clear hi hown hta hB' hH' hOI' hOO' hA' hN' hS' hD' hrb hbn Tn hB9 hH hOI9 hOO9 hA9 hN9 hS9 hD9 T9 HB8 HSB HDB HOI8 HOO8 HA8 HN8
    go_wp2_with (at_builtin; refine stop_here ?_)
    refine go_on ?_
    refine wpList_app rfl _ _ 87 rfl 0 92 i0 _ 1 8 Tryz.underlying87 HI.out hz0 hz1 hz2 rfl (.slice ta k tc) k ((List.range k).map fun t => ptrV (v.tb t)) rfl (by have := HOWN.out.1; rw [HTA.out] at this; exact this) (some ⟨wb.heap.size, 0, none⟩) 1 1 [.pointer (some ⟨tb, 0, none⟩)] rfl rfl (fun h => by cases h) (news_alloc wb [.pointer (some ⟨tb, 0, none⟩)] 92) (by simp [Value.oneCell']) (by have := HF.out.1; unfold maxLen; omega) (grow_ok (by have := HF.out.1; omega)) (Nat.zero_le _) ?_
    intro v7 w7 k1 k20 _ k4
    rw [← HTA.out] at k20 k4
    obtain ⟨T7, O7⟩ := own_app HOWN.out k1 k20 k4
    obtain ⟨sp7, cp7, rfl⟩ := O7.slice
    have hN7 := HNX.out.half.blk.turn T7 (by omega)
    have e0 := hN7.cell 0 v.tasks (by simp [rigV])
    have g0 := hN7.frozen 0
    obtain ⟨hB0, S0⟩ := hN7.set 0 (.slice sp7 (k + 1) cp7)
    have hBr : Blk (w7.setCell ⟨b, 0, none⟩ (.slice sp7 (k + 1) cp7)) (ext qx (wb.alloc (.cells #[.pointer (some ⟨tb, 0, none⟩)] 92)).heap.size (R + 1)) R b 91 (rigV ⟨newRig g, none⟩ { v with tasks := .slice sp7 (k + 1) cp7 }).toArray := hB0
    have TT := (T7.mono (D := fun c => c = R ∨ c = R + 1) (fun c h => .inr h)).trans (S0.mono (D := fun c => c = R ∨ c = R + 1) (fun c h => .inl h)) (fun _ h => h)
    have hM := HM.out
    have hHT : HalfT (w7.setCell ⟨b, 0, none⟩ (.slice sp7 (k + 1) cp7)) (ext qx (wb.alloc (.cells #[.pointer (some ⟨tb, 0, none⟩)] 92)).heap.size (R + 1)) (R + 100 + 64 * k) tb g k (newTask g k) ⟨bp, .slice (some ⟨gs, 0, none⟩) (ratesI g k).length (ratesI g k).length, .slice (some ⟨gd, 0, none⟩) (ratesO g k).length (ratesO g k).length, .slice ia nI ic, .slice oa nO occ, hh, List.replicate (ratesI g k).length (.slice none 0 0), .slice none 0 0, []⟩ (fromS (fun _ => 0) g k 0) (toS (fun _ => 0) g k 0) := by
     rw [hM]
     have t1 := HBX.out.turn TT (by omega)
     have t2 := HHX.out.turn TT (by omega)
     have t3 := HOIX.out.turn TT (by omega)
     have t4 := HOOX.out.turn TT (by omega)
     have t5 := HAX.out.turn TT (by omega) (by omega)
     have t6 := HSX.out.turn TT (by omega)
     have t7 := HDX.out.turn TT (by omega)
     have l := HLE.out
     have e1 := HNI.out
     have e2 := HNO.out
     refine half_new a HAG.out t5 ?_ ?_ ?_ ?_ ?_ ?_ (by omega) (by omega)
     ·
      rw [e1, e2]; exact t1
     ·
      rw [e1]; exact t3
     ·
      rw [e2]; exact t4
     ·
      rw [e1]; exact t6
     ·
      rw [e2]; exact t7
     ·
      rw [e1]; exact t2
    have HNEW := Lib.hid (NewAt.mk (HNX.out.kept.turn TT (by omega)) (HNX.out.graph.turn TT (by omega)) (HNX.out.half.addTask hlt (TT.mono (fun c hc => by rcases hc with hc | hc; exact .inl hc; exact .inr (.inl hc))) hBr (O7.turn S0 (by omega)) hHT))
    clear hHT TT hBr hB0 S0 hN7 T7 O7 k1 k20 k4 HBX HHX HOIX HOOX HAX HSX HDX HNX HOWN hM
    have hf1 := HF.out.1
    go_wp2
    go_roundw
    case rel => exact ⟨k + 1, _, _, hlt, by go_num, HNEW.out⟩
    case measure => simp [intOf]; omega
  ·
   obtain rfl : k = g.actors.length := by omega
   have hlti : ¬ ((g.actors.length : Int) < g.actors.length) := by omega
   have x2 := HN.out.graph.cell 2 _ rfl
   clear hk hlt
   go_wp2_with fail
   go_loopw [104] (fun i wz => ∃ (k : Nat) (q : Col) (qs : Ptrs) (v : RVals), k ≤ g.edges.length ∧ i = .int .i64 k ∧ NewAt w wz q R b w.heap.size g caps qs g.actors.length k 0 0 k k v #[.string g.name, .slice aa g.actors.length ac, .slice ae g.edges.length ec, .slice ai g.ins.length ic, .slice ao g.outs.length oc] ∧ ∀ c ∈ caps.take k, 0 ≤ c) (fun i _ => g.edges.length - (intOf i).toNat)
   case atStart => exact ⟨0, _, _, v, Nat.zero_le _, rfl, HN.out, by simp⟩
   case round =>
    clear HN x2
    obtain ⟨k, q, qs, v, hk, rfl, hN, hpos⟩ := hrel
    have HN := Lib.hid hN
    have HPOS := Lib.hid hpos
    clear hN hpos
    by_cases hlt : k < g.edges.length
    ·
     have hlti : (k : Int) < g.edges.length := by omega
     obtain ⟨b0, off, rfl, hcap, hb0, hrec⟩ := HRE.out.at (by omega)
     obtain ⟨cs, hcs, hPR, hcl⟩ := hrec k hlt
     obtain ⟨xs, rfl, hst⟩ := hPR
     have c0 := cell_later HN.out.kept.below (hcl 0 (by omega))
     have c1 := cell_later HN.out.kept.below (hcl 1 (by omega))
     have c2 := cell_later HN.out.kept.below (hcl 2 (by omega))
     have c3 := cell_later HN.out.kept.below (hcl 3 (by omega))
     have c4 := cell_later HN.out.kept.below (hcl 4 (by omega))
     simp at c0 c1 c2 c3 c4
     have hcapi : (g.edges.length : Int) ≤ ec := by omega
     obtain ⟨sa, sc, hxs⟩ := Ints.slice hst
     subst hxs
     have HST := Lib.hid hst
     obtain ⟨ed, hed⟩ : ∃ x, g.edges[k] = x := ⟨_, rfl⟩
     have HED := Lib.hid hed
     have hee : edgeAt g k = ed := by unfold edgeAt; rw [List.getElem?_eq_getElem hlt]; exact hed
     have HEE := Lib.hid hee
     rw [hed] at c0 c1 c2 c3 c4 HST
     clear hrec hcl hcs hst hb0 hcap hed hee
     obtain ⟨b1, off1, rfl, -, hccap, -, -, hcc⟩ := Ints.at HC.out (by have := H1.out; omega)
     have hck := cell_later HN.out.kept.below (hcc k (by have := H1.out; omega))
     obtain ⟨C, hC⟩ : ∃ x, caps[k]?.getD 0 = x := ⟨_, rfl⟩
     have HCC := Lib.hid hC
     rw [hC] at hck
     change wr.cell? _ = some (.int .i64 C) at hck
     have hccapi : (caps.length : Int) ≤ cc := by omega
     have hkc : (k : Int) < caps.length := by have := H1.out; omega
     clear hcc hC hccap
     have hby := below_alloc wr (.cells #[.int .i64 ed.src, .int .i64 ed.sport, .int .i64 ed.dst, .int .i64 ed.dport, .slice sa ed.start.length sc] 107)
     have Ty := Turn.of_below q (R + 6002) hby
     have hY := blk_new (w := wr) q (R + 6002) #[.int .i64 ed.src, .int .i64 ed.sport, .int .i64 ed.dst, .int .i64 ed.dport, .slice sa ed.start.length sc] 107
     have hck2 := cell_later hby hck
     have y4 := hY.cell 4 _ rfl
     have HY := Lib.hid hY
     have HNy := Lib.hid (HN.out.turn Ty (fun h => h) (fun h => h) (fun _ h => h.elim))
     generalize ext q wr.heap.size (R + 6002) = qy at *
     clear Ty hY hby hck
     go_wp2_with fail
     obtain ⟨wy, hwy⟩ : ∃ x, wr.alloc (.cells #[.int .i64 ed.src, .int .i64 ed.sport, .int .i64 ed.dst, .int .i64 ed.dport, .slice sa ed.start.length sc] 107) = x := ⟨_, rfl⟩
     obtain ⟨Y, hYe⟩ : ∃ x, wr.heap.size = x := ⟨_, rfl⟩
     rw [hwy] at HY HNy hck2 y4 ⊢
     rw [hYe] at HY y4 ⊢
     clear hwy hYe HN c0 c1 c2 c3 c4
     by_cases hC0 : C < 0
     ·
      have HC0 := Lib.hid hC0
      refine wp_region_mid (fun w' => w'.cell? ⟨b1, off1 + k, none⟩ = some (.int .i64 C) ∧ w'.cell? ⟨Y, 4, none⟩ = some (.slice sa ed.start.length sc)) [0, 1, 2, 3, 4, 5] 6 [7, 8, 9] [6, 10] 2 (by kernel_rfl) (by kernel_rfl) rfl ⟨hck2, y4⟩ ?_
      intro Q' hQ'
      simp only [pickOps, List.flatMap_cons, List.flatMap_nil, List.drop_succ_cons, List.drop_zero, List.take_succ_cons, List.take_zero, List.cons_append, List.nil_append, List.append_nil]
      repeat (first
       | (refine wpReads_skip (by rfl) ?_; (try simp only [Act.put, List.setIfInBounds_toArray, List.set_cons_zero, List.set_cons_succ]))
       | (refine wpReads_cons ?_ (by rfl) (by rfl) ?_ ?_; rotate_left; (intro wz hz; (try dsimp only at hz); go_simp; try with_reducible rfl); (try simp only [Act.put, List.setIfInBounds_toArray, List.set_cons_zero, List.set_cons_succ]))
       | (refine wpReads_any ?_ (by rfl) ?_ ?_; rotate_left; (intro wz; go_simp; try with_reducible rfl); (try simp only [Act.put, List.setIfInBounds_toArray, List.set_cons_zero, List.set_cons_succ])))
      refine wpReads_nil ?_
      go_wp2_with fail
      refine (iq_new_no _ C _ hC0).mono ?_
      rintro e wq ⟨rfl, rfl⟩
      go_wp2
      refine ⟨⟨hck2, y4⟩, ?_⟩
      repeat (first
       | (refine wpReads_skip (by rfl) ?_; (try simp only [Act.put, List.setIfInBounds_toArray, List.set_cons_zero, List.set_cons_succ]))
       | (refine wpReads_cons ?_ (by rfl) (by rfl) ?_ ?_; rotate_left; (intro wz hz; (try dsimp only at hz); go_simp; try with_reducible rfl); (try simp only [Act.put, List.setIfInBounds_toArray, List.set_cons_zero, List.set_cons_succ]))
       | (refine wpReads_any ?_ (by rfl) ?_ ?_; rotate_left; (intro wz; go_simp; try with_reducible rfl); (try simp only [Act.put, List.setIfInBounds_toArray, List.set_cons_zero, List.set_cons_succ])))
      refine wpReads_nil ?_
      refine wpAnyT_one (i := 10) (by kernel_rfl) ?_
      simp only [pickOps, List.flatMap_cons, List.flatMap_nil, List.drop_succ_cons, List.drop_zero, List.take_succ_cons, List.take_zero, List.append_nil]
      go_wp2
      refine ⟨by intros; exact ⟨hck2, y4⟩, ?_⟩
      refine wpAnyT_list (ks := [11]) (fun _ _ hx h => ⟨hx.cell h.1, hx.cell h.2⟩) (by kernel_rfl) ?_
      simp only [pickOps, List.flatMap_cons, List.flatMap_nil, List.drop_succ_cons, List.drop_zero, List.take_succ_cons, List.take_zero, List.append_nil]
      have hbf := HNy.out.kept.below
      have HBF := Lib.hid hbf
      clear hbf
      go_wp2
      go_ret2
      refine dnew_no ?_ (by decide) (HBF.out.drew)
      unfold newE
      rw [if_neg (by rw [HE.out]; decide), if_neg (by rw [H1.out]; simp), if_pos]
      refine List.any_eq_true.2 ⟨C, ?_, by simpa using HC0.out⟩
      have hkl : k < caps.length := by have := H1.out; omega
      have e := HCC.out
      rw [List.getElem?_eq_getElem hkl] at e
      exact e ▸ List.getElem_mem hkl
     ·
      have hC1 : 0 ≤ C := by omega
      have hkl : k < caps.length := by have := H1.out; omega
      have hCm : C ∈ caps := by
       have e := HCC.out
       rw [List.getElem?_eq_getElem hkl] at e
       exact e ▸ List.getElem_mem hkl
      have hcapD : capD caps k = C := by
       have e := HCC.out
       unfold capD
       rw [List.getElem?_eq_getElem hkl] at e ⊢
       exact e
      have hC2 : C ≤ 9223372036854775807 := by have := HFC.out C hCm; unfold Fits at this; omega
      have HC1 := Lib.hid hC1
      have HC2 := Lib.hid hC2
      have HCD := Lib.hid hcapD
      have HKL := Lib.hid hkl
      clear hC0 hC1 hC2 hcapD hCm hkl
      have hsnd := HS.out.edge k hlt
      rw [HED.out] at hsnd
      obtain ⟨⟨a1, a2⟩, ⟨a3, a4⟩, -, ⟨a5, a6⟩, ⟨a7, a8⟩, -, a9⟩ := hsnd
      obtain ⟨f, hf⟩ := Int.eq_ofNat_of_zero_le a1
      obtain ⟨fp, hfp⟩ := Int.eq_ofNat_of_zero_le a3
      obtain ⟨t, ht⟩ := Int.eq_ofNat_of_zero_le a5
      obtain ⟨tp, htp⟩ := Int.eq_ofNat_of_zero_le a7
      have hto := HS.out.to_edge hlt
      have hfrom := HS.out.from_edge hlt
      rw [HED.out, hf, hfp] at hto
      rw [HED.out, ht, htp] at hfrom
      rw [hf, hfp, Int.toNat_natCast] at a4
      rw [ht, htp, Int.toNat_natCast] at a8
      rw [hf] at a2
      rw [ht] at a6
      simp only [Int.toNat_natCast] at hto hfrom
      have HTO := Lib.hid hto
      have HFROM := Lib.hid hfrom
      have HA2 := Lib.hid (show f < g.actors.length by omega)
      have HA6 := Lib.hid (show t < g.actors.length by omega)
      have HA4 := Lib.hid (show fp < (ratesO g f).length by omega)
      have HA8 := Lib.hid (show tp < (ratesI g t).length by omega)
      have HA9 := Lib.hid a9
      have HF1 := Lib.hid hf
      have HF2 := Lib.hid hfp
      have HF3 := Lib.hid ht
      have HF4 := Lib.hid htp
      clear a1 a2 a3 a4 a5 a6 a7 a8 a9 hf hfp ht htp hto hfrom
      refine wp_region_mid (fun w' => w'.cell? ⟨b1, off1 + k, none⟩ = some (.int .i64 C) ∧ w'.cell? ⟨Y, 4, none⟩ = some (.slice sa ed.start.length sc)) [0, 1, 2, 3, 4, 5] 6 [7, 8, 9] [6, 10] 2 (by kernel_rfl) (by kernel_rfl) rfl ⟨hck2, y4⟩ ?_
      intro Q' hQ'
      simp only [pickOps, List.flatMap_cons, List.flatMap_nil, List.drop_succ_cons, List.drop_zero, List.take_succ_cons, List.take_zero, List.cons_append, List.nil_append, List.append_nil]
      repeat (first
       | (refine wpReads_skip (by rfl) ?_; (try simp only [Act.put, List.setIfInBounds_toArray, List.set_cons_zero, List.set_cons_succ]))
       | (refine wpReads_cons ?_ (by rfl) (by rfl) ?_ ?_; rotate_left; (intro wz hz; (try dsimp only at hz); go_simp; try with_reducible rfl); (try simp only [Act.put, List.setIfInBounds_toArray, List.set_cons_zero, List.set_cons_succ]))
       | (refine wpReads_any ?_ (by rfl) ?_ ?_; rotate_left; (intro wz; go_simp; try with_reducible rfl); (try simp only [Act.put, List.setIfInBounds_toArray, List.set_cons_zero, List.set_cons_succ])))
      refine wpReads_nil ?_
      go_wp2_with fail
      have hst2 := HST.out.below HNy.out.kept.below.drew
      obtain ⟨hnone, hnews⟩ := Vals.news hst2
      refine (iq_new_yes _ C sa sc ed.start HC1.out HC2.out hnone hnews (by have := HA9.out; omega)).mono ?_
      clear hst2 hnone hnews
      rintro e wq ⟨qb, r, rfl, hbq, hIQ⟩
      have HNd := (HNy.out.turn ((Turn.refl qy (fun _ => False) wy).drew) (fun h => h) (fun h => h) (fun _ h => h.elim))
      have hYd := HY.out.turn ((Turn.refl qy (fun _ => False) wy).drew) (fun h => h)
      obtain ⟨Tq, hQA⟩ := queue_col qy (R + 4000 + k) hbq hIQ HA9.out
      have HNq := HNd.turn Tq (fun h => h) (fun h => h) (fun _ h => h.elim)
      have hYq := hYd.turn Tq (fun h => h)
      have hck3 := cell_later hbq hck2
      have y4q := hYq.cell 4 _ rfl
      have Tz := Turn.of_below (ext qy wy.drew.heap.size (R + 4000 + k)) (R + 6003) (below_alloc wq (.cells #[.pointer (some ⟨qb, 0, none⟩)] 112))
      have hZ := blk_new (w := wq) (ext qy wy.drew.heap.size (R + 4000 + k)) (R + 6003) #[.pointer (some ⟨qb, 0, none⟩)] 112
      have HZZ := Lib.hid hZ
      have HQA := Lib.hid (hQA.turn Tz (fun h => h))
      have HYq := Lib.hid (hYq.turn Tz (fun h => h))
      replace HNq := Lib.hid (HNq.turn Tz (fun h => h) (fun h => h) (fun _ h => h.elim))
      generalize ext (ext qy wy.drew.heap.size (R + 4000 + k)) wq.heap.size (R + 6003) = qz at *
      have HCK3 := Lib.hid hck3
      have HY4Q := Lib.hid y4q
      clear Tq hQA hYq hYd HNd hZ Tz hIQ hbq HY HNy hck2 y4 hck3 y4q
      go_wp2
      refine ⟨⟨HCK3.out, HY4Q.out⟩, ?_⟩
      repeat (first
       | (refine wpReads_skip (by rfl) ?_; (try simp only [Act.put, List.setIfInBounds_toArray, List.set_cons_zero, List.set_cons_succ]))
       | (refine wpReads_cons ?_ (by rfl) (by rfl) ?_ ?_; rotate_left; (intro wz hz; (try dsimp only at hz); go_simp; try with_reducible rfl); (try simp only [Act.put, List.setIfInBounds_toArray, List.set_cons_zero, List.set_cons_succ]))
       | (refine wpReads_any ?_ (by rfl) ?_ ?_; rotate_left; (intro wz; go_simp; try with_reducible rfl); (try simp only [Act.put, List.setIfInBounds_toArray, List.set_cons_zero, List.set_cons_succ])))
      refine wpReads_nil ?_
      refine wpAnyT_one (i := 10) (by kernel_rfl) ?_
      simp only [pickOps, List.flatMap_cons, List.flatMap_nil, List.drop_succ_cons, List.drop_zero, List.take_succ_cons, List.take_zero, List.append_nil]
      go_wp2
      refine ⟨by intros; exact ⟨HCK3.out, HY4Q.out⟩, ?_⟩
      refine wpAnyT_list (ks := [11]) (fun _ _ hx h => ⟨hx.cell h.1, hx.cell h.2⟩) (by kernel_rfl) ?_
      simp only [pickOps, List.flatMap_cons, List.flatMap_nil, List.drop_succ_cons, List.drop_zero, List.take_succ_cons, List.take_zero, List.append_nil]
      clear HCK3 HY4Q
      go_wp2_with fail
      obtain ⟨wz, hwz⟩ : ∃ x, wq.alloc (.cells #[.pointer (some ⟨qb, 0, none⟩)] 112) = x := ⟨_, rfl⟩
      obtain ⟨Z, hZe⟩ : ∃ x, wq.heap.size = x := ⟨_, rfl⟩
      rw [hwz] at HZZ HQA HYq HNq ⊢
      rw [hZe] at HZZ ⊢
      clear hwz hZe
      have hrb := HNq.out.half.blk
      unfold rigV at hrb
      have c1 := hrb.cell 1 _ rfl
      change wz.cell? _ = some v.edges at c1
      have z0 := HZZ.out.cell 0 _ rfl
      have hown := HNq.out.half.edges
      obtain ⟨ea, eec, hea⟩ := hown.slice
      rw [hea] at c1
      obtain ⟨i0, hi, hz0, hz1, hz2⟩ := info_parts info_chan
      have HI := Lib.hid hi
      have HEA := Lib.hid hea
      clear hrb hown hea hi
      refine wp_region_lex (fun w' => w'.cell? ⟨b, 1, none⟩ = some (.slice ea k eec) ∧ w'.cell? ⟨Z, 0, none⟩ = some (.pointer (some ⟨qb, 0, none⟩))) [0, 1, 2, 3, 4, 5] [6, 7, 8, 9, 10] (by kernel_rfl) (by kernel_rfl) rfl (fun _ _ hx h => ⟨hx.cell h.1, hx.cell h.2⟩) ⟨c1, z0⟩ ?_
      intro Q' hQ'
      simp only [pickOps, List.flatMap_cons, List.flatMap_nil, List.drop_succ_cons, List.drop_zero, List.take_succ_cons, List.take_zero, List.cons_append, List.nil_append, List.append_nil]
      repeat (first
       | (refine wpReads_skip (by rfl) ?_; (try simp only [Act.put, List.setIfInBounds_toArray, List.set_cons_zero, List.set_cons_succ]))
       | (refine wpReads_cons ?_ (by rfl) (by rfl) ?_ ?_; rotate_left; (intro wz hz; (try dsimp only at hz); go_simp; try with_reducible rfl); (try simp only [Act.put, List.setIfInBounds_toArray, List.set_cons_zero, List.set_cons_succ]))
       | (refine wpReads_any ?_ (by rfl) ?_ ?_; rotate_left; (intro wz; go_simp; try with_reducible rfl); (try simp only [Act.put, List.setIfInBounds_toArray, List.set_cons_zero, List.set_cons_succ])))
      refine wpReads_nil ?_
      have hbn := below_alloc wz.drew (.cells #[.pointer (some ⟨qb, 0, none⟩)] 112)
      have T0 : Turn qz qz (fun _ => False) wz wz.drew := (Turn.refl qz _ wz).drew
      have Tn := T0.trans (Turn.of_below qz (R + 6003) hbn) (fun _ h => h)
      have HNn := Lib.hid (HNq.out.turn Tn (fun h => h) (fun h => h) (fun _ h => h.elim))
      have HQn := Lib.hid (HQA.out.turn Tn (fun h => h))
      have HYn := Lib.hid (HYq.out.turn Tn (fun h => h))
      have HZn := Lib.hid (HZZ.out.turn Tn (fun h => h))
      have e1 := HNn.out.half.blk.cell 1 v.edges (by simp [rigV])
      generalize ext qz wz.drew.heap.size (R + 6003) = qn at *
      clear hbn T0 Tn HNq HQA HYq HZZ c1 z0
      go_wp2_with (at_builtin; refine stop_here ?_)
      refine go_on ?_
      refine wpList_app rfl _ _ 88 rfl 0 112 i0 _ 1 8 Tryz.underlying88 HI.out hz0 hz1 hz2 rfl (.slice ea k eec) k ((List.range k).map fun d => ptrV (qs d)) rfl (by have := HNn.out.half.edges.1; rw [HEA.out] at this; exact this) (some ⟨wz.drew.heap.size, 0, none⟩) 1 1 [.pointer (some ⟨qb, 0, none⟩)] rfl rfl (fun h => by cases h) (news_alloc wz.drew [.pointer (some ⟨qb, 0, none⟩)] 112) (by simp [Value.oneCell']) (by have := HF.out.2.1; unfold maxLen; omega) (grow_ok (by have := HF.out.2.1; omega)) (Nat.zero_le _) ?_
      intro v7 w7 k1 k20 _ k4
      change (wz.drew.alloc (.cells #[.pointer (some ⟨qb, 0, none⟩)] 112)).grownBy w7 _ at k20
      rw [← HEA.out] at k20 k4
      obtain ⟨T7, O7⟩ := own_app HNn.out.half.edges k1 k20 k4
      obtain ⟨sp7, cp7, rfl⟩ := O7.slice
      have hN7 := HNn.out.half.blk.turn T7 (by omega)
      have e0 := hN7.cell 1 v.edges (by simp [rigV])
      have g0 := hN7.frozen 1
      obtain ⟨hB0, S0⟩ := hN7.set 1 (.slice sp7 (k + 1) cp7)
      have hBr : Blk (w7.setCell ⟨b, 1, none⟩ (.slice sp7 (k + 1) cp7)) (ext qn (wz.drew.alloc (.cells #[.pointer (some ⟨qb, 0, none⟩)] 112)).heap.size (R + 2)) R b 91 (rigV ⟨newRig g, none⟩ { v with edges := .slice sp7 (k + 1) cp7 }).toArray := hB0
      have TT := (T7.mono (D := fun c => c = R ∨ c = R + 2) (fun c h => .inr h)).trans (S0.mono (D := fun c => c = R ∨ c = R + 2) (fun c h => .inl h)) (fun _ h => h)
      have hQ8 := HQn.out.turn TT (by omega)
      rw [← HCD.out, ← HEE.out] at hQ8
      have hN8 := NewAt.mk (HNn.out.kept.turn TT (by omega)) (HNn.out.graph.turn TT (by omega)) (HNn.out.half.addEdge hlt TT hBr (O7.turn S0 (by omega)) hQ8)
      have hY8 := HYn.out.turn TT (by omega)
      have hZ8 := HZn.out.turn TT (by omega)
      obtain ⟨v8, hv8⟩ : ∃ x, ({ v with edges := .slice sp7 (k + 1) cp7 } : RVals) = x := ⟨_, rfl⟩
      rw [hv8] at hN8
      have HN8 := Lib.hid hN8
      have HY8 := Lib.hid hY8
      have HZ8 := Lib.hid hZ8
      generalize ext qn (wz.drew.alloc (.cells #[.pointer (some ⟨qb, 0, none⟩)] 112)).heap.size (R + 2) = q8 at *
      clear hBr TT hQ8 hN8 hY8 hZ8 hv8 hB0 S0 hN7 T7 O7 k1 k20 k4 HNn HQn HYn HZn e1
      go_wp2_with fail
      obtain ⟨w8, hw8⟩ : ∃ x, w7.setCell ⟨b, 1, none⟩ (.slice sp7 (k + 1) cp7) = x := ⟨_, rfl⟩
      rw [hw8] at HN8 HY8 HZ8 ⊢
      clear hw8 e0 g0
      have hrb := HN8.out.half.blk
      have c0 := hrb.cell 0 v8.tasks (by simp [rigV])
      have hVt := HN8.out.half.tasks.vals
      obtain ⟨ta, tc, hta⟩ := hVt.slice
      simp only [List.length_map, List.length_range] at hta
      rw [hta] at c0 hVt
      obtain ⟨tg, toff, rfl, -, htc, -, -, hcells⟩ := hVt.at (by have := HA2.out; simp; omega)
      have tf : w8.cell? ⟨tg, toff + f, none⟩ = some (.pointer (some ⟨v8.tb f, 0, none⟩)) := by
       rw [hcells f (by have := HA2.out; simp; omega)]
       simp [HA2.out, ptrV]
      have tt : w8.cell? ⟨tg, toff + t, none⟩ = some (.pointer (some ⟨v8.tb t, 0, none⟩)) := by
       rw [hcells t (by have := HA6.out; simp; omega)]
       simp [HA6.out, ptrV]
      have hTf := HN8.out.half.task f HA2.out
      have hTt := HN8.out.half.task t HA6.out
      obtain ⟨gd, hgd, hD⟩ := hTf.dst
      obtain ⟨gs, hgs, hS⟩ := hTt.src
      have d2 := hTf.blk.cell 2 (v8.tv f).dst (by simp [taskV])
      have d1 := hTt.blk.cell 1 (v8.tv t).src (by simp [taskV])
      rw [hgd] at d2
      rw [hgs] at d1
      have y0 := HY8.out.cell 0 _ rfl
      have y1 := HY8.out.cell 1 _ rfl
      have y2 := HY8.out.cell 2 _ rfl
      have y3 := HY8.out.cell 3 _ rfl
      change w8.cell? _ = some (.int .i64 ed.src) at y0
      change w8.cell? _ = some (.int .i64 ed.sport) at y1
      change w8.cell? _ = some (.int .i64 ed.dst) at y2
      change w8.cell? _ = some (.int .i64 ed.dport) at y3
      rw [HF1.out] at y0
      rw [HF2.out] at y1
      rw [HF3.out] at y2
      rw [HF4.out] at y3
      have z0 := HZ8.out.cell 0 _ rfl
      change w8.cell? _ = some (.pointer (some ⟨qb, 0, none⟩)) at z0
      have HNd := Lib.hid (HN8.out.turn ((Turn.refl q8 (fun _ => False) w8).drew) (fun h => h) (fun h => h) (fun _ h => h.elim))
      obtain ⟨L1, S1⟩ := HNd.out.half.linkTo (t := f) (p := fp) (gd := gd) HA2.out HTO.out (by omega) hgd
      have hdv : dstV (upd qs k qb) g f fp = .iface 112 (.agg #[.pointer (some ⟨qb, 0, none⟩)]) := by
       unfold dstV
       rw [HTO.out, if_pos hlt, upd_same]
      have hsv : srcV (upd qs k qb) g t tp = .iface 112 (.agg #[.pointer (some ⟨qb, 0, none⟩)]) := by
       unfold srcV
       rw [HFROM.out, upd_same]
      rw [hdv] at L1 S1
      obtain ⟨L2, S2⟩ := L1.linkFrom (t := t) (q := tp) (gs := gs) HA6.out HFROM.out (by omega) hgs
      rw [hsv] at L2 S2
      have hLf := HF.out.1
      have hff := HA2.out
      have htt := HA6.out
      have HNEW := Lib.hid (NewAt.mk ((HNd.out.kept.turn S1 (by omega)).turn S2 (by omega)) ((HNd.out.graph.turn S1 (by omega)).turn S2 (by omega)) L2)
      obtain ⟨x0, hx0⟩ : ∃ x, (toS (upd qs k qb) g f k)[fp]? = some x := ⟨_, List.getElem?_eq_getElem (by rw [toS_len]; exact HA4.out)⟩
      have u0 := hD.cell fp x0 (by simpa using hx0)
      have g0 := hD.frozen fp
      obtain ⟨gs2, e2, hS2⟩ := (L1.task t HA6.out).src
      rw [hgs] at e2
      cases e2
      obtain ⟨x1, hx1⟩ : ∃ x, (fromS (upd qs k qb) g t k)[tp]? = some x := ⟨_, List.getElem?_eq_getElem (by rw [fromS_len]; exact HA8.out)⟩
      have u1 := hS2.cell tp x1 (by simpa using hx1)
      have g1 := hS2.frozen tp
      change (w8.setCell ⟨gd, fp, none⟩ (.iface 112 (.agg #[.pointer (some ⟨qb, 0, none⟩)]))).cell? _ = _ at u1
      change (w8.setCell ⟨gd, fp, none⟩ (.iface 112 (.agg #[.pointer (some ⟨qb, 0, none⟩)]))).frozen? _ = _ at g1
      have hpos : ∀ c ∈ caps.take (k + 1), 0 ≤ c := by
       intro c hc
       obtain ⟨i, hi, rfl⟩ := List.mem_take_iff_getElem.1 hc
       by_cases hik : i < k
       ·
        exact HPOS.out _ (List.mem_take_iff_getElem.2 ⟨i, by omega, rfl⟩)
       ·
        obtain rfl : i = k := by omega
        have e := HCC.out
        rw [List.getElem?_eq_getElem HKL.out] at e
        have e' : C = caps[i] := e.symm
        exact e' ▸ HC1.out
      have HPOS2 := Lib.hid hpos
      obtain ⟨bf, hbf⟩ : ∃ x, v8.tb f = x := ⟨_, rfl⟩
      obtain ⟨bt, hbt⟩ : ∃ x, v8.tb t = x := ⟨_, rfl⟩
      obtain ⟨nf, hnf⟩ : ∃ x, (ratesO g f).length = x := ⟨_, rfl⟩
      obtain ⟨nt, hnt⟩ : ∃ x, (ratesI g t).length = x := ⟨_, rfl⟩
      rw [hbf] at tf d2
      rw [hbt] at tt d1
      rw [hnf] at d2
      rw [hnt] at d1
      have q1 : (fp : Int) < nf := by have := HA4.out; omega
      have q2 : (tp : Int) < nt := by have := HA8.out; omega
      have q3 : (f : Int) < g.actors.length := by omega
      have q4 : (t : Int) < g.actors.length := by omega
      have q5 : (g.actors.length : Int) ≤ tc := by omega
      have hLe := HF.out.2.1
      have hTg : q8 tg = R + 1 := by
       obtain ⟨_, _, e, -, -, -, ho, -⟩ := hVt.at (by simp; omega)
       have := Option.some.inj e
       cases this
       exact ho
      have s31 : (w8.drew.setCell ⟨gd, fp, none⟩ (.iface 112 (.agg #[.pointer (some ⟨qb, 0, none⟩)]))).cell? ⟨b, 0, none⟩ = some (.slice (some ⟨tg, toff, none⟩) g.actors.length tc) ∧ (w8.drew.setCell ⟨gd, fp, none⟩ (.iface 112 (.agg #[.pointer (some ⟨qb, 0, none⟩)]))).cell? ⟨tg, toff + f, none⟩ = some (.pointer (some ⟨bf, 0, none⟩)) ∧ (w8.drew.setCell ⟨gd, fp, none⟩ (.iface 112 (.agg #[.pointer (some ⟨qb, 0, none⟩)]))).cell? ⟨bf, 2, none⟩ = some (.slice (some ⟨gd, 0, none⟩) nf nf) ∧ (w8.drew.setCell ⟨gd, fp, none⟩ (.iface 112 (.agg #[.pointer (some ⟨qb, 0, none⟩)]))).cell? ⟨Y, 0, none⟩ = some (.int .i64 (f : Int)) ∧ (w8.drew.setCell ⟨gd, fp, none⟩ (.iface 112 (.agg #[.pointer (some ⟨qb, 0, none⟩)]))).cell? ⟨Y, 1, none⟩ = some (.int .i64 (fp : Int)) ∧ (w8.drew.setCell ⟨gd, fp, none⟩ (.iface 112 (.agg #[.pointer (some ⟨qb, 0, none⟩)]))).cell? ⟨tg, toff + t, none⟩ = some (.pointer (some ⟨bt, 0, none⟩)) ∧ (w8.drew.setCell ⟨gd, fp, none⟩ (.iface 112 (.agg #[.pointer (some ⟨qb, 0, none⟩)]))).cell? ⟨bt, 1, none⟩ = some (.slice (some ⟨gs, 0, none⟩) nt nt) ∧ (w8.drew.setCell ⟨gd, fp, none⟩ (.iface 112 (.agg #[.pointer (some ⟨qb, 0, none⟩)]))).cell? ⟨Y, 2, none⟩ = some (.int .i64 (t : Int)) ∧ (w8.drew.setCell ⟨gd, fp, none⟩ (.iface 112 (.agg #[.pointer (some ⟨qb, 0, none⟩)]))).cell? ⟨Y, 3, none⟩ = some (.int .i64 (tp : Int)) ∧ (w8.drew.setCell ⟨gd, fp, none⟩ (.iface 112 (.agg #[.pointer (some ⟨qb, 0, none⟩)]))).cell? ⟨Z, 0, none⟩ = some (.pointer (some ⟨qb, 0, none⟩)) := by
       have kb := hrb.2
       have kY := HY8.out.2
       have kZ := HZ8.out.2
       have kf := hTf.blk.2
       have kt := hTt.blk.2
       rw [hbf] at kf
       rw [hbt] at kt
       exact ⟨S1.cell c0 (by show ¬ (q8 b = _); omega), S1.cell tf (by show ¬ (q8 tg = _); omega), S1.cell d2 (by show ¬ (q8 bf = _); omega), S1.cell y0 (by show ¬ (q8 Y = _); omega), S1.cell y1 (by show ¬ (q8 Y = _); omega), S1.cell tt (by show ¬ (q8 tg = _); omega), S1.cell d1 (by show ¬ (q8 bt = _); omega), S1.cell y2 (by show ¬ (q8 Y = _); omega), S1.cell y3 (by show ¬ (q8 Y = _); omega), S1.cell z0 (by show ¬ (q8 Z = _); omega)⟩
      have HS31 := Lib.hid s31
      clear s31 hTg hrb hVt hta htc hcells hTf hTt hgd hD hgs hS hdv hsv L1 S1 L2 S2 hS2 hx0 hx1 hpos hbf hbt hnf hnt hff htt HNd HN8 HY8 HZ8
      refine wp_region_lex1 (fun w' => w'.cell? ⟨b, 0, none⟩ = some (.slice (some ⟨tg, toff, none⟩) g.actors.length tc) ∧ w'.cell? ⟨tg, toff + f, none⟩ = some (.pointer (some ⟨bf, 0, none⟩)) ∧ w'.cell? ⟨bf, 2, none⟩ = some (.slice (some ⟨gd, 0, none⟩) nf nf) ∧ w'.cell? ⟨Y, 0, none⟩ = some (.int .i64 (f : Int)) ∧ w'.cell? ⟨Y, 1, none⟩ = some (.int .i64 (fp : Int)) ∧ w'.cell? ⟨tg, toff + t, none⟩ = some (.pointer (some ⟨bt, 0, none⟩)) ∧ w'.cell? ⟨bt, 1, none⟩ = some (.slice (some ⟨gs, 0, none⟩) nt nt) ∧ w'.cell? ⟨Y, 2, none⟩ = some (.int .i64 (t : Int)) ∧ w'.cell? ⟨Y, 3, none⟩ = some (.int .i64 (tp : Int)) ∧ w'.cell? ⟨Z, 0, none⟩ = some (.pointer (some ⟨qb, 0, none⟩)))
       [0, 1, 2, 3, 4, 5, 6, 7, 8, 9, 10, 11, 12, 13, 14, 15, 16, 17, 18, 19, 20, 21, 22, 23, 24, 25, 26, 27, 28, 29, 30] [] 31 [32, 33] (by kernel_rfl) (by kernel_rfl) (by kernel_rfl) rfl (fun _ _ hx h => ⟨hx.cell h.1, hx.cell h.2.1, hx.cell h.2.2.1, hx.cell h.2.2.2.1, hx.cell h.2.2.2.2.1, hx.cell h.2.2.2.2.2.1, hx.cell h.2.2.2.2.2.2.1, hx.cell h.2.2.2.2.2.2.2.1, hx.cell h.2.2.2.2.2.2.2.2.1, hx.cell h.2.2.2.2.2.2.2.2.2⟩) ⟨c0, tf, d2, y0, y1, tt, d1, y2, y3, z0⟩ ?_
      intro Q' hQ'
      simp only [pickOps, List.flatMap_cons, List.flatMap_nil, List.drop_succ_cons, List.drop_zero, List.take_succ_cons, List.take_zero, List.cons_append, List.nil_append, List.append_nil]
      repeat (first
       | (refine wpReads_skip (by rfl) ?_; (try simp only [Act.put, List.setIfInBounds_toArray, List.set_cons_zero, List.set_cons_succ]))
       | (refine wpReads_cons ?_ (by rfl) (by rfl) ?_ ?_; rotate_left; (intro wz hz; (try dsimp only at hz); go_simp; try with_reducible rfl); (try simp only [Act.put, List.setIfInBounds_toArray, List.set_cons_zero, List.set_cons_succ]))
       | (refine wpReads_any ?_ (by rfl) ?_ ?_; rotate_left; (intro wz; go_simp; try with_reducible rfl); (try simp only [Act.put, List.setIfInBounds_toArray, List.set_cons_zero, List.set_cons_succ])))
      refine wpReads_nil ?_
      clear c0 tf d2 y0 y1 tt d1 y2 y3 z0
      go_wp2
      refine ⟨HS31.out, ?_⟩
      go_wp2
      go_roundw
      case rel => exact ⟨k + 1, _, _, _, hlt, by go_num, HNEW.out, HPOS2.out⟩
      case measure => simp [intOf]; omega
    ·
     obtain rfl : k = g.edges.length := by omega
     have hlti : ¬ ((g.edges.length : Int) < g.edges.length) := by omega
     have x3 := HN.out.graph.cell 3 _ rfl
     have hcpos : ∀ c ∈ caps, 0 ≤ c := by
      intro c hc
      refine HPOS.out c ?_
      rw [← H1.out, List.take_length]
      exact hc
     have HCP := Lib.hid hcpos
     clear hk hlt hcpos HPOS
     go_wp2_with fail
     go_loopw [169] (fun i wz => ∃ (k : Nat) (q : Col) (qs : Ptrs) (v : RVals), k ≤ g.ins.length ∧ i = .int .i64 k ∧ NewAt w wz q R b w.heap.size g caps qs g.actors.length g.edges.length k 0 (g.edges.length + k) (g.edges.length + k) v #[.string g.name, .slice aa g.actors.length ac, .slice ae g.edges.length ec, .slice ai g.ins.length ic, .slice ao g.outs.length oc]) (fun i _ => g.ins.length - (intOf i).toNat)
     case atStart => exact ⟨0, _, _, v, Nat.zero_le _, rfl, HN.out⟩
     case round =>
      clear HN x3
      obtain ⟨k, q, qs, v, hk, rfl, hN⟩ := hrel
      have HN := Lib.hid hN
      clear hN
      by_cases hlt : k < g.ins.length
      ·
       have hlti : (k : Int) < g.ins.length := by omega
       obtain ⟨b0, off, rfl, hcap, hb0, hrec⟩ := HRI.out.at (by omega)
       obtain ⟨cs, hcs, hPR, hcl⟩ := hrec k hlt
       obtain rfl := hPR
       have c0 := cell_later HN.out.kept.below (hcl 0 (by omega))
       have c1 := cell_later HN.out.kept.below (hcl 1 (by omega))
       have c2 := cell_later HN.out.kept.below (hcl 2 (by omega))
       simp at c0 c1 c2
       have hcapi : (g.ins.length : Int) ≤ ic := by omega
       obtain ⟨pt, hpt⟩ : ∃ x, g.ins[k] = x := ⟨_, rfl⟩
       have HPT := Lib.hid hpt
       rw [hpt] at c0 c1 c2
       clear hrec hcl hcs hb0 hcap hpt
       have hsnd := HS.out.ins k hlt
       rw [HPT.out] at hsnd
       obtain ⟨⟨a5, a6⟩, ⟨a7, a8⟩, -⟩ := hsnd
       obtain ⟨t, ht⟩ := Int.eq_ofNat_of_zero_le a5
       obtain ⟨tp, htp⟩ := Int.eq_ofNat_of_zero_le a7
       have hfrom := HS.out.from_in hlt
       rw [HPT.out, ht, htp] at hfrom
       rw [ht, htp, Int.toNat_natCast] at a8
       rw [ht] at a6
       simp only [Int.toNat_natCast] at hfrom
       have HFROM := Lib.hid hfrom
       have HA6 := Lib.hid (show t < g.actors.length by omega)
       have HA8 := Lib.hid (show tp < (ratesI g t).length by omega)
       have HF3 := Lib.hid ht
       have HF4 := Lib.hid htp
       clear a5 a6 a7 a8 ht htp hfrom
       have hby := below_alloc wr (.cells #[.string pt.name, .int .i64 pt.actor, .int .i64 pt.port] 118)
       have Ty := Turn.of_below q (R + 6002) hby
       have HY := Lib.hid (blk_new (w := wr) q (R + 6002) #[.string pt.name, .int .i64 pt.actor, .int .i64 pt.port] 118)
       have HNy := Lib.hid (HN.out.turn Ty (fun h => h) (fun h => h) (fun _ h => h.elim))
       generalize ext q wr.heap.size (R + 6002) = qy at *
       clear Ty hby
       go_wp2_with fail
       obtain ⟨wy, hwy⟩ : ∃ x, wr.alloc (.cells #[.string pt.name, .int .i64 pt.actor, .int .i64 pt.port] 118) = x := ⟨_, rfl⟩
       obtain ⟨Y, hYe⟩ : ∃ x, wr.heap.size = x := ⟨_, rfl⟩
       rw [hwy] at HY HNy ⊢
       rw [hYe] at HY ⊢
       clear hwy hYe HN c0 c1 c2
       refine (iq_new_yes wy 9223372036854775807 none 0 [] (by decide) (by decide) (fun _ => rfl) (fun _ h => by cases h) (by decide)).mono ?_
       rintro e wq ⟨qb, r, rfl, hbq, hIQ⟩
       obtain ⟨Tq, hQA⟩ := queue_col qy (R + 4000 + (g.edges.length + k)) hbq hIQ (by decide)
       have HQA := Lib.hid hQA
       have HYq := Lib.hid (HY.out.turn Tq (fun h => h))
       have HNq := Lib.hid (HNy.out.turn Tq (fun h => h) (fun h => h) (fun _ h => h.elim))
       generalize ext qy wy.heap.size (R + 4000 + (g.edges.length + k)) = qz at *
       have hrb := HNq.out.half.blk
       unfold rigV at hrb
       have c1 := hrb.cell 2 _ rfl
       change wq.cell? _ = some v.inputs at c1
       have hown := HNq.out.half.inputs
       obtain ⟨ea, eec, hea⟩ := hown.slice
       rw [hea] at c1
       obtain ⟨i0, hi, hz0, hz1, hz2⟩ := info_parts info_chan
       have HI := Lib.hid hi
       have HEA := Lib.hid hea
       clear Tq hQA hIQ hbq HY HNy hrb hown hea hi
       have hbn := below_alloc wq (.cells #[.pointer (some ⟨qb, 0, none⟩)] 112)
       have Tn := Turn.of_below qz (R + 6003) hbn
       have HNn := Lib.hid (HNq.out.turn Tn (fun h => h) (fun h => h) (fun _ h => h.elim))
       have HQn := Lib.hid (HQA.out.turn Tn (fun h => h))
       have HYn := Lib.hid (HYq.out.turn Tn (fun h => h))
       have e1 := HNn.out.half.blk.cell 2 v.inputs (by simp [rigV])
       generalize ext qz wq.heap.size (R + 6003) = qn at *
       clear hbn Tn HNq HQA HYq
       go_wp2_with (at_builtin; refine stop_here ?_)
       refine go_on ?_
       refine wpList_app rfl _ _ 88 rfl 0 112 i0 _ 1 8 Tryz.underlying88 HI.out hz0 hz1 hz2 rfl (.slice ea k eec) k ((List.range k).map fun d => ptrV (qs (g.edges.length + d))) rfl (by have := HNn.out.half.inputs.1; rw [HEA.out] at this; exact this) (some ⟨wq.heap.size, 0, none⟩) 1 1 [.pointer (some ⟨qb, 0, none⟩)] rfl rfl (fun h => by cases h) (news_alloc wq [.pointer (some ⟨qb, 0, none⟩)] 112) (by simp [Value.oneCell']) (by have := HF.out.2.2.1; unfold maxLen; omega) (grow_ok (by have := HF.out.2.2.1; omega)) (Nat.zero_le _) ?_
       intro v7 w7 k1 k20 _ k4
       rw [← HEA.out] at k20 k4
       obtain ⟨T7, O7⟩ := own_app HNn.out.half.inputs k1 k20 k4
       obtain ⟨sp7, cp7, rfl⟩ := O7.slice
       have hN7 := HNn.out.half.blk.turn T7 (by omega)
       have e0 := hN7.cell 2 v.inputs (by simp [rigV])
       have g0 := hN7.frozen 2
       obtain ⟨hB0, S0⟩ := hN7.set 2 (.slice sp7 (k + 1) cp7)
       have hBr : Blk (w7.setCell ⟨b, 2, none⟩ (.slice sp7 (k + 1) cp7)) (ext qn (wq.alloc (.cells #[.pointer (some ⟨qb, 0, none⟩)] 112)).heap.size (R + 3)) R b 91 (rigV ⟨newRig g, none⟩ { v with inputs := .slice sp7 (k + 1) cp7 }).toArray := hB0
       have TT := (T7.mono (D := fun c => c = R ∨ c = R + 3) (fun c h => .inr h)).trans (S0.mono (D := fun c => c = R ∨ c = R + 3) (fun c h => .inl h)) (fun _ h => h)
       have hQ8 := HQn.out.turn TT (by omega)
       have hcD : capD caps (g.edges.length + k) = 9223372036854775807 := by
        unfold capD
        rw [List.getElem?_eq_none (by have := H1.out; omega)]
        rfl
       rw [← hcD] at hQ8
       have hN8 := NewAt.mk (HNn.out.kept.turn TT (by omega)) (HNn.out.graph.turn TT (by omega)) (HNn.out.half.addInput hlt TT hBr (O7.turn S0 (by omega)) hQ8)
       have hY8 := HYn.out.turn TT (by omega)
       obtain ⟨v8, hv8⟩ : ∃ x, ({ v with inputs := .slice sp7 (k + 1) cp7 } : RVals) = x := ⟨_, rfl⟩
       rw [hv8] at hN8
       have HN8 := Lib.hid hN8
       have HY8 := Lib.hid hY8
       generalize ext qn (wq.alloc (.cells #[.pointer (some ⟨qb, 0, none⟩)] 112)).heap.size (R + 3) = q8 at *
       clear hBr TT hQ8 hN8 hY8 hv8 hB0 S0 hN7 T7 O7 k1 k20 k4 HNn HQn HYn e1 hcD c1
       go_wp2_with fail
       obtain ⟨w8, hw8⟩ : ∃ x, w7.setCell ⟨b, 2, none⟩ (.slice sp7 (k + 1) cp7) = x := ⟨_, rfl⟩
       rw [hw8] at HN8 HY8 ⊢
       clear hw8 e0 g0
       have hrb := HN8.out.half.blk
       have c0 := hrb.cell 0 v8.tasks (by simp [rigV])
       have hVt := HN8.out.half.tasks.vals
       obtain ⟨ta, tc, hta⟩ := hVt.slice
       simp only [List.length_map, List.length_range] at hta
       rw [hta] at c0 hVt
       obtain ⟨tg, toff, rfl, -, htc, -, -, hcells⟩ := hVt.at (by have := HA6.out; simp; omega)
       have tt : w8.cell? ⟨tg, toff + t, none⟩ = some (.pointer (some ⟨v8.tb t, 0, none⟩)) := by
        rw [hcells t (by have := HA6.out; simp; omega)]
        simp [HA6.out, ptrV]
       have hTt := HN8.out.half.task t HA6.out
       obtain ⟨gs, hgs, hS⟩ := hTt.src
       have d1 := hTt.blk.cell 1 (v8.tv t).src (by simp [taskV])
       rw [hgs] at d1
       have y2 := HY8.out.cell 1 _ rfl
       have y3 := HY8.out.cell 2 _ rfl
       change w8.cell? _ = some (.int .i64 pt.actor) at y2
       change w8.cell? _ = some (.int .i64 pt.port) at y3
       rw [HF3.out] at y2
       rw [HF4.out] at y3
       have HNd := Lib.hid (HN8.out.turn ((Turn.refl q8 (fun _ => False) w8).drew) (fun h => h) (fun h => h) (fun _ h => h.elim))
       have hsv : srcV (upd qs (g.edges.length + k) qb) g t tp = .iface 112 (.agg #[.pointer (some ⟨qb, 0, none⟩)]) := by
        unfold srcV
        rw [HFROM.out, upd_same]
       obtain ⟨L2, S2⟩ := HNd.out.half.linkFrom (t := t) (q := tp) (gs := gs) HA6.out HFROM.out (by omega) hgs
       rw [hsv] at L2 S2
       have hLf := HF.out.1
       have htt := HA6.out
       have HNEW := Lib.hid (NewAt.mk (HNd.out.kept.turn S2 (by omega)) (HNd.out.graph.turn S2 (by omega)) (L2.pass (n := k) (m := k + 1) HS.out (by omega) (by omega)))
       obtain ⟨x1, hx1⟩ : ∃ x, (fromS (upd qs (g.edges.length + k) qb) g t (g.edges.length + k))[tp]? = some x := ⟨_, List.getElem?_eq_getElem (by rw [fromS_len]; exact HA8.out)⟩
       have u1 := hS.cell tp x1 (by simpa using hx1)
       have g1 := hS.frozen tp
       obtain ⟨bt, hbt⟩ : ∃ x, v8.tb t = x := ⟨_, rfl⟩
       obtain ⟨nt, hnt⟩ : ∃ x, (ratesI g t).length = x := ⟨_, rfl⟩
       rw [hbt] at tt d1
       rw [hnt] at d1
       have q2 : (tp : Int) < nt := by have := HA8.out; omega
       have q4 : (t : Int) < g.actors.length := by omega
       have q5 : (g.actors.length : Int) ≤ tc := by omega
       have hLe := HF.out.2.2.1
       clear hrb hVt hta htc hcells hTt hgs hS hsv L2 S2 hx1 hbt hnt htt HNd HN8 HY8
       refine wp_region_lex (fun w' => w'.cell? ⟨b, 0, none⟩ = some (.slice (some ⟨tg, toff, none⟩) g.actors.length tc) ∧ w'.cell? ⟨tg, toff + t, none⟩ = some (.pointer (some ⟨bt, 0, none⟩)) ∧ w'.cell? ⟨bt, 1, none⟩ = some (.slice (some ⟨gs, 0, none⟩) nt nt) ∧ w'.cell? ⟨Y, 1, none⟩ = some (.int .i64 (t : Int)) ∧ w'.cell? ⟨Y, 2, none⟩ = some (.int .i64 (tp : Int)))
        [0, 1, 2, 3, 4, 5, 6, 7, 8, 9, 10, 11, 12, 13, 14, 15] [16, 17] (by kernel_rfl) (by kernel_rfl) rfl (fun _ _ hx h => ⟨hx.cell h.1, hx.cell h.2.1, hx.cell h.2.2.1, hx.cell h.2.2.2.1, hx.cell h.2.2.2.2⟩) ⟨c0, tt, d1, y2, y3⟩ ?_
       intro Q' hQ'
       simp only [pickOps, List.flatMap_cons, List.flatMap_nil, List.drop_succ_cons, List.drop_zero, List.take_succ_cons, List.take_zero, List.cons_append, List.nil_append, List.append_nil]
       repeat (first
        | (refine wpReads_skip (by rfl) ?_; (try simp only [Act.put, List.setIfInBounds_toArray, List.set_cons_zero, List.set_cons_succ]))
        | (refine wpReads_cons ?_ (by rfl) (by rfl) ?_ ?_; rotate_left; (intro wz hz; (try dsimp only at hz); go_simp; try with_reducible rfl); (try simp only [Act.put, List.setIfInBounds_toArray, List.set_cons_zero, List.set_cons_succ]))
        | (refine wpReads_any ?_ (by rfl) ?_ ?_; rotate_left; (intro wz; go_simp; try with_reducible rfl); (try simp only [Act.put, List.setIfInBounds_toArray, List.set_cons_zero, List.set_cons_succ])))
       refine wpReads_nil ?_
       clear c0 tt d1 y2 y3
       go_wp2
       go_roundw
       case rel => exact ⟨k + 1, _, _, _, hlt, by go_num, HNEW.out⟩
       case measure => simp [intOf]; omega
      ·
       obtain rfl : k = g.ins.length := by omega
       have hlti : ¬ ((g.ins.length : Int) < g.ins.length) := by omega
       have x4 := HN.out.graph.cell 4 _ rfl
       clear hk hlt
       go_wp2_with fail
       go_loopw [209] (fun i wz => ∃ (k : Nat) (q : Col) (qs : Ptrs) (v : RVals), k ≤ g.outs.length ∧ i = .int .i64 k ∧ NewAt w wz q R b w.heap.size g caps qs g.actors.length g.edges.length g.ins.length k (g.edges.length + g.ins.length) (g.edges.length + g.ins.length + k) v #[.string g.name, .slice aa g.actors.length ac, .slice ae g.edges.length ec, .slice ai g.ins.length ic, .slice ao g.outs.length oc]) (fun i _ => g.outs.length - (intOf i).toNat)
       case atStart => exact ⟨0, _, _, v, Nat.zero_le _, rfl, HN.out⟩
       case round =>
        clear HN x4
        obtain ⟨k, q, qs, v, hk, rfl, hN⟩ := hrel
        have HN := Lib.hid hN
        clear hN
        by_cases hlt : k < g.outs.length
        ·
         have hlti : (k : Int) < g.outs.length := by omega
         obtain ⟨b0, off, rfl, hcap, hb0, hrec⟩ := HRO.out.at (by omega)
         obtain ⟨cs, hcs, hPR, hcl⟩ := hrec k hlt
         obtain rfl := hPR
         have c0 := cell_later HN.out.kept.below (hcl 0 (by omega))
         have c1 := cell_later HN.out.kept.below (hcl 1 (by omega))
         have c2 := cell_later HN.out.kept.below (hcl 2 (by omega))
         simp at c0 c1 c2
         have hcapi : (g.outs.length : Int) ≤ oc := by omega
         obtain ⟨pt, hpt⟩ : ∃ x, g.outs[k] = x := ⟨_, rfl⟩
         have HPT := Lib.hid hpt
         rw [hpt] at c0 c1 c2
         clear hrec hcl hcs hb0 hcap hpt
         have hsnd := HS.out.outs k hlt
         rw [HPT.out] at hsnd
         obtain ⟨⟨a5, a6⟩, ⟨a7, a8⟩, -⟩ := hsnd
         obtain ⟨t, ht⟩ := Int.eq_ofNat_of_zero_le a5
         obtain ⟨tp, htp⟩ := Int.eq_ofNat_of_zero_le a7
         have hto := HS.out.to_out hlt
         rw [HPT.out, ht, htp] at hto
         rw [ht, htp, Int.toNat_natCast] at a8
         rw [ht] at a6
         simp only [Int.toNat_natCast] at hto
         have HTO := Lib.hid hto
         have HA6 := Lib.hid (show t < g.actors.length by omega)
         have HA8 := Lib.hid (show tp < (ratesO g t).length by omega)
         have HF3 := Lib.hid ht
         have HF4 := Lib.hid htp
         clear a5 a6 a7 a8 ht htp hto
         have hby := below_alloc wr (.cells #[.string pt.name, .int .i64 pt.actor, .int .i64 pt.port] 118)
         have Ty := Turn.of_below q (R + 6002) hby
         have hY := blk_new (w := wr) q (R + 6002) #[.string pt.name, .int .i64 pt.actor, .int .i64 pt.port] 118
         have hNy := HN.out.turn Ty (fun h => h) (fun h => h) (fun _ h => h.elim)
         generalize ext q wr.heap.size (R + 6002) = qy at *
         obtain ⟨Y, hYe⟩ : ∃ x, wr.heap.size = x := ⟨_, rfl⟩
         have hsz : (wr.alloc (.cells #[.string pt.name, .int .i64 pt.actor, .int .i64 pt.port] 118)).heap.size = Y + 1 := by rw [World.size_alloc, hYe]
         rw [hYe] at hY
         have hYE := Lib.hid hYe
         obtain ⟨wy, hwy⟩ : ∃ x, wr.alloc (.cells #[.string pt.name, .int .i64 pt.actor, .int .i64 pt.port] 118) = x := ⟨_, rfl⟩
         rw [hwy] at hY hNy hsz
         have Tt := Turn.of_below qy (R + 4000 + (g.edges.length + g.ins.length + k)) (below_alloc wy (.cells #[.slice none 0 0] 121))
         have hT := blk_new (w := wy) qy (R + 4000 + (g.edges.length + g.ins.length + k)) #[.slice none 0 0] 121
         rw [hsz] at hT Tt
         have HTq := Lib.hid hT
         have HYq := Lib.hid (hY.turn Tt (fun h => h))
         have HNq := Lib.hid (hNy.turn Tt (fun h => h) (fun h => h) (fun _ h => h.elim))
         rw [← hwy] at HTq HYq HNq
         generalize ext qy (Y + 1) (R + 4000 + (g.edges.length + g.ins.length + k)) = qz at *
         have hrb := HNq.out.half.blk
         unfold rigV at hrb
         have c3 := hrb.cell 3 _ rfl
         change World.cell? _ _ = some v.tapes at c3
         have hown := HNq.out.half.tapes
         obtain ⟨ea, eec, hea⟩ := hown.slice
         rw [hea] at c3
         obtain ⟨i0, hi, hz0, hz1, hz2⟩ := info_parts info_ptape
         have HI := Lib.hid hi
         have HEA := Lib.hid hea
         clear Ty Tt hT hY hNy hsz hby hrb hown hea hi hwy HN
         have hbn := below_alloc ((wr.alloc (.cells #[.string pt.name, .int .i64 pt.actor, .int .i64 pt.port] 118)).alloc (.cells #[.slice none 0 0] 121)) (.cells #[.pointer (some ⟨Y + 1, 0, none⟩)] 119)
         have Tn := Turn.of_below qz (R + 6003) hbn
         have HNn := Lib.hid (HNq.out.turn Tn (fun h => h) (fun h => h) (fun _ h => h.elim))
         have HTn := Lib.hid (HTq.out.turn Tn (fun h => h))
         have HYn := Lib.hid (HYq.out.turn Tn (fun h => h))
         have e1 := HNn.out.half.blk.cell 3 v.tapes (by simp [rigV])
         generalize ext qz _ (R + 6003) = qn at *
         clear hbn Tn HNq HTq HYq
         subst hYe
         go_wp2_with (at_builtin; refine stop_here ?_)
         refine go_on ?_
         obtain ⟨wt, hwt⟩ : ∃ x, (wr.alloc (.cells #[.string pt.name, .int .i64 pt.actor, .int .i64 pt.port] 118)).alloc (.cells #[.slice none 0 0] 121) = x := ⟨_, rfl⟩
         have hts : wt.heap.size = wr.heap.size + 2 := by rw [← hwt]; simp
         have hna := news_at (w := wt) (n := wr.heap.size + 2) hts.symm [.pointer (some ⟨wr.heap.size + 1, 0, none⟩)] 119
         obtain ⟨Y, hYe⟩ : ∃ x, wr.heap.size = x := ⟨_, rfl⟩
         rw [hwt] at HNn HTn HYn c3 e1 ⊢
         rw [hYe] at HNn HTn HYn e1 hna hts ⊢
         clear hwt hYe c3 c0 c1 c2
         refine wpList_app rfl _ _ 89 rfl 0 119 i0 _ 1 8 Tryz.underlying89 HI.out hz0 hz1 hz2 rfl (.slice ea k eec) k ((List.range k).map fun d => ptrV (qs (g.edges.length + g.ins.length + d))) rfl (by have := HNn.out.half.tapes.1; rw [HEA.out] at this; exact this) (some ⟨Y + 2, 0, none⟩) 1 1 [.pointer (some ⟨Y + 1, 0, none⟩)] rfl rfl (fun h => by cases h) hna (by simp [Value.oneCell']) (by have := HF.out.2.2.2; unfold maxLen; omega) (grow_ok (by have := HF.out.2.2.2; omega)) (Nat.zero_le _) ?_
         intro v7 w7 k1 k20 _ k4
         rw [← HEA.out] at k20 k4
         obtain ⟨T7, O7⟩ := own_app HNn.out.half.tapes k1 k20 k4
         obtain ⟨sp7, cp7, rfl⟩ := O7.slice
         have hN7 := HNn.out.half.blk.turn T7 (by omega)
         have e0 := hN7.cell 3 v.tapes (by simp [rigV])
         have g0 := hN7.frozen 3
         obtain ⟨hB0, S0⟩ := hN7.set 3 (.slice sp7 (k + 1) cp7)
         have hBr : Blk (w7.setCell ⟨b, 3, none⟩ (.slice sp7 (k + 1) cp7)) (ext qn (wt.alloc (.cells #[.pointer (some ⟨Y + 1, 0, none⟩)] 119)).heap.size (R + 4)) R b 91 (rigV ⟨newRig g, none⟩ { v with tapes := .slice sp7 (k + 1) cp7 }).toArray := hB0
         have TT := (T7.mono (D := fun c => c = R ∨ c = R + 4) (fun c h => .inr h)).trans (S0.mono (D := fun c => c = R ∨ c = R + 4) (fun c h => .inl h)) (fun _ h => h)
         have hN8 := NewAt.mk (HNn.out.kept.turn TT (by omega)) (HNn.out.graph.turn TT (by omega)) (HNn.out.half.addTape hlt TT hBr (O7.turn S0 (by omega)) (HTn.out.turn TT (by omega)))
         have hY8 := HYn.out.turn TT (by omega)
         obtain ⟨v8, hv8⟩ : ∃ x, ({ v with tapes := .slice sp7 (k + 1) cp7, rows := upd v.rows (g.edges.length + g.ins.length + k) (.slice none 0 0) } : RVals) = x := ⟨_, rfl⟩
         rw [hv8] at hN8
         have HN8 := Lib.hid hN8
         have HY8 := Lib.hid hY8
         generalize ext qn (wt.alloc (.cells #[.pointer (some ⟨Y + 1, 0, none⟩)] 119)).heap.size (R + 4) = q8 at *
         clear hBr TT hN8 hY8 hv8 hB0 S0 hN7 T7 O7 k1 k20 k4 HNn HTn HYn e1 hna hts
         go_wp2_with fail
         obtain ⟨w8, hw8⟩ : ∃ x, w7.setCell ⟨b, 3, none⟩ (.slice sp7 (k + 1) cp7) = x := ⟨_, rfl⟩
         rw [hw8] at HN8 HY8 ⊢
         clear hw8 e0 g0
         have hrb := HN8.out.half.blk
         have c0 := hrb.cell 0 v8.tasks (by simp [rigV])
         have hVt := HN8.out.half.tasks.vals
         obtain ⟨ta, tc, hta⟩ := hVt.slice
         simp only [List.length_map, List.length_range] at hta
         rw [hta] at c0 hVt
         obtain ⟨tg, toff, rfl, -, htc, -, -, hcells⟩ := hVt.at (by have := HA6.out; simp; omega)
         have tt : w8.cell? ⟨tg, toff + t, none⟩ = some (.pointer (some ⟨v8.tb t, 0, none⟩)) := by
          rw [hcells t (by have := HA6.out; simp; omega)]
          simp [HA6.out, ptrV]
         have hTt := HN8.out.half.task t HA6.out
         obtain ⟨gs, hgs, hS⟩ := hTt.dst
         have d1 := hTt.blk.cell 2 (v8.tv t).dst (by simp [taskV])
         rw [hgs] at d1
         have y2 := HY8.out.cell 1 _ rfl
         have y3 := HY8.out.cell 2 _ rfl
         change w8.cell? _ = some (.int .i64 pt.actor) at y2
         change w8.cell? _ = some (.int .i64 pt.port) at y3
         rw [HF3.out] at y2
         rw [HF4.out] at y3
         have HNd := Lib.hid (HN8.out.turn ((Turn.refl q8 (fun _ => False) w8).drew) (fun h => h) (fun h => h) (fun _ h => h.elim))
         have hsv : dstV (upd qs (g.edges.length + g.ins.length + k) (Y + 1)) g t tp = .iface 119 (.pointer (some ⟨Y + 1, 0, none⟩)) := by
          unfold dstV
          rw [HTO.out, if_neg (by omega), upd_same]
         obtain ⟨L2, S2⟩ := HNd.out.half.linkTo (t := t) (p := tp) (gd := gs) HA6.out HTO.out (by omega) hgs
         rw [hsv] at L2 S2
         have hLf := HF.out.1
         have htt := HA6.out
         have HNEW := Lib.hid (NewAt.mk (HNd.out.kept.turn S2 (by omega)) (HNd.out.graph.turn S2 (by omega)) L2)
         obtain ⟨x1, hx1⟩ : ∃ x, (toS (upd qs (g.edges.length + g.ins.length + k) (Y + 1)) g t (g.edges.length + g.ins.length + k))[tp]? = some x := ⟨_, List.getElem?_eq_getElem (by rw [toS_len]; exact HA8.out)⟩
         have u1 := hS.cell tp x1 (by simpa using hx1)
         have g1 := hS.frozen tp
         obtain ⟨bt, hbt⟩ : ∃ x, v8.tb t = x := ⟨_, rfl⟩
         obtain ⟨nt, hnt⟩ : ∃ x, (ratesO g t).length = x := ⟨_, rfl⟩
         rw [hbt] at tt d1
         rw [hnt] at d1
         have q2 : (tp : Int) < nt := by have := HA8.out; omega
         have q4 : (t : Int) < g.actors.length := by omega
         have q5 : (g.actors.length : Int) ≤ tc := by omega
         have hLe := HF.out.2.2.2
         clear hrb hVt hta htc hcells hTt hgs hS hsv L2 S2 hx1 hbt hnt htt HNd HN8 HY8
         refine wp_region_lex (fun w' => w'.cell? ⟨b, 0, none⟩ = some (.slice (some ⟨tg, toff, none⟩) g.actors.length tc) ∧ w'.cell? ⟨tg, toff + t, none⟩ = some (.pointer (some ⟨bt, 0, none⟩)) ∧ w'.cell? ⟨bt, 2, none⟩ = some (.slice (some ⟨gs, 0, none⟩) nt nt) ∧ w'.cell? ⟨Y, 1, none⟩ = some (.int .i64 (t : Int)) ∧ w'.cell? ⟨Y, 2, none⟩ = some (.int .i64 (tp : Int)))
          [0, 1, 2, 3, 4, 5, 6, 7, 8, 9, 10, 11, 12, 13, 14] [15, 16] (by kernel_rfl) (by kernel_rfl) rfl (fun _ _ hx h => ⟨hx.cell h.1, hx.cell h.2.1, hx.cell h.2.2.1, hx.cell h.2.2.2.1, hx.cell h.2.2.2.2⟩) ⟨c0, tt, d1, y2, y3⟩ ?_
         intro Q' hQ'
         simp only [pickOps, List.flatMap_cons, List.flatMap_nil, List.drop_succ_cons, List.drop_zero, List.take_succ_cons, List.take_zero, List.cons_append, List.nil_append, List.append_nil]
         repeat (first
          | (refine wpReads_skip (by rfl) ?_; (try simp only [Act.put, List.setIfInBounds_toArray, List.set_cons_zero, List.set_cons_succ]))
          | (refine wpReads_cons ?_ (by rfl) (by rfl) ?_ ?_; rotate_left; (intro wz hz; (try dsimp only at hz); go_simp; try with_reducible rfl); (try simp only [Act.put, List.setIfInBounds_toArray, List.set_cons_zero, List.set_cons_succ]))
          | (refine wpReads_any ?_ (by rfl) ?_ ?_; rotate_left; (intro wz; go_simp; try with_reducible rfl); (try simp only [Act.put, List.setIfInBounds_toArray, List.set_cons_zero, List.set_cons_succ])))
         refine wpReads_nil ?_
         clear c0 tt d1 y2 y3
         go_wp2
         go_roundw
         case rel => exact ⟨k + 1, _, _, _, hlt, by go_num, HNEW.out⟩
         case measure => simp [intOf]; omega
        ·
         obtain rfl : k = g.outs.length := by omega
         have hlti : ¬ ((g.outs.length : Int) < g.outs.length) := by omega
         have hA : ActsOk g := ⟨HS.out.good, HFP.out⟩
         have hL : Linked g := ⟨fun t p ht hp => HS.out.to_lt ht hp, fun t q ht hq => HS.out.from_lt ht hq⟩
         have hO := new_ok HS.out hA HFS.out
         have HFIN := Lib.hid (dnew_yes (o := o) hR (by
          unfold newE
          rw [if_neg (by rw [HE.out]; decide), if_neg (by rw [H1.out]; simp), if_neg]
          intro h
          obtain ⟨c, h1, h2⟩ := List.any_eq_true.1 h
          have := HCP.out c h1
          simp at h2
          omega) HN.out.kept (RigOk.mk (HN.out.half.whole HS.out) hO.1 hO.2 (fun _ => by decide) rfl) ⟨hL, hA, H1.out⟩)
         clear hk hlt hA hL hO
         go_wp2
         go_ret2
         exact HFIN.out
end Go.Proofs.YtaholpfikcdhbaaGreat

/- A rig that is fed: start. -/
namespace Go.Proofs.YtaholpfikcdhbaaGreat
open Go.RowKit
def HasRun (w : World) (v : Value) (g : GGraph) (caps : List Int) (fed : List (List Int)) : Prop :=
 ∃ n va ve vi vo vc vf, v = .agg #[n, va, ve, vi, vo, vc, vf] ∧ HasGraph w (.agg #[n, va, ve, vi, vo]) g ∧ Has w vc (ivs caps) ∧ LL w vf fed
theorem HasRun.below {w w' : World} {v : Value} {g : GGraph} {caps : List Int} {fed : List (List Int)} (h : HasRun w v g caps fed) (hb : Below w.heap.size w w') : HasRun w' v g caps fed := by
 obtain ⟨n, va, ve, vi, vo, vc, vf, rfl, h1, h2, h3⟩ := h
 exact ⟨n, va, ve, vi, vo, vc, vf, rfl, h1.below hb, h2.below hb, h3.below hb⟩
structure RunOk (g : GGraph) (caps : List Int) (fed : List (List Int)) : Prop where
 sized : GSized g
 capn : caps.length ≤ 17600000000000
 fp : ∀ a ∈ g.actors, ∀ x ∈ a.params, Fits x
 fs : ∀ e ∈ g.edges, ∀ x ∈ e.start, Fits x
 fc : ∀ c ∈ caps, Fits c
 ff : ∀ xs ∈ fed, ∀ x ∈ xs, Fits x
 fl : ∀ xs ∈ fed, xs.length ≤ 17600000000000
theorem Kept.vals {w0 w : World} {o : Col} {v : Value} {vs : List Value} (K : Kept w0.heap.size o w0 w) (h : Has w0 v vs) : Vals w o 0 v vs :=
 Vals.turn h (⟨Mods.of_below K.below _, fun k hk => K.old k hk⟩ : Turn (fun _ => 0) o (fun _ => False) w0 w) (fun h => h)
theorem feedS_nil (g : GGraph) (s : RigP) : feedS g [] s = s := by
 unfold feedS
 simp
theorem feed_one {g : GGraph} {X : List (List Int)} {s : RigP} {k : Nat} (_hk : k < X.length) (hi : k < g.ins.length) : feedR g k (X[k]?.getD []) ⟨feedS g (X.take k) s, none⟩ = ⟨feedS g (X.take (k + 1)) s, none⟩ := by
 unfold feedR feedS
 simp only [RunP.mk.injEq, RigP.mk.injEq, true_and, and_true]
 funext d
 unfold upd
 by_cases e : d = g.edges.length + k
 ·
  subst e
  have h0 : g.edges.length ≤ g.edges.length + k ∧ g.edges.length + k < g.edges.length + g.ins.length := by omega
  simp only [if_true, h0, and_self]
  rw [Nat.add_sub_cancel_left, List.getElem?_take, List.getElem?_take, if_neg (by omega), if_pos (by omega)]
  simp
 ·
  rw [if_neg e]
  dsimp only
  by_cases h : g.edges.length ≤ d ∧ d < g.edges.length + g.ins.length
  ·
   rw [if_pos h, if_pos h, List.getElem?_take, List.getElem?_take]
   by_cases h2 : d - g.edges.length < k
   ·
    rw [if_pos h2, if_pos (by omega)]
   ·
    rw [if_neg h2, if_neg (by omega)]
  ·
   rw [if_neg h, if_neg h]
theorem feed_all {g : GGraph} {X : List (List Int)} {s : RigP} {k : Nat} (h : k = X.length ∨ k = g.ins.length) : feedS g (X.take k) s = feedS g X s := by
 rcases h with rfl | rfl
 ·
  rw [List.take_length]
 ·
  unfold feedS
  simp only [RigP.mk.injEq, true_and]
  funext d
  by_cases h : g.edges.length ≤ d ∧ d < g.edges.length + g.ins.length
  ·
   rw [if_pos h, if_pos h, List.getElem?_take, if_pos (by omega)]
  ·
   rw [if_neg h, if_neg h]
def StartRet (w : World) (o : Col) (R : Nat) (g : GGraph) (caps : List Int) (fed : List (List Int)) (e : Ending) (w' : World) : Prop :=
 (newE g caps ≠ 0 → e = .returned (.pointer none) ∧ ∃ o', Turn o o' (fun _ => False) w w') ∧
 (newE g caps = 0 → ∃ b o' qs v J, e = .returned (.pointer (some ⟨b, 0, none⟩)) ∧ Turn o o' (MineR R) w w' ∧ RigOk w' o' R b g caps 256 J qs v.tb ⟨feedS g fed (newRig g), none⟩ v ∧ GOk g caps ∧ ∀ j, J j ≤ 256 + (fed[j]?.getD []).length)
set_option maxRecDepth 100000 in
set_option maxHeartbeats 2000000 in
theorem start_any {w0 w : World} {o : Col} {R : Nat} {g : GGraph} {caps : List Int} {fed : List (List Int)} {v : Value} (hR : 1 ≤ R) (hK : Kept w0.heap.size o w0 w) (hv : HasRun w0 v g caps fed) (ok : RunOk g caps fed) : Calls Tryz.prog 12 #[v] w (StartRet w o R g caps fed) := by
 obtain ⟨n, va, ve, vi, vo, vc, vf, rfl, hg, hc, hf⟩ := hv
 obtain ⟨_, _, _, _, e0, ra, re, ri, ro⟩ := hg.shape
 obtain ⟨aa, ac, rfl⟩ := ra.slice
 obtain ⟨ae, ec, rfl⟩ := re.slice
 obtain ⟨ai, ic, rfl⟩ := ri.slice
 obtain ⟨ao, oc, rfl⟩ := ro.slice
 simp only [Value.agg.injEq, Array.mk.injEq, List.cons.injEq, and_true] at e0
 obtain ⟨rfl, rfl, rfl, rfl, rfl⟩ := e0
 obtain ⟨ca, cc, rfl⟩ := Ints.slice hc
 obtain ⟨fa, fc, rfl⟩ := hf.slice
 have HG := Lib.hid hg
 have HC := Lib.hid hc
 have HF := Lib.hid hf
 have OK := Lib.hid ok
 have HK := Lib.hid hK
 have hcl : (ivs caps).length = caps.length := ivs_len caps
 have hb1 := below_alloc w (.cells #[.string g.name, .slice aa g.actors.length ac, .slice ae g.edges.length ec, .slice ai g.ins.length ic, .slice ao g.outs.length oc, .slice ca caps.length cc, .slice fa fed.length fc] 30)
 have T1 := Turn.of_below o (R + 6500) hb1
 have hX := blk_new (w := w) o (R + 6500) #[.string g.name, .slice aa g.actors.length ac, .slice ae g.edges.length ec, .slice ai g.ins.length ic, .slice ao g.outs.length oc, .slice ca caps.length cc, .slice fa fed.length fc] 30
 have HX := Lib.hid hX
 have HT1 := Lib.hid T1
 have HK1 := Lib.hid (hK.turn T1 (fun h => h))
 have x0 := hX.cell 0 _ rfl
 have x1 := hX.cell 1 _ rfl
 have x2 := hX.cell 2 _ rfl
 have x3 := hX.cell 3 _ rfl
 have x4 := hX.cell 4 _ rfl
 have x5 := hX.cell 5 _ rfl
 generalize ext o w.heap.size (R + 6500) = o1 at *
 clear hb1 T1 hX hg hc hf ok hK ra re ri ro hcl
 go_enter Tryz.func12, Tryz.ntmps12
 go_wp2_with fail
 refine (dnew_any _ o1 R hR (.agg #[.string g.name, .slice aa g.actors.length ac, .slice ae g.edges.length ec, .slice ai g.ins.length ic, .slice ao g.outs.length oc]) g caps (HG.out.below HK1.out.below) OK.out.sized (HC.out.below HK1.out.below) OK.out.capn OK.out.fp OK.out.fs OK.out.fc).mono ?_
 intro e w2 hret
 clear x0 x1 x2 x3 x4 x5
 by_cases h0 : newE g caps = 0
 ·
  obtain ⟨b, o2, qs, v, rfl, T2, hM, hG, _⟩ := hret.2 h0
  have HE := Lib.hid h0
  have HM := Lib.hid hM
  have HGO := Lib.hid hG
  have HT2 := Lib.hid ((HT1.out.mono (D := MineR R) (fun _ h => h.elim)).trans (T2.mono (D := MineR R) (fun _ h => h.elim)) (fun _ h => h))
  have HK2 := Lib.hid (HK1.out.turn T2 (fun h => h))
  have HX2 := Lib.hid (HX.out.turn T2 (fun h => h))
  clear hret h0 hM hG T2 HT1 HK1 HX
  have x3 := HX2.out.cell 3 _ rfl
  have x6 := HX2.out.cell 6 _ rfl
  go_wp2_with fail
  go_loopw [5] (fun i wz => ∃ (k : Nat) (q : Col) (J : Nat → Nat), k ≤ fed.length ∧ k ≤ g.ins.length ∧ i = .int .i64 k ∧ Turn o q (MineR R) w wz ∧ Kept w0.heap.size q w0 wz ∧ Blk wz q (R + 6500) w.heap.size 30 #[.string g.name, .slice aa g.actors.length ac, .slice ae g.edges.length ec, .slice ai g.ins.length ic, .slice ao g.outs.length oc, .slice ca caps.length cc, .slice fa fed.length fc] ∧ RigOk wz q R b g caps 256 J qs v.tb ⟨feedS g (fed.take k) (newRig g), none⟩ v ∧ (∀ j, j < k → J j ≤ 256 + (fed[j]?.getD []).length) ∧ ∀ j, k ≤ j → J j = 256) (fun i _ => fed.length - (intOf i).toNat)
  case atStart => exact ⟨0, o2, _, Nat.zero_le _, Nat.zero_le _, rfl, HT2.out, HK2.out, HX2.out, by rw [List.take_zero, feedS_nil]; exact HM.out, fun j hj => by omega, fun _ _ => rfl⟩
  case round =>
   clear HT2 HK2 HX2 HM x3 x6
   obtain ⟨k, q, J, hk1, hk2, rfl, hT, hK, hX, hM, hJ1, hJ2⟩ := hrel
   have x3 := hX.cell 3 _ rfl
   have x6 := hX.cell 6 _ rfl
   have HT := Lib.hid hT
   have HK := Lib.hid hK
   have HX := Lib.hid hX
   have HM := Lib.hid hM
   have HJ1 := Lib.hid hJ1
   have HJ2 := Lib.hid hJ2
   clear hT hK hX hM hJ1 hJ2
   by_cases h1 : k < fed.length
   ·
    by_cases h2 : k < g.ins.length
    ·
     have h1i : (k : Int) < fed.length := by omega
     have h2i : (k : Int) < g.ins.length := by omega
     obtain ⟨gb, go, hfa, hcap, hrow⟩ := HF.out.at (by omega)
     obtain ⟨ra, rc, rcl, rh⟩ := hrow k h1
     change wr.cell? _ = some (.slice fa fed.length fc) at x6
     rw [hfa] at x6
     have c1 := cell_later HK.out.below rcl
     have RH := Lib.hid (HK.out.vals rh)
     have hmem : fed[k]?.getD [] ∈ fed := by rw [List.getElem?_eq_getElem h1]; exact List.getElem_mem h1
     have HFF := Lib.hid (OK.out.ff _ hmem)
     have hfl := OK.out.fl _ hmem
     have hcapi : (fed.length : Int) ≤ fc := by omega
     have hj := HJ2.out k (Nat.le_refl _)
     have HJK := Lib.hid hj
     have HFL := Lib.hid hfl
     have HONE := Lib.hid (feed_one (s := newRig g) h1 h2)
     obtain ⟨l, hl⟩ : ∃ x, fed[k]?.getD [] = x := ⟨_, rfl⟩
     have HLL := Lib.hid hl
     rw [hl] at c1 RH HFF HFL HONE
     clear hrow rcl rh hmem hfl hj hfa hl
     go_wp2_with fail
     have hmr : ¬ MineR R 0 := by unfold MineR; omega
     have hjj : J k + l.length < 27000000000000 := by have := HJK.out; have := HFL.out; omega
     refine (dFeed_ok HM.out HGO.out h2 RH.out hmr HFF.out hjj).mono ?_
     clear hmr hjj
     rintro e w3 ⟨q3, rfl, T3, hM3⟩
     rw [HONE.out] at hM3
     have HT3 := Lib.hid (HT.out.trans T3 (fun _ h => h))
     have HK3 := Lib.hid (HK.out.turn T3 (by unfold MineR; omega))
     have HX3 := Lib.hid (HX.out.turn T3 (by unfold MineR; omega))
     have HM3 := Lib.hid hM3
     obtain ⟨f1, f2, f3, f4⟩ := hM3.mem.few
     clear T3 hM3 HT HK HX HM x3 x6 c1 RH
     go_wp2
     go_roundw
     case rel =>
      refine ⟨k + 1, q3, _, h1, h2, by go_num, HT3.out, HK3.out, HX3.out, HM3.out, fun j hj => ?_, fun j hj => ?_⟩
      ·
       by_cases e : j = k
       ·
        subst e
        rw [upd_same, HJK.out, HLL.out]
        exact Nat.le_refl _
       ·
        rw [upd_other e]
        exact HJ1.out j (by omega)
      ·
       rw [upd_other (by omega)]
       exact HJ2.out j (by omega)
     case measure => simp [intOf]; omega
    ·
     have hk : k = g.ins.length := by omega
     have h1i : (k : Int) < fed.length := by omega
     have h2i : ¬ (k : Int) < g.ins.length := by omega
     have HKE := Lib.hid hk
     clear hk h1 h2 hk1 hk2
     go_wp2
     go_ret
     refine ⟨fun h => absurd HE.out h, fun _ => ⟨b, q, qs, v, J, rfl, HT.out, ?_, HGO.out, fun j => ?_⟩⟩
     ·
      rw [← feed_all (X := fed) (.inr HKE.out)]; exact HM.out
     ·
      by_cases h : j < k
      ·
       exact HJ1.out j h
      ·
       rw [HJ2.out j (by omega)]; omega
   ·
    have hk : k = fed.length := by omega
    have h1i : ¬ (k : Int) < fed.length := by omega
    have HKE := Lib.hid hk
    clear hk h1 hk1 hk2
    go_wp2
    go_ret
    refine ⟨fun h => absurd HE.out h, fun _ => ⟨b, q, qs, v, J, rfl, HT.out, ?_, HGO.out, fun j => ?_⟩⟩
    ·
     rw [← feed_all (X := fed) (.inl HKE.out)]; exact HM.out
    ·
     by_cases h : j < k
     ·
      exact HJ1.out j h
     ·
      rw [HJ2.out j (by omega)]; omega
 ·
  obtain ⟨rfl, hb2⟩ := hret.1 h0
  have hbb : (newE g caps != 0) = true := by rw [bne_iff_ne]; exact h0
  have HB : Hid (∃ o', Turn o o' (fun _ => False) w w2) := Lib.hid ⟨_, HT1.out.trans (Turn.of_below o1 (R + 6501) hb2) (fun _ h => h)⟩
  have H0 := Lib.hid h0
  obtain ⟨E, hE⟩ : ∃ x, newE g caps = x := ⟨_, rfl⟩
  rw [hE] at hbb ⊢
  clear hret h0 hb2 hE
  go_wp2
  go_ret
  exact ⟨fun _ => ⟨rfl, HB.out⟩, fun h => absurd h H0.out⟩
end Go.Proofs.YtaholpfikcdhbaaGreat

/- The reference's questions about a graph: is a port taken, is a name. -/
namespace Go.Proofs.YtaholpfikcdhbaaGreat
open Go.RowKit
theorem any_take_of {α : Type} {l : List α} {f : α → Bool} {j n : Nat} (hj : j < l.length) (hn : j < n) (hf : f l[j] = true) : (l.take n).any f = true := by
 rw [List.any_eq_true]
 exact ⟨l[j], List.mem_take_iff_getElem.2 ⟨j, by omega, rfl⟩, hf⟩
theorem any_take_next {α : Type} {l : List α} {f : α → Bool} {j : Nat} (hj : j < l.length) (h : (l.take j).any f = false) (hf : f l[j] = false) : (l.take (j + 1)).any f = false := by
 rw [take_any l f hj, h, hf]
 rfl
/- $1 slot, $2 how many, $3 list, $4 Recs, $5 size, $6 cap, $7 f, $8 first field's value, $9 second's; a0 a1: cells -/
/- $1 the name, $2 the test over edges, $3 first field, $4 second field, $5 test over ports, $6 ports, $7 Recs, $8 cap -/
set_option maxRecDepth 100000 in
set_option maxHeartbeats 2000000 in
theorem outTaken_any (w : World) (v : Value) (g : GGraph) (e o : Nat) (a p : Int) (h : HasGraph w v g) (he : e ≤ g.edges.length) (ho : o ≤ (g.outs).length) (he2 : e ≤ 1000000) (ho2 : o ≤ 1000000) : Calls Tryz.prog 103 #[v, .int .i64 (e : Int), .int .i64 (o : Int), .int .i64 a, .int .i64 p] w (Tells (.bool (outT g e o a p)) w) := by
 obtain ⟨va, ve, vi, vo, rfl, ra, re, ri, ro⟩ := h.shape
 obtain ⟨aa, ac, rfl⟩ := ra.slice
 obtain ⟨ae, ec, rfl⟩ := re.slice
 obtain ⟨ai, ic, rfl⟩ := ri.slice
 obtain ⟨ao, oc, rfl⟩ := ro.slice
 have HRA := Lib.hid ra
 have HRE := Lib.hid re
 have HRI := Lib.hid ri
 have HRO := Lib.hid ro
 have hb := below_alloc w (.cells #[.string g.name, .slice aa g.actors.length ac, .slice ae g.edges.length ec, .slice ai g.ins.length ic, .slice ao g.outs.length oc] 26)
 have HB := Lib.hid hb
 have hX := heap_alloc_new w (.cells #[.string g.name, .slice aa g.actors.length ac, .slice ae g.edges.length ec, .slice ai g.ins.length ic, .slice ao g.outs.length oc] 26)
 have x1 := cells_row _ _ hX 1 _ rfl
 have x2 := cells_row _ _ hX 2 _ rfl
 have x3 := cells_row _ _ hX 3 _ rfl
 have x4 := cells_row _ _ hX 4 _ rfl
 clear h ra re ri ro hb hX
 unfold outT
 go_enter Tryz.func103, Tryz.ntmps103
 go_wp2_with fail
 obtain ⟨wb, hwb⟩ : ∃ x, w.alloc (.cells #[.string g.name, .slice aa g.actors.length ac, .slice ae g.edges.length ec, .slice ai g.ins.length ic, .slice ao g.outs.length oc] 26) = x := ⟨_, rfl⟩
 rw [hwb] at HB x1 x2 x3 x4 ⊢
 clear hwb
 go_loopw [11] (fun i wl => ∃ j : Nat, j ≤ e ∧ i = .int .i64 j ∧ wl = wb ∧ ((g.edges).take j).any (fun x => decide (x.src = a) && decide (x.sport = p)) = false) (fun i _ => e - (intOf i).toNat)
 case atStart => exact ⟨0, Nat.zero_le _, rfl, rfl, by simp⟩
 case round =>
  obtain ⟨j, hj, rfl, rfl, hno⟩ := hrel
  have HNO := Lib.hid hno
  clear hno
  by_cases hlt : j < e
  ·
   have hlti : (j : Int) < e := by omega
   have hjl : j < g.edges.length := by omega
   obtain ⟨b0, off, rfl, hcap, hb0, hrec⟩ := HRE.out.at (by omega)
   obtain ⟨cs, hcs, hPR, hcl⟩ := hrec j hjl
   obtain ⟨xs, rfl, -⟩ := hPR
   have c0 := cell_later HB.out (hcl 0 (by omega))
   have c1 := cell_later HB.out (hcl 1 (by omega))
   have c2 := cell_later HB.out (hcl 2 (by omega))
   have c3 := cell_later HB.out (hcl 3 (by omega))
   simp at c0 c1 c2 c3
   have hcapi : (g.edges.length : Int) ≤ ec := by omega
   clear hrec hcl hcs hb0 hcap
   have hjli : (j : Int) < g.edges.length := by omega
   by_cases h1 : g.edges[j].src = a
   ·
    have h1b : (g.edges[j].src == a) = true := by rw [beq_iff_eq]; exact h1
    by_cases h2 : g.edges[j].sport = p
    ·
     have h2b : (g.edges[j].sport == p) = true := by rw [beq_iff_eq]; exact h2
     have hyes := any_take_of (f := fun x : GEdge => decide (x.src = a) && decide (x.sport = p)) hjl hlt (by simp [h1, h2])
     have HY := Lib.hid hyes
     clear hyes h1 h2
     go_wp2
     go_ret
     exact ⟨by rw [HY.out]; rfl, HB.out⟩
    ·
     have h2b : (g.edges[j].sport == p) = false := by rw [beq_eq_false_iff_ne]; exact h2
     have hnx := any_take_next (f := fun x : GEdge => decide (x.src = a) && decide (x.sport = p)) hjl HNO.out (by simp [h2])
     have HX := Lib.hid hnx
     clear hnx h1 h2
     go_wp2
     go_roundw
     case rel => exact ⟨j + 1, hlt, by go_num, by first | rfl | trivial, HX.out⟩
     case measure => simp [intOf]; omega
   ·
    have h1b : (g.edges[j].src == a) = false := by rw [beq_eq_false_iff_ne]; exact h1
    have hnx := any_take_next (f := fun x : GEdge => decide (x.src = a) && decide (x.sport = p)) hjl HNO.out (by simp [h1])
    have HX := Lib.hid hnx
    clear hnx h1
    go_wp2
    go_roundw
    case rel => exact ⟨j + 1, hlt, by go_num, by first | rfl | trivial, HX.out⟩
    case measure => simp [intOf]; omega
  ·
   obtain rfl : j = e := by omega
   have hlti : ¬ ((j : Int) < j) := by omega
   have HNE := Lib.hid HNO.out
   clear HNO hj hlt
   go_wp2_with fail
   go_loopw [12] (fun i wl => ∃ k : Nat, k ≤ o ∧ i = .int .i64 k ∧ wl = wr ∧ ((g.outs).take k).any (fun x => decide (x.actor = a) && decide (x.port = p)) = false) (fun i _ => o - (intOf i).toNat)
   case atStart => exact ⟨0, Nat.zero_le _, rfl, rfl, by simp⟩
   case round =>
    obtain ⟨k, hk, rfl, rfl, hno⟩ := hrel
    have HNO := Lib.hid hno
    clear hno
    by_cases hlt : k < o
    ·
     have hlti : (k : Int) < o := by omega
     have hjl : k < (g.outs).length := by omega
     obtain ⟨b0, off, rfl, hcap, hb0, hrec⟩ := HRO.out.at (by omega)
     obtain ⟨cs, hcs, hPR, hcl⟩ := hrec k hjl
     obtain rfl := hPR
     have c1 := cell_later HB.out (hcl 1 (by omega))
     have c2 := cell_later HB.out (hcl 2 (by omega))
     simp at c1 c2
     have hcapi : ((g.outs).length : Int) ≤ oc := by omega
     have hkli : (k : Int) < (g.outs).length := by omega
     clear hrec hcl hcs hb0 hcap
     by_cases h1 : (g.outs)[k].actor = a
     ·
      have h1b : ((g.outs)[k].actor == a) = true := by rw [beq_iff_eq]; exact h1
      by_cases h2 : (g.outs)[k].port = p
      ·
       have h2b : ((g.outs)[k].port == p) = true := by rw [beq_iff_eq]; exact h2
       have hyes := any_take_of (f := fun x : GPort => decide (x.actor = a) && decide (x.port = p)) hjl hlt (by simp [h1, h2])
       have HY := Lib.hid hyes
       clear hyes h1 h2
       go_wp2
       go_ret
       exact ⟨by rw [HY.out, Bool.or_true]; rfl, HB.out⟩
      ·
       have h2b : ((g.outs)[k].port == p) = false := by rw [beq_eq_false_iff_ne]; exact h2
       have hnx := any_take_next (f := fun x : GPort => decide (x.actor = a) && decide (x.port = p)) hjl HNO.out (by simp [h2])
       have HX := Lib.hid hnx
       clear hnx h1 h2
       go_wp2
       go_roundw
       case rel => exact ⟨k + 1, hlt, by go_num, by first | rfl | trivial, HX.out⟩
       case measure => simp [intOf]; omega
     ·
      have h1b : ((g.outs)[k].actor == a) = false := by rw [beq_eq_false_iff_ne]; exact h1
      have hnx := any_take_next (f := fun x : GPort => decide (x.actor = a) && decide (x.port = p)) hjl HNO.out (by simp [h1])
      have HX := Lib.hid hnx
      clear hnx h1
      go_wp2
      go_roundw
      case rel => exact ⟨k + 1, hlt, by go_num, by first | rfl | trivial, HX.out⟩
      case measure => simp [intOf]; omega
    ·
     obtain rfl : k = o := by omega
     have hlti : ¬ ((k : Int) < k) := by omega
     go_wp2
     go_ret
     exact ⟨by rw [HNE.out, HNO.out]; rfl, HB.out⟩
set_option maxRecDepth 100000 in
set_option maxHeartbeats 2000000 in
theorem inTaken_any (w : World) (v : Value) (g : GGraph) (e o : Nat) (a p : Int) (h : HasGraph w v g) (he : e ≤ g.edges.length) (ho : o ≤ (g.ins).length) (he2 : e ≤ 1000000) (ho2 : o ≤ 1000000) : Calls Tryz.prog 104 #[v, .int .i64 (e : Int), .int .i64 (o : Int), .int .i64 a, .int .i64 p] w (Tells (.bool (inT g e o a p)) w) := by
 obtain ⟨va, ve, vi, vo, rfl, ra, re, ri, ro⟩ := h.shape
 obtain ⟨aa, ac, rfl⟩ := ra.slice
 obtain ⟨ae, ec, rfl⟩ := re.slice
 obtain ⟨ai, ic, rfl⟩ := ri.slice
 obtain ⟨ao, oc, rfl⟩ := ro.slice
 have HRA := Lib.hid ra
 have HRE := Lib.hid re
 have HRI := Lib.hid ri
 have HRO := Lib.hid ro
 have hb := below_alloc w (.cells #[.string g.name, .slice aa g.actors.length ac, .slice ae g.edges.length ec, .slice ai g.ins.length ic, .slice ao g.outs.length oc] 26)
 have HB := Lib.hid hb
 have hX := heap_alloc_new w (.cells #[.string g.name, .slice aa g.actors.length ac, .slice ae g.edges.length ec, .slice ai g.ins.length ic, .slice ao g.outs.length oc] 26)
 have x1 := cells_row _ _ hX 1 _ rfl
 have x2 := cells_row _ _ hX 2 _ rfl
 have x3 := cells_row _ _ hX 3 _ rfl
 have x4 := cells_row _ _ hX 4 _ rfl
 clear h ra re ri ro hb hX
 unfold inT
 go_enter Tryz.func104, Tryz.ntmps104
 go_wp2_with fail
 obtain ⟨wb, hwb⟩ : ∃ x, w.alloc (.cells #[.string g.name, .slice aa g.actors.length ac, .slice ae g.edges.length ec, .slice ai g.ins.length ic, .slice ao g.outs.length oc] 26) = x := ⟨_, rfl⟩
 rw [hwb] at HB x1 x2 x3 x4 ⊢
 clear hwb
 go_loopw [11] (fun i wl => ∃ j : Nat, j ≤ e ∧ i = .int .i64 j ∧ wl = wb ∧ ((g.edges).take j).any (fun x => decide (x.dst = a) && decide (x.dport = p)) = false) (fun i _ => e - (intOf i).toNat)
 case atStart => exact ⟨0, Nat.zero_le _, rfl, rfl, by simp⟩
 case round =>
  obtain ⟨j, hj, rfl, rfl, hno⟩ := hrel
  have HNO := Lib.hid hno
  clear hno
  by_cases hlt : j < e
  ·
   have hlti : (j : Int) < e := by omega
   have hjl : j < g.edges.length := by omega
   obtain ⟨b0, off, rfl, hcap, hb0, hrec⟩ := HRE.out.at (by omega)
   obtain ⟨cs, hcs, hPR, hcl⟩ := hrec j hjl
   obtain ⟨xs, rfl, -⟩ := hPR
   have c0 := cell_later HB.out (hcl 0 (by omega))
   have c1 := cell_later HB.out (hcl 1 (by omega))
   have c2 := cell_later HB.out (hcl 2 (by omega))
   have c3 := cell_later HB.out (hcl 3 (by omega))
   simp at c0 c1 c2 c3
   have hcapi : (g.edges.length : Int) ≤ ec := by omega
   clear hrec hcl hcs hb0 hcap
   have hjli : (j : Int) < g.edges.length := by omega
   by_cases h1 : g.edges[j].dst = a
   ·
    have h1b : (g.edges[j].dst == a) = true := by rw [beq_iff_eq]; exact h1
    by_cases h2 : g.edges[j].dport = p
    ·
     have h2b : (g.edges[j].dport == p) = true := by rw [beq_iff_eq]; exact h2
     have hyes := any_take_of (f := fun x : GEdge => decide (x.dst = a) && decide (x.dport = p)) hjl hlt (by simp [h1, h2])
     have HY := Lib.hid hyes
     clear hyes h1 h2
     go_wp2
     go_ret
     exact ⟨by rw [HY.out]; rfl, HB.out⟩
    ·
     have h2b : (g.edges[j].dport == p) = false := by rw [beq_eq_false_iff_ne]; exact h2
     have hnx := any_take_next (f := fun x : GEdge => decide (x.dst = a) && decide (x.dport = p)) hjl HNO.out (by simp [h2])
     have HX := Lib.hid hnx
     clear hnx h1 h2
     go_wp2
     go_roundw
     case rel => exact ⟨j + 1, hlt, by go_num, by first | rfl | trivial, HX.out⟩
     case measure => simp [intOf]; omega
   ·
    have h1b : (g.edges[j].dst == a) = false := by rw [beq_eq_false_iff_ne]; exact h1
    have hnx := any_take_next (f := fun x : GEdge => decide (x.dst = a) && decide (x.dport = p)) hjl HNO.out (by simp [h1])
    have HX := Lib.hid hnx
    clear hnx h1
    go_wp2
    go_roundw
    case rel => exact ⟨j + 1, hlt, by go_num, by first | rfl | trivial, HX.out⟩
    case measure => simp [intOf]; omega
  ·
   obtain rfl : j = e := by omega
   have hlti : ¬ ((j : Int) < j) := by omega
   have HNE := Lib.hid HNO.out
   clear HNO hj hlt
   go_wp2_with fail
   go_loopw [12] (fun i wl => ∃ k : Nat, k ≤ o ∧ i = .int .i64 k ∧ wl = wr ∧ ((g.ins).take k).any (fun x => decide (x.actor = a) && decide (x.port = p)) = false) (fun i _ => o - (intOf i).toNat)
   case atStart => exact ⟨0, Nat.zero_le _, rfl, rfl, by simp⟩
   case round =>
    obtain ⟨k, hk, rfl, rfl, hno⟩ := hrel
    have HNO := Lib.hid hno
    clear hno
    by_cases hlt : k < o
    ·
     have hlti : (k : Int) < o := by omega
     have hjl : k < (g.ins).length := by omega
     obtain ⟨b0, off, rfl, hcap, hb0, hrec⟩ := HRI.out.at (by omega)
     obtain ⟨cs, hcs, hPR, hcl⟩ := hrec k hjl
     obtain rfl := hPR
     have c1 := cell_later HB.out (hcl 1 (by omega))
     have c2 := cell_later HB.out (hcl 2 (by omega))
     simp at c1 c2
     have hcapi : ((g.ins).length : Int) ≤ ic := by omega
     have hkli : (k : Int) < (g.ins).length := by omega
     clear hrec hcl hcs hb0 hcap
     by_cases h1 : (g.ins)[k].actor = a
     ·
      have h1b : ((g.ins)[k].actor == a) = true := by rw [beq_iff_eq]; exact h1
      by_cases h2 : (g.ins)[k].port = p
      ·
       have h2b : ((g.ins)[k].port == p) = true := by rw [beq_iff_eq]; exact h2
       have hyes := any_take_of (f := fun x : GPort => decide (x.actor = a) && decide (x.port = p)) hjl hlt (by simp [h1, h2])
       have HY := Lib.hid hyes
       clear hyes h1 h2
       go_wp2
       go_ret
       exact ⟨by rw [HY.out, Bool.or_true]; rfl, HB.out⟩
      ·
       have h2b : ((g.ins)[k].port == p) = false := by rw [beq_eq_false_iff_ne]; exact h2
       have hnx := any_take_next (f := fun x : GPort => decide (x.actor = a) && decide (x.port = p)) hjl HNO.out (by simp [h2])
       have HX := Lib.hid hnx
       clear hnx h1 h2
       go_wp2
       go_roundw
       case rel => exact ⟨k + 1, hlt, by go_num, by first | rfl | trivial, HX.out⟩
       case measure => simp [intOf]; omega
     ·
      have h1b : ((g.ins)[k].actor == a) = false := by rw [beq_eq_false_iff_ne]; exact h1
      have hnx := any_take_next (f := fun x : GPort => decide (x.actor = a) && decide (x.port = p)) hjl HNO.out (by simp [h1])
      have HX := Lib.hid hnx
      clear hnx h1
      go_wp2
      go_roundw
      case rel => exact ⟨k + 1, hlt, by go_num, by first | rfl | trivial, HX.out⟩
      case measure => simp [intOf]; omega
    ·
     obtain rfl : k = o := by omega
     have hlti : ¬ ((k : Int) < k) := by omega
     go_wp2
     go_ret
     exact ⟨by rw [HNE.out, HNO.out]; rfl, HB.out⟩
end Go.Proofs.YtaholpfikcdhbaaGreat

/- The reference's Name. -/
namespace Go.Proofs.YtaholpfikcdhbaaGreat
open Go.RowKit
theorem xletter_any (w : World) (b : Int) : Calls Tryz.prog 99 #[.int .u8 b] w (SameW (.bool (letterP b)) w) := by
 unfold letterP
 by_cases h1 : 97 ≤ b
 ·
  rw [decide_eq_true h1, Bool.true_and]
  go_enter Tryz.func99, Tryz.ntmps99
  go_wp2
  go_ret
  exact ⟨rfl, rfl⟩
 ·
  rw [decide_eq_false h1, Bool.false_and]
  go_enter Tryz.func99, Tryz.ntmps99
  go_wp2
  go_ret
  exact ⟨rfl, rfl⟩
theorem xdigit_any (w : World) (b : Int) : Calls Tryz.prog 114 #[.int .u8 b] w (SameW (.bool (digitP b)) w) := by
 unfold digitP
 by_cases h1 : 48 ≤ b
 ·
  rw [decide_eq_true h1, Bool.true_and]
  go_enter Tryz.func114, Tryz.ntmps114
  go_wp2
  go_ret
  exact ⟨rfl, rfl⟩
 ·
  rw [decide_eq_false h1, Bool.false_and]
  go_enter Tryz.func114, Tryz.ntmps114
  go_wp2
  go_ret
  exact ⟨rfl, rfl⟩
theorem xinside_any (w : World) (b : Int) : Calls Tryz.prog 100 #[.int .u8 b] w (SameW (.bool (insideP b)) w) := by
 unfold insideP
 obtain ⟨x, hx⟩ : ∃ x, letterP b = x := ⟨_, rfl⟩
 obtain ⟨y, hy⟩ : ∃ x, digitP b = x := ⟨_, rfl⟩
 rw [hx, hy]
 have HX := Lib.hid hx
 have HY := Lib.hid hy
 clear hx hy
 cases x
 ·
  cases y
  ·
   go_enter Tryz.func100, Tryz.ntmps100
   go_wp2_with fail
   refine (xletter_any w b).mono ?_
   rintro e _ ⟨rfl, rfl⟩
   rw [HX.out]
   go_wp2_with fail
   refine (xdigit_any w b).mono ?_
   rintro e _ ⟨rfl, rfl⟩
   rw [HY.out]
   go_wp2
   go_ret
   exact ⟨by simp; rfl, rfl⟩
  ·
   go_enter Tryz.func100, Tryz.ntmps100
   go_wp2_with fail
   refine (xletter_any w b).mono ?_
   rintro e _ ⟨rfl, rfl⟩
   rw [HX.out]
   go_wp2_with fail
   refine (xdigit_any w b).mono ?_
   rintro e _ ⟨rfl, rfl⟩
   rw [HY.out]
   go_wp2
   go_ret
   exact ⟨rfl, rfl⟩
 ·
  go_enter Tryz.func100, Tryz.ntmps100
  go_wp2_with fail
  refine (xletter_any w b).mono ?_
  rintro e _ ⟨rfl, rfl⟩
  rw [HX.out]
  go_wp2
  go_ret
  exact ⟨by simp, rfl⟩
set_option maxRecDepth 100000 in
set_option maxHeartbeats 1000000 in
theorem xname_any (w : World) (s : ByteArray) (hs : s.size ≤ 4611686018427387904) : Calls Tryz.prog 84 #[.string s] w (SameW (.bool (nameP s)) w) := by
 obtain ⟨N, hN⟩ : ∃ N, nameP s = N := ⟨_, rfl⟩
 rw [hN]
 have HN := Lib.hid hN
 clear hN
 by_cases h0 : s.size < 1
 ·
  have e : N = false := by
   rw [← HN.out, nameP]
   have : byteP s 0 = 0 := dif_neg (by omega)
   rw [this]
   rfl
  subst e
  have h0i : (s.size : Int) < 1 := by omega
  clear h0
  go_enter Tryz.func84, Tryz.ntmps84
  go_wp2
  go_ret
  exact ⟨rfl, rfl⟩
 have hk : 0 < s.size := by omega
 have h0i : ¬ (s.size : Int) < 1 := by omega
 by_cases h16 : 16 < s.size
 ·
  have e : N = false := by
   rw [← HN.out, nameP, decide_eq_false (by omega : ¬ s.size ≤ 16)]
   simp
  subst e
  have h16i : (16 : Int) < s.size := by omega
  clear h0 h16 hk
  go_enter Tryz.func84, Tryz.ntmps84
  go_wp2
  go_ret
  exact ⟨rfl, rfl⟩
 have h16i : ¬ (16 : Int) < s.size := by omega
 have hki : (0 : Int) < s.size := by omega
 have hb0 : byteP s 0 = ((s[0]'hk).toNat : Int) := dif_pos hk
 obtain ⟨x, hx⟩ : ∃ x, letterP ((s[0]'hk).toNat : Int) = x := ⟨_, rfl⟩
 have HX := Lib.hid hx
 have HB0 := Lib.hid hb0
 have H16 := Lib.hid h16
 have hse : ¬ s = ByteArray.empty := fun e => by rw [e] at hk; exact absurd hk (by decide)
 clear hx hb0 h0 h16
 cases x with
 | false =>
  have e : N = false := by rw [← HN.out, nameP, HB0.out, HX.out]; rfl
  subst e
  go_enter Tryz.func84, Tryz.ntmps84
  go_wp2_with fail
  refine (xletter_any _ _).mono ?_
  rintro e _ ⟨rfl, rfl⟩
  rw [HX.out]
  go_wp2
  go_ret
  exact ⟨rfl, rfl⟩
 | true =>
  go_enter Tryz.func84, Tryz.ntmps84
  go_wp2_with fail
  refine (xletter_any _ _).mono ?_
  rintro e _ ⟨rfl, rfl⟩
  rw [HX.out]
  go_wp2_with fail
  go_loopw [3] (fun i wl => ∃ j : Nat, j ≤ s.size ∧ i = .int .i64 j ∧ wl = w ∧ ∀ k, k < j → insideP (byteP s k) = true) (fun i _ => s.size - (intOf i).toNat)
  case atStart => exact ⟨0, Nat.zero_le _, rfl, rfl, fun k hk => by omega⟩
  case round =>
   obtain ⟨j, hj, rfl, rfl, hall⟩ := hrel
   have HA := Lib.hid hall
   clear hall
   by_cases hlt : j < s.size
   ·
    have hlti : (j : Int) < s.size := by omega
    have hbj : byteP s j = ((s[j]'hlt).toNat : Int) := dif_pos hlt
    obtain ⟨y, hy⟩ : ∃ y, insideP ((s[j]'hlt).toNat : Int) = y := ⟨_, rfl⟩
    have HY := Lib.hid hy
    have HBJ := Lib.hid hbj
    clear hbj hy
    go_wp2_with fail
    refine (xinside_any _ _).mono ?_
    rintro e _ ⟨rfl, rfl⟩
    rw [HY.out]
    cases y with
    | false =>
     have e : N = false := by rw [← HN.out, nameP, not_inside hlt (by rw [HBJ.out]; exact HY.out)]; simp
     subst e
     go_wp2
     go_ret
     exact ⟨rfl, rfl⟩
    | true =>
     go_wp2
     go_roundw
     case rel => exact ⟨j + 1, hlt, by go_num, by first | rfl | trivial, fun k hk => by
      by_cases e : k = j
      ·
       subst e; rw [HBJ.out]; exact HY.out
      ·
       exact HA.out k (by omega)⟩
     case measure => simp [intOf]; omega
   ·
    obtain rfl : j = s.size := by omega
    have hlti : ¬ ((s.size : Int) < s.size) := by omega
    have e : N = true := by
     rw [← HN.out, nameP, all_inside HA.out, HB0.out, HX.out, decide_eq_true (by have := H16.out; omega : s.size ≤ 16)]
     rfl
    subst e
    go_wp2
    go_ret
    exact ⟨rfl, rfl⟩
end Go.Proofs.YtaholpfikcdhbaaGreat

/- A list lent: Lent. -/
namespace Go.Proofs.YtaholpfikcdhbaaGreat
open Go.RowKit
def Lends (w : World) (g n cap : Nat) (zs : List Int) : Prop :=
 n = zs.length ∧ n + 4 ≤ cap ∧ g < w.heap.size ∧ (∀ k, k < n → w.cell? ⟨g, k, none⟩ = some (.int .i64 (zs[k]?.getD 0))) ∧ ∀ k, n ≤ k → k < n + 4 → w.cell? ⟨g, k, none⟩ = some (.int .i64 (-7770777))
theorem Lends.below {w w' : World} {g n cap : Nat} {zs : List Int} (h : Lends w g n cap zs) (hb : Below w.heap.size w w') : Lends w' g n cap zs :=
 ⟨h.1, h.2.1, Nat.lt_of_lt_of_le h.2.2.1 hb.size, fun k hk => cell_later hb (h.2.2.2.1 k hk), fun k h1 h2 => cell_later hb (h.2.2.2.2 k h1 h2)⟩
theorem Lends.has {w : World} {g n cap c : Nat} {zs : List Int} (h : Lends w g n cap zs) (hc : n ≤ c) : Has w (.slice (some ⟨g, 0, none⟩) n c) (ivs zs) := by
 obtain ⟨rfl, _, hg, hcl, _⟩ := h
 by_cases hp : 0 < zs.length
 ·
  exact .inr ⟨by simpa using hp, g, 0, c, by simp, by simpa using hc, hg, rfl, fun k hk => by
   have hk' : k < zs.length := by simpa using hk
   rw [ivs_get hk', Nat.zero_add]; exact hcl k hk'⟩
 ·
  obtain rfl : zs = [] := List.eq_nil_of_length_eq_zero (by omega)
  exact .inl ⟨rfl, _, c, rfl⟩
theorem Vals.recol {w : World} {o : Col} {g n cap d : Nat} {vs : List Value} (h : Has w (.slice (some ⟨g, 0, none⟩) n cap) vs) (ho : o g = d) : Vals w o d (.slice (some ⟨g, 0, none⟩) n cap) vs := by
 rcases h with h | ⟨hp, b, off, cap', e, hl, hb, _, hcl⟩
 ·
  exact .inl h
 ·
  cases e
  exact .inr ⟨hp, _, _, _, rfl, hl, hb, ho, hcl⟩
end Go.Proofs.YtaholpfikcdhbaaGreat

/- The reference's Ints: a list of its own. -/
namespace Go.Proofs.YtaholpfikcdhbaaGreat
open Go.RowKit
def IntsRet (w : World) (l : List Int) (e : Ending) (w' : World) : Prop := ∃ v, e = .returned v ∧ w'.ownsRow w.heap.size 3 1 v l.length (ivs l) ∧ Below w.heap.size w w'
theorem rints_any {o : Col} {c : Nat} (w : World) (ao : Option Addr) (n cap : Nat) (l : List Int) (h : Ints w o c (.slice ao n cap) l) (hn : l.length ≤ 17600000000000) : Calls Tryz.prog 48 #[.slice ao n cap] w (IntsRet w l) := by
 obtain ⟨i0, hi, hz0, hz1, hz2⟩ := info_parts info_int
 obtain ⟨hnone, hnews⟩ := h.news
 obtain rfl := h.len
 have HN := Lib.hid hn
 have Hnone := Lib.hid hnone
 have Hnews := Lib.hid hnews
 clear hn hnone hnews h
 go_enter Tryz.func48, Tryz.ntmps48
 go_wp2_with (at_builtin; refine stop_here ?_)
 refine go_on ?_
 refine wpList_app rfl _ _ 27 rfl w.heap.size 3 i0 _ 1 8 Tryz.underlying27 hi hz0 hz1 hz2 rfl (.slice none 0 0) 0 [] rfl (World.ownsRow_nil w w.heap.size 3 1) ao l.length cap (ivs l) rfl (by simp) Hnone.out (fun ad had j u hu => Hnews.out ad had j u hu) (ivs_one l) (by have := HN.out; unfold maxLen; omega) (grow_ok (by have := HN.out; omega)) (Nat.le_refl _) ?_
 intro v' w2 g1 g20 g3 g4
 have g2 : w.grownBy w2 (Value.slice none 0 0).ownBlock := g20
 have hb : Below w.heap.size w w2 := ((Mods.refl (fun _ => False) w).grown g2 (fun k hk hlt => by cases hk)).below (Nat.le_refl _) (fun _ _ h => h)
 simp only [Nat.zero_add, List.nil_append] at g1
 have G1 := Lib.hid g1
 clear g1 g20 g2 g3 g4
 obtain ⟨sv, cv, rfl⟩ := owns_slice G1.out
 go_wp2
 go_ret
 exact ⟨_, rfl, by simpa using G1.out, hb⟩
end Go.Proofs.YtaholpfikcdhbaaGreat

/- The reference's Of: its small calls. -/
namespace Go.Proofs.YtaholpfikcdhbaaGreat
open Go.RowKit
theorem rep_succ (k : Nat) (r : Int) : List.replicate (k + 1) r = List.replicate k r ++ [r] := by rw [List.replicate_succ', ]
set_option maxHeartbeats 1000000 in
theorem rports_any (w : World) (n : Nat) (r : Int) (hn : n ≤ 1000) : Calls Tryz.prog 92 #[.int .i64 n, .int .i64 r] w (Stated w (List.replicate n r)) := by
 obtain ⟨i0, hi, hz0, hz1, hz2⟩ := info_parts info_int
 have hni : (n : Int) ≤ 1000 := by omega
 go_enter Tryz.func92, Tryz.ntmps92
 go_wp2_with fail
 go_loopw [5, 6] (fun v i wr => ∃ j : Nat, j ≤ n ∧ i = .int .i64 j ∧ wr.ownsRow w.heap.size 3 1 v j (ivs (List.replicate j r)) ∧ Below w.heap.size w wr) (fun _ i _ => n - (intOf i).toNat)
 case atStart => exact ⟨0, Nat.zero_le _, rfl, by simpa using World.ownsRow_nil w w.heap.size 3 1, Below.refl _ _⟩
 case round =>
  obtain ⟨j, hj, rfl, ho, hb⟩ := hrel
  have hs := hb.size
  obtain ⟨sv, cv, rfl⟩ := owns_slice ho
  by_cases hjn : j < n
  ·
   have hjni : (j : Int) < n := by omega
   go_wp2_with (at_builtin; refine stop_here ?_)
   refine go_on ?_
   refine wpList_app rfl _ _ 27 rfl w.heap.size 3 i0 _ 1 8 Tryz.underlying27 hi hz0 hz1 hz2 rfl (.slice sv j cv) j _ rfl (ho.alloc (.cells #[.int .i64 r] 3)) (some ⟨wr.heap.size, 0, none⟩) 1 1 [.int .i64 r] rfl rfl (fun h => by cases h) (news_alloc wr [.int .i64 r] 3) (by simp [Value.oneCell']) (by unfold maxLen; omega) (grow_ok (by omega)) (size_le_alloc hs _) ?_
   intro v5 w5 k1 k20 _ _
   have k2 : (wr.alloc (.cells #[.int .i64 r] 3)).grownBy w5 (Value.slice sv j cv).ownBlock := k20
   have hb5 := hb.trans (below_app ho k2 hs)
   have k3 : w5.ownsRow w.heap.size 3 1 v5 (j + 1) (ivs (List.replicate (j + 1) r)) := by
    rw [rep_succ]; simpa using k1
   clear k1 k20 k2 ho hb
   go_wp2
   go_roundw
   case rel => exact ⟨j + 1, by omega, by go_num, k3, hb5⟩
   case measure => simp [intOf]; omega
  ·
   obtain rfl : j = n := by omega
   have HO := Lib.hid ho
   clear ho
   go_wp2
   go_ret
   exact ⟨_, rfl, by rw [List.length_replicate]; exact HO.out, hb⟩
theorem rone_any {o : Col} {c : Nat} (w : World) (ao : Option Addr) (n cap : Nat) (l : List Int) (m : Int) (h : Ints w o c (.slice ao n cap) l) : Calls Tryz.prog 106 #[.slice ao n cap, .int .i64 m] w fun e w' => e = .returned (.bool (decide (oneP l m))) ∧ w = w' := by
 obtain rfl := h.len
 by_cases hl : l.length = 1
 ·
  obtain ⟨x, rfl⟩ : ∃ x, l = [x] := by
   match l, hl with
   | [x], _ => exact ⟨x, rfl⟩
  obtain ⟨b, off, rfl, -, hcap, -, -, hc⟩ := h.at (by simp)
  have c0 := hc 0 (by simp)
  simp at c0
  have hc1 : (1 : Int) ≤ cap := by simp at hcap; omega
  clear hc h
  by_cases h1 : 1 ≤ x
  ·
   by_cases h2 : x ≤ m
   ·
    have e : decide (oneP [x] m) = true := decide_eq_true (by simp [oneP, hd]; omega)
    rw [e]
    clear e
    go_enter Tryz.func106, Tryz.ntmps106
    go_wp2
    go_ret
    exact ⟨rfl, rfl⟩
   ·
    have e : decide (oneP [x] m) = false := decide_eq_false (by simp [oneP, hd]; omega)
    rw [e]
    clear e
    go_enter Tryz.func106, Tryz.ntmps106
    go_wp2
    go_ret
    exact ⟨rfl, rfl⟩
  ·
   have e : decide (oneP [x] m) = false := decide_eq_false (by simp [oneP, hd]; omega)
   rw [e]
   clear e
   go_enter Tryz.func106, Tryz.ntmps106
   go_wp2
   go_ret
   exact ⟨rfl, rfl⟩
 ·
  have e : decide (oneP l m) = false := decide_eq_false (fun h => hl h.1)
  have hli : ¬ (l.length : Int) = 1 := by omega
  rw [e]
  clear e h
  go_enter Tryz.func106, Tryz.ntmps106
  go_wp2
  go_ret
  exact ⟨rfl, rfl⟩
set_option maxHeartbeats 1000000 in
theorem rtwo_any {o : Col} {c : Nat} (w : World) (ao : Option Addr) (n cap : Nat) (l : List Int) (h : Ints w o c (.slice ao n cap) l) : Calls Tryz.prog 107 #[.slice ao n cap] w (Quiet (.bool (decide (pairP l))) w) := by
 obtain rfl := h.len
 by_cases hl : l.length = 2
 ·
  obtain ⟨x, y, rfl⟩ : ∃ x y, l = [x, y] := by
   match l, hl with
   | [x, y], _ => exact ⟨x, y, rfl⟩
  obtain ⟨b, off, rfl, -, hcap, -, -, hc⟩ := h.at (by simp)
  have c0 := hc 0 (by simp)
  have c1 := hc 1 (by simp)
  simp at c0 c1
  have hc1 : (2 : Int) ≤ cap := by simp at hcap; omega
  clear hc h
  rcases pair_cases x y with hh | ⟨⟨g1, g2⟩, hh⟩ | ⟨⟨g1, g2⟩, ⟨g3, g4⟩, g5, g6⟩ | ⟨⟨g1, g2⟩, ⟨g3, g4⟩, g5, g6⟩
  ·
   have e : decide (pairP [x, y]) = false := decide_eq_false (by simp [pairP, hd, hd1]; omega)
   rw [e]
   clear e
   by_cases h1 : x < 1
   ·
    go_enter Tryz.func107, Tryz.ntmps107
    go_wp2
    go_ret
    exact ⟨rfl, 0, rfl⟩
   ·
    have h2 : 16 < x := by omega
    go_enter Tryz.func107, Tryz.ntmps107
    go_wp2
    go_ret
    exact ⟨rfl, 0, rfl⟩
  ·
   have e : decide (pairP [x, y]) = false := decide_eq_false (by simp [pairP, hd, hd1]; omega)
   rw [e]
   clear e
   by_cases h1 : y < 1
   ·
    go_enter Tryz.func107, Tryz.ntmps107
    go_wp2
    go_ret
    exact ⟨rfl, 0, rfl⟩
   ·
    have h2 : 64 < y := by omega
    go_enter Tryz.func107, Tryz.ntmps107
    go_wp2
    go_ret
    exact ⟨rfl, 0, rfl⟩
  ·
   have e : decide (pairP [x, y]) = true := decide_eq_true (by simp [pairP, hd, hd1]; omega)
   rw [e]
   clear e
   have hw : wrap64 (x * y) = x * y := IntWalk.wrap64_in _ (by omega)
   go_enter Tryz.func107, Tryz.ntmps107
   go_wp2
   go_quiet (fail)
   go_wp2
   go_ret
   exact ⟨rfl, _, rfl⟩
  ·
   have e : decide (pairP [x, y]) = false := decide_eq_false (by simp [pairP, hd, hd1]; omega)
   rw [e]
   clear e
   have g7 : ¬ x * y ≤ 64 := by omega
   have hw : wrap64 (x * y) = x * y := IntWalk.wrap64_in _ (by omega)
   go_enter Tryz.func107, Tryz.ntmps107
   go_wp2
   go_quiet (fail)
   go_wp2
   go_ret
   refine ⟨?_, _, rfl⟩
   show Ending.returned (.bool (decide (x * y ≤ 64))) = _
   rw [decide_eq_false (show ¬ x * y ≤ 64 by omega)]
 ·
  have e : decide (pairP l) = false := decide_eq_false (fun h => hl h.1)
  have hli : ¬ (l.length : Int) = 2 := by omega
  rw [e]
  clear e h
  go_enter Tryz.func107, Tryz.ntmps107
  go_wp2
  go_ret
  exact ⟨rfl, 0, rfl⟩
end Go.Proofs.YtaholpfikcdhbaaGreat

/- The reference's Of: what may be. -/
namespace Go.Proofs.YtaholpfikcdhbaaGreat
open Go.RowKit
theorem rgood_2 {o : Col} {c : Nat} (w : World) (ao : Option Addr) (n cap : Nat) (l : List Int) (h : Ints w o c (.slice ao n cap) l) : Calls Tryz.prog 91 #[.int .u8 2, .slice ao n cap] w (Quiet (.bool (decide (goodP 2 l))) w) := by
 have e : goodP 2 l ↔ oneP l 64 := by simp [goodP]
 rw [show decide (goodP 2 l) = decide (oneP l 64) from decide_eq_decide.2 e]
 have H := Lib.hid h
 clear h e
 go_enter Tryz.func91, Tryz.ntmps91
 go_wp2_with fail
 refine (rone_any _ _ _ _ l 64 H.out).mono ?_
 rintro e w' ⟨rfl, rfl⟩
 go_wp2
 go_ret
 exact ⟨rfl, 0, rfl⟩
theorem rgood_3 {o : Col} {c : Nat} (w : World) (ao : Option Addr) (n cap : Nat) (l : List Int) (h : Ints w o c (.slice ao n cap) l) : Calls Tryz.prog 91 #[.int .u8 3, .slice ao n cap] w (Quiet (.bool (decide (goodP 3 l))) w) := by
 have e : goodP 3 l ↔ oneP l 64 := by simp [goodP]
 rw [show decide (goodP 3 l) = decide (oneP l 64) from decide_eq_decide.2 e]
 have H := Lib.hid h
 clear h e
 go_enter Tryz.func91, Tryz.ntmps91
 go_wp2_with fail
 refine (rone_any _ _ _ _ l 64 H.out).mono ?_
 rintro e w' ⟨rfl, rfl⟩
 go_wp2
 go_ret
 exact ⟨rfl, 0, rfl⟩
theorem rgood_11 {o : Col} {c : Nat} (w : World) (ao : Option Addr) (n cap : Nat) (l : List Int) (h : Ints w o c (.slice ao n cap) l) : Calls Tryz.prog 91 #[.int .u8 11, .slice ao n cap] w (Quiet (.bool (decide (goodP 11 l))) w) := by
 have e : goodP 11 l ↔ oneP l 64 := by simp [goodP]
 rw [show decide (goodP 11 l) = decide (oneP l 64) from decide_eq_decide.2 e]
 have H := Lib.hid h
 clear h e
 go_enter Tryz.func91, Tryz.ntmps91
 go_wp2_with fail
 refine (rone_any _ _ _ _ l 64 H.out).mono ?_
 rintro e w' ⟨rfl, rfl⟩
 go_wp2
 go_ret
 exact ⟨rfl, 0, rfl⟩
theorem rgood_6 {o : Col} {c : Nat} (w : World) (ao : Option Addr) (n cap : Nat) (l : List Int) (h : Ints w o c (.slice ao n cap) l) : Calls Tryz.prog 91 #[.int .u8 6, .slice ao n cap] w (Quiet (.bool (decide (goodP 6 l))) w) := by
 have e : goodP 6 l ↔ oneP l 16 := by simp [goodP]
 rw [show decide (goodP 6 l) = decide (oneP l 16) from decide_eq_decide.2 e]
 have H := Lib.hid h
 clear h e
 go_enter Tryz.func91, Tryz.ntmps91
 go_wp2_with fail
 refine (rone_any _ _ _ _ l 16 H.out).mono ?_
 rintro e w' ⟨rfl, rfl⟩
 go_wp2
 go_ret
 exact ⟨rfl, 0, rfl⟩
theorem rgood_9 {o : Col} {c : Nat} (w : World) (ao : Option Addr) (n cap : Nat) (l : List Int) (h : Ints w o c (.slice ao n cap) l) : Calls Tryz.prog 91 #[.int .u8 9, .slice ao n cap] w (Quiet (.bool (decide (goodP 9 l))) w) := by
 have e : goodP 9 l ↔ oneP l 16 := by simp [goodP]
 rw [show decide (goodP 9 l) = decide (oneP l 16) from decide_eq_decide.2 e]
 have H := Lib.hid h
 clear h e
 go_enter Tryz.func91, Tryz.ntmps91
 go_wp2_with fail
 refine (rone_any _ _ _ _ l 16 H.out).mono ?_
 rintro e w' ⟨rfl, rfl⟩
 go_wp2
 go_ret
 exact ⟨rfl, 0, rfl⟩
theorem rgood_4 {o : Col} {c : Nat} (w : World) (ao : Option Addr) (n cap : Nat) (l : List Int) (h : Ints w o c (.slice ao n cap) l) : Calls Tryz.prog 91 #[.int .u8 4, .slice ao n cap] w (Quiet (.bool (decide (goodP 4 l))) w) := by
 have e : goodP 4 l ↔ pairP l := by simp [goodP]
 rw [show decide (goodP 4 l) = decide (pairP l) from decide_eq_decide.2 e]
 have H := Lib.hid h
 clear h e
 go_enter Tryz.func91, Tryz.ntmps91
 go_wp2_with fail
 refine (rtwo_any _ _ _ _ l H.out).mono ?_
 rintro e w' ⟨rfl, m, rfl⟩
 go_wp2
 go_ret
 exact ⟨rfl, m, rfl⟩
theorem rgood_5 {o : Col} {c : Nat} (w : World) (ao : Option Addr) (n cap : Nat) (l : List Int) (h : Ints w o c (.slice ao n cap) l) : Calls Tryz.prog 91 #[.int .u8 5, .slice ao n cap] w (Quiet (.bool (decide (goodP 5 l))) w) := by
 have e : goodP 5 l ↔ pairP l := by simp [goodP]
 rw [show decide (goodP 5 l) = decide (pairP l) from decide_eq_decide.2 e]
 have H := Lib.hid h
 clear h e
 go_enter Tryz.func91, Tryz.ntmps91
 go_wp2_with fail
 refine (rtwo_any _ _ _ _ l H.out).mono ?_
 rintro e w' ⟨rfl, m, rfl⟩
 go_wp2
 go_ret
 exact ⟨rfl, m, rfl⟩
theorem rgood_7 {o : Col} {c : Nat} (w : World) (ao : Option Addr) (n cap : Nat) (l : List Int) (h : Ints w o c (.slice ao n cap) l) : Calls Tryz.prog 91 #[.int .u8 7, .slice ao n cap] w (Quiet (.bool (decide (goodP 7 l))) w) := by
 have e : goodP 7 l ↔ l.length = 0 := by simp [goodP]
 rw [show decide (goodP 7 l) = decide (l.length = 0) from decide_eq_decide.2 e]
 obtain rfl := h.len
 clear h e
 generalize l.length = L at *
 by_cases hl : L = 0
 ·
  subst hl
  rw [decide_eq_true rfl]
  go_enter Tryz.func91, Tryz.ntmps91
  go_wp2
  go_ret
  exact ⟨rfl, 0, rfl⟩
 ·
  have hb : decide (L = 0) = false := decide_eq_false hl
  have hb1 : ((L : Int) == 0) = false := by simp; omega
  rw [hb]
  go_enter Tryz.func91, Tryz.ntmps91
  go_wp2
  go_ret
  refine ⟨?_, 0, rfl⟩
  first
   | rfl
   | (show Ending.returned (.bool (decide (L = 0))) = _; rw [hb])
   | (show Ending.returned (.bool (L == 0)) = _; simp [hl])
   | (show Ending.returned (.bool ((L : Int) == 0)) = _; rw [hb1])
   | (show Ending.returned (.bool (decide ((L : Int) = 0))) = _; rw [decide_eq_false (by omega)])
theorem rgood_8 {o : Col} {c : Nat} (w : World) (ao : Option Addr) (n cap : Nat) (l : List Int) (h : Ints w o c (.slice ao n cap) l) : Calls Tryz.prog 91 #[.int .u8 8, .slice ao n cap] w (Quiet (.bool (decide (goodP 8 l))) w) := by
 have e : goodP 8 l ↔ l.length = 0 := by simp [goodP]
 rw [show decide (goodP 8 l) = decide (l.length = 0) from decide_eq_decide.2 e]
 obtain rfl := h.len
 clear h e
 generalize l.length = L at *
 by_cases hl : L = 0
 ·
  subst hl
  rw [decide_eq_true rfl]
  go_enter Tryz.func91, Tryz.ntmps91
  go_wp2
  go_ret
  exact ⟨rfl, 0, rfl⟩
 ·
  have hb : decide (L = 0) = false := decide_eq_false hl
  have hb1 : ((L : Int) == 0) = false := by simp; omega
  rw [hb]
  go_enter Tryz.func91, Tryz.ntmps91
  go_wp2
  go_ret
  refine ⟨?_, 0, rfl⟩
  first
   | rfl
   | (show Ending.returned (.bool (decide (L = 0))) = _; rw [hb])
   | (show Ending.returned (.bool (L == 0)) = _; simp [hl])
   | (show Ending.returned (.bool ((L : Int) == 0)) = _; rw [hb1])
   | (show Ending.returned (.bool (decide ((L : Int) = 0))) = _; rw [decide_eq_false (by omega)])
theorem rgood_10 {o : Col} {c : Nat} (w : World) (ao : Option Addr) (n cap : Nat) (l : List Int) (h : Ints w o c (.slice ao n cap) l) : Calls Tryz.prog 91 #[.int .u8 10, .slice ao n cap] w (Quiet (.bool (decide (goodP 10 l))) w) := by
 have e : goodP 10 l ↔ l.length = 2 := by simp [goodP]
 rw [show decide (goodP 10 l) = decide (l.length = 2) from decide_eq_decide.2 e]
 obtain rfl := h.len
 clear h e
 generalize l.length = L at *
 by_cases hl : L = 2
 ·
  subst hl
  rw [decide_eq_true rfl]
  go_enter Tryz.func91, Tryz.ntmps91
  go_wp2
  go_ret
  exact ⟨rfl, 0, rfl⟩
 ·
  have hb : decide (L = 2) = false := decide_eq_false hl
  have hb1 : ((L : Int) == 2) = false := by simp; omega
  rw [hb]
  go_enter Tryz.func91, Tryz.ntmps91
  go_wp2
  go_ret
  refine ⟨?_, 0, rfl⟩
  first
   | rfl
   | (show Ending.returned (.bool (decide (L = 2))) = _; rw [hb])
   | (show Ending.returned (.bool (L == 2)) = _; simp [hl])
   | (show Ending.returned (.bool ((L : Int) == 2)) = _; rw [hb1])
   | (show Ending.returned (.bool (decide ((L : Int) = 2))) = _; rw [decide_eq_false (by omega)])
theorem rgood_1 {o : Col} {c : Nat} (w : World) (ao : Option Addr) (n cap : Nat) (l : List Int) (h : Ints w o c (.slice ao n cap) l) : Calls Tryz.prog 91 #[.int .u8 1, .slice ao n cap] w (Quiet (.bool (decide (goodP 1 l))) w) := by
 have e : goodP 1 l ↔ 1 ≤ l.length ∧ l.length ≤ 16 := by simp [goodP]
 rw [show decide (goodP 1 l) = decide (1 ≤ l.length ∧ l.length ≤ 16) from decide_eq_decide.2 e]
 obtain rfl := h.len
 clear h e
 by_cases h1 : 1 ≤ l.length
 ·
  have h1i : (1 : Int) ≤ l.length := by omega
  by_cases h2 : l.length ≤ 16
  ·
   have h2i : (l.length : Int) ≤ 16 := by omega
   rw [decide_eq_true ⟨h1, h2⟩]
   go_enter Tryz.func91, Tryz.ntmps91
   go_wp2
   go_ret
   exact ⟨rfl, 0, rfl⟩
  ·
   have h2i : ¬ (l.length : Int) ≤ 16 := by omega
   rw [decide_eq_false (fun h => h2 h.2)]
   go_enter Tryz.func91, Tryz.ntmps91
   go_wp2
   go_ret
   exact ⟨rfl, 0, rfl⟩
 ·
  have h1i : ¬ (1 : Int) ≤ l.length := by omega
  rw [decide_eq_false (fun h => h1 h.1)]
  go_enter Tryz.func91, Tryz.ntmps91
  go_wp2
  go_ret
  exact ⟨rfl, 0, rfl⟩
theorem rgood_any {o : Col} {c : Nat} (w : World) (t : Int) (ht : TagOk t) (ao : Option Addr) (n cap : Nat) (l : List Int) (h : Ints w o c (.slice ao n cap) l) : Calls Tryz.prog 91 #[.int .u8 t, .slice ao n cap] w (Quiet (.bool (decide (goodP t l))) w) := by
 rcases ht with rfl | rfl | rfl | rfl | rfl | rfl | rfl | rfl | rfl | rfl | rfl
 ·
  exact rgood_1 w ao n cap l h
 ·
  exact rgood_2 w ao n cap l h
 ·
  exact rgood_3 w ao n cap l h
 ·
  exact rgood_4 w ao n cap l h
 ·
  exact rgood_5 w ao n cap l h
 ·
  exact rgood_6 w ao n cap l h
 ·
  exact rgood_7 w ao n cap l h
 ·
  exact rgood_8 w ao n cap l h
 ·
  exact rgood_9 w ao n cap l h
 ·
  exact rgood_10 w ao n cap l h
 ·
  exact rgood_11 w ao n cap l h
theorem rof_tag (w : World) (t : Int) (v : Value) (h : t < 1 ∨ 11 < t) : Calls Tryz.prog 68 #[.int .u8 t, v] w (OfNo w 60) := by
 by_cases h1 : t < 1
 ·
  go_enter Tryz.func68, Tryz.ntmps68
  go_wp2
  go_ret3
  exact ⟨rfl, Below.refl _ _⟩
 ·
  have h2 : 11 < t := by omega
  go_enter Tryz.func68, Tryz.ntmps68
  go_wp2
  go_ret3
  exact ⟨rfl, Below.refl _ _⟩
theorem rof_bad {o : Col} {c : Nat} (w : World) (t : Int) (ht : TagOk t) (ao : Option Addr) (n cap : Nat) (l : List Int) (hg : ¬ goodP t l) (h : Ints w o c (.slice ao n cap) l) : Calls Tryz.prog 68 #[.int .u8 t, .slice ao n cap] w (OfNo w 61) := by
 have h1 : 1 ≤ t := by unfold TagOk at ht; omega
 have h2 : t ≤ 11 := by unfold TagOk at ht; omega
 have hgd := rgood_any w t ht ao n cap l h
 rw [decide_eq_false hg] at hgd
 clear ht hg h
 go_enter Tryz.func68, Tryz.ntmps68
 go_wp2_with fail
 refine hgd.mono ?_
 rintro e w' ⟨rfl, m, rfl⟩
 clear hgd
 go_wp2
 go_ret3
 exact ⟨rfl, below_n (Below.refl _ _) m⟩
end Go.Proofs.YtaholpfikcdhbaaGreat
