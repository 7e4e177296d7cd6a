/- The law 'pianola DynNil' (said): for every input it returns true, and what it was handed reads as before. The frame: arguments opened, the walk called, arguments shut. -/
import Derived.Test.YtaholpfikcdhbaaDynNilZ7
import Derived.Test.YtaholpfikcdhbaaDynNilZ5
import Derived.Test.YtaholpfikcdhbaaDynNilZ2
import Derived.Test.YtaholpfikcdhbaaDynNilZ3
import Derived.Test.YtaholpfikcdhbaaDynNilZ1
import Derived.Deep.Slices
import Derived.SizedLaws
import Derived.WalkKit
import Derived.ProofKit
import Derived.OpenShut
import Derived.ChangeOld
import Derived.Below
import Derived.Test.YtaholpfikcdhbaaRows
import Derived.ShutString
/- dyn's New. -/
namespace Go.Proofs.Ytaholpfikcdhbaa
open Go.RowKit

/-- what New answers -/
def DNewRet (w : World) (o : Col) (R : Nat) (g : GGraph) (caps : List Int) (e : Ending) (w' : World) : Prop :=
  (newE g caps ≠ 0 → e = .returned (.tuple #[.pointer none, .int .i64 (newE g caps)]) ∧ Below w.heap.size w w') ∧
  (newE g caps = 0 → ∃ b o' qs v, e = .returned (.tuple #[.pointer (some ⟨b, 0, none⟩), .int .i64 0]) ∧ Turn o o' (fun _ => False) w w' ∧ RigOk w' o' R b g caps 256 qs v.tb ⟨newRig g, none⟩ v ∧ GOk g caps ∧ ∀ k, w.heap.size ≤ k → R ≤ o' k ∧ o' k < R + 6010)
theorem dnew_no {w w' : World} {o : Col} {R : Nat} {g : GGraph} {caps : List Int} {E : Int} (hE : newE g caps = E) (h0 : E ≠ 0) (hb : Below w.heap.size w w') : DNewRet w o R g caps (.returned (.tuple #[.pointer none, .int .i64 E])) w' :=
  ⟨fun _ => ⟨by rw [hE], hb⟩, fun h => absurd (hE.symm.trans h) h0⟩
theorem dnew_yes {w w' : World} {o q : Col} {R b : Nat} {g : GGraph} {caps : List Int} {qs : Ptrs} {v : RVals} (hR : 1 ≤ R) (hE : newE g caps = 0) (K : Kept w.heap.size q w w') (h : RigOk w' q R b g caps 256 qs v.tb ⟨newRig g, none⟩ v) (hG : GOk g caps) : DNewRet w o R g caps (.returned (.tuple #[.pointer (some ⟨b, 0, none⟩), .int .i64 0])) w' := by
  refine ⟨fun h => absurd hE h, fun _ => ⟨b, fun k => if k < w.heap.size then o k else if R ≤ q k ∧ q k < R + 6000 then q k else R + 6009, qs, v, rfl, ⟨Mods.of_below K.below _, fun k hk => by simp [hk]⟩, h.recol (fun k hk => ?_), hG, fun k hk => ?_⟩⟩
  · have : ¬ k < w.heap.size := fun hlt => by
      have := K.old k hlt
      unfold MineR at hk
      omega
    unfold MineR at hk
    simp only [if_neg this]
    rw [if_pos (by omega)]
  · simp only [if_neg (Nat.not_lt.2 hk)]
    split <;> omega
/-- while it is built -/
structure NewAt (w0 w : World) (q : Col) (R b X : Nat) (g : GGraph) (caps : List Int) (qs : Ptrs) (nT nE nI nO F B : Nat) (v : RVals) (gv : Array Value) : Prop where
  kept : Kept w0.heap.size q w0 w
  graph : Blk w q (R + 6000) X 61 gv
  half : HalfR w q R b g caps qs nT nE nI nO F B v
theorem NewAt.turn {w0 w w' : World} {q q' : Col} {C : Nat → Prop} {R b X : Nat} {g : GGraph} {caps : List Int} {qs : Ptrs} {nT nE nI nO F B : Nat} {v : RVals} {gv : Array Value} (h : NewAt w0 w q R b X g caps qs nT nE nI nO F B v gv) (T : Turn q q' C w w') (hC0 : ¬ C 0) (hX : ¬ C (R + 6000)) (hC : ∀ k, C k → MineR R k → R + 100 + 64 * nT ≤ k ∧ k < R + 4000) : NewAt w0 w' q' R b X g caps qs nT nE nI nO F B v gv :=
  ⟨h.kept.turn T hC0, h.graph.turn T hX, h.half.turn T hC⟩
theorem NewAt.later {w0 w w' : World} {q : Col} {R b X : Nat} {g : GGraph} {caps : List Int} {qs : Ptrs} {nT nE nI nO F B : Nat} {v : RVals} {gv : Array Value} (h : NewAt w0 w q R b X g caps qs nT nE nI nO F B v gv) (c : Nat) (hb : Below w.heap.size w w') : NewAt w0 w' (ext q w.heap.size c) R b X g caps qs nT nE nI nO F B v gv := h.turn (Turn.of_below q c hb) (fun h => h) (fun h => h) (fun _ h => h.elim)
theorem start_half {w : World} {q : Col} {R : Nat} (g : GGraph) (caps : List Int) (hf : g.actors.length ≤ 32 ∧ g.edges.length ≤ 96 ∧ g.ins.length ≤ 16 ∧ g.outs.length ≤ 16) : HalfR (w.alloc (.cells #[.slice none 0 0, .slice none 0 0, .slice none 0 0, .slice none 0 0, .int .i64 (-1)] 40)) (ext q w.heap.size R) R w.heap.size g caps (fun _ => 0) 0 0 0 0 0 0 ⟨.slice none 0 0, .slice none 0 0, .slice none 0 0, .slice none 0 0, fun _ => 0, fun _ => ⟨0, .nilIface, .nilIface, .nilIface, .nilIface, 0, [], .nilIface, []⟩, fun _ => .nilIface⟩ :=
  ⟨blk_new q R _ _, Own.nil _ _ _ _ _, Own.nil _ _ _ _ _, Own.nil _ _ _ _ _, Own.nil _ _ _ _ _, fun t ht => by omega, fun d hd => by omega, fun d _ hd => by omega, ⟨by omega, by omega, by omega, by omega⟩, hf⟩

set_option maxRecDepth 100000 in
set_option maxHeartbeats 4000000 in
theorem dnew_any (w : World) (o : Col) (R : Nat) (hR : 1 ≤ R) (v : Value) (g : GGraph) (caps : List Int) {ca : Option Addr} {nc cc : Nat} (hv : HasGraph w v g) (hz : GSized g) (hc : Has w (.slice ca nc cc) (ivs caps)) (hcb : caps.length ≤ 17600000000000)
    (hfp : ∀ a ∈ g.actors, ∀ x ∈ a.params, Fits x) (hfs : ∀ e ∈ g.edges, ∀ x ∈ e.start, Fits x) (hfc : ∀ c ∈ caps, Fits c) : Calls Try.prog 19 #[v, .slice ca nc cc] w (DNewRet w o R g caps) := by
  obtain ⟨va, ve, vi, vo, rfl, ra, re, ri, ro⟩ := hv.shape
  obtain ⟨aa, ac, rfl⟩ := ra.slice
  obtain ⟨ae, ec, rfl⟩ := re.slice
  obtain ⟨ai, ic, rfl⟩ := ri.slice
  obtain ⟨ao, oc, rfl⟩ := ro.slice
  obtain rfl : nc = caps.length := by simpa using Vals.len hc
  have HG := Lib.hid hv
  have HRA := Lib.hid ra
  have HRE := Lib.hid re
  have HRI := Lib.hid ri
  have HRO := Lib.hid ro
  have HZ := Lib.hid hz
  have HC := Lib.hid hc
  have HFP := Lib.hid hfp
  have HFS := Lib.hid hfs
  have HFC := Lib.hid hfc
  clear hv ra re ri ro hz hc hfp hfs hfc
  have hb1 := below_alloc w (.cells #[.string g.name, .slice aa g.actors.length ac, .slice ae g.edges.length ec, .slice ai g.ins.length ic, .slice ao g.outs.length oc] 61)
  have T1 := Turn.of_below (fun _ => 0) (R + 6000) hb1
  have hX := blk_new (w := w) (fun _ => 0) (R + 6000) #[.string g.name, .slice aa g.actors.length ac, .slice ae g.edges.length ec, .slice ai g.ins.length ic, .slice ao g.outs.length oc] 61
  have K1 := (Kept.start w).turn T1 (fun h => h)
  have HX := Lib.hid hX
  have HK := Lib.hid K1
  have x0 := hX.cell 0 _ rfl
  have x1 := hX.cell 1 _ rfl
  have x2 := hX.cell 2 _ rfl
  have x3 := hX.cell 3 _ rfl
  have x4 := hX.cell 4 _ rfl
  generalize ext (fun _ => 0) w.heap.size (R + 6000) = q0 at *
  clear T1 hX K1 hb1
  obtain ⟨E, hE⟩ : ∃ x, checkE g = x := ⟨_, rfl⟩
  have HE := Lib.hid hE
  clear hE
  by_cases h0 : E ≠ 0
  · have hb : (E != 0) = true := by rw [bne_iff_ne]; exact h0
    have H0 := Lib.hid h0
    clear h0
    go_enter Try.func19, Try.ntmps19
    go_wp2_with fail
    refine (gcheck_any _ _ g (HG.out.below HK.out.below) HZ.out).mono ?_
    rintro e w2 ⟨rfl, hb2⟩
    rw [HE.out]
    have HB2 := Lib.hid (HK.out.below.trans (hb2.mono HK.out.size))
    clear hb2
    go_wp2
    go_ret2
    exact dnew_no (by unfold newE; rw [HE.out, if_pos H0.out]) H0.out HB2.out
  obtain rfl : E = 0 := by simpa using h0
  clear h0
  by_cases h1 : ¬ caps.length = g.edges.length
  · have hb : ((caps.length : Int) != (g.edges.length : Int)) = true := by rw [bne_iff_ne]; omega
    have H1 := Lib.hid h1
    clear h1
    go_enter Try.func19, Try.ntmps19
    go_wp2_with fail
    refine (gcheck_any _ _ g (HG.out.below HK.out.below) HZ.out).mono ?_
    rintro e w2 ⟨rfl, hb2⟩
    rw [HE.out]
    have HB2 := Lib.hid (HK.out.below.trans (hb2.mono HK.out.size))
    have x2 := (HX.out.turn (Turn.of_below q0 0 hb2) (fun h => h)).cell 2 _ rfl
    clear hb2
    go_wp2
    go_ret2
    exact dnew_no (by unfold newE; rw [if_neg (by rw [HE.out]; decide), if_pos H1.out]) (by decide) HB2.out
  have h1 : caps.length = g.edges.length := Decidable.not_not.1 h1
  have hb : ((caps.length : Int) != (g.edges.length : Int)) = false := by rw [bne_eq_false_iff_eq]; omega
  have H1 := Lib.hid h1
  have HS := Lib.hid (sound_of HE.out)
  have hf := head_few HS.out.head
  have HF := Lib.hid hf
  clear hf h1
  go_enter Try.func19, Try.ntmps19
  go_wp2_with fail
  refine (gcheck_any _ _ g (HG.out.below HK.out.below) HZ.out).mono ?_
  rintro e w2 ⟨rfl, hb2⟩
  rw [HE.out]
  have T2 := Turn.of_below q0 (R + 6001) hb2
  have HK2 := Lib.hid (HK.out.turn T2 (fun h => h))
  have hX2 := HX.out.turn T2 (fun h => h)
  have HX2 := Lib.hid hX2
  have x1 := hX2.cell 1 _ rfl
  have x2 := hX2.cell 2 _ rfl
  generalize ext q0 _ (R + 6001) = q2 at *
  clear T2 hX2 hb2 HK HX x0 x3 x4
  have T3 := Turn.of_below q2 R (below_alloc w2 (.cells #[.slice none 0 0, .slice none 0 0, .slice none 0 0, .slice none 0 0, .int .i64 (-1)] 40))
  have HN := Lib.hid (NewAt.mk (HK2.out.turn T3 (fun h => h)) (HX2.out.turn T3 (fun h => h)) (start_half (w := w2) (q := q2) (R := R) g caps HF.out))
  have x1 := HN.out.graph.cell 1 _ rfl
  generalize ext q2 _ R = q3 at *
  generalize (⟨.slice none 0 0, .slice none 0 0, .slice none 0 0, .slice none 0 0, fun _ => 0, fun _ => ⟨0, .nilIface, .nilIface, .nilIface, .nilIface, 0, [], .nilIface, []⟩, fun _ => .nilIface⟩ : RVals) = v0 at *
  clear T3 HK2 HX2
  go_wp2_with fail
  obtain ⟨w3, hw3⟩ : ∃ x, w2.alloc (.cells #[.slice none 0 0, .slice none 0 0, .slice none 0 0, .slice none 0 0, .int .i64 (-1)] 40) = x := ⟨_, rfl⟩
  rw [hw3] at HN x1 ⊢
  obtain ⟨b, hbe⟩ : ∃ x, w2.heap.size = x := ⟨_, rfl⟩
  rw [hbe] at HN ⊢
  clear hbe hw3 hb x2
  go_loopw [41] (fun i wz => ∃ (k : Nat) (q : Col) (v : RVals), k ≤ g.actors.length ∧ i = .int .i64 k ∧ NewAt w wz q R b w.heap.size g caps (fun _ => 0) k 0 0 0 0 0 v #[.string g.name, .slice aa g.actors.length ac, .slice ae g.edges.length ec, .slice ai g.ins.length ic, .slice ao g.outs.length oc]) (fun i _ => g.actors.length - (intOf i).toNat)
  case atStart => exact ⟨0, _, v0, Nat.zero_le _, rfl, HN.out⟩
  case round =>
    clear HN x1
    obtain ⟨k, q, v, hk, rfl, hN⟩ := hrel
    have HN := Lib.hid hN
    clear hN
    by_cases hlt : k < g.actors.length
    · have hlti : (k : Int) < g.actors.length := by omega
      obtain ⟨b0, off, rfl, hcap, hb0, hrec⟩ := HRA.out.at (by omega)
      obtain ⟨cs, hcs, hPR, hcl⟩ := hrec k hlt
      obtain ⟨xs, rfl, hst⟩ := hPR
      have c0 := cell_later HN.out.kept.below (hcl 0 (by omega))
      have c1 := cell_later HN.out.kept.below (hcl 1 (by omega))
      have c2 := cell_later HN.out.kept.below (hcl 2 (by omega))
      simp at c0 c1 c2
      have hcapi : (g.actors.length : Int) ≤ ac := by omega
      obtain ⟨sa, sc, hxs⟩ := Ints.slice hst
      subst hxs
      have HST := Lib.hid hst
      clear hrec hcl hcs hst hb0 hcap
      have hba := List.getElem_mem hlt
      have hgo := HS.out.good _ hba
      have hag : g.actors[k]? = some g.actors[k] := List.getElem?_eq_getElem hlt
      have hrI : ratesI g k = insP g.actors[k].tag g.actors[k].params := by unfold ratesI; rw [hag]
      have hrO : ratesO g k = outsP g.actors[k].tag g.actors[k].params := by unfold ratesO; rw [hag]
      have hlens := shape_len hgo
      rw [← hrI, ← hrO] at hlens
      have HGO := Lib.hid hgo
      have HAG := Lib.hid hag
      have HRTI := Lib.hid hrI
      have HRTO := Lib.hid hrO
      have HLE := Lib.hid hlens
      have HFPA := Lib.hid (HFP.out _ hba)
      obtain ⟨a, hae⟩ : ∃ a, g.actors[k] = a := ⟨_, rfl⟩
      rw [hae] at c0 c1 c2 HST HGO HAG HRTI HRTO HFPA
      clear hba hgo hag hrI hrO hlens
      go_wp2_with fail
      obtain ⟨w4, hw4⟩ : ∃ x, wr.alloc (.cells #[.string a.name, .int .u8 a.tag, .slice sa a.params.length sc] 75) = x := ⟨_, rfl⟩
      have HN4 := Lib.hid (HN.out.later (R + 6001) (below_alloc wr (.cells #[.string a.name, .int .u8 a.tag, .slice sa a.params.length sc] 75)))
      rw [hw4] at HN4 ⊢
      generalize ext q wr.heap.size (R + 6001) = q4 at *
      clear hw4 HN c0 c1 c2
      obtain ⟨M, hM⟩ : ∃ M, R + 100 + 64 * k = M := ⟨_, rfl⟩
      have HM := Lib.hid hM
      clear hM
      refine (New_act q4 (M + 1) (M + 2) (by omega) HGO.out HFPA.out (HST.out.below HN4.out.kept.below)).mono ?_
      rintro e w5 ⟨bp, q5, rfl, T5, hA⟩
      have HN5 := Lib.hid (HN4.out.turn T5 (fun h => h) (fun h => h) (fun _ h => h.elim))
      have T6 := Turn.of_below q5 M (below_alloc w5 (.cells #[.pointer (some ⟨bp, 0, none⟩), .slice none 0 0, .slice none 0 0, .slice none 0 0, .slice none 0 0, .slice none 0 0, .slice none 0 0, .int .i64 0, .bool false, .int .i64 0] 54))
      have HB6 := Lib.hid (blk_new (w := w5) q5 M #[.pointer (some ⟨bp, 0, none⟩), .slice none 0 0, .slice none 0 0, .slice none 0 0, .slice none 0 0, .slice none 0 0, .slice none 0 0, .int .i64 0, .bool false, .int .i64 0] 54)
      have HA6 := Lib.hid (hA.turn T6 (fun h => h) (fun h => h))
      have HN6 := Lib.hid (HN5.out.turn T6 (fun h => h) (fun h => h) (fun _ h => h.elim))
      generalize ext q5 w5.heap.size M = q6 at *
      clear T5 hA T6 HN4 HN5
      go_wp2_with fail
      obtain ⟨w6, hw6⟩ : ∃ x, w5.alloc (.cells #[.pointer (some ⟨bp, 0, none⟩), .slice none 0 0, .slice none 0 0, .slice none 0 0, .slice none 0 0, .slice none 0 0, .slice none 0 0, .int .i64 0, .bool false, .int .i64 0] 54) = x := ⟨_, rfl⟩
      obtain ⟨tb, htb⟩ : ∃ x, w5.heap.size = x := ⟨_, rfl⟩
      rw [hw6] at HB6 HA6 HN6 ⊢
      rw [htb] at HB6 ⊢
      clear hw6 htb
      refine (Shape_act HA6.out).mono ?_
      intro e w7 hRt
      obtain ⟨vi, vo, q7, rfl, T7, oi, oo⟩ := rated_col q6 M hRt
      rw [← HRTI.out] at oi
      rw [← HRTO.out] at oo
      obtain ⟨ia, ic, rfl⟩ := oi.slice
      obtain ⟨oa, occ, rfl⟩ := oo.slice
      have hB7 := HB6.out.turn T7 (fun h => h)
      have c3 := hB7.cell 3 _ rfl
      have c4 := hB7.cell 4 _ rfl
      have f3 := hB7.frozen 3
      have f4 := hB7.frozen 4
      obtain ⟨hB8, S8⟩ := hB7.set 3 (.slice ia (ratesI g k).length ic)
      obtain ⟨hB9, S9⟩ := hB8.set 4 (.slice oa (ratesO g k).length occ)
      have T9 := S8.trans S9 (fun _ h => h)
      have hmt : ∀ c, c = M → MineR R c → R + 100 + 64 * k ≤ c ∧ c < R + 4000 := fun c hc hm => by have := HM.out; have := HF.out.1; omega
      have HMT := Lib.hid hmt
      have HOI := Lib.hid (oi.turn T9 (by omega))
      have HOO := Lib.hid (oo.turn T9 (by omega))
      have HA9 := Lib.hid ((HA6.out.turn T7 (fun h => h) (fun h => h)).turn T9 (by omega) (by omega))
      have HN9 := Lib.hid ((HN6.out.turn T7 (fun h => h) (fun h => h) (fun _ h => h.elim)).turn T9 (by have := HM.out; omega) (by have := HM.out; have := HF.out.1; omega) hmt)
      have hB9' : Blk _ q7 M tb 54 #[.pointer (some ⟨bp, 0, none⟩), .slice none 0 0, .slice none 0 0, .slice ia (ratesI g k).length ic, .slice oa (ratesO g k).length occ, .slice none 0 0, .slice none 0 0, .int .i64 0, .bool false, .int .i64 0] := hB9
      have HB9 := Lib.hid hB9'
      clear T7 oi oo hB7 hB8 S8 hB9 hB9' S9 T9 hmt HB6 HA6 HN6 hRt
      obtain ⟨nI, hnI⟩ : ∃ x, (ratesI g k).length = x := ⟨_, rfl⟩
      obtain ⟨nO, hnO⟩ : ∃ x, (ratesO g k).length = x := ⟨_, rfl⟩
      have HNI := Lib.hid hnI
      have HNO := Lib.hid hnO
      rw [hnI] at HB9 HOI HLE ⊢
      rw [hnO] at HB9 HOO HLE ⊢
      rw [hnO] at HOI
      rw [hnI] at HOO
      rw [hnI, hnO] at HA9 HN9
      clear hnI hnO
      go_wp2_with fail
      obtain ⟨w8, hw8⟩ : ∃ x, (w7.setCell ⟨tb, 3, none⟩ (.slice ia nI ic)).setCell ⟨tb, 4, none⟩ (.slice oa nO occ) = x := ⟨_, rfl⟩
      rw [hw8] at HB9 HOI HOO HA9 HN9 ⊢
      clear hw8 c3 c4 f3 f4
      have c3 := HB9.out.cell 3 _ rfl
      have c4 := HB9.out.cell 4 _ rfl
      have hmi := mk_srcs nI (by have := HLE.out; omega)
      have hmo := mk_snks nO (by have := HLE.out; omega)
      obtain ⟨zi, hzi⟩ : ∃ x, (List.replicate nI Value.nilIface).toArray = x := ⟨_, rfl⟩
      obtain ⟨zo, hzo⟩ : ∃ x, (List.replicate nO Value.nilIface).toArray = x := ⟨_, rfl⟩
      rw [hzi] at hmi
      rw [hzo] at hmo
      have HZI := Lib.hid hzi
      have HZO := Lib.hid hzo
      clear hzi hzo
      go_cut [70] from 70 to 88 (fun _ wx => Ported q7 w8 M tb nI nO (.pointer (some ⟨bp, 0, none⟩)) (.slice ia nI ic) (.slice oa nO occ) wx)
      case first =>
        refine wp_region_drift (fun w' => w'.cell? ⟨tb, 3, none⟩ = some (.slice ia nI ic) ∧ w'.cell? ⟨tb, 4, none⟩ = some (.slice oa nO occ)) [0, 1, 2, 3, 4, 5, 6, 8, 9, 10, 11, 12, 14, 15] [7, 13, 16] [0, 1, 2, 3, 4, 5, 6, 8, 9, 10, 11, 12] 8 (by kernel_rfl) (by kernel_rfl) rfl ⟨c3, c4⟩ ?_
        intro Q' hQ' hQ2
        simp only [pickOps, List.flatMap_cons, List.flatMap_nil, List.drop_succ_cons, List.drop_zero, List.take_succ_cons, List.take_zero, List.cons_append, List.nil_append, List.append_nil]
        repeat (first
          | (refine wpReads_skip (by rfl) ?_; (try simp only [Act.put, List.setIfInBounds_toArray, List.set_cons_zero, List.set_cons_succ]))
          | (refine wpReads_cons ?_ (by rfl) (by rfl) ?_ ?_; rotate_left; (intro wz hz; (try dsimp only at hz); go_simp; try with_reducible rfl); (try simp only [Act.put, List.setIfInBounds_toArray, List.set_cons_zero, List.set_cons_succ]))
          | (refine wpReads_any ?_ (by rfl) ?_ ?_; rotate_left; (intro wz; go_simp; try with_reducible rfl); (try simp only [Act.put, List.setIfInBounds_toArray, List.set_cons_zero, List.set_cons_succ])))
        refine wpReads_nil ?_
        obtain ⟨wd, hwd⟩ : ∃ x, w8.drew = x := ⟨_, rfl⟩
        have T0 : Turn q7 q7 (fun _ => False) w8 wd := by rw [← hwd]; exact (Turn.refl q7 _ w8).drew
        have B0 := HB9.out.turn T0 (fun h => h)
        have TD := T0.mono (D := fun c => c = M) (fun _ h => h.elim)
        rw [hwd]
        have pa := Lib.hid (ported_a TD B0 HZI.out HZO.out)
        have pb := Lib.hid (ported_b TD B0 HZI.out HZO.out)
        have pc := Lib.hid (ported_c TD B0 HZI.out HZO.out)
        have B1 := B0.turn (Turn.of_below q7 (M + 5) (below_alloc wd (.cells zi 67))) (fun h => h)
        have B3 := B0.turn (Turn.of_below q7 (M + 6) (below_alloc wd (.cells zo 65))) (fun h => h)
        have B2 := B1.turn (Turn.of_below (ext q7 wd.heap.size (M + 5)) (M + 6) (below_alloc (wd.alloc (.cells zi 67)) (.cells zo 65))) (fun h => h)
        have B4 := B3.turn (Turn.of_below (ext q7 wd.heap.size (M + 6)) (M + 5) (below_alloc (wd.alloc (.cells zo 65)) (.cells zi 67))) (fun h => h)
        have HB1 := Lib.hid B1
        have HB2 := Lib.hid B2
        have HB3 := Lib.hid B3
        have HB4 := Lib.hid B4
        clear T0 B0 TD hwd B1 B2 B3 B4 c3 c4
        have s1 : (wd.alloc (.cells zi 67)).cell? ⟨tb, 3, none⟩ = some (.slice ia nI ic) ∧ (wd.alloc (.cells zi 67)).cell? ⟨tb, 4, none⟩ = some (.slice oa nO occ) := ⟨HB1.out.cell 3 _ rfl, HB1.out.cell 4 _ rfl⟩
        have s2 : ((wd.alloc (.cells zi 67)).alloc (.cells zo 65)).cell? ⟨tb, 3, none⟩ = some (.slice ia nI ic) ∧ ((wd.alloc (.cells zi 67)).alloc (.cells zo 65)).cell? ⟨tb, 4, none⟩ = some (.slice oa nO occ) := ⟨HB2.out.cell 3 _ rfl, HB2.out.cell 4 _ rfl⟩
        have s3 : (wd.alloc (.cells zo 65)).cell? ⟨tb, 3, none⟩ = some (.slice ia nI ic) ∧ (wd.alloc (.cells zo 65)).cell? ⟨tb, 4, none⟩ = some (.slice oa nO occ) := ⟨HB3.out.cell 3 _ rfl, HB3.out.cell 4 _ rfl⟩
        have s4 : ((wd.alloc (.cells zo 65)).alloc (.cells zi 67)).cell? ⟨tb, 3, none⟩ = some (.slice ia nI ic) ∧ ((wd.alloc (.cells zo 65)).alloc (.cells zi 67)).cell? ⟨tb, 4, none⟩ = some (.slice oa nO occ) := ⟨HB4.out.cell 3 _ rfl, HB4.out.cell 4 _ rfl⟩
        have HS1 := Lib.hid s1
        have HS2 := Lib.hid s2
        have HS3 := Lib.hid s3
        have HS4 := Lib.hid s4
        clear s1 s2 s3 s4
        refine wpAnyT_two (i := 7) (k := 13) (by kernel_rfl) ?_ ?_
        · simp only [pickOps, List.flatMap_cons, List.flatMap_nil, List.drop_succ_cons, List.drop_zero, List.take_succ_cons, List.take_zero, List.append_nil]
          go_wp2_with fail
          refine ⟨by intros; exact HS1.out, ?_⟩
          refine wpAnyT_later (r := [14, 15]) (n := 5) hQ2 (by kernel_rfl) HS1.out ?_
          simp only [pickOps, List.flatMap_cons, List.flatMap_nil, List.drop_succ_cons, List.drop_zero, List.take_succ_cons, List.take_zero, List.cons_append, List.nil_append, List.append_nil]
          repeat (first
            | (refine wpReads_skip (by rfl) ?_; (try simp only [Act.put, List.setIfInBounds_toArray, List.set_cons_zero, List.set_cons_succ]))
            | (refine wpReads_cons ?_ (by rfl) (by rfl) ?_ ?_; rotate_left; (intro wz hz; (try dsimp only at hz); go_simp; try with_reducible rfl); (try simp only [Act.put, List.setIfInBounds_toArray, List.set_cons_zero, List.set_cons_succ]))
            | (refine wpReads_any ?_ (by rfl) ?_ ?_; rotate_left; (intro wz; go_simp; try with_reducible rfl); (try simp only [Act.put, List.setIfInBounds_toArray, List.set_cons_zero, List.set_cons_succ])))
          refine wpReads_nil ?_
          refine wpAnyT_two (i := 13) (k := 16) (by kernel_rfl) ?_ ?_
          · simp only [pickOps, List.flatMap_cons, List.flatMap_nil, List.drop_succ_cons, List.drop_zero, List.take_succ_cons, List.take_zero, List.append_nil]
            go_wp2_with fail
            refine ⟨by intros; exact HS2.out, ?_⟩
            refine wpAnyT_one (i := 16) (by kernel_rfl) ?_
            simp only [pickOps, List.flatMap_cons, List.flatMap_nil, List.drop_succ_cons, List.drop_zero, List.take_succ_cons, List.take_zero, List.append_nil]
            have z1 := HB2.out.cell 1 _ rfl
            have g1 := HB2.out.frozen 1
            have z2 := HB2.out.cell 2 _ rfl
            have g2 := HB2.out.frozen 2
            obtain ⟨B5, -⟩ := HB2.out.set 1 (.slice (some ⟨wd.heap.size, 0, none⟩) nI nI)
            have s5 := And.intro (B5.cell 3 (.slice ia nI ic) rfl) (B5.cell 4 (.slice oa nO occ) rfl)
            have HS5 := Lib.hid s5
            clear s5 B5
            go_wp2_with fail
            refine ⟨by intros; exact HS5.out, ?_⟩
            clear hQ2
            refine wpAnyT_list (ks := [17, 18, 19]) (fun _ _ hx h => ⟨hx.cell h.1, hx.cell h.2⟩) (by kernel_rfl) ?_
            simp only [pickOps, List.flatMap_cons, List.flatMap_nil, List.drop_succ_cons, List.drop_zero, List.take_succ_cons, List.take_zero, List.cons_append, List.nil_append, List.append_nil]
            go_wp2
            go_meet
            case rel => exact pa.out
          · simp only [pickOps, List.flatMap_cons, List.flatMap_nil, List.drop_succ_cons, List.drop_zero, List.take_succ_cons, List.take_zero, List.append_nil]
            have z1 := HB1.out.cell 1 _ rfl
            have g1 := HB1.out.frozen 1
            obtain ⟨B5, -⟩ := HB1.out.set 1 (.slice (some ⟨wd.heap.size, 0, none⟩) nI nI)
            have s5 := And.intro (B5.cell 3 (.slice ia nI ic) rfl) (B5.cell 4 (.slice oa nO occ) rfl)
            have HS5 := Lib.hid s5
            have B6 := B5.turn (Turn.of_below (ext q7 wd.heap.size (M + 5)) (M + 6) (below_alloc _ (.cells zo 65))) (fun h => h)
            have HS6 := Lib.hid (And.intro (B6.cell 3 (.slice ia nI ic) rfl) (B6.cell 4 (.slice oa nO occ) rfl))
            have z2 := B6.cell 2 _ rfl
            have g2 := B6.frozen 2
            clear s5 B5 B6
            go_wp2_with fail
            refine ⟨by intros; exact HS5.out, ?_⟩
            refine wpAnyT_one (i := 13) (by kernel_rfl) ?_
            simp only [pickOps, List.flatMap_cons, List.flatMap_nil, List.drop_succ_cons, List.drop_zero, List.take_succ_cons, List.take_zero, List.append_nil]
            go_wp2_with fail
            refine ⟨by intros; exact HS6.out, ?_⟩
            clear hQ2
            refine wpAnyT_list (ks := [17, 18, 19]) (fun _ _ hx h => ⟨hx.cell h.1, hx.cell h.2⟩) (by kernel_rfl) ?_
            simp only [pickOps, List.flatMap_cons, List.flatMap_nil, List.drop_succ_cons, List.drop_zero, List.take_succ_cons, List.take_zero, List.cons_append, List.nil_append, List.append_nil]
            go_wp2
            go_meet
            case rel => exact pb.out
        · simp only [pickOps, List.flatMap_cons, List.flatMap_nil, List.drop_succ_cons, List.drop_zero, List.take_succ_cons, List.take_zero, List.append_nil]
          go_wp2_with fail
          refine ⟨by intros; exact HS3.out, ?_⟩
          refine wpAnyT_one (i := 7) (by kernel_rfl) ?_
          simp only [pickOps, List.flatMap_cons, List.flatMap_nil, List.drop_succ_cons, List.drop_zero, List.take_succ_cons, List.take_zero, List.append_nil]
          have hmi2 := mk_srcs nI (by have := HLE.out; omega)
          rw [HZI.out] at hmi2
          go_wp2_with fail
          refine ⟨by intros; exact HS4.out, ?_⟩
          refine wpAnyT_later (r := [14, 15]) (n := 4) hQ2 (by kernel_rfl) HS4.out ?_
          simp only [pickOps, List.flatMap_cons, List.flatMap_nil, List.drop_succ_cons, List.drop_zero, List.take_succ_cons, List.take_zero, List.cons_append, List.nil_append, List.append_nil]
          repeat (first
            | (refine wpReads_skip (by rfl) ?_; (try simp only [Act.put, List.setIfInBounds_toArray, List.set_cons_zero, List.set_cons_succ]))
            | (refine wpReads_cons ?_ (by rfl) (by rfl) ?_ ?_; rotate_left; (intro wz hz; (try dsimp only at hz); go_simp; try with_reducible rfl); (try simp only [Act.put, List.setIfInBounds_toArray, List.set_cons_zero, List.set_cons_succ]))
            | (refine wpReads_any ?_ (by rfl) ?_ ?_; rotate_left; (intro wz; go_simp; try with_reducible rfl); (try simp only [Act.put, List.setIfInBounds_toArray, List.set_cons_zero, List.set_cons_succ])))
          refine wpReads_nil ?_
          refine wpAnyT_one (i := 16) (by kernel_rfl) ?_
          simp only [pickOps, List.flatMap_cons, List.flatMap_nil, List.drop_succ_cons, List.drop_zero, List.take_succ_cons, List.take_zero, List.append_nil]
          have z1 := HB4.out.cell 1 _ rfl
          have g1 := HB4.out.frozen 1
          have z2 := HB4.out.cell 2 _ rfl
          have g2 := HB4.out.frozen 2
          obtain ⟨B5, -⟩ := HB4.out.set 1 (.slice (some ⟨wd.heap.size + 1, 0, none⟩) nI nI)
          have HS5 := Lib.hid (And.intro (B5.cell 3 (.slice ia nI ic) rfl) (B5.cell 4 (.slice oa nO occ) rfl))
          clear B5
          go_wp2_with fail
          refine ⟨by intros; exact HS5.out, ?_⟩
          clear hQ2
          refine wpAnyT_list (ks := [17, 18, 19]) (fun _ _ hx h => ⟨hx.cell h.1, hx.cell h.2⟩) (by kernel_rfl) ?_
          simp only [pickOps, List.flatMap_cons, List.flatMap_nil, List.drop_succ_cons, List.drop_zero, List.take_succ_cons, List.take_zero, List.cons_append, List.nil_append, List.append_nil]
          go_wp2
          go_meet
          case rel => exact pc.out
      case rest =>
        clear c3 c4 hmi hmo
        obtain ⟨q8, gs, gd, T8, hB, hSb, hDb⟩ := hcut
        have HB8 := Lib.hid hB
        have HSB := Lib.hid hSb
        have HDB := Lib.hid hDb
        have HOI8 := Lib.hid (HOI.out.turn T8 (by omega))
        have HOO8 := Lib.hid (HOO.out.turn T8 (by omega))
        have HA8 := Lib.hid (HA9.out.turn T8 (by omega) (by omega))
        have HN8 := Lib.hid (HN9.out.turn T8 (by have := HM.out; omega) (by have := HM.out; have := HF.out.1; omega) HMT.out)
        clear T8 hB hSb hDb HOI HOO HA9 HN9 HB9
        go_wp2_with fail
        refine (tbegin_new HB8.out (by have := HLE.out; omega)).mono ?_
        rintro e wb ⟨q9, hh, rfl, T9, hB9, hH⟩
        have hOI9 := HOI8.out.turn T9 (by omega)
        have hOO9 := HOO8.out.turn T9 (by omega)
        have hA9 := HA8.out.turn T9 (by omega) (by omega)
        have hN9 := HN8.out.turn T9 (by have := HM.out; omega) (by have := HM.out; have := HF.out.1; omega) HMT.out
        have hS9 := HSB.out.turn T9 (by omega)
        have hD9 := HDB.out.turn T9 (by omega)
        have hbn := below_alloc wb (.cells #[.pointer (some ⟨tb, 0, none⟩)] 45)
        have Tn := Turn.of_below q9 (R + 6001) hbn
        have hB' := hB9.turn Tn (fun h => h)
        have hH' := hH.turn Tn (fun h => h)
        have hOI' := hOI9.turn Tn (fun h => h)
        have hOO' := hOO9.turn Tn (fun h => h)
        have hA' := hA9.turn Tn (fun h => h) (fun h => h)
        have hN' := hN9.turn Tn (fun h => h) (fun h => h) (fun _ h => h.elim)
        have hS' := hS9.turn Tn (fun h => h)
        have hD' := hD9.turn Tn (fun h => h)
        have hrb := hN9.half.blk
        unfold rigV at hrb
        have c0 := hrb.cell 0 _ rfl
        change wb.cell? _ = some v.tasks at c0
        have hown := hN'.half.tasks
        obtain ⟨ta, tc, hta⟩ := hown.slice
        rw [hta] at c0
        obtain ⟨i0, hi, hz0, hz1, hz2⟩ := info_parts info_ptask
        have HI := Lib.hid hi
        have HOWN := Lib.hid hown
        have HTA := Lib.hid hta
        have HBX := Lib.hid hB'
        have HHX := Lib.hid hH'
        have HOIX := Lib.hid hOI'
        have HOOX := Lib.hid hOO'
        have HAX := Lib.hid hA'
        have HNX := Lib.hid hN'
        have HSX := Lib.hid hS'
        have HDX := Lib.hid hD'
        generalize ext q9 wb.heap.size (R + 6001) = qx at *
        clear hi hown hta hB' hH' hOI' hOO' hA' hN' hS' hD' hrb hbn Tn hB9 hH hOI9 hOO9 hA9 hN9 hS9 hD9 T9 HB8 HSB HDB HOI8 HOO8 HA8 HN8
        go_wp2_with (at_builtin; refine stop_here ?_)
        refine go_on ?_
        refine wpList_app rfl _ _ 36 rfl 0 45 i0 _ 1 8 Try.underlying36 HI.out hz0 hz1 hz2 rfl (.slice ta k tc) k ((List.range k).map fun t => ptrV (v.tb t)) rfl (by have := HOWN.out.1; rw [HTA.out] at this; exact this) (some ⟨wb.heap.size, 0, none⟩) 1 1 [.pointer (some ⟨tb, 0, none⟩)] rfl rfl (fun h => by cases h) (news_alloc wb [.pointer (some ⟨tb, 0, none⟩)] 45) (by simp [Value.oneCell']) (by have := HF.out.1; unfold maxLen; omega) (grow_ok (by have := HF.out.1; omega)) (Nat.zero_le _) ?_
        intro v7 w7 k1 k20 _ k4
        rw [← HTA.out] at k20 k4
        obtain ⟨T7, O7⟩ := own_app HOWN.out k1 k20 k4
        obtain ⟨sp7, cp7, rfl⟩ := O7.slice
        have hN7 := HNX.out.half.blk.turn T7 (by omega)
        have e0 := hN7.cell 0 v.tasks (by simp [rigV])
        have g0 := hN7.frozen 0
        obtain ⟨hB0, S0⟩ := hN7.set 0 (.slice sp7 (k + 1) cp7)
        have hBr : Blk (w7.setCell ⟨b, 0, none⟩ (.slice sp7 (k + 1) cp7)) (ext qx (wb.alloc (.cells #[.pointer (some ⟨tb, 0, none⟩)] 45)).heap.size (R + 1)) R b 40 (rigV ⟨newRig g, none⟩ { v with tasks := .slice sp7 (k + 1) cp7 }).toArray := hB0
        have TT := (T7.mono (D := fun c => c = R ∨ c = R + 1) (fun c h => .inr h)).trans (S0.mono (D := fun c => c = R ∨ c = R + 1) (fun c h => .inl h)) (fun _ h => h)
        have hM := HM.out
        have hHT : HalfT (w7.setCell ⟨b, 0, none⟩ (.slice sp7 (k + 1) cp7)) (ext qx (wb.alloc (.cells #[.pointer (some ⟨tb, 0, none⟩)] 45)).heap.size (R + 1)) (R + 100 + 64 * k) tb g k (newTask g k) ⟨bp, .slice (some ⟨gs, 0, none⟩) (ratesI g k).length (ratesI g k).length, .slice (some ⟨gd, 0, none⟩) (ratesO g k).length (ratesO g k).length, .slice ia nI ic, .slice oa nO occ, hh, List.replicate (ratesI g k).length (.slice none 0 0), .slice none 0 0, []⟩ (fromS (fun _ => 0) g k 0) (toS (fun _ => 0) g k 0) := by
          rw [hM]
          have t1 := HBX.out.turn TT (by omega)
          have t2 := HHX.out.turn TT (by omega)
          have t3 := HOIX.out.turn TT (by omega)
          have t4 := HOOX.out.turn TT (by omega)
          have t5 := HAX.out.turn TT (by omega) (by omega)
          have t6 := HSX.out.turn TT (by omega)
          have t7 := HDX.out.turn TT (by omega)
          have l := HLE.out
          have e1 := HNI.out
          have e2 := HNO.out
          refine half_new a HAG.out t5 ?_ ?_ ?_ ?_ ?_ ?_ (by omega) (by omega)
          · rw [e1, e2]; exact t1
          · rw [e1]; exact t3
          · rw [e2]; exact t4
          · rw [e1]; exact t6
          · rw [e2]; exact t7
          · rw [e1]; exact t2
        have HNEW := Lib.hid (NewAt.mk (HNX.out.kept.turn TT (by omega)) (HNX.out.graph.turn TT (by omega)) (HNX.out.half.addTask hlt (TT.mono (fun c hc => by rcases hc with hc | hc; exact .inl hc; exact .inr (.inl hc))) hBr (O7.turn S0 (by omega)) hHT))
        clear hHT TT hBr hB0 S0 hN7 T7 O7 k1 k20 k4 HBX HHX HOIX HOOX HAX HSX HDX HNX HOWN hM
        have hf1 := HF.out.1
        go_wp2
        go_roundw
        case rel => exact ⟨k + 1, _, _, hlt, by go_num, HNEW.out⟩
        case measure => simp [intOf]; omega
    · obtain rfl : k = g.actors.length := by omega
      have hlti : ¬ ((g.actors.length : Int) < g.actors.length) := by omega
      have x2 := HN.out.graph.cell 2 _ rfl
      clear hk hlt
      go_wp2_with fail
      go_loopw [104] (fun i wz => ∃ (k : Nat) (q : Col) (qs : Ptrs) (v : RVals), k ≤ g.edges.length ∧ i = .int .i64 k ∧ NewAt w wz q R b w.heap.size g caps qs g.actors.length k 0 0 k k v #[.string g.name, .slice aa g.actors.length ac, .slice ae g.edges.length ec, .slice ai g.ins.length ic, .slice ao g.outs.length oc] ∧ ∀ c ∈ caps.take k, 0 ≤ c) (fun i _ => g.edges.length - (intOf i).toNat)
      case atStart => exact ⟨0, _, _, v, Nat.zero_le _, rfl, HN.out, by simp⟩
      case round =>
        clear HN x2
        obtain ⟨k, q, qs, v, hk, rfl, hN, hpos⟩ := hrel
        have HN := Lib.hid hN
        have HPOS := Lib.hid hpos
        clear hN hpos
        by_cases hlt : k < g.edges.length
        · have hlti : (k : Int) < g.edges.length := by omega
          obtain ⟨b0, off, rfl, hcap, hb0, hrec⟩ := HRE.out.at (by omega)
          obtain ⟨cs, hcs, hPR, hcl⟩ := hrec k hlt
          obtain ⟨xs, rfl, hst⟩ := hPR
          have c0 := cell_later HN.out.kept.below (hcl 0 (by omega))
          have c1 := cell_later HN.out.kept.below (hcl 1 (by omega))
          have c2 := cell_later HN.out.kept.below (hcl 2 (by omega))
          have c3 := cell_later HN.out.kept.below (hcl 3 (by omega))
          have c4 := cell_later HN.out.kept.below (hcl 4 (by omega))
          simp at c0 c1 c2 c3 c4
          have hcapi : (g.edges.length : Int) ≤ ec := by omega
          obtain ⟨sa, sc, hxs⟩ := Ints.slice hst
          subst hxs
          have HST := Lib.hid hst
          obtain ⟨ed, hed⟩ : ∃ x, g.edges[k] = x := ⟨_, rfl⟩
          have HED := Lib.hid hed
          have hee : edgeAt g k = ed := by unfold edgeAt; rw [List.getElem?_eq_getElem hlt]; exact hed
          have HEE := Lib.hid hee
          rw [hed] at c0 c1 c2 c3 c4 HST
          clear hrec hcl hcs hst hb0 hcap hed hee
          obtain ⟨b1, off1, rfl, -, hccap, -, -, hcc⟩ := Ints.at HC.out (by have := H1.out; omega)
          have hck := cell_later HN.out.kept.below (hcc k (by have := H1.out; omega))
          obtain ⟨C, hC⟩ : ∃ x, caps[k]?.getD 0 = x := ⟨_, rfl⟩
          have HCC := Lib.hid hC
          rw [hC] at hck
          change wr.cell? _ = some (.int .i64 C) at hck
          have hccapi : (caps.length : Int) ≤ cc := by omega
          have hkc : (k : Int) < caps.length := by have := H1.out; omega
          clear hcc hC hccap
          have hby := below_alloc wr (.cells #[.int .i64 ed.src, .int .i64 ed.sport, .int .i64 ed.dst, .int .i64 ed.dport, .slice sa ed.start.length sc] 81)
          have Ty := Turn.of_below q (R + 6002) hby
          have hY := blk_new (w := wr) q (R + 6002) #[.int .i64 ed.src, .int .i64 ed.sport, .int .i64 ed.dst, .int .i64 ed.dport, .slice sa ed.start.length sc] 81
          have hck2 := cell_later hby hck
          have y4 := hY.cell 4 _ rfl
          have HY := Lib.hid hY
          have HNy := Lib.hid (HN.out.turn Ty (fun h => h) (fun h => h) (fun _ h => h.elim))
          generalize ext q wr.heap.size (R + 6002) = qy at *
          clear Ty hY hby hck
          go_wp2_with fail
          obtain ⟨wy, hwy⟩ : ∃ x, wr.alloc (.cells #[.int .i64 ed.src, .int .i64 ed.sport, .int .i64 ed.dst, .int .i64 ed.dport, .slice sa ed.start.length sc] 81) = x := ⟨_, rfl⟩
          obtain ⟨Y, hYe⟩ : ∃ x, wr.heap.size = x := ⟨_, rfl⟩
          rw [hwy] at HY HNy hck2 y4 ⊢
          rw [hYe] at HY y4 ⊢
          clear hwy hYe HN c0 c1 c2 c3 c4
          by_cases hC0 : C < 0
          · have HC0 := Lib.hid hC0
            refine wp_region_mid (fun w' => w'.cell? ⟨b1, off1 + k, none⟩ = some (.int .i64 C) ∧ w'.cell? ⟨Y, 4, none⟩ = some (.slice sa ed.start.length sc)) [0, 1, 2, 3, 4, 5] 6 [7, 8, 9] [6, 10] 2 (by kernel_rfl) (by kernel_rfl) rfl ⟨hck2, y4⟩ ?_
            intro Q' hQ'
            simp only [pickOps, List.flatMap_cons, List.flatMap_nil, List.drop_succ_cons, List.drop_zero, List.take_succ_cons, List.take_zero, List.cons_append, List.nil_append, List.append_nil]
            repeat (first
              | (refine wpReads_skip (by rfl) ?_; (try simp only [Act.put, List.setIfInBounds_toArray, List.set_cons_zero, List.set_cons_succ]))
              | (refine wpReads_cons ?_ (by rfl) (by rfl) ?_ ?_; rotate_left; (intro wz hz; (try dsimp only at hz); go_simp; try with_reducible rfl); (try simp only [Act.put, List.setIfInBounds_toArray, List.set_cons_zero, List.set_cons_succ]))
              | (refine wpReads_any ?_ (by rfl) ?_ ?_; rotate_left; (intro wz; go_simp; try with_reducible rfl); (try simp only [Act.put, List.setIfInBounds_toArray, List.set_cons_zero, List.set_cons_succ])))
            refine wpReads_nil ?_
            go_wp2_with fail
            refine (iq_new_no _ C _ hC0).mono ?_
            rintro e wq ⟨rfl, rfl⟩
            go_wp2
            refine ⟨⟨hck2, y4⟩, ?_⟩
            repeat (first
              | (refine wpReads_skip (by rfl) ?_; (try simp only [Act.put, List.setIfInBounds_toArray, List.set_cons_zero, List.set_cons_succ]))
              | (refine wpReads_cons ?_ (by rfl) (by rfl) ?_ ?_; rotate_left; (intro wz hz; (try dsimp only at hz); go_simp; try with_reducible rfl); (try simp only [Act.put, List.setIfInBounds_toArray, List.set_cons_zero, List.set_cons_succ]))
              | (refine wpReads_any ?_ (by rfl) ?_ ?_; rotate_left; (intro wz; go_simp; try with_reducible rfl); (try simp only [Act.put, List.setIfInBounds_toArray, List.set_cons_zero, List.set_cons_succ])))
            refine wpReads_nil ?_
            refine wpAnyT_one (i := 10) (by kernel_rfl) ?_
            simp only [pickOps, List.flatMap_cons, List.flatMap_nil, List.drop_succ_cons, List.drop_zero, List.take_succ_cons, List.take_zero, List.append_nil]
            go_wp2
            refine ⟨by intros; exact ⟨hck2, y4⟩, ?_⟩
            refine wpAnyT_list (ks := [11]) (fun _ _ hx h => ⟨hx.cell h.1, hx.cell h.2⟩) (by kernel_rfl) ?_
            simp only [pickOps, List.flatMap_cons, List.flatMap_nil, List.drop_succ_cons, List.drop_zero, List.take_succ_cons, List.take_zero, List.append_nil]
            have hbf := HNy.out.kept.below
            have HBF := Lib.hid hbf
            clear hbf
            go_wp2
            go_ret2
            refine dnew_no ?_ (by decide) (HBF.out.drew)
            unfold newE
            rw [if_neg (by rw [HE.out]; decide), if_neg (by rw [H1.out]; simp), if_pos]
            refine List.any_eq_true.2 ⟨C, ?_, by simpa using HC0.out⟩
            have hkl : k < caps.length := by have := H1.out; omega
            have e := HCC.out
            rw [List.getElem?_eq_getElem hkl] at e
            exact e ▸ List.getElem_mem hkl
          · have hC1 : 0 ≤ C := by omega
            have hkl : k < caps.length := by have := H1.out; omega
            have hCm : C ∈ caps := by
              have e := HCC.out
              rw [List.getElem?_eq_getElem hkl] at e
              exact e ▸ List.getElem_mem hkl
            have hcapD : capD caps k = C := by
              have e := HCC.out
              unfold capD
              rw [List.getElem?_eq_getElem hkl] at e ⊢
              exact e
            have hC2 : C ≤ 9223372036854775807 := by have := HFC.out C hCm; unfold Fits at this; omega
            have HC1 := Lib.hid hC1
            have HC2 := Lib.hid hC2
            have HCD := Lib.hid hcapD
            have HKL := Lib.hid hkl
            clear hC0 hC1 hC2 hcapD hCm hkl
            have hsnd := HS.out.edge k hlt
            rw [HED.out] at hsnd
            obtain ⟨⟨a1, a2⟩, ⟨a3, a4⟩, -, ⟨a5, a6⟩, ⟨a7, a8⟩, -, a9⟩ := hsnd
            obtain ⟨f, hf⟩ := Int.eq_ofNat_of_zero_le a1
            obtain ⟨fp, hfp⟩ := Int.eq_ofNat_of_zero_le a3
            obtain ⟨t, ht⟩ := Int.eq_ofNat_of_zero_le a5
            obtain ⟨tp, htp⟩ := Int.eq_ofNat_of_zero_le a7
            have hto := HS.out.to_edge hlt
            have hfrom := HS.out.from_edge hlt
            rw [HED.out, hf, hfp] at hto
            rw [HED.out, ht, htp] at hfrom
            rw [hf, hfp, Int.toNat_natCast] at a4
            rw [ht, htp, Int.toNat_natCast] at a8
            rw [hf] at a2
            rw [ht] at a6
            simp only [Int.toNat_natCast] at hto hfrom
            have HTO := Lib.hid hto
            have HFROM := Lib.hid hfrom
            have HA2 := Lib.hid (show f < g.actors.length by omega)
            have HA6 := Lib.hid (show t < g.actors.length by omega)
            have HA4 := Lib.hid (show fp < (ratesO g f).length by omega)
            have HA8 := Lib.hid (show tp < (ratesI g t).length by omega)
            have HA9 := Lib.hid a9
            have HF1 := Lib.hid hf
            have HF2 := Lib.hid hfp
            have HF3 := Lib.hid ht
            have HF4 := Lib.hid htp
            clear a1 a2 a3 a4 a5 a6 a7 a8 a9 hf hfp ht htp hto hfrom
            refine wp_region_mid (fun w' => w'.cell? ⟨b1, off1 + k, none⟩ = some (.int .i64 C) ∧ w'.cell? ⟨Y, 4, none⟩ = some (.slice sa ed.start.length sc)) [0, 1, 2, 3, 4, 5] 6 [7, 8, 9] [6, 10] 2 (by kernel_rfl) (by kernel_rfl) rfl ⟨hck2, y4⟩ ?_
            intro Q' hQ'
            simp only [pickOps, List.flatMap_cons, List.flatMap_nil, List.drop_succ_cons, List.drop_zero, List.take_succ_cons, List.take_zero, List.cons_append, List.nil_append, List.append_nil]
            repeat (first
              | (refine wpReads_skip (by rfl) ?_; (try simp only [Act.put, List.setIfInBounds_toArray, List.set_cons_zero, List.set_cons_succ]))
              | (refine wpReads_cons ?_ (by rfl) (by rfl) ?_ ?_; rotate_left; (intro wz hz; (try dsimp only at hz); go_simp; try with_reducible rfl); (try simp only [Act.put, List.setIfInBounds_toArray, List.set_cons_zero, List.set_cons_succ]))
              | (refine wpReads_any ?_ (by rfl) ?_ ?_; rotate_left; (intro wz; go_simp; try with_reducible rfl); (try simp only [Act.put, List.setIfInBounds_toArray, List.set_cons_zero, List.set_cons_succ])))
            refine wpReads_nil ?_
            go_wp2_with fail
            have hst2 := HST.out.below HNy.out.kept.below.drew
            obtain ⟨hnone, hnews⟩ := Vals.news hst2
            refine (iq_new_yes _ C sa sc ed.start HC1.out HC2.out hnone hnews (by have := HA9.out; omega)).mono ?_
            clear hst2 hnone hnews
            rintro e wq ⟨qb, r, rfl, hbq, hIQ⟩
            have HNd := (HNy.out.turn ((Turn.refl qy (fun _ => False) wy).drew) (fun h => h) (fun h => h) (fun _ h => h.elim))
            have hYd := HY.out.turn ((Turn.refl qy (fun _ => False) wy).drew) (fun h => h)
            obtain ⟨Tq, hQA⟩ := queue_col qy (R + 4000 + k) hbq hIQ HA9.out
            have HNq := HNd.turn Tq (fun h => h) (fun h => h) (fun _ h => h.elim)
            have hYq := hYd.turn Tq (fun h => h)
            have hck3 := cell_later hbq hck2
            have y4q := hYq.cell 4 _ rfl
            have Tz := Turn.of_below (ext qy wy.drew.heap.size (R + 4000 + k)) (R + 6003) (below_alloc wq (.cells #[.pointer (some ⟨qb, 0, none⟩)] 43))
            have hZ := blk_new (w := wq) (ext qy wy.drew.heap.size (R + 4000 + k)) (R + 6003) #[.pointer (some ⟨qb, 0, none⟩)] 43
            have HZZ := Lib.hid hZ
            have HQA := Lib.hid (hQA.turn Tz (fun h => h))
            have HYq := Lib.hid (hYq.turn Tz (fun h => h))
            replace HNq := Lib.hid (HNq.turn Tz (fun h => h) (fun h => h) (fun _ h => h.elim))
            generalize ext (ext qy wy.drew.heap.size (R + 4000 + k)) wq.heap.size (R + 6003) = qz at *
            have HCK3 := Lib.hid hck3
            have HY4Q := Lib.hid y4q
            clear Tq hQA hYq hYd HNd hZ Tz hIQ hbq HY HNy hck2 y4 hck3 y4q
            go_wp2
            refine ⟨⟨HCK3.out, HY4Q.out⟩, ?_⟩
            repeat (first
              | (refine wpReads_skip (by rfl) ?_; (try simp only [Act.put, List.setIfInBounds_toArray, List.set_cons_zero, List.set_cons_succ]))
              | (refine wpReads_cons ?_ (by rfl) (by rfl) ?_ ?_; rotate_left; (intro wz hz; (try dsimp only at hz); go_simp; try with_reducible rfl); (try simp only [Act.put, List.setIfInBounds_toArray, List.set_cons_zero, List.set_cons_succ]))
              | (refine wpReads_any ?_ (by rfl) ?_ ?_; rotate_left; (intro wz; go_simp; try with_reducible rfl); (try simp only [Act.put, List.setIfInBounds_toArray, List.set_cons_zero, List.set_cons_succ])))
            refine wpReads_nil ?_
            refine wpAnyT_one (i := 10) (by kernel_rfl) ?_
            simp only [pickOps, List.flatMap_cons, List.flatMap_nil, List.drop_succ_cons, List.drop_zero, List.take_succ_cons, List.take_zero, List.append_nil]
            go_wp2
            refine ⟨by intros; exact ⟨HCK3.out, HY4Q.out⟩, ?_⟩
            refine wpAnyT_list (ks := [11]) (fun _ _ hx h => ⟨hx.cell h.1, hx.cell h.2⟩) (by kernel_rfl) ?_
            simp only [pickOps, List.flatMap_cons, List.flatMap_nil, List.drop_succ_cons, List.drop_zero, List.take_succ_cons, List.take_zero, List.append_nil]
            clear HCK3 HY4Q
            go_wp2_with fail
            obtain ⟨wz, hwz⟩ : ∃ x, wq.alloc (.cells #[.pointer (some ⟨qb, 0, none⟩)] 43) = x := ⟨_, rfl⟩
            obtain ⟨Z, hZe⟩ : ∃ x, wq.heap.size = x := ⟨_, rfl⟩
            rw [hwz] at HZZ HQA HYq HNq ⊢
            rw [hZe] at HZZ ⊢
            clear hwz hZe
            have hrb := HNq.out.half.blk
            unfold rigV at hrb
            have c1 := hrb.cell 1 _ rfl
            change wz.cell? _ = some v.edges at c1
            have z0 := HZZ.out.cell 0 _ rfl
            have hown := HNq.out.half.edges
            obtain ⟨ea, eec, hea⟩ := hown.slice
            rw [hea] at c1
            obtain ⟨i0, hi, hz0, hz1, hz2⟩ := info_parts info_chan
            have HI := Lib.hid hi
            have HEA := Lib.hid hea
            clear hrb hown hea hi
            refine wp_region_lex (fun w' => w'.cell? ⟨b, 1, none⟩ = some (.slice ea k eec) ∧ w'.cell? ⟨Z, 0, none⟩ = some (.pointer (some ⟨qb, 0, none⟩))) [0, 1, 2, 3, 4, 5] [6, 7, 8, 9, 10] (by kernel_rfl) (by kernel_rfl) rfl (fun _ _ hx h => ⟨hx.cell h.1, hx.cell h.2⟩) ⟨c1, z0⟩ ?_
            intro Q' hQ'
            simp only [pickOps, List.flatMap_cons, List.flatMap_nil, List.drop_succ_cons, List.drop_zero, List.take_succ_cons, List.take_zero, List.cons_append, List.nil_append, List.append_nil]
            repeat (first
              | (refine wpReads_skip (by rfl) ?_; (try simp only [Act.put, List.setIfInBounds_toArray, List.set_cons_zero, List.set_cons_succ]))
              | (refine wpReads_cons ?_ (by rfl) (by rfl) ?_ ?_; rotate_left; (intro wz hz; (try dsimp only at hz); go_simp; try with_reducible rfl); (try simp only [Act.put, List.setIfInBounds_toArray, List.set_cons_zero, List.set_cons_succ]))
              | (refine wpReads_any ?_ (by rfl) ?_ ?_; rotate_left; (intro wz; go_simp; try with_reducible rfl); (try simp only [Act.put, List.setIfInBounds_toArray, List.set_cons_zero, List.set_cons_succ])))
            refine wpReads_nil ?_
            have hbn := below_alloc wz.drew (.cells #[.pointer (some ⟨qb, 0, none⟩)] 43)
            have T0 : Turn qz qz (fun _ => False) wz wz.drew := (Turn.refl qz _ wz).drew
            have Tn := T0.trans (Turn.of_below qz (R + 6003) hbn) (fun _ h => h)
            have HNn := Lib.hid (HNq.out.turn Tn (fun h => h) (fun h => h) (fun _ h => h.elim))
            have HQn := Lib.hid (HQA.out.turn Tn (fun h => h))
            have HYn := Lib.hid (HYq.out.turn Tn (fun h => h))
            have HZn := Lib.hid (HZZ.out.turn Tn (fun h => h))
            have e1 := HNn.out.half.blk.cell 1 v.edges (by simp [rigV])
            generalize ext qz wz.drew.heap.size (R + 6003) = qn at *
            clear hbn T0 Tn HNq HQA HYq HZZ c1 z0
            go_wp2_with (at_builtin; refine stop_here ?_)
            refine go_on ?_
            refine wpList_app rfl _ _ 37 rfl 0 43 i0 _ 1 8 Try.underlying37 HI.out hz0 hz1 hz2 rfl (.slice ea k eec) k ((List.range k).map fun d => ptrV (qs d)) rfl (by have := HNn.out.half.edges.1; rw [HEA.out] at this; exact this) (some ⟨wz.drew.heap.size, 0, none⟩) 1 1 [.pointer (some ⟨qb, 0, none⟩)] rfl rfl (fun h => by cases h) (news_alloc wz.drew [.pointer (some ⟨qb, 0, none⟩)] 43) (by simp [Value.oneCell']) (by have := HF.out.2.1; unfold maxLen; omega) (grow_ok (by have := HF.out.2.1; omega)) (Nat.zero_le _) ?_
            intro v7 w7 k1 k20 _ k4
            change (wz.drew.alloc (.cells #[.pointer (some ⟨qb, 0, none⟩)] 43)).grownBy w7 _ at k20
            rw [← HEA.out] at k20 k4
            obtain ⟨T7, O7⟩ := own_app HNn.out.half.edges k1 k20 k4
            obtain ⟨sp7, cp7, rfl⟩ := O7.slice
            have hN7 := HNn.out.half.blk.turn T7 (by omega)
            have e0 := hN7.cell 1 v.edges (by simp [rigV])
            have g0 := hN7.frozen 1
            obtain ⟨hB0, S0⟩ := hN7.set 1 (.slice sp7 (k + 1) cp7)
            have hBr : Blk (w7.setCell ⟨b, 1, none⟩ (.slice sp7 (k + 1) cp7)) (ext qn (wz.drew.alloc (.cells #[.pointer (some ⟨qb, 0, none⟩)] 43)).heap.size (R + 2)) R b 40 (rigV ⟨newRig g, none⟩ { v with edges := .slice sp7 (k + 1) cp7 }).toArray := hB0
            have TT := (T7.mono (D := fun c => c = R ∨ c = R + 2) (fun c h => .inr h)).trans (S0.mono (D := fun c => c = R ∨ c = R + 2) (fun c h => .inl h)) (fun _ h => h)
            have hQ8 := HQn.out.turn TT (by omega)
            rw [← HCD.out, ← HEE.out] at hQ8
            have hN8 := NewAt.mk (HNn.out.kept.turn TT (by omega)) (HNn.out.graph.turn TT (by omega)) (HNn.out.half.addEdge hlt TT hBr (O7.turn S0 (by omega)) hQ8)
            have hY8 := HYn.out.turn TT (by omega)
            have hZ8 := HZn.out.turn TT (by omega)
            obtain ⟨v8, hv8⟩ : ∃ x, ({ v with edges := .slice sp7 (k + 1) cp7 } : RVals) = x := ⟨_, rfl⟩
            rw [hv8] at hN8
            have HN8 := Lib.hid hN8
            have HY8 := Lib.hid hY8
            have HZ8 := Lib.hid hZ8
            generalize ext qn (wz.drew.alloc (.cells #[.pointer (some ⟨qb, 0, none⟩)] 43)).heap.size (R + 2) = q8 at *
            clear hBr TT hQ8 hN8 hY8 hZ8 hv8 hB0 S0 hN7 T7 O7 k1 k20 k4 HNn HQn HYn HZn e1
            go_wp2_with fail
            obtain ⟨w8, hw8⟩ : ∃ x, w7.setCell ⟨b, 1, none⟩ (.slice sp7 (k + 1) cp7) = x := ⟨_, rfl⟩
            rw [hw8] at HN8 HY8 HZ8 ⊢
            clear hw8 e0 g0
            have hrb := HN8.out.half.blk
            have c0 := hrb.cell 0 v8.tasks (by simp [rigV])
            have hVt := HN8.out.half.tasks.vals
            obtain ⟨ta, tc, hta⟩ := hVt.slice
            simp only [List.length_map, List.length_range] at hta
            rw [hta] at c0 hVt
            obtain ⟨tg, toff, rfl, -, htc, -, -, hcells⟩ := hVt.at (by have := HA2.out; simp; omega)
            have tf : w8.cell? ⟨tg, toff + f, none⟩ = some (.pointer (some ⟨v8.tb f, 0, none⟩)) := by
              rw [hcells f (by have := HA2.out; simp; omega)]
              simp [HA2.out, ptrV]
            have tt : w8.cell? ⟨tg, toff + t, none⟩ = some (.pointer (some ⟨v8.tb t, 0, none⟩)) := by
              rw [hcells t (by have := HA6.out; simp; omega)]
              simp [HA6.out, ptrV]
            have hTf := HN8.out.half.task f HA2.out
            have hTt := HN8.out.half.task t HA6.out
            obtain ⟨gd, hgd, hD⟩ := hTf.dst
            obtain ⟨gs, hgs, hS⟩ := hTt.src
            have d2 := hTf.blk.cell 2 (v8.tv f).dst (by simp [taskV])
            have d1 := hTt.blk.cell 1 (v8.tv t).src (by simp [taskV])
            rw [hgd] at d2
            rw [hgs] at d1
            have y0 := HY8.out.cell 0 _ rfl
            have y1 := HY8.out.cell 1 _ rfl
            have y2 := HY8.out.cell 2 _ rfl
            have y3 := HY8.out.cell 3 _ rfl
            change w8.cell? _ = some (.int .i64 ed.src) at y0
            change w8.cell? _ = some (.int .i64 ed.sport) at y1
            change w8.cell? _ = some (.int .i64 ed.dst) at y2
            change w8.cell? _ = some (.int .i64 ed.dport) at y3
            rw [HF1.out] at y0
            rw [HF2.out] at y1
            rw [HF3.out] at y2
            rw [HF4.out] at y3
            have z0 := HZ8.out.cell 0 _ rfl
            change w8.cell? _ = some (.pointer (some ⟨qb, 0, none⟩)) at z0
            have HNd := Lib.hid (HN8.out.turn ((Turn.refl q8 (fun _ => False) w8).drew) (fun h => h) (fun h => h) (fun _ h => h.elim))
            obtain ⟨L1, S1⟩ := HNd.out.half.linkTo (t := f) (p := fp) (gd := gd) HA2.out HTO.out (by omega) hgd
            have hdv : dstV (upd qs k qb) g f fp = .iface 43 (.agg #[.pointer (some ⟨qb, 0, none⟩)]) := by
              unfold dstV
              rw [HTO.out, if_pos hlt, upd_same]
            have hsv : srcV (upd qs k qb) g t tp = .iface 43 (.agg #[.pointer (some ⟨qb, 0, none⟩)]) := by
              unfold srcV
              rw [HFROM.out, upd_same]
            rw [hdv] at L1 S1
            obtain ⟨L2, S2⟩ := L1.linkFrom (t := t) (q := tp) (gs := gs) HA6.out HFROM.out (by omega) hgs
            rw [hsv] at L2 S2
            have hLf := HF.out.1
            have hff := HA2.out
            have htt := HA6.out
            have HNEW := Lib.hid (NewAt.mk ((HNd.out.kept.turn S1 (by omega)).turn S2 (by omega)) ((HNd.out.graph.turn S1 (by omega)).turn S2 (by omega)) L2)
            obtain ⟨x0, hx0⟩ : ∃ x, (toS (upd qs k qb) g f k)[fp]? = some x := ⟨_, List.getElem?_eq_getElem (by rw [toS_len]; exact HA4.out)⟩
            have u0 := hD.cell fp x0 (by simpa using hx0)
            have g0 := hD.frozen fp
            obtain ⟨gs2, e2, hS2⟩ := (L1.task t HA6.out).src
            rw [hgs] at e2
            cases e2
            obtain ⟨x1, hx1⟩ : ∃ x, (fromS (upd qs k qb) g t k)[tp]? = some x := ⟨_, List.getElem?_eq_getElem (by rw [fromS_len]; exact HA8.out)⟩
            have u1 := hS2.cell tp x1 (by simpa using hx1)
            have g1 := hS2.frozen tp
            change (w8.setCell ⟨gd, fp, none⟩ (.iface 43 (.agg #[.pointer (some ⟨qb, 0, none⟩)]))).cell? _ = _ at u1
            change (w8.setCell ⟨gd, fp, none⟩ (.iface 43 (.agg #[.pointer (some ⟨qb, 0, none⟩)]))).frozen? _ = _ at g1
            have hpos : ∀ c ∈ caps.take (k + 1), 0 ≤ c := by
              intro c hc
              obtain ⟨i, hi, rfl⟩ := List.mem_take_iff_getElem.1 hc
              by_cases hik : i < k
              · exact HPOS.out _ (List.mem_take_iff_getElem.2 ⟨i, by omega, rfl⟩)
              · obtain rfl : i = k := by omega
                have e := HCC.out
                rw [List.getElem?_eq_getElem HKL.out] at e
                have e' : C = caps[i] := e.symm
                exact e' ▸ HC1.out
            have HPOS2 := Lib.hid hpos
            obtain ⟨bf, hbf⟩ : ∃ x, v8.tb f = x := ⟨_, rfl⟩
            obtain ⟨bt, hbt⟩ : ∃ x, v8.tb t = x := ⟨_, rfl⟩
            obtain ⟨nf, hnf⟩ : ∃ x, (ratesO g f).length = x := ⟨_, rfl⟩
            obtain ⟨nt, hnt⟩ : ∃ x, (ratesI g t).length = x := ⟨_, rfl⟩
            rw [hbf] at tf d2
            rw [hbt] at tt d1
            rw [hnf] at d2
            rw [hnt] at d1
            have q1 : (fp : Int) < nf := by have := HA4.out; omega
            have q2 : (tp : Int) < nt := by have := HA8.out; omega
            have q3 : (f : Int) < g.actors.length := by omega
            have q4 : (t : Int) < g.actors.length := by omega
            have q5 : (g.actors.length : Int) ≤ tc := by omega
            have hLe := HF.out.2.1
            have hTg : q8 tg = R + 1 := by
              obtain ⟨_, _, e, -, -, -, ho, -⟩ := hVt.at (by simp; omega)
              have := Option.some.inj e
              cases this
              exact ho
            have s31 : (w8.drew.setCell ⟨gd, fp, none⟩ (.iface 43 (.agg #[.pointer (some ⟨qb, 0, none⟩)]))).cell? ⟨b, 0, none⟩ = some (.slice (some ⟨tg, toff, none⟩) g.actors.length tc) ∧ (w8.drew.setCell ⟨gd, fp, none⟩ (.iface 43 (.agg #[.pointer (some ⟨qb, 0, none⟩)]))).cell? ⟨tg, toff + f, none⟩ = some (.pointer (some ⟨bf, 0, none⟩)) ∧ (w8.drew.setCell ⟨gd, fp, none⟩ (.iface 43 (.agg #[.pointer (some ⟨qb, 0, none⟩)]))).cell? ⟨bf, 2, none⟩ = some (.slice (some ⟨gd, 0, none⟩) nf nf) ∧ (w8.drew.setCell ⟨gd, fp, none⟩ (.iface 43 (.agg #[.pointer (some ⟨qb, 0, none⟩)]))).cell? ⟨Y, 0, none⟩ = some (.int .i64 (f : Int)) ∧ (w8.drew.setCell ⟨gd, fp, none⟩ (.iface 43 (.agg #[.pointer (some ⟨qb, 0, none⟩)]))).cell? ⟨Y, 1, none⟩ = some (.int .i64 (fp : Int)) ∧ (w8.drew.setCell ⟨gd, fp, none⟩ (.iface 43 (.agg #[.pointer (some ⟨qb, 0, none⟩)]))).cell? ⟨tg, toff + t, none⟩ = some (.pointer (some ⟨bt, 0, none⟩)) ∧ (w8.drew.setCell ⟨gd, fp, none⟩ (.iface 43 (.agg #[.pointer (some ⟨qb, 0, none⟩)]))).cell? ⟨bt, 1, none⟩ = some (.slice (some ⟨gs, 0, none⟩) nt nt) ∧ (w8.drew.setCell ⟨gd, fp, none⟩ (.iface 43 (.agg #[.pointer (some ⟨qb, 0, none⟩)]))).cell? ⟨Y, 2, none⟩ = some (.int .i64 (t : Int)) ∧ (w8.drew.setCell ⟨gd, fp, none⟩ (.iface 43 (.agg #[.pointer (some ⟨qb, 0, none⟩)]))).cell? ⟨Y, 3, none⟩ = some (.int .i64 (tp : Int)) ∧ (w8.drew.setCell ⟨gd, fp, none⟩ (.iface 43 (.agg #[.pointer (some ⟨qb, 0, none⟩)]))).cell? ⟨Z, 0, none⟩ = some (.pointer (some ⟨qb, 0, none⟩)) := by
              have kb := hrb.2
              have kY := HY8.out.2
              have kZ := HZ8.out.2
              have kf := hTf.blk.2
              have kt := hTt.blk.2
              rw [hbf] at kf
              rw [hbt] at kt
              exact ⟨S1.cell c0 (by show ¬ (q8 b = _); omega), S1.cell tf (by show ¬ (q8 tg = _); omega), S1.cell d2 (by show ¬ (q8 bf = _); omega), S1.cell y0 (by show ¬ (q8 Y = _); omega), S1.cell y1 (by show ¬ (q8 Y = _); omega), S1.cell tt (by show ¬ (q8 tg = _); omega), S1.cell d1 (by show ¬ (q8 bt = _); omega), S1.cell y2 (by show ¬ (q8 Y = _); omega), S1.cell y3 (by show ¬ (q8 Y = _); omega), S1.cell z0 (by show ¬ (q8 Z = _); omega)⟩
            have HS31 := Lib.hid s31
            clear s31 hTg hrb hVt hta htc hcells hTf hTt hgd hD hgs hS hdv hsv L1 S1 L2 S2 hS2 hx0 hx1 hpos hbf hbt hnf hnt hff htt HNd HN8 HY8 HZ8
            refine wp_region_lex1 (fun w' => w'.cell? ⟨b, 0, none⟩ = some (.slice (some ⟨tg, toff, none⟩) g.actors.length tc) ∧ w'.cell? ⟨tg, toff + f, none⟩ = some (.pointer (some ⟨bf, 0, none⟩)) ∧ w'.cell? ⟨bf, 2, none⟩ = some (.slice (some ⟨gd, 0, none⟩) nf nf) ∧ w'.cell? ⟨Y, 0, none⟩ = some (.int .i64 (f : Int)) ∧ w'.cell? ⟨Y, 1, none⟩ = some (.int .i64 (fp : Int)) ∧ w'.cell? ⟨tg, toff + t, none⟩ = some (.pointer (some ⟨bt, 0, none⟩)) ∧ w'.cell? ⟨bt, 1, none⟩ = some (.slice (some ⟨gs, 0, none⟩) nt nt) ∧ w'.cell? ⟨Y, 2, none⟩ = some (.int .i64 (t : Int)) ∧ w'.cell? ⟨Y, 3, none⟩ = some (.int .i64 (tp : Int)) ∧ w'.cell? ⟨Z, 0, none⟩ = some (.pointer (some ⟨qb, 0, none⟩)))
              [0, 1, 2, 3, 4, 5, 6, 7, 8, 9, 10, 11, 12, 13, 14, 15, 16, 17, 18, 19, 20, 21, 22, 23, 24, 25, 26, 27, 28, 29, 30] [] 31 [32, 33] (by kernel_rfl) (by kernel_rfl) (by kernel_rfl) rfl (fun _ _ hx h => ⟨hx.cell h.1, hx.cell h.2.1, hx.cell h.2.2.1, hx.cell h.2.2.2.1, hx.cell h.2.2.2.2.1, hx.cell h.2.2.2.2.2.1, hx.cell h.2.2.2.2.2.2.1, hx.cell h.2.2.2.2.2.2.2.1, hx.cell h.2.2.2.2.2.2.2.2.1, hx.cell h.2.2.2.2.2.2.2.2.2⟩) ⟨c0, tf, d2, y0, y1, tt, d1, y2, y3, z0⟩ ?_
            intro Q' hQ'
            simp only [pickOps, List.flatMap_cons, List.flatMap_nil, List.drop_succ_cons, List.drop_zero, List.take_succ_cons, List.take_zero, List.cons_append, List.nil_append, List.append_nil]
            repeat (first
              | (refine wpReads_skip (by rfl) ?_; (try simp only [Act.put, List.setIfInBounds_toArray, List.set_cons_zero, List.set_cons_succ]))
              | (refine wpReads_cons ?_ (by rfl) (by rfl) ?_ ?_; rotate_left; (intro wz hz; (try dsimp only at hz); go_simp; try with_reducible rfl); (try simp only [Act.put, List.setIfInBounds_toArray, List.set_cons_zero, List.set_cons_succ]))
              | (refine wpReads_any ?_ (by rfl) ?_ ?_; rotate_left; (intro wz; go_simp; try with_reducible rfl); (try simp only [Act.put, List.setIfInBounds_toArray, List.set_cons_zero, List.set_cons_succ])))
            refine wpReads_nil ?_
            clear c0 tf d2 y0 y1 tt d1 y2 y3 z0
            go_wp2
            refine ⟨HS31.out, ?_⟩
            go_wp2
            go_roundw
            case rel => exact ⟨k + 1, _, _, _, hlt, by go_num, HNEW.out, HPOS2.out⟩
            case measure => simp [intOf]; omega
        · obtain rfl : k = g.edges.length := by omega
          have hlti : ¬ ((g.edges.length : Int) < g.edges.length) := by omega
          have x3 := HN.out.graph.cell 3 _ rfl
          have hcpos : ∀ c ∈ caps, 0 ≤ c := by
            intro c hc
            refine HPOS.out c ?_
            rw [← H1.out, List.take_length]
            exact hc
          have HCP := Lib.hid hcpos
          clear hk hlt hcpos HPOS
          go_wp2_with fail
          go_loopw [169] (fun i wz => ∃ (k : Nat) (q : Col) (qs : Ptrs) (v : RVals), k ≤ g.ins.length ∧ i = .int .i64 k ∧ NewAt w wz q R b w.heap.size g caps qs g.actors.length g.edges.length k 0 (g.edges.length + k) (g.edges.length + k) v #[.string g.name, .slice aa g.actors.length ac, .slice ae g.edges.length ec, .slice ai g.ins.length ic, .slice ao g.outs.length oc]) (fun i _ => g.ins.length - (intOf i).toNat)
          case atStart => exact ⟨0, _, _, v, Nat.zero_le _, rfl, HN.out⟩
          case round =>
            clear HN x3
            obtain ⟨k, q, qs, v, hk, rfl, hN⟩ := hrel
            have HN := Lib.hid hN
            clear hN
            by_cases hlt : k < g.ins.length
            · have hlti : (k : Int) < g.ins.length := by omega
              obtain ⟨b0, off, rfl, hcap, hb0, hrec⟩ := HRI.out.at (by omega)
              obtain ⟨cs, hcs, hPR, hcl⟩ := hrec k hlt
              obtain rfl := hPR
              have c0 := cell_later HN.out.kept.below (hcl 0 (by omega))
              have c1 := cell_later HN.out.kept.below (hcl 1 (by omega))
              have c2 := cell_later HN.out.kept.below (hcl 2 (by omega))
              simp at c0 c1 c2
              have hcapi : (g.ins.length : Int) ≤ ic := by omega
              obtain ⟨pt, hpt⟩ : ∃ x, g.ins[k] = x := ⟨_, rfl⟩
              have HPT := Lib.hid hpt
              rw [hpt] at c0 c1 c2
              clear hrec hcl hcs hb0 hcap hpt
              have hsnd := HS.out.ins k hlt
              rw [HPT.out] at hsnd
              obtain ⟨⟨a5, a6⟩, ⟨a7, a8⟩, -⟩ := hsnd
              obtain ⟨t, ht⟩ := Int.eq_ofNat_of_zero_le a5
              obtain ⟨tp, htp⟩ := Int.eq_ofNat_of_zero_le a7
              have hfrom := HS.out.from_in hlt
              rw [HPT.out, ht, htp] at hfrom
              rw [ht, htp, Int.toNat_natCast] at a8
              rw [ht] at a6
              simp only [Int.toNat_natCast] at hfrom
              have HFROM := Lib.hid hfrom
              have HA6 := Lib.hid (show t < g.actors.length by omega)
              have HA8 := Lib.hid (show tp < (ratesI g t).length by omega)
              have HF3 := Lib.hid ht
              have HF4 := Lib.hid htp
              clear a5 a6 a7 a8 ht htp hfrom
              have hby := below_alloc wr (.cells #[.string pt.name, .int .i64 pt.actor, .int .i64 pt.port] 85)
              have Ty := Turn.of_below q (R + 6002) hby
              have HY := Lib.hid (blk_new (w := wr) q (R + 6002) #[.string pt.name, .int .i64 pt.actor, .int .i64 pt.port] 85)
              have HNy := Lib.hid (HN.out.turn Ty (fun h => h) (fun h => h) (fun _ h => h.elim))
              generalize ext q wr.heap.size (R + 6002) = qy at *
              clear Ty hby
              go_wp2_with fail
              obtain ⟨wy, hwy⟩ : ∃ x, wr.alloc (.cells #[.string pt.name, .int .i64 pt.actor, .int .i64 pt.port] 85) = x := ⟨_, rfl⟩
              obtain ⟨Y, hYe⟩ : ∃ x, wr.heap.size = x := ⟨_, rfl⟩
              rw [hwy] at HY HNy ⊢
              rw [hYe] at HY ⊢
              clear hwy hYe HN c0 c1 c2
              refine (iq_new_yes wy 9223372036854775807 none 0 [] (by decide) (by decide) (fun _ => rfl) (fun _ h => by cases h) (by decide)).mono ?_
              rintro e wq ⟨qb, r, rfl, hbq, hIQ⟩
              obtain ⟨Tq, hQA⟩ := queue_col qy (R + 4000 + (g.edges.length + k)) hbq hIQ (by decide)
              have HQA := Lib.hid hQA
              have HYq := Lib.hid (HY.out.turn Tq (fun h => h))
              have HNq := Lib.hid (HNy.out.turn Tq (fun h => h) (fun h => h) (fun _ h => h.elim))
              generalize ext qy wy.heap.size (R + 4000 + (g.edges.length + k)) = qz at *
              have hrb := HNq.out.half.blk
              unfold rigV at hrb
              have c1 := hrb.cell 2 _ rfl
              change wq.cell? _ = some v.inputs at c1
              have hown := HNq.out.half.inputs
              obtain ⟨ea, eec, hea⟩ := hown.slice
              rw [hea] at c1
              obtain ⟨i0, hi, hz0, hz1, hz2⟩ := info_parts info_chan
              have HI := Lib.hid hi
              have HEA := Lib.hid hea
              clear Tq hQA hIQ hbq HY HNy hrb hown hea hi
              have hbn := below_alloc wq (.cells #[.pointer (some ⟨qb, 0, none⟩)] 43)
              have Tn := Turn.of_below qz (R + 6003) hbn
              have HNn := Lib.hid (HNq.out.turn Tn (fun h => h) (fun h => h) (fun _ h => h.elim))
              have HQn := Lib.hid (HQA.out.turn Tn (fun h => h))
              have HYn := Lib.hid (HYq.out.turn Tn (fun h => h))
              have e1 := HNn.out.half.blk.cell 2 v.inputs (by simp [rigV])
              generalize ext qz wq.heap.size (R + 6003) = qn at *
              clear hbn Tn HNq HQA HYq
              go_wp2_with (at_builtin; refine stop_here ?_)
              refine go_on ?_
              refine wpList_app rfl _ _ 37 rfl 0 43 i0 _ 1 8 Try.underlying37 HI.out hz0 hz1 hz2 rfl (.slice ea k eec) k ((List.range k).map fun d => ptrV (qs (g.edges.length + d))) rfl (by have := HNn.out.half.inputs.1; rw [HEA.out] at this; exact this) (some ⟨wq.heap.size, 0, none⟩) 1 1 [.pointer (some ⟨qb, 0, none⟩)] rfl rfl (fun h => by cases h) (news_alloc wq [.pointer (some ⟨qb, 0, none⟩)] 43) (by simp [Value.oneCell']) (by have := HF.out.2.2.1; unfold maxLen; omega) (grow_ok (by have := HF.out.2.2.1; omega)) (Nat.zero_le _) ?_
              intro v7 w7 k1 k20 _ k4
              rw [← HEA.out] at k20 k4
              obtain ⟨T7, O7⟩ := own_app HNn.out.half.inputs k1 k20 k4
              obtain ⟨sp7, cp7, rfl⟩ := O7.slice
              have hN7 := HNn.out.half.blk.turn T7 (by omega)
              have e0 := hN7.cell 2 v.inputs (by simp [rigV])
              have g0 := hN7.frozen 2
              obtain ⟨hB0, S0⟩ := hN7.set 2 (.slice sp7 (k + 1) cp7)
              have hBr : Blk (w7.setCell ⟨b, 2, none⟩ (.slice sp7 (k + 1) cp7)) (ext qn (wq.alloc (.cells #[.pointer (some ⟨qb, 0, none⟩)] 43)).heap.size (R + 3)) R b 40 (rigV ⟨newRig g, none⟩ { v with inputs := .slice sp7 (k + 1) cp7 }).toArray := hB0
              have TT := (T7.mono (D := fun c => c = R ∨ c = R + 3) (fun c h => .inr h)).trans (S0.mono (D := fun c => c = R ∨ c = R + 3) (fun c h => .inl h)) (fun _ h => h)
              have hQ8 := HQn.out.turn TT (by omega)
              have hcD : capD caps (g.edges.length + k) = 9223372036854775807 := by
                unfold capD
                rw [List.getElem?_eq_none (by have := H1.out; omega)]
                rfl
              rw [← hcD] at hQ8
              have hN8 := NewAt.mk (HNn.out.kept.turn TT (by omega)) (HNn.out.graph.turn TT (by omega)) (HNn.out.half.addInput hlt TT hBr (O7.turn S0 (by omega)) hQ8)
              have hY8 := HYn.out.turn TT (by omega)
              obtain ⟨v8, hv8⟩ : ∃ x, ({ v with inputs := .slice sp7 (k + 1) cp7 } : RVals) = x := ⟨_, rfl⟩
              rw [hv8] at hN8
              have HN8 := Lib.hid hN8
              have HY8 := Lib.hid hY8
              generalize ext qn (wq.alloc (.cells #[.pointer (some ⟨qb, 0, none⟩)] 43)).heap.size (R + 3) = q8 at *
              clear hBr TT hQ8 hN8 hY8 hv8 hB0 S0 hN7 T7 O7 k1 k20 k4 HNn HQn HYn e1 hcD c1
              go_wp2_with fail
              obtain ⟨w8, hw8⟩ : ∃ x, w7.setCell ⟨b, 2, none⟩ (.slice sp7 (k + 1) cp7) = x := ⟨_, rfl⟩
              rw [hw8] at HN8 HY8 ⊢
              clear hw8 e0 g0
              have hrb := HN8.out.half.blk
              have c0 := hrb.cell 0 v8.tasks (by simp [rigV])
              have hVt := HN8.out.half.tasks.vals
              obtain ⟨ta, tc, hta⟩ := hVt.slice
              simp only [List.length_map, List.length_range] at hta
              rw [hta] at c0 hVt
              obtain ⟨tg, toff, rfl, -, htc, -, -, hcells⟩ := hVt.at (by have := HA6.out; simp; omega)
              have tt : w8.cell? ⟨tg, toff + t, none⟩ = some (.pointer (some ⟨v8.tb t, 0, none⟩)) := by
                rw [hcells t (by have := HA6.out; simp; omega)]
                simp [HA6.out, ptrV]
              have hTt := HN8.out.half.task t HA6.out
              obtain ⟨gs, hgs, hS⟩ := hTt.src
              have d1 := hTt.blk.cell 1 (v8.tv t).src (by simp [taskV])
              rw [hgs] at d1
              have y2 := HY8.out.cell 1 _ rfl
              have y3 := HY8.out.cell 2 _ rfl
              change w8.cell? _ = some (.int .i64 pt.actor) at y2
              change w8.cell? _ = some (.int .i64 pt.port) at y3
              rw [HF3.out] at y2
              rw [HF4.out] at y3
              have HNd := Lib.hid (HN8.out.turn ((Turn.refl q8 (fun _ => False) w8).drew) (fun h => h) (fun h => h) (fun _ h => h.elim))
              have hsv : srcV (upd qs (g.edges.length + k) qb) g t tp = .iface 43 (.agg #[.pointer (some ⟨qb, 0, none⟩)]) := by
                unfold srcV
                rw [HFROM.out, upd_same]
              obtain ⟨L2, S2⟩ := HNd.out.half.linkFrom (t := t) (q := tp) (gs := gs) HA6.out HFROM.out (by omega) hgs
              rw [hsv] at L2 S2
              have hLf := HF.out.1
              have htt := HA6.out
              have HNEW := Lib.hid (NewAt.mk (HNd.out.kept.turn S2 (by omega)) (HNd.out.graph.turn S2 (by omega)) (L2.pass (n := k) (m := k + 1) HS.out (by omega) (by omega)))
              obtain ⟨x1, hx1⟩ : ∃ x, (fromS (upd qs (g.edges.length + k) qb) g t (g.edges.length + k))[tp]? = some x := ⟨_, List.getElem?_eq_getElem (by rw [fromS_len]; exact HA8.out)⟩
              have u1 := hS.cell tp x1 (by simpa using hx1)
              have g1 := hS.frozen tp
              obtain ⟨bt, hbt⟩ : ∃ x, v8.tb t = x := ⟨_, rfl⟩
              obtain ⟨nt, hnt⟩ : ∃ x, (ratesI g t).length = x := ⟨_, rfl⟩
              rw [hbt] at tt d1
              rw [hnt] at d1
              have q2 : (tp : Int) < nt := by have := HA8.out; omega
              have q4 : (t : Int) < g.actors.length := by omega
              have q5 : (g.actors.length : Int) ≤ tc := by omega
              have hLe := HF.out.2.2.1
              clear hrb hVt hta htc hcells hTt hgs hS hsv L2 S2 hx1 hbt hnt htt HNd HN8 HY8
              refine wp_region_lex (fun w' => w'.cell? ⟨b, 0, none⟩ = some (.slice (some ⟨tg, toff, none⟩) g.actors.length tc) ∧ w'.cell? ⟨tg, toff + t, none⟩ = some (.pointer (some ⟨bt, 0, none⟩)) ∧ w'.cell? ⟨bt, 1, none⟩ = some (.slice (some ⟨gs, 0, none⟩) nt nt) ∧ w'.cell? ⟨Y, 1, none⟩ = some (.int .i64 (t : Int)) ∧ w'.cell? ⟨Y, 2, none⟩ = some (.int .i64 (tp : Int)))
                [0, 1, 2, 3, 4, 5, 6, 7, 8, 9, 10, 11, 12, 13, 14, 15] [16, 17] (by kernel_rfl) (by kernel_rfl) rfl (fun _ _ hx h => ⟨hx.cell h.1, hx.cell h.2.1, hx.cell h.2.2.1, hx.cell h.2.2.2.1, hx.cell h.2.2.2.2⟩) ⟨c0, tt, d1, y2, y3⟩ ?_
              intro Q' hQ'
              simp only [pickOps, List.flatMap_cons, List.flatMap_nil, List.drop_succ_cons, List.drop_zero, List.take_succ_cons, List.take_zero, List.cons_append, List.nil_append, List.append_nil]
              repeat (first
                | (refine wpReads_skip (by rfl) ?_; (try simp only [Act.put, List.setIfInBounds_toArray, List.set_cons_zero, List.set_cons_succ]))
                | (refine wpReads_cons ?_ (by rfl) (by rfl) ?_ ?_; rotate_left; (intro wz hz; (try dsimp only at hz); go_simp; try with_reducible rfl); (try simp only [Act.put, List.setIfInBounds_toArray, List.set_cons_zero, List.set_cons_succ]))
                | (refine wpReads_any ?_ (by rfl) ?_ ?_; rotate_left; (intro wz; go_simp; try with_reducible rfl); (try simp only [Act.put, List.setIfInBounds_toArray, List.set_cons_zero, List.set_cons_succ])))
              refine wpReads_nil ?_
              clear c0 tt d1 y2 y3
              go_wp2
              go_roundw
              case rel => exact ⟨k + 1, _, _, _, hlt, by go_num, HNEW.out⟩
              case measure => simp [intOf]; omega
            · obtain rfl : k = g.ins.length := by omega
              have hlti : ¬ ((g.ins.length : Int) < g.ins.length) := by omega
              have x4 := HN.out.graph.cell 4 _ rfl
              clear hk hlt
              go_wp2_with fail
              go_loopw [209] (fun i wz => ∃ (k : Nat) (q : Col) (qs : Ptrs) (v : RVals), k ≤ g.outs.length ∧ i = .int .i64 k ∧ NewAt w wz q R b w.heap.size g caps qs g.actors.length g.edges.length g.ins.length k (g.edges.length + g.ins.length) (g.edges.length + g.ins.length + k) v #[.string g.name, .slice aa g.actors.length ac, .slice ae g.edges.length ec, .slice ai g.ins.length ic, .slice ao g.outs.length oc]) (fun i _ => g.outs.length - (intOf i).toNat)
              case atStart => exact ⟨0, _, _, v, Nat.zero_le _, rfl, HN.out⟩
              case round =>
                clear HN x4
                obtain ⟨k, q, qs, v, hk, rfl, hN⟩ := hrel
                have HN := Lib.hid hN
                clear hN
                by_cases hlt : k < g.outs.length
                · have hlti : (k : Int) < g.outs.length := by omega
                  obtain ⟨b0, off, rfl, hcap, hb0, hrec⟩ := HRO.out.at (by omega)
                  obtain ⟨cs, hcs, hPR, hcl⟩ := hrec k hlt
                  obtain rfl := hPR
                  have c0 := cell_later HN.out.kept.below (hcl 0 (by omega))
                  have c1 := cell_later HN.out.kept.below (hcl 1 (by omega))
                  have c2 := cell_later HN.out.kept.below (hcl 2 (by omega))
                  simp at c0 c1 c2
                  have hcapi : (g.outs.length : Int) ≤ oc := by omega
                  obtain ⟨pt, hpt⟩ : ∃ x, g.outs[k] = x := ⟨_, rfl⟩
                  have HPT := Lib.hid hpt
                  rw [hpt] at c0 c1 c2
                  clear hrec hcl hcs hb0 hcap hpt
                  have hsnd := HS.out.outs k hlt
                  rw [HPT.out] at hsnd
                  obtain ⟨⟨a5, a6⟩, ⟨a7, a8⟩, -⟩ := hsnd
                  obtain ⟨t, ht⟩ := Int.eq_ofNat_of_zero_le a5
                  obtain ⟨tp, htp⟩ := Int.eq_ofNat_of_zero_le a7
                  have hto := HS.out.to_out hlt
                  rw [HPT.out, ht, htp] at hto
                  rw [ht, htp, Int.toNat_natCast] at a8
                  rw [ht] at a6
                  simp only [Int.toNat_natCast] at hto
                  have HTO := Lib.hid hto
                  have HA6 := Lib.hid (show t < g.actors.length by omega)
                  have HA8 := Lib.hid (show tp < (ratesO g t).length by omega)
                  have HF3 := Lib.hid ht
                  have HF4 := Lib.hid htp
                  clear a5 a6 a7 a8 ht htp hto
                  have hby := below_alloc wr (.cells #[.string pt.name, .int .i64 pt.actor, .int .i64 pt.port] 85)
                  have Ty := Turn.of_below q (R + 6002) hby
                  have hY := blk_new (w := wr) q (R + 6002) #[.string pt.name, .int .i64 pt.actor, .int .i64 pt.port] 85
                  have hNy := HN.out.turn Ty (fun h => h) (fun h => h) (fun _ h => h.elim)
                  generalize ext q wr.heap.size (R + 6002) = qy at *
                  obtain ⟨Y, hYe⟩ : ∃ x, wr.heap.size = x := ⟨_, rfl⟩
                  have hsz : (wr.alloc (.cells #[.string pt.name, .int .i64 pt.actor, .int .i64 pt.port] 85)).heap.size = Y + 1 := by rw [World.size_alloc, hYe]
                  rw [hYe] at hY
                  have hYE := Lib.hid hYe
                  obtain ⟨wy, hwy⟩ : ∃ x, wr.alloc (.cells #[.string pt.name, .int .i64 pt.actor, .int .i64 pt.port] 85) = x := ⟨_, rfl⟩
                  rw [hwy] at hY hNy hsz
                  have Tt := Turn.of_below qy (R + 4000 + (g.edges.length + g.ins.length + k)) (below_alloc wy (.cells #[.slice none 0 0] 47))
                  have hT := blk_new (w := wy) qy (R + 4000 + (g.edges.length + g.ins.length + k)) #[.slice none 0 0] 47
                  rw [hsz] at hT Tt
                  have HTq := Lib.hid hT
                  have HYq := Lib.hid (hY.turn Tt (fun h => h))
                  have HNq := Lib.hid (hNy.turn Tt (fun h => h) (fun h => h) (fun _ h => h.elim))
                  rw [← hwy] at HTq HYq HNq
                  generalize ext qy (Y + 1) (R + 4000 + (g.edges.length + g.ins.length + k)) = qz at *
                  have hrb := HNq.out.half.blk
                  unfold rigV at hrb
                  have c3 := hrb.cell 3 _ rfl
                  change World.cell? _ _ = some v.tapes at c3
                  have hown := HNq.out.half.tapes
                  obtain ⟨ea, eec, hea⟩ := hown.slice
                  rw [hea] at c3
                  obtain ⟨i0, hi, hz0, hz1, hz2⟩ := info_parts info_ptape
                  have HI := Lib.hid hi
                  have HEA := Lib.hid hea
                  clear Ty Tt hT hY hNy hsz hby hrb hown hea hi hwy HN
                  have hbn := below_alloc ((wr.alloc (.cells #[.string pt.name, .int .i64 pt.actor, .int .i64 pt.port] 85)).alloc (.cells #[.slice none 0 0] 47)) (.cells #[.pointer (some ⟨Y + 1, 0, none⟩)] 48)
                  have Tn := Turn.of_below qz (R + 6003) hbn
                  have HNn := Lib.hid (HNq.out.turn Tn (fun h => h) (fun h => h) (fun _ h => h.elim))
                  have HTn := Lib.hid (HTq.out.turn Tn (fun h => h))
                  have HYn := Lib.hid (HYq.out.turn Tn (fun h => h))
                  have e1 := HNn.out.half.blk.cell 3 v.tapes (by simp [rigV])
                  generalize ext qz _ (R + 6003) = qn at *
                  clear hbn Tn HNq HTq HYq
                  subst hYe
                  go_wp2_with (at_builtin; refine stop_here ?_)
                  refine go_on ?_
                  obtain ⟨wt, hwt⟩ : ∃ x, (wr.alloc (.cells #[.string pt.name, .int .i64 pt.actor, .int .i64 pt.port] 85)).alloc (.cells #[.slice none 0 0] 47) = x := ⟨_, rfl⟩
                  have hts : wt.heap.size = wr.heap.size + 2 := by rw [← hwt]; simp
                  have hna := news_at (w := wt) (n := wr.heap.size + 2) hts.symm [.pointer (some ⟨wr.heap.size + 1, 0, none⟩)] 48
                  obtain ⟨Y, hYe⟩ : ∃ x, wr.heap.size = x := ⟨_, rfl⟩
                  rw [hwt] at HNn HTn HYn c3 e1 ⊢
                  rw [hYe] at HNn HTn HYn e1 hna hts ⊢
                  clear hwt hYe c3 c0 c1 c2
                  refine wpList_app rfl _ _ 38 rfl 0 48 i0 _ 1 8 Try.underlying38 HI.out hz0 hz1 hz2 rfl (.slice ea k eec) k ((List.range k).map fun d => ptrV (qs (g.edges.length + g.ins.length + d))) rfl (by have := HNn.out.half.tapes.1; rw [HEA.out] at this; exact this) (some ⟨Y + 2, 0, none⟩) 1 1 [.pointer (some ⟨Y + 1, 0, none⟩)] rfl rfl (fun h => by cases h) hna (by simp [Value.oneCell']) (by have := HF.out.2.2.2; unfold maxLen; omega) (grow_ok (by have := HF.out.2.2.2; omega)) (Nat.zero_le _) ?_
                  intro v7 w7 k1 k20 _ k4
                  rw [← HEA.out] at k20 k4
                  obtain ⟨T7, O7⟩ := own_app HNn.out.half.tapes k1 k20 k4
                  obtain ⟨sp7, cp7, rfl⟩ := O7.slice
                  have hN7 := HNn.out.half.blk.turn T7 (by omega)
                  have e0 := hN7.cell 3 v.tapes (by simp [rigV])
                  have g0 := hN7.frozen 3
                  obtain ⟨hB0, S0⟩ := hN7.set 3 (.slice sp7 (k + 1) cp7)
                  have hBr : Blk (w7.setCell ⟨b, 3, none⟩ (.slice sp7 (k + 1) cp7)) (ext qn (wt.alloc (.cells #[.pointer (some ⟨Y + 1, 0, none⟩)] 48)).heap.size (R + 4)) R b 40 (rigV ⟨newRig g, none⟩ { v with tapes := .slice sp7 (k + 1) cp7 }).toArray := hB0
                  have TT := (T7.mono (D := fun c => c = R ∨ c = R + 4) (fun c h => .inr h)).trans (S0.mono (D := fun c => c = R ∨ c = R + 4) (fun c h => .inl h)) (fun _ h => h)
                  have hN8 := NewAt.mk (HNn.out.kept.turn TT (by omega)) (HNn.out.graph.turn TT (by omega)) (HNn.out.half.addTape hlt TT hBr (O7.turn S0 (by omega)) (HTn.out.turn TT (by omega)))
                  have hY8 := HYn.out.turn TT (by omega)
                  obtain ⟨v8, hv8⟩ : ∃ x, ({ v with tapes := .slice sp7 (k + 1) cp7, rows := upd v.rows (g.edges.length + g.ins.length + k) (.slice none 0 0) } : RVals) = x := ⟨_, rfl⟩
                  rw [hv8] at hN8
                  have HN8 := Lib.hid hN8
                  have HY8 := Lib.hid hY8
                  generalize ext qn (wt.alloc (.cells #[.pointer (some ⟨Y + 1, 0, none⟩)] 48)).heap.size (R + 4) = q8 at *
                  clear hBr TT hN8 hY8 hv8 hB0 S0 hN7 T7 O7 k1 k20 k4 HNn HTn HYn e1 hna hts
                  go_wp2_with fail
                  obtain ⟨w8, hw8⟩ : ∃ x, w7.setCell ⟨b, 3, none⟩ (.slice sp7 (k + 1) cp7) = x := ⟨_, rfl⟩
                  rw [hw8] at HN8 HY8 ⊢
                  clear hw8 e0 g0
                  have hrb := HN8.out.half.blk
                  have c0 := hrb.cell 0 v8.tasks (by simp [rigV])
                  have hVt := HN8.out.half.tasks.vals
                  obtain ⟨ta, tc, hta⟩ := hVt.slice
                  simp only [List.length_map, List.length_range] at hta
                  rw [hta] at c0 hVt
                  obtain ⟨tg, toff, rfl, -, htc, -, -, hcells⟩ := hVt.at (by have := HA6.out; simp; omega)
                  have tt : w8.cell? ⟨tg, toff + t, none⟩ = some (.pointer (some ⟨v8.tb t, 0, none⟩)) := by
                    rw [hcells t (by have := HA6.out; simp; omega)]
                    simp [HA6.out, ptrV]
                  have hTt := HN8.out.half.task t HA6.out
                  obtain ⟨gs, hgs, hS⟩ := hTt.dst
                  have d1 := hTt.blk.cell 2 (v8.tv t).dst (by simp [taskV])
                  rw [hgs] at d1
                  have y2 := HY8.out.cell 1 _ rfl
                  have y3 := HY8.out.cell 2 _ rfl
                  change w8.cell? _ = some (.int .i64 pt.actor) at y2
                  change w8.cell? _ = some (.int .i64 pt.port) at y3
                  rw [HF3.out] at y2
                  rw [HF4.out] at y3
                  have HNd := Lib.hid (HN8.out.turn ((Turn.refl q8 (fun _ => False) w8).drew) (fun h => h) (fun h => h) (fun _ h => h.elim))
                  have hsv : dstV (upd qs (g.edges.length + g.ins.length + k) (Y + 1)) g t tp = .iface 48 (.pointer (some ⟨Y + 1, 0, none⟩)) := by
                    unfold dstV
                    rw [HTO.out, if_neg (by omega), upd_same]
                  obtain ⟨L2, S2⟩ := HNd.out.half.linkTo (t := t) (p := tp) (gd := gs) HA6.out HTO.out (by omega) hgs
                  rw [hsv] at L2 S2
                  have hLf := HF.out.1
                  have htt := HA6.out
                  have HNEW := Lib.hid (NewAt.mk (HNd.out.kept.turn S2 (by omega)) (HNd.out.graph.turn S2 (by omega)) L2)
                  obtain ⟨x1, hx1⟩ : ∃ x, (toS (upd qs (g.edges.length + g.ins.length + k) (Y + 1)) g t (g.edges.length + g.ins.length + k))[tp]? = some x := ⟨_, List.getElem?_eq_getElem (by rw [toS_len]; exact HA8.out)⟩
                  have u1 := hS.cell tp x1 (by simpa using hx1)
                  have g1 := hS.frozen tp
                  obtain ⟨bt, hbt⟩ : ∃ x, v8.tb t = x := ⟨_, rfl⟩
                  obtain ⟨nt, hnt⟩ : ∃ x, (ratesO g t).length = x := ⟨_, rfl⟩
                  rw [hbt] at tt d1
                  rw [hnt] at d1
                  have q2 : (tp : Int) < nt := by have := HA8.out; omega
                  have q4 : (t : Int) < g.actors.length := by omega
                  have q5 : (g.actors.length : Int) ≤ tc := by omega
                  have hLe := HF.out.2.2.2
                  clear hrb hVt hta htc hcells hTt hgs hS hsv L2 S2 hx1 hbt hnt htt HNd HN8 HY8
                  refine wp_region_lex (fun w' => w'.cell? ⟨b, 0, none⟩ = some (.slice (some ⟨tg, toff, none⟩) g.actors.length tc) ∧ w'.cell? ⟨tg, toff + t, none⟩ = some (.pointer (some ⟨bt, 0, none⟩)) ∧ w'.cell? ⟨bt, 2, none⟩ = some (.slice (some ⟨gs, 0, none⟩) nt nt) ∧ w'.cell? ⟨Y, 1, none⟩ = some (.int .i64 (t : Int)) ∧ w'.cell? ⟨Y, 2, none⟩ = some (.int .i64 (tp : Int)))
                    [0, 1, 2, 3, 4, 5, 6, 7, 8, 9, 10, 11, 12, 13, 14] [15, 16] (by kernel_rfl) (by kernel_rfl) rfl (fun _ _ hx h => ⟨hx.cell h.1, hx.cell h.2.1, hx.cell h.2.2.1, hx.cell h.2.2.2.1, hx.cell h.2.2.2.2⟩) ⟨c0, tt, d1, y2, y3⟩ ?_
                  intro Q' hQ'
                  simp only [pickOps, List.flatMap_cons, List.flatMap_nil, List.drop_succ_cons, List.drop_zero, List.take_succ_cons, List.take_zero, List.cons_append, List.nil_append, List.append_nil]
                  repeat (first
                    | (refine wpReads_skip (by rfl) ?_; (try simp only [Act.put, List.setIfInBounds_toArray, List.set_cons_zero, List.set_cons_succ]))
                    | (refine wpReads_cons ?_ (by rfl) (by rfl) ?_ ?_; rotate_left; (intro wz hz; (try dsimp only at hz); go_simp; try with_reducible rfl); (try simp only [Act.put, List.setIfInBounds_toArray, List.set_cons_zero, List.set_cons_succ]))
                    | (refine wpReads_any ?_ (by rfl) ?_ ?_; rotate_left; (intro wz; go_simp; try with_reducible rfl); (try simp only [Act.put, List.setIfInBounds_toArray, List.set_cons_zero, List.set_cons_succ])))
                  refine wpReads_nil ?_
                  clear c0 tt d1 y2 y3
                  go_wp2
                  go_roundw
                  case rel => exact ⟨k + 1, _, _, _, hlt, by go_num, HNEW.out⟩
                  case measure => simp [intOf]; omega
                · obtain rfl : k = g.outs.length := by omega
                  have hlti : ¬ ((g.outs.length : Int) < g.outs.length) := by omega
                  have hA : ActsOk g := ⟨HS.out.good, HFP.out⟩
                  have hL : Linked g := ⟨fun t p ht hp => HS.out.to_lt ht hp, fun t q ht hq => HS.out.from_lt ht hq⟩
                  have hO := new_ok HS.out hA HFS.out
                  have HFIN := Lib.hid (dnew_yes (o := o) hR (by
                    unfold newE
                    rw [if_neg (by rw [HE.out]; decide), if_neg (by rw [H1.out]; simp), if_neg]
                    intro h
                    obtain ⟨c, h1, h2⟩ := List.any_eq_true.1 h
                    have := HCP.out c h1
                    simp at h2
                    omega) HN.out.kept (RigOk.mk (HN.out.half.whole HS.out) hO.1 hO.2 rfl) ⟨hL, hA, H1.out⟩)
                  clear hk hlt hA hL hO
                  go_wp2
                  go_ret2
                  exact HFIN.out
end Go.Proofs.Ytaholpfikcdhbaa

/- Rig.Rounds. -/
namespace Go.Proofs.Ytaholpfikcdhbaa
open Go.RowKit

theorem stepI_nat (g : GGraph) (caps : List Int) (r : RunP) (t : Nat) : stepI g caps r (t : Int) = stepR g caps r t := by
  unfold stepI
  rw [if_neg (by omega)]
  rfl
theorem round_drop {g : GGraph} {caps : List Int} {r : RunP} {n j : Nat} (h : j < n) : roundP g caps ((List.range n).drop j) r = ((roundP g caps ((List.range n).drop (j + 1)) (stepR g caps r j).1).1, (roundP g caps ((List.range n).drop (j + 1)) (stepR g caps r j).1).2 + (if (stepR g caps r j).2 then 1 else 0)) := by
  rw [List.drop_eq_getElem_cons (by simpa using h)]
  simp only [List.getElem_range]
  rfl
theorem rounds_zero {g : GGraph} {caps : List Int} {r : RunP} {m : Nat} (h : (roundP g caps (List.range g.actors.length) r).2 = 0) : roundsP g caps (m + 1) r = ((roundP g caps (List.range g.actors.length) r).1, 0) := by rw [roundsP, if_pos h]
theorem rounds_more {g : GGraph} {caps : List Int} {r : RunP} {m : Nat} (h : (roundP g caps (List.range g.actors.length) r).2 ≠ 0) : roundsP g caps (m + 1) r = ((roundsP g caps m (roundP g caps (List.range g.actors.length) r).1).1, (roundsP g caps m (roundP g caps (List.range g.actors.length) r).1).2 + (roundP g caps (List.range g.actors.length) r).2) := by rw [roundsP, if_neg h]
set_option maxRecDepth 100000 in
set_option maxHeartbeats 4000000 in
theorem dRounds_mid {w : World} {o : Col} {R b : Nat} {g : GGraph} {caps : List Int} {M : Nat} {qs : Ptrs} {tb : Nat → Nat} {r : RunP} {v : RVals} (k : Int) (hk0 : 0 < k) (hk4 : k ≤ 4096) (h : RigOk w o R b g caps M qs tb r v) (hG : GOk g caps) (hM : M ≤ 26000000000000) :
    Calls Try.prog 8 #[.pointer (some ⟨b, 0, none⟩), .int .i64 k] w (OkRet w o R b g caps (M + 4096 * 32) qs tb (roundsP g caps (min k 4096).toNat r).1 (.int .i64 (roundsP g caps (min k 4096).toNat r).2)) := by
  obtain ⟨n, hn⟩ : ∃ n, g.actors.length = n := ⟨_, rfl⟩
  have hn32 : n ≤ 32 := by rw [← hn]; exact h.mem.few.1
  obtain ⟨K, hK⟩ : ∃ K, (min k 4096).toNat = K := ⟨_, rfl⟩
  obtain rfl : k = (K : Int) := by omega
  have hK4 : K ≤ 4096 := by omega
  obtain ⟨F, hF⟩ : ∃ F, roundsP g caps K r = F := ⟨_, rfl⟩
  rw [hK, hF]
  have H := Lib.hid h
  have HG := Lib.hid hG
  have HF := Lib.hid hF
  have HN := Lib.hid hn
  clear h hG hF hn hK
  go_enter Try.func8, Try.ntmps8
  go_wp2_with fail
  go_loopw [5, 13] (fun d i wl => ∃ (j D : Nat) (r' : RunP) (o' : Col) (v' : RVals), j ≤ K ∧ i = .int .i64 j ∧ d = .int .i64 D ∧ D ≤ 32 * j ∧ Turn o o' (MineR R) w wl ∧ RigOk wl o' R b g caps (M + 32 * j) qs tb r' v' ∧ (roundsP g caps (K - j) r').1 = F.1 ∧ (roundsP g caps (K - j) r').2 + D = F.2) (fun _ i _ => K - (intOf i).toNat)
  case atStart => exact ⟨0, 0, r, o, v, Nat.zero_le _, rfl, rfl, Nat.zero_le _, Turn.refl _ _ _, H.out, by rw [Nat.sub_zero, HF.out], by rw [Nat.sub_zero, HF.out]; rfl⟩
  case round =>
    obtain ⟨j, D, r', o', v', hj, rfl, rfl, hD, T, hR, e1, e2⟩ := hrel
    have HT := Lib.hid T
    have HR := Lib.hid hR
    have HE := Lib.hid (And.intro e1 e2)
    clear T hR e1 e2
    by_cases hlt : j < K
    · have hlti : (j : Int) < (K : Int) := by omega
      have c0 := HR.out.mem.blk.cell 0 _ rfl
      change wr.cell? _ = some v'.tasks at c0
      obtain ⟨ta, tc, u1⟩ := HR.out.mem.tasks.slice
      rw [List.length_map, List.length_range, HN.out] at u1
      rw [u1] at c0
      clear u1
      obtain ⟨G, hGe⟩ : ∃ G, roundP g caps (List.range n) r' = G := ⟨_, rfl⟩
      have HGE := Lib.hid hGe
      clear hGe
      go_wp2_with fail
      go_loopw [5, 21] (fun d i wl => ∃ (a c : Nat) (r2 : RunP) (o2 : Col) (v2 : RVals), a ≤ n ∧ i = .int .i64 a ∧ d = .int .i64 ((D + c : Nat) : Int) ∧ c ≤ a ∧ Turn o o2 (MineR R) w wl ∧ RigOk wl o2 R b g caps (M + 32 * j + a) qs tb r2 v2 ∧ (roundP g caps ((List.range n).drop a) r2).1 = G.1 ∧ (roundP g caps ((List.range n).drop a) r2).2 + c = G.2) (fun _ i _ => n - (intOf i).toNat)
      case atStart => exact ⟨0, 0, r', o', v', Nat.zero_le _, rfl, rfl, Nat.le_refl _, HT.out, HR.out, by rw [List.drop_zero, HGE.out], by rw [List.drop_zero, HGE.out]; rfl⟩
      case round =>
        obtain ⟨a, c, r2, o2, v2, ha, rfl, rfl, hc, T2, hR2, q1, q2⟩ := hrel
        have HT2 := Lib.hid T2
        have HR2 := Lib.hid hR2
        have HQ := Lib.hid (And.intro q1 q2)
        obtain ⟨E, hE⟩ : ∃ E, D + c = E := ⟨_, rfl⟩
        rw [hE]
        clear T2 hR2 q1 q2
        by_cases hat : a < n
        · have hati : (a : Int) < (n : Int) := by omega
          have hwr : IntKind.i64.wrap ((E : Int) + 1) = (E : Int) + 1 := IntWalk.i64_in _ (by omega)
          have HE2 := Lib.hid hE
          clear hE
          go_wp2_with fail
          refine (dStep_ok (a : Int) HR2.out HG.out (by omega)).mono ?_
          rintro e w3 ⟨o3, v3, rfl, T3, R3⟩
          rw [stepI_nat] at R3 ⊢
          have HT3 := Lib.hid (HT2.out.trans T3 (fun _ h => h))
          have HR3 := Lib.hid R3
          have HD := Lib.hid (round_drop (g := g) (caps := caps) (r := r2) hat)
          clear T3 R3
          cases hz : (stepR g caps r2 a).2 with
          | true =>
            have HZ := Lib.hid hz
            clear hz
            go_wp2_with fail
            go_roundw
            case rel =>
              obtain ⟨q1, q2⟩ := HQ.out
              rw [HD.out, HZ.out] at q1 q2
              exact ⟨a + 1, c + 1, _, o3, v3, hat, by go_num, by rw [← Nat.add_assoc, HE2.out]; go_num, by omega, HT3.out, HR3.out, q1, by simp at q2; omega⟩
            case measure => simp [intOf]; omega
          | false =>
            have HZ := Lib.hid hz
            clear hz
            go_wp2_with fail
            go_roundw
            case rel =>
              obtain ⟨q1, q2⟩ := HQ.out
              rw [HD.out, HZ.out] at q1 q2
              exact ⟨a + 1, c, _, o3, v3, hat, by go_num, by rw [HE2.out], by omega, HT3.out, HR3.out, q1, by simp at q2; omega⟩
            case measure => simp [intOf]; omega
        · have han : a = n := by omega
          have hfin : r2 = G.1 ∧ c = G.2 := by
            obtain ⟨q1, q2⟩ := HQ.out
            rw [List.drop_eq_nil_of_le (by simp; omega)] at q1 q2
            exact ⟨q1, by simpa [roundP] using q2⟩
          have HFIN := Lib.hid hfin
          have hKj : K - j = (K - (j + 1)) + 1 := by omega
          have HKJ := Lib.hid hKj
          have hni : ¬ (a : Int) < (n : Int) := by omega
          have HAN := Lib.hid han
          clear hfin hKj hat han
          by_cases hc0 : c = 0
          · have hEq : ((E : Int) == (D : Int)) = true := by rw [beq_iff_eq]; omega
            have HC0 := Lib.hid (And.intro hc0 hE)
            clear hc0 hE
            go_wp2_with fail
            go_ret
            obtain ⟨e1, e2⟩ := HE.out
            rw [HKJ.out, rounds_zero (by rw [HN.out, HGE.out, ← HFIN.out.2]; exact HC0.out.1)] at e1 e2
            rw [HN.out, HGE.out, ← HFIN.out.1] at e1
            refine ⟨o2, v2, ?_, HT2.out, ?_⟩
            · have : E = F.2 := by have := HC0.out; simp at e2; omega
              rw [this]
              rfl
            · rw [← e1]
              exact HR2.out.mono (by omega)
          · have hEq : ((E : Int) == (D : Int)) = false := by rw [beq_eq_false_iff_ne]; omega
            have HC0 := Lib.hid (And.intro hc0 hE)
            clear hc0 hE
            go_wp2_with fail
            go_roundw
            case rel =>
              obtain ⟨e1, e2⟩ := HE.out
              rw [HKJ.out, rounds_more (by rw [HN.out, HGE.out, ← HFIN.out.2]; exact HC0.out.1), HN.out, HGE.out, ← HFIN.out.1, ← HFIN.out.2] at e1 e2
              exact ⟨j + 1, E, r2, o2, v2, hlt, by go_num, rfl, by have := HC0.out.2; omega, HT2.out, HR2.out.mono (by omega), e1, by have := HC0.out.2; dsimp only at e2; omega⟩
            case measure => simp [intOf]; omega
    · obtain rfl : j = K := by omega
      go_wp2
      go_ret
      obtain ⟨e1, e2⟩ := HE.out
      rw [Nat.sub_self] at e1 e2
      refine ⟨o', v', ?_, HT.out, ?_⟩
      · have : D = F.2 := by rw [← e2]; show D = 0 + D; omega
        rw [this]
        rfl
      · rw [← e1]
        exact HR.out.mono (by omega)
set_option maxRecDepth 100000 in
set_option maxHeartbeats 4000000 in
theorem dRounds_big {w : World} {o : Col} {R b : Nat} {g : GGraph} {caps : List Int} {M : Nat} {qs : Ptrs} {tb : Nat → Nat} {r : RunP} {v : RVals} (k : Int) (hk : 4096 < k) (h : RigOk w o R b g caps M qs tb r v) (hG : GOk g caps) (hM : M ≤ 26000000000000) :
    Calls Try.prog 8 #[.pointer (some ⟨b, 0, none⟩), .int .i64 k] w (OkRet w o R b g caps (M + 4096 * 32) qs tb (roundsP g caps 4096 r).1 (.int .i64 (roundsP g caps 4096 r).2)) := by
  obtain ⟨n, hn⟩ : ∃ n, g.actors.length = n := ⟨_, rfl⟩
  have hn32 : n ≤ 32 := by rw [← hn]; exact h.mem.few.1
  obtain ⟨F, hF⟩ : ∃ F, roundsP g caps 4096 r = F := ⟨_, rfl⟩
  rw [hF]
  have H := Lib.hid h
  have HG := Lib.hid hG
  have HF := Lib.hid hF
  have HN := Lib.hid hn
  clear h hG hF hn
  go_enter Try.func8, Try.ntmps8
  go_wp2_with fail
  go_loopw [5, 13] (fun d i wl => ∃ (j D : Nat) (r' : RunP) (o' : Col) (v' : RVals), j ≤ 4096 ∧ i = .int .i64 j ∧ d = .int .i64 D ∧ D ≤ 32 * j ∧ Turn o o' (MineR R) w wl ∧ RigOk wl o' R b g caps (M + 32 * j) qs tb r' v' ∧ (roundsP g caps (4096 - j) r').1 = F.1 ∧ (roundsP g caps (4096 - j) r').2 + D = F.2) (fun _ i _ => 4096 - (intOf i).toNat)
  case atStart => exact ⟨0, 0, r, o, v, Nat.zero_le _, rfl, rfl, Nat.zero_le _, Turn.refl _ _ _, H.out, by rw [Nat.sub_zero, HF.out], by rw [Nat.sub_zero, HF.out]; rfl⟩
  case round =>
    obtain ⟨j, D, r', o', v', hj, rfl, rfl, hD, T, hR, e1, e2⟩ := hrel
    have HT := Lib.hid T
    have HR := Lib.hid hR
    have HE := Lib.hid (And.intro e1 e2)
    clear T hR e1 e2
    by_cases hlt : j < 4096
    · have hlti : (j : Int) < (4096 : Int) := by omega
      have c0 := HR.out.mem.blk.cell 0 _ rfl
      change wr.cell? _ = some v'.tasks at c0
      obtain ⟨ta, tc, u1⟩ := HR.out.mem.tasks.slice
      rw [List.length_map, List.length_range, HN.out] at u1
      rw [u1] at c0
      clear u1
      obtain ⟨G, hGe⟩ : ∃ G, roundP g caps (List.range n) r' = G := ⟨_, rfl⟩
      have HGE := Lib.hid hGe
      clear hGe
      go_wp2_with fail
      go_loopw [5, 21] (fun d i wl => ∃ (a c : Nat) (r2 : RunP) (o2 : Col) (v2 : RVals), a ≤ n ∧ i = .int .i64 a ∧ d = .int .i64 ((D + c : Nat) : Int) ∧ c ≤ a ∧ Turn o o2 (MineR R) w wl ∧ RigOk wl o2 R b g caps (M + 32 * j + a) qs tb r2 v2 ∧ (roundP g caps ((List.range n).drop a) r2).1 = G.1 ∧ (roundP g caps ((List.range n).drop a) r2).2 + c = G.2) (fun _ i _ => n - (intOf i).toNat)
      case atStart => exact ⟨0, 0, r', o', v', Nat.zero_le _, rfl, rfl, Nat.le_refl _, HT.out, HR.out, by rw [List.drop_zero, HGE.out], by rw [List.drop_zero, HGE.out]; rfl⟩
      case round =>
        obtain ⟨a, c, r2, o2, v2, ha, rfl, rfl, hc, T2, hR2, q1, q2⟩ := hrel
        have HT2 := Lib.hid T2
        have HR2 := Lib.hid hR2
        have HQ := Lib.hid (And.intro q1 q2)
        obtain ⟨E, hE⟩ : ∃ E, D + c = E := ⟨_, rfl⟩
        rw [hE]
        clear T2 hR2 q1 q2
        by_cases hat : a < n
        · have hati : (a : Int) < (n : Int) := by omega
          have hwr : IntKind.i64.wrap ((E : Int) + 1) = (E : Int) + 1 := IntWalk.i64_in _ (by omega)
          have HE2 := Lib.hid hE
          clear hE
          go_wp2_with fail
          refine (dStep_ok (a : Int) HR2.out HG.out (by omega)).mono ?_
          rintro e w3 ⟨o3, v3, rfl, T3, R3⟩
          rw [stepI_nat] at R3 ⊢
          have HT3 := Lib.hid (HT2.out.trans T3 (fun _ h => h))
          have HR3 := Lib.hid R3
          have HD := Lib.hid (round_drop (g := g) (caps := caps) (r := r2) hat)
          clear T3 R3
          cases hz : (stepR g caps r2 a).2 with
          | true =>
            have HZ := Lib.hid hz
            clear hz
            go_wp2_with fail
            go_roundw
            case rel =>
              obtain ⟨q1, q2⟩ := HQ.out
              rw [HD.out, HZ.out] at q1 q2
              exact ⟨a + 1, c + 1, _, o3, v3, hat, by go_num, by rw [← Nat.add_assoc, HE2.out]; go_num, by omega, HT3.out, HR3.out, q1, by simp at q2; omega⟩
            case measure => simp [intOf]; omega
          | false =>
            have HZ := Lib.hid hz
            clear hz
            go_wp2_with fail
            go_roundw
            case rel =>
              obtain ⟨q1, q2⟩ := HQ.out
              rw [HD.out, HZ.out] at q1 q2
              exact ⟨a + 1, c, _, o3, v3, hat, by go_num, by rw [HE2.out], by omega, HT3.out, HR3.out, q1, by simp at q2; omega⟩
            case measure => simp [intOf]; omega
        · have han : a = n := by omega
          have hfin : r2 = G.1 ∧ c = G.2 := by
            obtain ⟨q1, q2⟩ := HQ.out
            rw [List.drop_eq_nil_of_le (by simp; omega)] at q1 q2
            exact ⟨q1, by simpa [roundP] using q2⟩
          have HFIN := Lib.hid hfin
          have hKj : 4096 - j = (4096 - (j + 1)) + 1 := by omega
          have HKJ := Lib.hid hKj
          have hni : ¬ (a : Int) < (n : Int) := by omega
          have HAN := Lib.hid han
          clear hfin hKj hat han
          by_cases hc0 : c = 0
          · have hEq : ((E : Int) == (D : Int)) = true := by rw [beq_iff_eq]; omega
            have HC0 := Lib.hid (And.intro hc0 hE)
            clear hc0 hE
            go_wp2_with fail
            go_ret
            obtain ⟨e1, e2⟩ := HE.out
            rw [HKJ.out, rounds_zero (by rw [HN.out, HGE.out, ← HFIN.out.2]; exact HC0.out.1)] at e1 e2
            rw [HN.out, HGE.out, ← HFIN.out.1] at e1
            refine ⟨o2, v2, ?_, HT2.out, ?_⟩
            · have : E = F.2 := by have := HC0.out; simp at e2; omega
              rw [this]
              rfl
            · rw [← e1]
              exact HR2.out.mono (by omega)
          · have hEq : ((E : Int) == (D : Int)) = false := by rw [beq_eq_false_iff_ne]; omega
            have HC0 := Lib.hid (And.intro hc0 hE)
            clear hc0 hE
            go_wp2_with fail
            go_roundw
            case rel =>
              obtain ⟨e1, e2⟩ := HE.out
              rw [HKJ.out, rounds_more (by rw [HN.out, HGE.out, ← HFIN.out.2]; exact HC0.out.1), HN.out, HGE.out, ← HFIN.out.1, ← HFIN.out.2] at e1 e2
              exact ⟨j + 1, E, r2, o2, v2, hlt, by go_num, rfl, by have := HC0.out.2; omega, HT2.out, HR2.out.mono (by omega), e1, by have := HC0.out.2; dsimp only at e2; omega⟩
            case measure => simp [intOf]; omega
    · obtain rfl : j = 4096 := by omega
      go_wp2
      go_ret
      obtain ⟨e1, e2⟩ := HE.out
      rw [Nat.sub_self] at e1 e2
      refine ⟨o', v', ?_, HT.out, ?_⟩
      · have : D = F.2 := by rw [← e2]; show D = 0 + D; omega
        rw [this]
        rfl
      · rw [← e1]
        exact HR.out.mono (by omega)
theorem dRounds_none {w : World} {o : Col} {R b : Nat} {g : GGraph} {caps : List Int} {M : Nat} {qs : Ptrs} {tb : Nat → Nat} {r : RunP} {v : RVals} (k : Int) (hk : k ≤ 0) (h : RigOk w o R b g caps M qs tb r v) :
    Calls Try.prog 8 #[.pointer (some ⟨b, 0, none⟩), .int .i64 k] w (OkRet w o R b g caps (M + 4096 * 32) qs tb r (.int .i64 0)) := by
  have H := Lib.hid h
  have hk4 : ¬ 4096 < k := by omega
  have hk0 : ¬ 0 < k := by omega
  clear h
  go_enter Try.func8, Try.ntmps8
  go_wp2_with fail
  go_loopw [5, 13] (fun d i wl => i = .int .i64 0 ∧ d = .int .i64 0 ∧ wl = w) (fun _ _ _ => 0)
  case atStart => exact ⟨rfl, rfl, rfl⟩
  case round =>
    obtain ⟨rfl, rfl, rfl⟩ := hrel
    go_wp2_with fail
    go_ret
    exact ⟨o, v, rfl, Turn.refl _ _ _, H.out.mono (by omega)⟩
/-- Rig.Rounds -/
theorem dRounds_ok {w : World} {o : Col} {R b : Nat} {g : GGraph} {caps : List Int} {M : Nat} {qs : Ptrs} {tb : Nat → Nat} {r : RunP} {v : RVals} (k : Int) (h : RigOk w o R b g caps M qs tb r v) (hG : GOk g caps) (hM : M ≤ 26000000000000) :
    Calls Try.prog 8 #[.pointer (some ⟨b, 0, none⟩), .int .i64 k] w (OkRet w o R b g caps (M + 4096 * 32) qs tb (roundsP g caps (min k 4096).toNat r).1 (.int .i64 (roundsP g caps (min k 4096).toNat r).2)) := by
  by_cases h0 : k ≤ 0
  · have e : (min k 4096).toNat = 0 := by omega
    rw [e]
    exact dRounds_none k h0 h
  · by_cases h4 : 4096 < k
    · have e : (min k 4096).toNat = 4096 := by omega
      rw [e]
      exact dRounds_big k h4 h hG hM
    · exact dRounds_mid k (by omega) (by omega) h hG hM
end Go.Proofs.Ytaholpfikcdhbaa

/- Rig.Out. -/
namespace Go.Proofs.Ytaholpfikcdhbaa
open Go.RowKit

def outI (g : GGraph) (r : RunP) (k : Int) : List Int := if 0 ≤ k ∧ k < g.outs.length then outS g r.rig k.toNat else []
theorem dints_nil (w : World) : DInts w [] (.returned (.slice none 0 0)) w := ⟨_, rfl, World.ownsRow_nil w w.heap.size 3 1, Below.refl _ _⟩
set_option maxRecDepth 100000 in
set_option maxHeartbeats 1000000 in
theorem dOut_any {w : World} {o : Col} {R b : Nat} {g : GGraph} {caps : List Int} {N : Nat} {qs : Ptrs} {r : RunP} {v : RVals} (k : Int) (h : RigAt w o R b g caps N qs r v) (hl : ∀ d, (r.rig.strs d).length ≤ 17000000000000) : Calls Try.prog 11 #[.pointer (some ⟨b, 0, none⟩), .int .i64 k] w (DInts w (outI g r k)) := by
  have hb := h.blk
  unfold rigV at hb
  have c3 := hb.cell 3 _ rfl
  change w.cell? _ = some v.tapes at c3
  obtain ⟨ta, tc, e1⟩ := h.tapes.slice
  rw [List.length_map, List.length_range] at e1
  rw [e1] at c3
  obtain ⟨n, hn⟩ : ∃ n, g.outs.length = n := ⟨_, rfl⟩
  rw [hn] at c3
  unfold outI
  rw [hn]
  by_cases h0 : k < 0
  · rw [if_neg (by omega)]
    clear h hb e1 hn hl
    go_enter Try.func11, Try.ntmps11
    go_wp2_with fail
    go_ret
    exact dints_nil w
  · by_cases h1 : k < n
    · rw [if_pos (by omega)]
      obtain ⟨t, rfl⟩ : ∃ t : Nat, k = t := ⟨k.toNat, by omega⟩
      have ht : t < g.outs.length := by omega
      obtain ⟨gt, ft, ct, u1, u2, u3, -⟩ := vals_at2 h.tapes (k := t) (by simpa using ht)
      simp only [List.length_map, List.length_range, List.getElem_map, List.getElem_range] at u1 u2 u3
      rw [e1, hn] at u1
      simp only [Value.slice.injEq] at u1
      obtain ⟨rfl, -, rfl⟩ := u1
      rw [hn] at u2
      have hcti : (n : Int) ≤ tc := by omega
      have hti : ¬ (n : Int) ≤ (t : Int) := by omega
      obtain ⟨k1, k2⟩ := h.tape (g.edges.length + g.ins.length + t) (by omega) (by omega)
      obtain ⟨q, hq⟩ : ∃ q, qs (g.edges.length + g.ins.length + t) = q := ⟨_, rfl⟩
      rw [hq] at u3 k1
      change w.cell? _ = some (.pointer (some ⟨q, 0, none⟩)) at u3
      rw [Int.toNat_natCast]
      change Calls _ _ _ _ (DInts w (r.rig.strs (g.edges.length + g.ins.length + t)))
      have hn2 := hl (g.edges.length + g.ins.length + t)
      obtain ⟨l, hle⟩ : ∃ l, r.rig.strs (g.edges.length + g.ins.length + t) = l := ⟨_, rfl⟩
      rw [hle] at k2 hn2 ⊢
      have d0 := k1.cell 0 _ rfl
      change w.cell? _ = some (v.rows _) at d0
      have hI : Ints w o _ _ l := k2.vals
      obtain ⟨ao, cap, e2⟩ := k2.slice
      rw [e2] at d0 hI
      obtain ⟨hnone, hnews⟩ := hI.news
      obtain ⟨i0, hi, hz0, hz1, hz2⟩ := info_parts info_int
      have HN := Lib.hid hn2
      have Hnone := Lib.hid hnone
      have Hnews := Lib.hid hnews
      have T1 := Turn.of_below o 0 (below_alloc w (.cells #[] 3))
      have c3' := T1.cell c3 (fun h => h)
      have u3' := T1.cell u3 (fun h => h)
      have d0' := T1.cell d0 (fun h => h)
      clear h hb e1 hn hl u2 k1 k2 e2 hI hnone hnews hle hn2 hq T1
      go_enter Try.func11, Try.ntmps11
      have hown0 := World.ownsRow_made (e := 3) (size := 1) (base := w.heap.size) w #[] 0 (Nat.le_refl _) (Nat.zero_le _) rfl
      go_wp2_with (at_builtin; refine wpList_app rfl _ _ 22 rfl w.heap.size 3 i0 _ 1 8 Try.underlying22 hi hz0 hz1 hz2 rfl (.slice (some ⟨w.heap.size, 0, none⟩) 0 0) 0 [] rfl hown0 ao l.length cap (ivs l) rfl (by simp) Hnone.out (fun ad had j u hu => ca (Hnews.out ad had j u hu)) (ivs_one l) (by have := HN.out; unfold maxLen; omega) (grow_ok (by have := HN.out; omega)) (by simp) ?_; refine stop_here ?_)
      refine go_on ?_
      intro v' w2 g1 g20 g3 g4
      have g2 : (w.alloc (.cells #[] 3)).grownBy w2 (Value.slice (some ⟨w.heap.size, 0, none⟩) 0 0).ownBlock := g20
      have hb : Below w.heap.size w w2 := (((Mods.refl (fun _ => False) w).alloc (.cells #[] 3)).grown g2 (fun k hk hlt => by have := Option.some.inj hk; simp at this; omega)).below (Nat.le_refl _) (fun _ _ h => h)
      try simp only [Nat.zero_add, List.nil_append] at g1
      have HG1 := Lib.hid g1
      have HB := Lib.hid hb
      clear g20 g2 g3 g4 hown0 g1 hb
      go_wp2
      go_ret
      exact ⟨v', rfl, HG1.out, HB.out⟩
    · rw [if_neg (by omega)]
      have hti : (n : Int) ≤ k := by omega
      clear h hb e1 hn hl
      go_enter Try.func11, Try.ntmps11
      go_wp2_with fail
      go_ret
      exact dints_nil w
end Go.Proofs.Ytaholpfikcdhbaa

/- A rig that is not there. -/
namespace Go.Proofs.Ytaholpfikcdhbaa
open Go.RowKit

theorem dReady_nil (w : World) : Calls Try.prog 5 #[.pointer none] w (SameW (.slice none 0 0) w) := by
  go_enter Try.func5, Try.ntmps5
  go_wp2_with fail
  go_ret
  exact ⟨rfl, rfl⟩
theorem dStep_nil (w : World) (k : Int) : Calls Try.prog 6 #[.pointer none, .int .i64 k] w (SameW (.bool false) w) := by
  go_enter Try.func6, Try.ntmps6
  go_wp2_with fail
  go_ret
  exact ⟨rfl, rfl⟩
theorem dRounds_nil (w : World) (k : Int) : Calls Try.prog 8 #[.pointer none, .int .i64 k] w (SameW (.int .i64 0) w) := by
  go_enter Try.func8, Try.ntmps8
  go_wp2_with fail
  go_ret
  exact ⟨rfl, rfl⟩
theorem dHalt_nil (w : World) : Calls Try.prog 9 #[.pointer none] w (SameW (.int .u8 0) w) := by
  go_enter Try.func9, Try.ntmps9
  go_wp2_with fail
  go_ret
  exact ⟨rfl, rfl⟩
theorem dFailed_nil (w : World) : Calls Try.prog 10 #[.pointer none] w (SameW (.int .i64 0) w) := by
  go_enter Try.func10, Try.ntmps10
  go_wp2_with fail
  go_ret
  exact ⟨rfl, rfl⟩
theorem dOut_nil (w : World) (k : Int) : Calls Try.prog 11 #[.pointer none, .int .i64 k] w (SameW (.slice none 0 0) w) := by
  go_enter Try.func11, Try.ntmps11
  go_wp2_with fail
  go_ret
  exact ⟨rfl, rfl⟩
theorem dCount_nil (w : World) : Calls Try.prog 12 #[.pointer none] w (SameW (.slice none 0 0) w) := by
  go_enter Try.func12, Try.ntmps12
  go_wp2_with fail
  go_ret
  exact ⟨rfl, rfl⟩
theorem dFired_nil (w : World) : Calls Try.prog 13 #[.pointer none] w (SameW (.slice none 0 0) w) := by
  go_enter Try.func13, Try.ntmps13
  go_wp2_with fail
  go_ret
  exact ⟨rfl, rfl⟩
theorem dFeed_nil (w : World) (k : Int) (sl : Value) : Calls Try.prog 4 #[.pointer none, .int .i64 k, sl] w (SameW (.int .i64 3) w) := by
  go_enter Try.func4, Try.ntmps4
  go_wp2_with fail
  go_ret
  exact ⟨rfl, rfl⟩
set_option maxRecDepth 100000 in
theorem dPlay_nil {w : World} {o : Col} {c : Nat} {ao : Option Addr} {n cap : Nat} {l : List Int} (h : Ints w o c (.slice ao n cap) l) : Calls Try.prog 7 #[.pointer none, .slice ao n cap] w (SameW (.int .i64 0) w) := by
  by_cases hn : n = 0
  · subst hn
    clear h
    go_enter Try.func7, Try.ntmps7
    go_wp2_with fail
    go_loopw [10] (fun i wl => i = .int .i64 0 ∧ wl = w) (fun _ _ => 0)
    case atStart => exact ⟨rfl, rfl⟩
    case round =>
      obtain ⟨rfl, rfl⟩ := hrel
      go_wp2_with fail
      go_ret
      exact ⟨rfl, rfl⟩
  · obtain rfl := h.len
    obtain ⟨g, off, rfl, -, h2, -, -, h5⟩ := Vals.at h (by rw [ivs_len]; omega)
    have h0 := h5 0 (by rw [ivs_len]; omega)
    obtain ⟨L, hL⟩ : ∃ L, l.length = L := ⟨_, rfl⟩
    rw [hL]
    rw [hL] at h2 hn
    have hLi : (0 : Int) < (L : Int) := by omega
    have hci : (L : Int) ≤ cap := by omega
    rw [Nat.add_zero] at h0
    obtain ⟨z, hz⟩ : ∃ z : Int, (ivs l)[0]?.getD undef = .int .i64 z := by
      cases l with
      | nil => simp at hL; omega
      | cons a r => exact ⟨a, rfl⟩
    rw [hz] at h0
    clear h h5 hz hL hn
    go_enter Try.func7, Try.ntmps7
    go_wp2_with fail
    go_loopw [10] (fun i wl => i = .int .i64 0 ∧ wl = w) (fun _ _ => 0)
    case atStart => exact ⟨rfl, rfl⟩
    case round =>
      obtain ⟨rfl, rfl⟩ := hrel
      go_wp2_with fail
      refine (dReady_nil _).mono ?_
      rintro e w1 ⟨rfl, rfl⟩
      go_wp2_with fail
      go_ret
      exact ⟨rfl, rfl⟩
end Go.Proofs.Ytaholpfikcdhbaa

/- Blocks made one behind the other. No function in sight. -/
namespace Go.Proofs.Ytaholpfikcdhbaa
open Go.RowKit

abbrev allocs (w : World) (os : List Obj) : World := os.foldl World.alloc w
theorem allocs_keep : ∀ (os : List Obj) (w : World) (b : Nat) (x : Obj), w.heap[b]? = some x → (allocs w os).heap[b]? = some x
  | [], _, _, _, h => h
  | o :: os, w, b, x, h => allocs_keep os (w.alloc o) b x (block_alloc h o)
theorem allocs_get : ∀ (os : List Obj) (w : World) (k : Nat) (o : Obj), os[k]? = some o → (allocs w os).heap[w.heap.size + k]? = some o
  | [], _, _, _, h => by simp at h
  | x :: os, w, 0, o, h => by
    have e : x = o := by simpa using h
    subst e
    exact allocs_keep os (w.alloc x) _ x (heap_alloc_new w x)
  | x :: os, w, k + 1, o, h => by
    have := allocs_get os (w.alloc x) k o (by simpa using h)
    rw [World.size_alloc, show w.heap.size + 1 + k = w.heap.size + (k + 1) by omega] at this
    exact this
theorem allocs_below : ∀ (os : List Obj) (w : World), Below w.heap.size w (allocs w os) ∧ w.heap.size ≤ (allocs w os).heap.size
  | [], w => ⟨Below.refl _ _, Nat.le_refl _⟩
  | o :: os, w => by
    have h := allocs_below os (w.alloc o)
    have h1 := below_alloc w o
    have h2 : w.heap.size ≤ (w.alloc o).heap.size := h1.size
    exact ⟨h1.trans (h.1.mono h2), Nat.le_trans h2 h.2⟩
theorem allocs_cell (w : World) (os : List Obj) (b i : Nat) {cs : Array Value} {t : TypeId} {v : Value} (h : os[b]? = some (.cells cs t (0, 0))) (hv : cs[i]? = some v) : (allocs w os).cell? ⟨w.heap.size + b, i, none⟩ = some v := cells_row _ _ (allocs_get os w b _ h) i v hv
theorem allocs_one (w : World) (os : List Obj) (b : Nat) {x : Int} {t : TypeId} (h : os[b]? = some (.cells #[.int .i64 x] t (0, 0))) : Has (allocs w os) (.slice (some ⟨w.heap.size + b, 0, none⟩) 1 1) (ivs [x]) :=
  .inr ⟨by simp, _, 0, 1, rfl, Nat.le_refl _, block_lt (allocs_get os w b _ h), rfl, fun k hk => by
    match k, hk with
    | 0, _ => exact allocs_cell w os b 0 h rfl⟩
end Go.Proofs.Ytaholpfikcdhbaa

/- The chapter's small graph is run: awake answers true. -/
namespace Go.Proofs.Ytaholpfikcdhbaa
open Go.RowKit

def LineRet (w : World) (e : Ending) (w' : World) : Prop := ∃ v, e = .returned v ∧ HasGraph w' v lineG ∧ Below w.heap.size w w'
def lineO (w : World) : List Obj :=
  [.cells #[.string { data := #[103] }, .slice (some ⟨w.heap.size + 3, 0, none⟩) 3 3, .slice (some ⟨w.heap.size + 4, 0, none⟩) 2 2, .slice none 0 0, .slice (some ⟨w.heap.size + 5, 0, none⟩) 1 1] 61, .cells #[.int .i64 1, .int .i64 1] 3, .cells #[.int .i64 1] 3, .cells #[.string { data := #[97] }, .int .u8 10, .slice (some ⟨w.heap.size + 1, 0, none⟩) 2 2, .string { data := #[98] }, .int .u8 6, .slice (some ⟨w.heap.size + 2, 0, none⟩) 1 1, .string { data := #[99] }, .int .u8 8, .slice none 0 0] 75, .cells #[.int .i64 0, .int .i64 0, .int .i64 1, .int .i64 0, .slice none 0 0, .int .i64 1, .int .i64 0, .int .i64 2, .int .i64 0, .slice none 0 0] 81, .cells #[.string { data := #[121] }, .int .i64 2, .int .i64 0] 85]
set_option maxRecDepth 100000 in
theorem line_has (w : World) : HasGraph (allocs w (lineO w)) (.agg #[.string { data := #[103] }, .slice (some ⟨w.heap.size + 3, 0, none⟩) 3 3, .slice (some ⟨w.heap.size + 4, 0, none⟩) 2 2, .slice none 0 0, .slice (some ⟨w.heap.size + 5, 0, none⟩) 1 1]) lineG := by
  refine ⟨_, _, _, _, rfl, ?_, ?_, .inl ⟨rfl, _, _, rfl⟩, ?_⟩
  · refine .inr ⟨by decide, w.heap.size + 3, 0, 3, rfl, Nat.le_refl _, block_lt (allocs_get (lineO w) w 3 _ rfl), fun k hk => ?_⟩
    match k, (show k < 3 from hk) with
    | 0, _ => exact ⟨[.string { data := #[97] }, .int .u8 10, .slice (some ⟨w.heap.size + 1, 0, none⟩) 2 2], rfl, ⟨_, rfl, .inr ⟨Nat.succ_pos 1, _, 0, 2, rfl, Nat.le_refl _, block_lt (allocs_get (lineO w) w 1 _ rfl), rfl, fun j hj => by
          match j, hj with
          | 0, _ => exact allocs_cell w (lineO w) 1 0 rfl rfl
          | 1, _ => exact allocs_cell w (lineO w) 1 1 rfl rfl⟩⟩, fun i hi => by
        match i, hi with
        | 0, _ => exact allocs_cell w (lineO w) 3 0 rfl rfl
        | 1, _ => exact allocs_cell w (lineO w) 3 1 rfl rfl
        | 2, _ => exact allocs_cell w (lineO w) 3 2 rfl rfl⟩
    | 1, _ => exact ⟨[.string { data := #[98] }, .int .u8 6, .slice (some ⟨w.heap.size + 2, 0, none⟩) 1 1], rfl, ⟨_, rfl, allocs_one w (lineO w) 2 rfl⟩, fun i hi => by
        match i, hi with
        | 0, _ => exact allocs_cell w (lineO w) 3 3 rfl rfl
        | 1, _ => exact allocs_cell w (lineO w) 3 4 rfl rfl
        | 2, _ => exact allocs_cell w (lineO w) 3 5 rfl rfl⟩
    | 2, _ => exact ⟨[.string { data := #[99] }, .int .u8 8, .slice none 0 0], rfl, ⟨_, rfl, .inl ⟨rfl, _, _, rfl⟩⟩, fun i hi => by
        match i, hi with
        | 0, _ => exact allocs_cell w (lineO w) 3 6 rfl rfl
        | 1, _ => exact allocs_cell w (lineO w) 3 7 rfl rfl
        | 2, _ => exact allocs_cell w (lineO w) 3 8 rfl rfl⟩
  · refine .inr ⟨by decide, w.heap.size + 4, 0, 2, rfl, Nat.le_refl _, block_lt (allocs_get (lineO w) w 4 _ rfl), fun k hk => ?_⟩
    match k, (show k < 2 from hk) with
    | 0, _ => exact ⟨[.int .i64 0, .int .i64 0, .int .i64 1, .int .i64 0, .slice none 0 0], rfl, ⟨_, rfl, .inl ⟨rfl, _, _, rfl⟩⟩, fun i hi => by
        match i, hi with
        | 0, _ => exact allocs_cell w (lineO w) 4 0 rfl rfl
        | 1, _ => exact allocs_cell w (lineO w) 4 1 rfl rfl
        | 2, _ => exact allocs_cell w (lineO w) 4 2 rfl rfl
        | 3, _ => exact allocs_cell w (lineO w) 4 3 rfl rfl
        | 4, _ => exact allocs_cell w (lineO w) 4 4 rfl rfl⟩
    | 1, _ => exact ⟨[.int .i64 1, .int .i64 0, .int .i64 2, .int .i64 0, .slice none 0 0], rfl, ⟨_, rfl, .inl ⟨rfl, _, _, rfl⟩⟩, fun i hi => by
        match i, hi with
        | 0, _ => exact allocs_cell w (lineO w) 4 5 rfl rfl
        | 1, _ => exact allocs_cell w (lineO w) 4 6 rfl rfl
        | 2, _ => exact allocs_cell w (lineO w) 4 7 rfl rfl
        | 3, _ => exact allocs_cell w (lineO w) 4 8 rfl rfl
        | 4, _ => exact allocs_cell w (lineO w) 4 9 rfl rfl⟩
  · refine .inr ⟨by decide, w.heap.size + 5, 0, 1, rfl, Nat.le_refl _, block_lt (allocs_get (lineO w) w 5 _ rfl), fun k hk => ?_⟩
    match k, (show k < 1 from hk) with
    | 0, _ => exact ⟨_, rfl, rfl, fun i hi => by
        match i, hi with
        | 0, _ => exact allocs_cell w (lineO w) 5 0 rfl rfl
        | 1, _ => exact allocs_cell w (lineO w) 5 1 rfl rfl
        | 2, _ => exact allocs_cell w (lineO w) 5 2 rfl rfl⟩
set_option maxRecDepth 100000 in
theorem line_ret (w : World) : Calls Try.prog 20 #[] w (LineRet w) := by
  go_enter Try.func20, Try.ntmps20
  go_wp2
  refine bodyPost_ret_by (results_cell_row rfl _ _ _ _ _ _ _ rfl (allocs_get (lineO w) w 0 _ rfl) Try.underlying61 rfl (by kernel_rfl)) rfl ?_
  exact ⟨_, rfl, line_has w, (allocs_below (lineO w) w).1⟩
theorem line_sized : GSized lineG := ⟨by decide, by decide, by decide, by decide⟩
theorem line_fitp : ∀ a ∈ lineG.actors, ∀ x ∈ a.params, Fits x := by
  intro a ha x hx
  unfold lineG at ha
  simp only [List.mem_cons, List.not_mem_nil, or_false] at ha
  rcases ha with rfl | rfl | rfl <;> simp at hx <;> subst hx <;> unfold Fits <;> omega
theorem line_fits : ∀ e ∈ lineG.edges, ∀ x ∈ e.start, Fits x := by
  intro e he x hx
  unfold lineG at he
  simp only [List.mem_cons, List.not_mem_nil, or_false] at he
  rcases he with rfl | rfl <;> simp at hx
def lineEnd : RunP × Nat := roundsP lineG [1, 1] 10 ⟨newRig lineG, none⟩
theorem line_halt : haltI lineG [1, 1] lineEnd.1 = 0 := by
  have h1 : lineEnd.1.failed = none := line_fail
  have h2 : (readyL lineG [1, 1] lineEnd.1).length = 2 := line_ready
  unfold haltI
  rw [if_neg (by rw [h1]; simp), if_neg (fun h => by rw [h] at h2; cases h2)]
theorem line_out : outI lineG lineEnd.1 0 = [1, 3] := by
  unfold outI
  rw [if_pos (by decide)]
  exact line_run.2
theorem ints_two {w : World} (a b : Int) : Has (w.alloc (.cells #[.int .i64 a, .int .i64 b] 3)) (.slice (some ⟨w.heap.size, 0, none⟩) 2 2) (ivs [a, b]) := by
  have h := heap_alloc_new w (.cells #[.int .i64 a, .int .i64 b] 3)
  exact .inr ⟨by simp, _, 0, 2, rfl, Nat.le_refl _, block_lt h, rfl, fun k hk => by
    match k, hk with
    | 0, _ => exact cells_row _ _ h 0 _ rfl
    | 1, _ => exact cells_row _ _ h 1 _ rfl⟩
set_option maxRecDepth 100000 in
set_option maxHeartbeats 2000000 in
theorem dawake_yes (w : World) : Calls Try.prog 14 #[] w (Tells (.bool true) w) := by
  go_enter Try.func14, Try.ntmps14
  go_wp2_with fail
  refine (line_ret w).mono ?_
  rintro e w1 ⟨v, rfl, hG, hb1⟩
  have hb2 := below_alloc w1 (.cells #[.int .i64 1, .int .i64 1] 3)
  have HC := Lib.hid (ints_two (w := w1) 1 1)
  have HG := Lib.hid (hG.below hb2)
  have HB := Lib.hid (hb1.trans (hb2.mono hb1.size))
  clear hG hb1 hb2
  go_wp2_with fail
  obtain ⟨w2, hw2⟩ : ∃ x, w1.alloc (.cells #[.int .i64 1, .int .i64 1] 3) = x := ⟨_, rfl⟩
  rw [hw2] at HC HG HB ⊢
  clear hw2
  refine (dnew_any w2 (fun _ => 0) 1 (Nat.le_refl _) v lineG [1, 1] HG.out line_sized HC.out (by decide) line_fitp line_fits (by intro c hc; simp at hc; subst hc; unfold Fits; omega)).mono ?_
  rintro e w3 hret
  obtain ⟨b, q, qs, rv, rfl, T, hR, hGO, -⟩ := hret.2 line_check
  have K3 := (Kept.start w2).turn T (fun h => h)
  have HR := Lib.hid hR
  have HGO := Lib.hid hGO
  clear hret T hR hGO HC HG
  go_wp2_with fail
  refine (dRounds_ok 10 HR.out HGO.out (by decide)).mono ?_
  rintro e w4 ⟨q4, v4, rfl, T4, hR4⟩
  have e10 : (min (10 : Int) 4096).toNat = 10 := by decide
  rw [e10] at hR4 ⊢
  have K4 := K3.turn T4 (by unfold MineR; omega)
  have hR5 : RigOk w4 q4 1 b lineG [1, 1] (256 + 4096 * 32) qs rv.tb lineEnd.1 v4 := hR4
  have h10 : 10 < lineEnd.2 := of_decide_eq_true line_run.1
  change _ at hR4
  obtain ⟨n, hn⟩ : ∃ n, (roundsP lineG [1, 1] 10 ⟨newRig lineG, none⟩).2 = n := ⟨_, rfl⟩
  have hn2 : lineEnd.2 = n := hn
  rw [hn]
  rw [hn2] at h10
  have h10i : (10 : Int) < n := by omega
  have HR5 := Lib.hid hR5
  have HB4 := Lib.hid (HB.out.trans (K4.below.mono HB.out.size))
  clear hR4 hR5 hn hn2 h10 T4 K3 K4 HR HB
  go_wp2_with fail
  refine (dHalt_any HR5.out.mem HGO.out.linked rfl HR5.out.ok (by decide)).mono ?_
  rintro e w5 ⟨rfl, hb5⟩
  rw [line_halt]
  have HR6 := Lib.hid (HR5.out.turn (Turn.of_below q4 0 hb5) (fun _ h => h.elim))
  have HB5 := Lib.hid (HB4.out.trans (hb5.mono HB4.out.size))
  generalize ext q4 w4.heap.size 0 = q5 at *
  clear hb5 HB4 HR5
  go_wp2_with fail
  refine (dFailed_any HR6.out.mem).mono ?_
  rintro e w6 ⟨rfl, rfl⟩
  have hfl : failI lineEnd.1 = -1 := by
    unfold failI
    rw [show lineEnd.1.failed = none from line_fail]
  rw [hfl]
  clear hfl
  go_wp2_with fail
  refine (dOut_any 0 HR6.out.mem (fun d => by have := HR6.out.len d; omega)).mono ?_
  rw [line_out]
  rintro e w7 ⟨ov, rfl, ho, hb7⟩
  obtain ⟨oa, oc, rfl⟩ := owns_slice ho
  have hO := (Own.made q5 7 ho).vals
  have hb8 := below_alloc w7 (.cells #[.int .i64 1, .int .i64 3] 3)
  have HO := Lib.hid (hO.turn (Turn.of_below _ 0 hb8) (fun h => h))
  have HI := Lib.hid (ints_two (w := w7) 1 3)
  have HB7 := Lib.hid (HB5.out.trans ((hb7.trans (hb8.mono hb7.size)).mono HB5.out.size))
  clear ho hO hb7 hb8 HB5
  go_wp2_with fail
  refine (sameints_yes HO.out HI.out (by decide)).mono ?_
  rintro e w8 ⟨rfl, m, rfl⟩
  go_wp2
  go_ret
  exact ⟨rfl, below_dr HB7.out⟩
end Go.Proofs.Ytaholpfikcdhbaa

/- DynNil, walked: a rig that is none. -/
namespace Go.Proofs.Ytaholpfikcdhbaa
open Go.RowKit

set_option maxRecDepth 100000 in
set_option maxHeartbeats 1000000 in
theorem dnil_all {o : Col} {c : Nat} (w : World) (k : Int) (v : Value) (l : List Int) (h : Ints w o c v l) : Calls Try.prog 3 #[.int .i64 k, v] w (Tells (.bool true) w) := by
  obtain ⟨ao, cap, rfl⟩ := h.slice
  have H := Lib.hid h
  clear h
  go_enter Try.func3, Try.ntmps3
  go_wp2_with fail
  refine (dFeed_nil w k _).mono ?_
  rintro e _ ⟨rfl, rfl⟩
  go_wp2_with fail
  refine (dReady_nil w).mono ?_
  rintro e _ ⟨rfl, rfl⟩
  go_wp2_with fail
  refine (dStep_nil w k).mono ?_
  rintro e _ ⟨rfl, rfl⟩
  go_wp2_with fail
  refine (dPlay_nil H.out).mono ?_
  rintro e _ ⟨rfl, rfl⟩
  go_wp2_with fail
  refine (dRounds_nil w k).mono ?_
  rintro e _ ⟨rfl, rfl⟩
  go_wp2_with fail
  refine (dHalt_nil w).mono ?_
  rintro e _ ⟨rfl, rfl⟩
  go_wp2_with fail
  refine (dFailed_nil w).mono ?_
  rintro e _ ⟨rfl, rfl⟩
  go_wp2_with fail
  refine (dOut_nil w k).mono ?_
  rintro e _ ⟨rfl, rfl⟩
  go_wp2_with fail
  refine (dCount_nil w).mono ?_
  rintro e _ ⟨rfl, rfl⟩
  go_wp2_with fail
  refine (dFired_nil w).mono ?_
  rintro e _ ⟨rfl, rfl⟩
  go_wp2_with fail
  refine (dawake_yes w).mono ?_
  rintro e w3 ⟨rfl, hb3⟩
  go_wp2
  go_ret
  exact ⟨rfl, hb3⟩
end Go.Proofs.Ytaholpfikcdhbaa

/- What came in, said plainly for a walk: a slice of ints. No program in sight. -/
namespace Go.Proofs.Ytaholpfikcdhbaa
open Go.ChangeShapes Go.WideShapes Go.ChangeAt Go.RowKit Go.Deep

/-- v is a slice of the ints zs, as it came in -/
def InInts (w : World) (v : Value) (zs : List Int) : Prop :=
  ∃ ao cap, v = .slice ao zs.length cap ∧ zs.length ≤ cap ∧ cap ≤ maxLen ∧ (ao = none → zs.length = 0) ∧ (∀ n ∈ zs, -9223372036854775808 ≤ n ∧ n ≤ 9223372036854775807) ∧
    ∀ ad, ao = some ad → ∀ j u, (zs.map (Value.int .i64))[j]? = some u → w.cell? (ad.add j) = some u

theorem wf_i64 {n : Int} (h : (Lit.int .i64 n).wf = true) : -9223372036854775808 ≤ n ∧ n ≤ 9223372036854775807 := by
  simp [Lit.wf] at h
  have h1 : IntKind.i64.min = -9223372036854775808 := rfl
  have h2 : IntKind.i64.max = 9223372036854775807 := rfl
  omega

/-- the reading of a slice of n elements -/
def DLen {H : Type} (d : DataW H) (n : Nat) : Prop := (d = .nil ∧ n = 0) ∨ ∃ el sp, d = .slice el sp ∧ el.length = n

theorem DLen.reach {H : Type} {P : Program} {ts : List TypeId} {ds : List (DataW H)} {d : DataW H} {n j : Nat} {t e : TypeId} (h : DLen d n) (hs : (DataW.weightsEach P ts ds).all (· ≤ reachBytes) = true) (ht : ts[j]? = some t) (hd : ds[j]? = some d) (hu : P.underlying t = some (.slice e)) : n * P.bytesOf e ≤ 140737488351232 := by
  rcases h with ⟨rfl, rfl⟩ | ⟨el, sp, rfl, rfl⟩
  · omega
  · have := sized_slice hs ht hd hu
    have h1 : el.length * P.bytesOf e ≤ (el.length + sp.length) * P.bytesOf e := Nat.mul_le_mul_right _ (by omega)
    have h2 : reachBytes = 140737488351232 := rfl
    omega

theorem open_in_ints {P : Program} {H : Type} {enc : TypeId × Value → H} {W : World} {t e : TypeId} {v : Value} {d : DataW H} {p : List MemPlace} (ht : P.underlying t = some (.slice e)) (he : P.underlying e = some (.int .i64)) (hc : P.cellsOf e = 1)
    (hv : ∃ a len cap, v = .slice a len cap) (h : DataW.Trod enc P W 0 (fun _ => true) true t v d p) : ∃ zs, InInts W v zs ∧ DLen d zs.length := by
  obtain ⟨a1, len1, cap1, rfl⟩ := hv
  obtain ⟨fuel, hf⟩ := h
  rcases open_ints ht he hc hf with ⟨hcs, hx⟩ | ⟨x, l, c, zs, hcs, _, hl, hm, hz, hx, hcell, hwz⟩
  · simp [Value.cells] at hcs
    obtain ⟨rfl, rfl, rfl⟩ := hcs
    obtain rfl : d = .nil := congrArg Prod.fst hx
    exact ⟨[], ⟨none, 0, rfl, Nat.le_refl _, Nat.zero_le _, fun _ => rfl, by simp, fun _ h => by cases h⟩, .inl ⟨rfl, rfl⟩⟩
  · simp [Value.cells] at hcs
    obtain ⟨rfl, rfl, rfl⟩ := hcs
    simp at hz
    obtain rfl : d = _ := congrArg Prod.fst hx
    have hlen : (zs.take len1).length = len1 := by rw [List.length_take]; omega
    refine ⟨zs.take len1, ⟨some x, cap1, by rw [hlen], by omega, hm, (fun h => by cases h), fun n hn => ?_, ?_⟩, .inr ⟨_, _, rfl, by simp [lits]⟩⟩
    · exact wf_i64 (hwz n (List.mem_of_mem_take hn))
    · intro ad had j u hu
      obtain rfl := Option.some.inj had
      have hj : j < len1 := by have := (List.getElem?_eq_some_iff.1 hu).1; simp at this; omega
      have hcz := hcell j (by omega)
      rw [hcz]
      have : ((zs.take len1).map (Value.int .i64))[j]? = some (.int .i64 (zs.getD j 0)) := by
        simp [hj, show j < zs.length by omega]
      rw [this] at hu
      exact hu

/-- plainly -/
theorem InInts.has {W : World} {v : Value} {zs : List Int} (h : InInts W v zs) : Has W v (ivs zs) := by
  obtain ⟨ao, cap, rfl, h1, h2, h3, h4, h5⟩ := h
  by_cases hp : 0 < zs.length
  · cases ao with
    | none => have := h3 rfl; omega
    | some a =>
      have hc : ∀ i, i < zs.length → W.cell? (a.add i) = some (.int .i64 (zs.getD i 0)) := fun i hi => h5 a rfl i _ (by simp [hi])
      obtain ⟨b, off, rfl, hcell⟩ := ints_at hc hp
      refine .inr ⟨by simpa using hp, b, off, cap, by simp, by simpa using h1, World.block_lt_of_cell? _ _ (hcell 0 hp), rfl, fun k hk => ?_⟩
      have hk' : k < zs.length := by simpa using hk
      have := hcell k hk'
      simpa [hk'] using this
  · obtain rfl : zs = [] := List.eq_nil_of_length_eq_zero (by omega)
    exact .inl ⟨rfl, ao, cap, rfl⟩
theorem InInts.fits {W : World} {v : Value} {zs : List Int} (h : InInts W v zs) : ∀ n ∈ zs, -9223372036854775808 ≤ n ∧ n ≤ 9223372036854775807 := h.choose_spec.choose_spec.2.2.2.2.1
end Go.Proofs.Ytaholpfikcdhbaa

namespace Go.Proofs.Ytaholpfikcdhbaa.dynNil
open Go.ChangeShapes Go.WideShapes Go.ChangeAt Go.RowKit
open Go.ChangeMaps (open_string shut_string)

theorem own : ownKnob Try.prog.godebug = none := by kernel_rfl
theorem laidOut : laidOutB Try.prog = true := by kernel_rfl

set_option maxRecDepth 100000 in
theorem contract (H : Type) (enc : TypeId × Value → H) (W : World) (base : Nat) (args : Array Value) (ds gs : List (DataW H)) (before : List MemPlace)
    (hval : ∀ (j : Nat) t v, Try.f3.params[j]? = some t → args[j]? = some v → Value.okWide Try.prog W .any base t v)
    (hW : DataW.Whole enc Try.prog Try.f3.params.toList Rows.dynNilSpec.vars false W args.toList ds gs before) (hsz0 : (DataW.weightsEach Try.prog (Try.f3.params.toList ++ Rows.dynNilSpec.plain.varTypes Try.prog) (ds ++ gs)).all (· ≤ reachBytes) = true) :
    Calls Try.prog 3 args W fun e W' => ∃ v, e = .returned v ∧ Rows.dynNilSpec.post enc Try.prog Try.f3 false true false false W args v W' := by
  have hW' := hW
  obtain ⟨p, q, hA0, hV, rfl, hfz, hnd⟩ := hW
  have hA : DataW.TrodAll enc Try.prog W 0 (fun _ => true) true Try.f3.params.toList args.toList ds p := hA0
  rw [Try.params3] at hA hval
  obtain ⟨v0, vs0, d0, ds0, p0, q0, hargs, rfl, rfl, h0, r0⟩ := trodAll_cons hA
  obtain ⟨v1, vs1, d1, ds1, p1, q1, rfl, rfl, rfl, h1, r1⟩ := trodAll_cons r0
  obtain ⟨rfl, rfl, rfl⟩ := trodAll_nil r1
  obtain rfl : args = #[v0, v1] := by cases args; simp_all
  obtain ⟨rfl, rfl⟩ := trodVars_none hV
  have hS : (DataW.weightsEach Try.prog [3, 22] [d0, d1]).all (· ≤ reachBytes) = true := hsz0
  obtain ⟨a0, rfl, rfl, rfl, w0⟩ := open_int Try.underlying3 (hval 0 3 v0 rfl rfl) h0
  have k1 := h1
  have lt1 : ∀ x ∈ p1, x.block < W.heap.size := by obtain ⟨m, hm⟩ := k1; exact DataW.trod_lt m _ _ _ hm
  have f0 := wf_i64 w0
  obtain ⟨zs1, i1, l1⟩ := open_in_ints Try.underlying22 Try.underlying3 (by kernel_rfl) (okWide_slice Try.underlying22 (hval 1 22 v1 rfl rfl)) h1
  have z1 := l1.reach hS (j := 1) rfl rfl Try.underlying22
  rw [show Try.prog.bytesOf 3 = 8 by kernel_rfl] at z1
  clear hA0
  refine (dnil_all W a0 v1 zs1 i1.has).mono fun e W' ⟨he, bel⟩ => ?_
  subst he
  exact ⟨_, rfl, _, _, _, [], _, [], hW', trodAll_mk1 (shut_bool Try.underlying4 _), (trodAll_cons_mk (shut_int Try.underlying3 w0) (trodAll_cons_mk (Below.trod laidOut (by kernel_rfl) (of_decide_eq_true (by kernel_rfl)) k1 bel lt1) trodAll_mk0)), rfl, bel.frame _, fun h => by cases h⟩

set_option maxRecDepth 100000 in
theorem lifted (os : Os) (started : os.Started) (H : Type) (enc : TypeId × Value → H) :
    ReturnsInHanded {} Try.checked os 3 .any (Rows.dynNilSpec.pre6 enc Try.prog Try.f3 Rows.dynNilRow.domain false) (Rows.dynNilSpec.post enc Try.prog Try.f3 false true false false) := by
  refine returnsInHanded_of_change_sized (C := Try.checked) own started (by kernel_rfl) Try.func3
    (ChangeSpec.witness6 (enc := enc) (C := Try.checked) false ⟨#[], #[.int .i64 0, .slice none 0 0], []⟩ 8 (by kernel_rfl) (by kernel_rfl) (by kernel_rfl) (by kernel_rfl)) ?_
  intro W base args ds gs before hval hW _ hsz0 _
  exact contract H enc W base args ds gs before hval hW hsz0

theorem proved : Rows.DynNilSaid :=
  OpenClaim.holds_of_wide 3 Try.f3 rfl rfl rfl rfl rfl rfl rfl ⟨rfl, rfl, rfl, rfl, rfl⟩ rfl rfl rfl rfl rfl (by kernel_rfl) Try.func3 (by kernel_rfl)
    (of_decide_eq_true (by kernel_rfl)) (by unfold Func.isWrapper; first | (rw [if_pos (by decide +kernel)]; kernel_rfl) | (rw [if_neg (by decide +kernel)]; exact ⟨rfl, rfl⟩))
    (fun os started H enc _ => lifted os started H enc)
end Go.Proofs.Ytaholpfikcdhbaa.dynNil
