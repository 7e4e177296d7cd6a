/- Two lists compared. -/
import Derived.Test.YtbmbfifempkhgaaEmitSmallZ3
import Derived.Test.YtbmbfifempkhgaaEmitSmallZ6
import Derived.Test.YtbmbfifempkhgaaEmitSmallZ7
import Derived.Deep.Cut
import Derived.Deep.CutRange
import Derived.RangeFuncNested
import Derived.RangeFuncBound
import Derived.RangeFuncCalls
import Derived.RangeFuncLeaves
import Derived.RangeFuncBox
import Derived.Shelf.Abstract
import Derived.Shelf.RegionOpen
import Derived.OwnWalkIn
import Derived.TacticsInMore
import Derived.LoopNIn
import Derived.LoopIn
import Derived.Maps.AppendAt
import Derived.Test.YtbmbfifempkhgaaEmitSmallZ5
namespace Go.Proofs.Ytbmbfifempkhgaa
open Go.RowKit

def Quiet (v : Value) (w : World) (e : Ending) (w' : World) : Prop := e = .returned v ∧ ∃ m, w' = w.drewN m

theorem ints_no {l l2 : List Int} {k : Nat} (hk : k < l.length) (hk2 : k < l2.length) (h : ¬ l[k]?.getD 0 = l2[k]?.getD 0) : decide (l = l2) = false := decide_eq_false fun e => h (by rw [e])
theorem ints_yes {l l2 : List Int} (hl : l.length = l2.length) (h : ∀ k, k < l.length → l[k]?.getD 0 = l2[k]?.getD 0) : decide (l = l2) = true := by
  refine decide_eq_true (List.ext_getElem hl fun k h1 h2 => ?_)
  have := h k h1
  simpa [h1, h2] using this

set_option maxHeartbeats 1000000 in
theorem sameints_some (w : World) (b off c b' off' c' : Nat) (l l2 : List Int) (hl2 : l2.length = l.length) (hl : l.length ≤ 4611686018427387904) (h1 : ∀ k, k < l.length → w.cell? ⟨b, off + k, none⟩ = some (iv (l[k]?.getD 0))) (h2 : ∀ k, k < l.length → w.cell? ⟨b', off' + k, none⟩ = some (iv (l2[k]?.getD 0))) :
    Calls Try.prog 31 #[.slice (some ⟨b, off, none⟩) l.length c, .slice (some ⟨b', off', none⟩) l.length c'] w (Quiet (.bool (decide (l = l2))) w) := by
  have H1 := Lib.hid h1
  have H2 := Lib.hid h2
  have HL := Lib.hid hl2
  clear h1 h2 hl2
  go_enter Try.func31, Try.ntmps31
  go_wp2
  go_loopw [5] (fun i wr => ∃ k : Nat, k ≤ l.length ∧ i = .int .i64 k ∧ (∀ j, j < k → l[j]?.getD 0 = l2[j]?.getD 0) ∧ ∃ m, wr = w.drewN m) (fun i _ => l.length - (intOf i).toNat)
  case atStart => exact ⟨0, Nat.zero_le _, rfl, fun j hj => by omega, 0, rfl⟩
  case round =>
    obtain ⟨k, hk, rfl, hall, m, rfl⟩ := hrel
    have HA := Lib.hid hall
    clear hall
    by_cases hlt : k < l.length
    · have c1 := H1.out k hlt
      have c2 := H2.out k hlt
      have hlti : (k : Int) < l.length := by omega
      have HNO := Lib.hid (fun h => ints_no (l2 := l2) hlt (by have := HL.out; omega) h)
      have HST := Lib.hid (fun (h : l[k]?.getD 0 = l2[k]?.getD 0) j (hj : j < k + 1) => (by
        by_cases hkj : j = k
        · rw [hkj]; exact h
        · exact HA.out j (by omega) : l[j]?.getD 0 = l2[j]?.getD 0))
      generalize l[k]?.getD 0 = x at *
      generalize l2[k]?.getD 0 = y at *
      by_cases hq : x = y
      · have HQ := Lib.hid (HST.out hq)
        clear HST
        subst hq
        go_wp2
        go_quiet (fail)
        go_wp2
        go_roundw
        case rel => exact ⟨k + 1, by omega, by go_num, HQ.out, _, rfl⟩
        case measure => simp [intOf]; omega
      · go_wp2
        go_quiet (fail)
        go_wp2
        go_ret
        rw [HNO.out hq]
        exact ⟨rfl, m + _, (World.drewN_drewN _ _ _)⟩
    · obtain rfl : k = l.length := by omega
      have HX := Lib.hid (ints_yes HL.out.symm HA.out)
      go_wp2
      go_ret
      rw [HX.out]
      exact ⟨rfl, _, rfl⟩

set_option maxHeartbeats 400000 in
theorem sameints_empty (w : World) (a a' : Option Addr) (c c' : Nat) :
    Calls Try.prog 31 #[.slice a 0 c, .slice a' 0 c'] w (Quiet (.bool true) w) := by
  go_enter Try.func31, Try.ntmps31
  go_wp2
  go_loopw [5] (fun i wr => i = .int .i64 0 ∧ wr = w) (fun _ _ => 0)
  case atStart => exact ⟨rfl, rfl⟩
  case round =>
    obtain ⟨rfl, rfl⟩ := hrel
    go_wp2
    go_ret
    exact ⟨rfl, 0, rfl⟩

theorem sameints_len (w : World) (a a' : Option Addr) (n n' c c' : Nat) (h : ¬ n = n') :
    Calls Try.prog 31 #[.slice a n c, .slice a' n' c'] w (Quiet (.bool false) w) := by
  have hi : ¬ (n : Int) = n' := by omega
  go_enter Try.func31, Try.ntmps31
  go_wp2
  go_ret
  exact ⟨rfl, 0, rfl⟩

theorem sameints_any {o o2 : Col} {c c2 : Nat} {w : World} {v v' : Value} {l l2 : List Int} (h : Ints w o c v l) (h' : Ints w o2 c2 v' l2) (hl : l.length ≤ 4611686018427387904) :
    Calls Try.prog 31 #[v, v'] w (Quiet (.bool (decide (l = l2))) w) := by
  obtain ⟨a, cp, rfl⟩ := h.slice
  obtain ⟨a', cp', rfl⟩ := h'.slice
  by_cases hq : l.length = l2.length
  · by_cases hp : 0 < l.length
    · obtain ⟨b, off, rfl, -, -, -, -, h1⟩ := h.at hp
      obtain ⟨b', off', rfl, -, -, -, -, h2⟩ := h'.at (by omega)
      rw [← hq]
      exact sameints_some w b off _ b' off' _ l l2 hq.symm hl h1 (fun k hk => h2 k (by omega))
    · obtain rfl : l = [] := List.eq_nil_of_length_eq_zero (by omega)
      obtain rfl : l2 = [] := List.eq_nil_of_length_eq_zero (by simpa using hq.symm)
      exact sameints_empty w _ _ _ _
  · rw [show decide (l = l2) = false from decide_eq_false fun e => hq (by rw [e])]
    exact sameints_len w _ _ _ _ _ _ hq

theorem sameints_yes {o o2 : Col} {c c2 : Nat} {w : World} {v v' : Value} {l : List Int} (h : Ints w o c v l) (h' : Ints w o2 c2 v' l) (hl : l.length ≤ 4611686018427387904) :
    Calls Try.prog 31 #[v, v'] w (Quiet (.bool true) w) := by
  have := sameints_any h h' hl
  rwa [decide_eq_true rfl] at this
end Go.Proofs.Ytbmbfifempkhgaa

/- EmitSound, walked. -/
namespace Go.Proofs.Ytbmbfifempkhgaa
open Go.RowKit

theorem size_some (l : Nest) : ∃ (f h d : Nat) (tt : Int), (if nestCheckE l = 0 then sizeP l else MeasV (0, 0, 0) 0) = #[.int .i64 f, .int .i64 h, .int .i64 d, .int .i64 tt] ∧ (nestCheckE l = 0 → f = (measP l 0 (0, 0, 0)).1 ∧ h = (measP l 0 (0, 0, 0)).2.1) := by
  by_cases h : nestCheckE l = 0
  · exact ⟨_, _, _, _, by rw [if_pos h]; rfl, fun _ => ⟨rfl, rfl⟩⟩
  · exact ⟨0, 0, 0, 0, by rw [if_neg h]; rfl, fun h2 => absurd h2 h⟩
def ProgAt (w : World) (X : Nat) (P : GProg) : Prop := ∃ ap cp al cl ao co, w.heap[X]? = some (.cells #[.int .i64 P.memory, .int .i64 P.counters, .int .i64 P.ins, .int .i64 P.outs, .slice ap P.parts.length cp, .slice al P.lines.length cl, .slice ao P.ops.length co] 39 (0, 0)) ∧ HasProg w (.agg #[.int .i64 P.memory, .int .i64 P.counters, .int .i64 P.ins, .int .i64 P.outs, .slice ap P.parts.length cp, .slice al P.lines.length cl, .slice ao P.ops.length co]) P

theorem ProgAt.below {w w' : World} {X : Nat} {P : GProg} (h : ProgAt w X P) (hb : Below w.heap.size w w') : ProgAt w' X P := by
  obtain ⟨ap, cp, al, cl, ao, co, h1, h2⟩ := h
  exact ⟨ap, cp, al, cl, ao, co, (hb.block _ (block_lt h1)).trans h1, h2.below hb⟩

theorem agg7 {a b c d x y z a' b' c' d' x' y' z' : Value} (h : Value.agg #[a, b, c, d, x, y, z] = Value.agg #[a', b', c', d', x', y', z']) : y = y' ∧ z = z' := by
  injection h with h
  injection h with h
  simp only [List.cons.injEq, and_true] at h
  exact h.2.2.2.2.2
theorem HasProg.lines {w : World} {a b c d x y z : Value} {P : GProg} (h : HasProg w (.agg #[a, b, c, d, x, y, z]) P) : Recs w 3 (TailR lineHd GLine.start) y P.lines := by
  obtain ⟨vp, vl, vo, e, _, h2, _⟩ := h
  obtain ⟨rfl, -⟩ := agg7 e
  exact h2
/-- what the law asks of the program that is made -/
structure MadeOk (g : GGraph) (p : GPlan) (P : GProg) (f h : Nat) : Prop where
  check : checkC P = 0
  mem : P.memory = p.total
  ins : P.ins = (g.ins.length : Int)
  outs : P.outs = (g.outs.length : Int)
  parts : P.parts.length = g.actors.length
  lines : P.lines.length = g.edges.length
  regions : p.regions.length = g.edges.length
  cnt : P.counters ≤ (h : Int)
  calls : cK 5 P.ops = f
  heads : cK 1 P.ops = h
  backs : cK 2 P.ops = h
  ends : cK 0 P.ops = 1
  ops : P.ops.length ≤ 1000000
  params : ∀ x ∈ P.parts, x.params.length ≤ 17600000000000
  line : ∀ (i : Nat) (hi : i < g.edges.length) (h1 : i < p.regions.length) (h2 : i < P.lines.length), P.lines[i] = ⟨p.regions[i].base, p.regions[i].size, g.edges[i].start⟩
theorem made_ok {g : GGraph} {p : GPlan} {l : Nest} (h : makeE g p l = 0) (hs : GSized g) (hps : ∀ a ∈ g.actors, a.params.length ≤ 17600000000000) : MadeOk g p (makeG g p l) (measP l 0 (0, 0, 0)).1 (measP l 0 (0, 0, 0)).2.1 := by
  have hf := (make_fits (make_facts h).2.2.2).1
  obtain ⟨k1, k2, k3, k4, k5⟩ := make_kinds h hs
  have hst := make_sound h hs
  have hll : (makeG g p l).lines.length = g.edges.length := by
    show (linesP p.regions g.edges).length = _
    simp [linesP]; omega
  have hpl : (makeG g p l).parts.length = g.actors.length := by
    show (partsP g.actors).length = _
    simp [partsP]
  refine ⟨by unfold checkC; rw [hst], rfl, rfl, rfl, hpl, hll, hf, k5, k1, k2, k3, k4, ?_, ?_, ?_⟩
  · have h1 := rowL_len (F := firP g) l 0 0
    have h2 := (stN_le (firP_row (firOk_of (make_facts h).1 hs)) l (nest_total (make_facts h).2.1).1).1
    have h3 := (nest_total (make_facts h).2.1).2
    rw [make_ops2, List.length_append]
    simp only [List.length_cons, List.length_nil]
    omega
  · intro x hx
    have hx' : x ∈ partsP g.actors := hx
    simp only [partsP, List.mem_map] at hx'
    obtain ⟨a, ha, rfl⟩ := hx'
    exact hps a ha
  · intro i hi h1 h2
    obtain ⟨_, _, e⟩ := make_line h hi
    exact e


set_option maxRecDepth 100000 in
set_option maxHeartbeats 4000000 in
theorem sound_all (D : Nat) (w : World) (vg vp v : Value) (g : GGraph) (p : GPlan) (l : Nest) (hg : HasGraph w vg g) (hp : HasPlan w vp p) (hv : HasNestD D w v l) (hgs : GSized g) (hgr : Great g) (hns : NSized l) (hrl : p.regions.length ≤ 17600000000000) : Calls Try.prog 7 #[vg, vp, v] w (Tells (.bool true) w) := by
  obtain ⟨va, ve, vi, vo, rfl, ra, re, ri, ro⟩ := hg.shape
  obtain ⟨vr, rfl, rr⟩ := hp
  obtain ⟨aa, ac, rfl⟩ := ra.slice
  obtain ⟨ae, ec, rfl⟩ := re.slice
  obtain ⟨ai, ic, rfl⟩ := ri.slice
  obtain ⟨ao, oc, rfl⟩ := ro.slice
  obtain ⟨ar, rc, rfl⟩ := rr.slice
  obtain ⟨an, nc, rfl⟩ := nestD_slice D hv
  have RG := Lib.hid hg
  have RP : Hid (HasPlan w (.agg #[.slice ar p.regions.length rc, .int .i64 p.total]) p) := Lib.hid ⟨_, rfl, rr⟩
  have RN := Lib.hid hv
  have HGS := Lib.hid hgs
  have HGR := Lib.hid hgr
  have HNS := Lib.hid hns
  have HRL := Lib.hid hrl
  have RE := Lib.hid re
  have RR := Lib.hid rr
  have hb1 := below_alloc w (.cells #[.string g.name, .slice aa g.actors.length ac, .slice ae g.edges.length ec, .slice ai g.ins.length ic, .slice ao g.outs.length oc] 26)
  have h1 := heap_alloc_new w (.cells #[.string g.name, .slice aa g.actors.length ac, .slice ae g.edges.length ec, .slice ai g.ins.length ic, .slice ao g.outs.length oc] 26)
  have hs1 : (w.alloc (.cells #[.string g.name, .slice aa g.actors.length ac, .slice ae g.edges.length ec, .slice ai g.ins.length ic, .slice ao g.outs.length oc] 26)).heap.size = w.heap.size + 1 := by simp
  have hb2 := below_alloc (w.alloc (.cells #[.string g.name, .slice aa g.actors.length ac, .slice ae g.edges.length ec, .slice ai g.ins.length ic, .slice ao g.outs.length oc] 26)) (.cells #[.slice ar p.regions.length rc, .int .i64 p.total] 29)
  have h2 := heap_alloc_new (w.alloc (.cells #[.string g.name, .slice aa g.actors.length ac, .slice ae g.edges.length ec, .slice ai g.ins.length ic, .slice ao g.outs.length oc] 26)) (.cells #[.slice ar p.regions.length rc, .int .i64 p.total] 29)
  have h3 := block_alloc h1 (.cells #[.slice ar p.regions.length rc, .int .i64 p.total] 29)
  have HT := Lib.hid (((Then.refl w).step hb1).step hb2)
  rw [hs1] at h2
  obtain ⟨W, hW⟩ : ∃ x, (w.alloc (.cells #[.string g.name, .slice aa g.actors.length ac, .slice ae g.edges.length ec, .slice ai g.ins.length ic, .slice ao g.outs.length oc] 26)).alloc (.cells #[.slice ar p.regions.length rc, .int .i64 p.total] 29) = x := ⟨_, rfl⟩
  rw [hW] at h2 h3 HT
  have HGB := Lib.hid h3
  have HPB := Lib.hid h2
  have y0 := cells_row _ _ h3 0 _ rfl
  have y1 := cells_row _ _ h3 1 _ rfl
  have y2 := cells_row _ _ h3 2 _ rfl
  have y3 := cells_row _ _ h3 3 _ rfl
  have y4 := cells_row _ _ h3 4 _ rfl
  have y5 := cells_row _ _ h2 0 _ rfl
  have y6 := cells_row _ _ h2 1 _ rfl
  clear ra re ri ro rr hg hgs hgr hns hrl hv hb1 hb2 h1 h2 h3 hs1
  go_enter Try.func7, Try.ntmps7
  go_wp2_with fail
  clear hW y0 y1 y2 y3 y4 y5 y6
  refine (heavyl_any D _ _ _ _ g p l (RG.out.below HT.out.below) (RP.out.below HT.out.below) (nestD_below D RN.out HT.out.below) HGR.out HNS.out HRL.out).mono ?_
  rintro e wc ⟨b, rfl, hbl, hb⟩
  replace HT := Lib.hid (HT.out.step hb)
  replace HGB := Lib.hid ((hb.block _ (block_lt HGB.out)).trans HGB.out)
  replace HPB := Lib.hid ((hb.block _ (block_lt HPB.out)).trans HPB.out)
  clear hb
  cases b with
  | true =>
    go_wp2
    go_ret
    exact ⟨rfl, HT.out.below⟩
  | false =>
    have HH := Lib.hid (hbl rfl)
    clear hbl
    have HPS := Lib.hid HGR.out.params
    have HES := Lib.hid HGR.out.starts
    go_wp2_with fail
    go_cut [7, 8] from 16 to 26 (fun pp ee wx => ∃ X, pp = .pointer (some ⟨X, 0, none⟩) ∧ ee = .int .i64 (makeE g p l) ∧ Then w wx ∧ wx.heap[w.heap.size]? = some (.cells #[.string g.name, .slice aa g.actors.length ac, .slice ae g.edges.length ec, .slice ai g.ins.length ic, .slice ao g.outs.length oc] 26 (0, 0)) ∧ wx.heap[w.heap.size + 1]? = some (.cells #[.slice ar p.regions.length rc, .int .i64 p.total] 29 (0, 0)) ∧ ProgAt wx X (makeP g p l))
    case first =>
      have hb : Below wc.heap.size wc wc.drew := below_dr (n := 1) (Below.refl _ _)
      replace HT := Lib.hid (HT.out.step hb)
      replace HGB := Lib.hid ((hb.block _ (block_lt HGB.out)).trans HGB.out)
      replace HPB := Lib.hid ((hb.block _ (block_lt HPB.out)).trans HPB.out)
      clear hb
      refine wp_region_drift (fun w' => w'.cell? ⟨w.heap.size, 0, none⟩ = some (.string g.name) ∧ w'.cell? ⟨w.heap.size, 1, none⟩ = some (.slice aa g.actors.length ac) ∧ w'.cell? ⟨w.heap.size, 2, none⟩ = some (.slice ae g.edges.length ec) ∧ w'.cell? ⟨w.heap.size, 3, none⟩ = some (.slice ai g.ins.length ic) ∧ w'.cell? ⟨w.heap.size, 4, none⟩ = some (.slice ao g.outs.length oc) ∧ w'.cell? ⟨w.heap.size + 1, 0, none⟩ = some (.slice ar p.regions.length rc) ∧ w'.cell? ⟨w.heap.size + 1, 1, none⟩ = some (.int .i64 p.total)) [0, 2, 4, 7, 8, 9] [1, 3, 5, 6] [0, 2, 4] 10 (by kernel_rfl) (by kernel_rfl) rfl ⟨cells_row _ _ HGB.out 0 _ rfl, cells_row _ _ HGB.out 1 _ rfl, cells_row _ _ HGB.out 2 _ rfl, cells_row _ _ HGB.out 3 _ rfl, cells_row _ _ HGB.out 4 _ rfl, cells_row _ _ HPB.out 0 _ rfl, cells_row _ _ HPB.out 1 _ rfl⟩ ?_
      intro Q' hQ' hQ2
      simp only [pickOps, List.flatMap_cons, List.flatMap_nil, List.drop_succ_cons, List.drop_zero, List.take_succ_cons, List.take_zero, List.cons_append, List.nil_append, List.append_nil]
      repeat (first
        | (refine wpReads_skip (by rfl) ?_; (try simp only [Act.put, List.setIfInBounds_toArray, List.set_cons_zero, List.set_cons_succ]))
        | (refine wpReads_cons ?_ (by rfl) (by rfl) ?_ ?_; rotate_left; (intro wz hz; (try dsimp only at hz); go_simp; try with_reducible rfl); (try simp only [Act.put, List.setIfInBounds_toArray, List.set_cons_zero, List.set_cons_succ]))
        | (refine wpReads_any ?_ (by rfl) ?_ ?_; rotate_left; (intro wz; go_simp; try with_reducible rfl); (try simp only [Act.put, List.setIfInBounds_toArray, List.set_cons_zero, List.set_cons_succ])))
      refine wpReads_nil ?_
      obtain ⟨wd, hwd⟩ : ∃ x, wc.drew = x := ⟨_, rfl⟩
      rw [hwd] at HT HGB HPB ⊢
      clear hwd
      obtain ⟨wc, hwc⟩ : ∃ x, x = wd := ⟨_, rfl⟩
      subst hwc
      refine wpAnyT_two (i := 1) (k := 10) (by kernel_rfl) ?_ ?_
      · skip
        simp only [pickOps, List.flatMap_cons, List.flatMap_nil, List.drop_succ_cons, List.drop_zero, List.take_succ_cons, List.take_zero, List.append_nil]
        go_wp2_with fail
        refine (lentgraph_any _ _ g (RG.out.below HT.out.below) HH.out.1 HPS.out HES.out).mono ?_
        rintro e wc ⟨vgl, rfl, hgl, hb⟩
        replace HT := Lib.hid (HT.out.step hb)
        replace HGB := Lib.hid ((hb.block _ (block_lt HGB.out)).trans HGB.out)
        replace HPB := Lib.hid ((hb.block _ (block_lt HPB.out)).trans HPB.out)
        try replace HGL := Lib.hid (HGL.out.below hb)
        try replace HPL := Lib.hid (HPL.out.below hb)
        try replace HNL := Lib.hid (nestD_below D HNL.out hb)
        try replace HX := Lib.hid ((hb.block _ (block_lt HX.out)).trans HX.out)
        have HGL := Lib.hid hgl
        clear hgl hb
        go_wp2_with fail
        refine ⟨fun _ _ => ⟨cells_row _ _ HGB.out 0 _ rfl, cells_row _ _ HGB.out 1 _ rfl, cells_row _ _ HGB.out 2 _ rfl, cells_row _ _ HGB.out 3 _ rfl, cells_row _ _ HGB.out 4 _ rfl, cells_row _ _ HPB.out 0 _ rfl, cells_row _ _ HPB.out 1 _ rfl⟩, ?_⟩
        refine wpAnyT_two (i := 3) (k := 10) (by kernel_rfl) ?_ ?_
        · skip
          simp only [pickOps, List.flatMap_cons, List.flatMap_nil, List.drop_succ_cons, List.drop_zero, List.take_succ_cons, List.take_zero, List.append_nil]
          go_wp2_with fail
          refine (lentplan_any _ _ p (RP.out.below HT.out.below) (by have := HH.out; omega)).mono ?_
          rintro e wc ⟨vpl, rfl, hpl, hb⟩
          replace HT := Lib.hid (HT.out.step hb)
          replace HGB := Lib.hid ((hb.block _ (block_lt HGB.out)).trans HGB.out)
          replace HPB := Lib.hid ((hb.block _ (block_lt HPB.out)).trans HPB.out)
          try replace HGL := Lib.hid (HGL.out.below hb)
          try replace HPL := Lib.hid (HPL.out.below hb)
          try replace HNL := Lib.hid (nestD_below D HNL.out hb)
          try replace HX := Lib.hid ((hb.block _ (block_lt HX.out)).trans HX.out)
          have HPL := Lib.hid hpl
          clear hpl hb
          go_wp2_with fail
          refine ⟨fun _ _ => ⟨cells_row _ _ HGB.out 0 _ rfl, cells_row _ _ HGB.out 1 _ rfl, cells_row _ _ HGB.out 2 _ rfl, cells_row _ _ HGB.out 3 _ rfl, cells_row _ _ HGB.out 4 _ rfl, cells_row _ _ HPB.out 0 _ rfl, cells_row _ _ HPB.out 1 _ rfl⟩, ?_⟩
          refine wpAnyT_two (i := 5) (k := 10) (by kernel_rfl) ?_ ?_
          · skip
            simp only [pickOps, List.flatMap_cons, List.flatMap_nil, List.drop_succ_cons, List.drop_zero, List.take_succ_cons, List.take_zero, List.append_nil]
            go_wp2_with fail
            refine (lentN_any D _ _ l (nestD_below D RN.out HT.out.below) HH.out.2.2).mono ?_
            rintro e wc ⟨vnl, rfl, hnl, hb⟩
            replace HT := Lib.hid (HT.out.step hb)
            replace HGB := Lib.hid ((hb.block _ (block_lt HGB.out)).trans HGB.out)
            replace HPB := Lib.hid ((hb.block _ (block_lt HPB.out)).trans HPB.out)
            try replace HGL := Lib.hid (HGL.out.below hb)
            try replace HPL := Lib.hid (HPL.out.below hb)
            try replace HNL := Lib.hid (nestD_below D HNL.out hb)
            try replace HX := Lib.hid ((hb.block _ (block_lt HX.out)).trans HX.out)
            have HNL := Lib.hid (hnl _ (Mods.refl _ _))
            clear hnl hb
            go_wp2_with fail
            refine ⟨fun _ _ => ⟨cells_row _ _ HGB.out 0 _ rfl, cells_row _ _ HGB.out 1 _ rfl, cells_row _ _ HGB.out 2 _ rfl, cells_row _ _ HGB.out 3 _ rfl, cells_row _ _ HGB.out 4 _ rfl, cells_row _ _ HPB.out 0 _ rfl, cells_row _ _ HPB.out 1 _ rfl⟩, ?_⟩
            refine wpAnyT_two (i := 6) (k := 10) (by kernel_rfl) ?_ ?_
            · skip
              simp only [pickOps, List.flatMap_cons, List.flatMap_nil, List.drop_succ_cons, List.drop_zero, List.take_succ_cons, List.take_zero, List.append_nil]
              go_wp2_with fail
              try have HXL := Lib.hid (block_lt HX.out)
              refine (make_fresh D _ _ _ _ g p l HGL.out HPL.out HNL.out HGS.out HNS.out).mono ?_
              rintro e wm ⟨v4, rfl, hpf, hb⟩
              obtain ⟨vp, vl, vo, rfl, rp, rl, ro⟩ := hpf _ (Mods.refl _ _)
              obtain ⟨ap, cp, rfl⟩ := rp.slice
              obtain ⟨al, cl, rfl⟩ := rl.slice
              obtain ⟨ao2, co, rfl⟩ := ro.slice
              have HPF := Lib.hid hpf
              clear rp rl ro hpf HGL HPL HNL
              replace HT := Lib.hid (HT.out.step hb)
              replace HGB := Lib.hid ((hb.block _ (block_lt HGB.out)).trans HGB.out)
              replace HPB := Lib.hid ((hb.block _ (block_lt HPB.out)).trans HPB.out)
              try replace HGL := Lib.hid (HGL.out.below hb)
              try replace HPL := Lib.hid (HPL.out.below hb)
              try replace HNL := Lib.hid (nestD_below D HNL.out hb)
              try replace HX := Lib.hid ((hb.block _ (block_lt HX.out)).trans HX.out)
              clear hb
              go_wp2_with fail
              refine ⟨fun _ _ => ⟨cells_row _ _ HGB.out 0 _ rfl, cells_row _ _ HGB.out 1 _ rfl, cells_row _ _ HGB.out 2 _ rfl, cells_row _ _ HGB.out 3 _ rfl, cells_row _ _ HGB.out 4 _ rfl, cells_row _ _ HPB.out 0 _ rfl, cells_row _ _ HPB.out 1 _ rfl⟩, ?_⟩
              refine wpAnyT_later (r := [7, 8, 9]) (n := 3) hQ2 (by kernel_rfl) ⟨cells_row _ _ HGB.out 0 _ rfl, cells_row _ _ HGB.out 1 _ rfl, cells_row _ _ HGB.out 2 _ rfl, cells_row _ _ HGB.out 3 _ rfl, cells_row _ _ HGB.out 4 _ rfl, cells_row _ _ HPB.out 0 _ rfl, cells_row _ _ HPB.out 1 _ rfl⟩ ?_
              simp only [pickOps, List.flatMap_cons, List.flatMap_nil, List.drop_succ_cons, List.drop_zero, List.take_succ_cons, List.take_zero, List.cons_append, List.nil_append, List.append_nil]
              repeat (first
                | (refine wpReads_skip (by rfl) ?_; (try simp only [Act.put, List.setIfInBounds_toArray, List.set_cons_zero, List.set_cons_succ]))
                | (refine wpReads_cons ?_ (by rfl) (by rfl) ?_ ?_; rotate_left; (intro wz hz; (try dsimp only at hz); go_simp; try with_reducible rfl); (try simp only [Act.put, List.setIfInBounds_toArray, List.set_cons_zero, List.set_cons_succ]))
                | (refine wpReads_any ?_ (by rfl) ?_ ?_; rotate_left; (intro wz; go_simp; try with_reducible rfl); (try simp only [Act.put, List.setIfInBounds_toArray, List.set_cons_zero, List.set_cons_succ])))
              refine wpReads_nil ?_
              clear hQ2
              refine wpAnyT_list (ks := [10, 11, 12]) (fun _ _ hx h => ⟨hx.cell h.1, hx.cell h.2.1, hx.cell h.2.2.1, hx.cell h.2.2.2.1, hx.cell h.2.2.2.2.1, hx.cell h.2.2.2.2.2.1, hx.cell h.2.2.2.2.2.2⟩) (by kernel_rfl) ?_
              simp only [pickOps, List.flatMap_cons, List.flatMap_nil, List.drop_succ_cons, List.drop_zero, List.take_succ_cons, List.take_zero, List.cons_append, List.nil_append, List.append_nil]
              go_wp2
              go_meet
              case rel => exact ⟨wm.heap.size, rfl, rfl, HT.out.step (below_alloc wm (.cells #[.int .i64 (makeP g p l).memory, .int .i64 (makeP g p l).counters, .int .i64 (makeP g p l).ins, .int .i64 (makeP g p l).outs, .slice ap (makeP g p l).parts.length cp, .slice al (makeP g p l).lines.length cl, .slice ao2 (makeP g p l).ops.length co] 39)), block_alloc HGB.out _, block_alloc HPB.out _, _, _, _, _, _, _, heap_alloc_new wm _, HPF.out _ ((Mods.refl _ wm).alloc _)⟩
            · skip
              simp only [pickOps, List.flatMap_cons, List.flatMap_nil, List.drop_succ_cons, List.drop_zero, List.take_succ_cons, List.take_zero, List.append_nil]
              have hb := below_alloc wc (.cells progZ 39)
              have hx := heap_alloc_new wc (.cells progZ 39)
              have hxw := block_lt HPB.out
              go_wp2
              replace HT := Lib.hid (HT.out.step hb)
              replace HGB := Lib.hid ((hb.block _ (block_lt HGB.out)).trans HGB.out)
              replace HPB := Lib.hid ((hb.block _ (block_lt HPB.out)).trans HPB.out)
              try replace HGL := Lib.hid (HGL.out.below hb)
              try replace HPL := Lib.hid (HPL.out.below hb)
              try replace HNL := Lib.hid (nestD_below D HNL.out hb)
              try replace HX := Lib.hid ((hb.block _ (block_lt HX.out)).trans HX.out)
              have HX := Lib.hid hx
              have HXW : Hid (w.heap.size + 1 < wc.heap.size) := Lib.hid hxw
              clear hb hx hxw
              refine ⟨fun _ _ => ⟨cells_row _ _ HGB.out 0 _ rfl, cells_row _ _ HGB.out 1 _ rfl, cells_row _ _ HGB.out 2 _ rfl, cells_row _ _ HGB.out 3 _ rfl, cells_row _ _ HGB.out 4 _ rfl, cells_row _ _ HPB.out 0 _ rfl, cells_row _ _ HPB.out 1 _ rfl⟩, ?_⟩
              obtain ⟨wd, hwd⟩ : ∃ x, wc.alloc (.cells progZ 39) = x := ⟨_, rfl⟩
              rw [hwd] at HT HGB HPB HX ⊢
              try rw [hwd] at HGL
              try rw [hwd] at HPL
              try rw [hwd] at HNL
              clear hwd
              obtain ⟨X, hX⟩ : ∃ x, wc.heap.size = x := ⟨_, rfl⟩
              rw [hX] at HX HXW ⊢
              clear hX
              obtain ⟨wc, hwc⟩ : ∃ x, x = wd := ⟨_, rfl⟩
              subst hwc
              refine wpAnyT_one (i := 6) (by kernel_rfl) ?_
              simp only [pickOps, List.flatMap_cons, List.flatMap_nil, List.drop_succ_cons, List.drop_zero, List.take_succ_cons, List.take_zero, List.append_nil]
              go_wp2_with fail
              try have HXL := Lib.hid (block_lt HX.out)
              refine (make_fresh D _ _ _ _ g p l HGL.out HPL.out HNL.out HGS.out HNS.out).mono ?_
              rintro e wm ⟨v4, rfl, hpf, hb⟩
              obtain ⟨vp, vl, vo, rfl, rp, rl, ro⟩ := hpf _ (Mods.refl _ _)
              obtain ⟨ap, cp, rfl⟩ := rp.slice
              obtain ⟨al, cl, rfl⟩ := rl.slice
              obtain ⟨ao2, co, rfl⟩ := ro.slice
              have HPF := Lib.hid hpf
              clear rp rl ro hpf HGL HPL HNL
              replace HT := Lib.hid (HT.out.step hb)
              replace HGB := Lib.hid ((hb.block _ (block_lt HGB.out)).trans HGB.out)
              replace HPB := Lib.hid ((hb.block _ (block_lt HPB.out)).trans HPB.out)
              try replace HGL := Lib.hid (HGL.out.below hb)
              try replace HPL := Lib.hid (HPL.out.below hb)
              try replace HNL := Lib.hid (nestD_below D HNL.out hb)
              try replace HX := Lib.hid ((hb.block _ (block_lt HX.out)).trans HX.out)
              clear hb
              go_wp2_with fail
              refine ⟨fun _ _ => ⟨cells_row _ _ HGB.out 0 _ rfl, cells_row _ _ HGB.out 1 _ rfl, cells_row _ _ HGB.out 2 _ rfl, cells_row _ _ HGB.out 3 _ rfl, cells_row _ _ HGB.out 4 _ rfl, cells_row _ _ HPB.out 0 _ rfl, cells_row _ _ HPB.out 1 _ rfl⟩, ?_⟩
              refine wpAnyT_later (r := [7, 8, 9]) (n := 2) hQ2 (by kernel_rfl) ⟨cells_row _ _ HGB.out 0 _ rfl, cells_row _ _ HGB.out 1 _ rfl, cells_row _ _ HGB.out 2 _ rfl, cells_row _ _ HGB.out 3 _ rfl, cells_row _ _ HGB.out 4 _ rfl, cells_row _ _ HPB.out 0 _ rfl, cells_row _ _ HPB.out 1 _ rfl⟩ ?_
              simp only [pickOps, List.flatMap_cons, List.flatMap_nil, List.drop_succ_cons, List.drop_zero, List.take_succ_cons, List.take_zero, List.cons_append, List.nil_append, List.append_nil]
              repeat (first
                | (refine wpReads_skip (by rfl) ?_; (try simp only [Act.put, List.setIfInBounds_toArray, List.set_cons_zero, List.set_cons_succ]))
                | (refine wpReads_cons ?_ (by rfl) (by rfl) ?_ ?_; rotate_left; (intro wz hz; (try dsimp only at hz); go_simp; try with_reducible rfl); (try simp only [Act.put, List.setIfInBounds_toArray, List.set_cons_zero, List.set_cons_succ]))
                | (refine wpReads_any ?_ (by rfl) ?_ ?_; rotate_left; (intro wz; go_simp; try with_reducible rfl); (try simp only [Act.put, List.setIfInBounds_toArray, List.set_cons_zero, List.set_cons_succ])))
              refine wpReads_nil ?_
              clear hQ2
              refine wpAnyT_list (ks := [11, 12]) (fun _ _ hx h => ⟨hx.cell h.1, hx.cell h.2.1, hx.cell h.2.2.1, hx.cell h.2.2.2.1, hx.cell h.2.2.2.2.1, hx.cell h.2.2.2.2.2.1, hx.cell h.2.2.2.2.2.2⟩) (by kernel_rfl) ?_
              simp only [pickOps, List.flatMap_cons, List.flatMap_nil, List.drop_succ_cons, List.drop_zero, List.take_succ_cons, List.take_zero, List.cons_append, List.nil_append, List.append_nil]
              have z0 := cells_row _ _ HX.out 0 _ rfl
              have z1 := cells_row _ _ HX.out 1 _ rfl
              have z2 := cells_row _ _ HX.out 2 _ rfl
              have z3 := cells_row _ _ HX.out 3 _ rfl
              have z4 := cells_row _ _ HX.out 4 _ rfl
              have z5 := cells_row _ _ HX.out 5 _ rfl
              have z6 := cells_row _ _ HX.out 6 _ rfl
              have f0 := frozen_of_block HX.out 0
              have f1 := frozen_of_block HX.out 1
              have f2 := frozen_of_block HX.out 2
              have f3 := frozen_of_block HX.out 3
              have f4 := frozen_of_block HX.out 4
              have f5 := frozen_of_block HX.out 5
              have f6 := frozen_of_block HX.out 6
              go_wp2
              have mm := prog_mods wm X (.int .i64 (makeP g p l).memory) (.int .i64 (makeP g p l).counters) (.int .i64 (makeP g p l).ins) (.int .i64 (makeP g p l).outs) (.slice ap (makeP g p l).parts.length cp) (.slice al (makeP g p l).lines.length cl) (.slice ao2 (makeP g p l).ops.length co)
              go_meet
              case rel => exact ⟨X, rfl, rfl, ⟨HT.out.below.trans (mm.below HT.out.size (fun k hk e => by have := HXW.out; omega)), Nat.le_trans HT.out.size mm.size⟩, block_mods HGB.out mm (by have := HXW.out; omega), block_mods HPB.out mm (by have := HXW.out; omega), _, _, _, _, _, _, prog_set HX.out _ _ _ _ _ _ _, HPF.out _ (mm.mono (fun k _ e => by subst e; exact HXL.out))⟩
          · skip
            simp only [pickOps, List.flatMap_cons, List.flatMap_nil, List.drop_succ_cons, List.drop_zero, List.take_succ_cons, List.take_zero, List.append_nil]
            have hb := below_alloc wc (.cells progZ 39)
            have hx := heap_alloc_new wc (.cells progZ 39)
            have hxw := block_lt HPB.out
            go_wp2
            replace HT := Lib.hid (HT.out.step hb)
            replace HGB := Lib.hid ((hb.block _ (block_lt HGB.out)).trans HGB.out)
            replace HPB := Lib.hid ((hb.block _ (block_lt HPB.out)).trans HPB.out)
            try replace HGL := Lib.hid (HGL.out.below hb)
            try replace HPL := Lib.hid (HPL.out.below hb)
            try replace HNL := Lib.hid (nestD_below D HNL.out hb)
            try replace HX := Lib.hid ((hb.block _ (block_lt HX.out)).trans HX.out)
            have HX := Lib.hid hx
            have HXW : Hid (w.heap.size + 1 < wc.heap.size) := Lib.hid hxw
            clear hb hx hxw
            refine ⟨fun _ _ => ⟨cells_row _ _ HGB.out 0 _ rfl, cells_row _ _ HGB.out 1 _ rfl, cells_row _ _ HGB.out 2 _ rfl, cells_row _ _ HGB.out 3 _ rfl, cells_row _ _ HGB.out 4 _ rfl, cells_row _ _ HPB.out 0 _ rfl, cells_row _ _ HPB.out 1 _ rfl⟩, ?_⟩
            obtain ⟨wd, hwd⟩ : ∃ x, wc.alloc (.cells progZ 39) = x := ⟨_, rfl⟩
            rw [hwd] at HT HGB HPB HX ⊢
            try rw [hwd] at HGL
            try rw [hwd] at HPL
            try rw [hwd] at HNL
            clear hwd
            obtain ⟨X, hX⟩ : ∃ x, wc.heap.size = x := ⟨_, rfl⟩
            rw [hX] at HX HXW ⊢
            clear hX
            obtain ⟨wc, hwc⟩ : ∃ x, x = wd := ⟨_, rfl⟩
            subst hwc
            refine wpAnyT_one (i := 5) (by kernel_rfl) ?_
            simp only [pickOps, List.flatMap_cons, List.flatMap_nil, List.drop_succ_cons, List.drop_zero, List.take_succ_cons, List.take_zero, List.append_nil]
            go_wp2_with fail
            refine (lentN_any D _ _ l (nestD_below D RN.out HT.out.below) HH.out.2.2).mono ?_
            rintro e wc ⟨vnl, rfl, hnl, hb⟩
            replace HT := Lib.hid (HT.out.step hb)
            replace HGB := Lib.hid ((hb.block _ (block_lt HGB.out)).trans HGB.out)
            replace HPB := Lib.hid ((hb.block _ (block_lt HPB.out)).trans HPB.out)
            try replace HGL := Lib.hid (HGL.out.below hb)
            try replace HPL := Lib.hid (HPL.out.below hb)
            try replace HNL := Lib.hid (nestD_below D HNL.out hb)
            try replace HX := Lib.hid ((hb.block _ (block_lt HX.out)).trans HX.out)
            have HNL := Lib.hid (hnl _ (Mods.refl _ _))
            clear hnl hb
            go_wp2_with fail
            refine ⟨fun _ _ => ⟨cells_row _ _ HGB.out 0 _ rfl, cells_row _ _ HGB.out 1 _ rfl, cells_row _ _ HGB.out 2 _ rfl, cells_row _ _ HGB.out 3 _ rfl, cells_row _ _ HGB.out 4 _ rfl, cells_row _ _ HPB.out 0 _ rfl, cells_row _ _ HPB.out 1 _ rfl⟩, ?_⟩
            refine wpAnyT_one (i := 6) (by kernel_rfl) ?_
            simp only [pickOps, List.flatMap_cons, List.flatMap_nil, List.drop_succ_cons, List.drop_zero, List.take_succ_cons, List.take_zero, List.append_nil]
            go_wp2_with fail
            try have HXL := Lib.hid (block_lt HX.out)
            refine (make_fresh D _ _ _ _ g p l HGL.out HPL.out HNL.out HGS.out HNS.out).mono ?_
            rintro e wm ⟨v4, rfl, hpf, hb⟩
            obtain ⟨vp, vl, vo, rfl, rp, rl, ro⟩ := hpf _ (Mods.refl _ _)
            obtain ⟨ap, cp, rfl⟩ := rp.slice
            obtain ⟨al, cl, rfl⟩ := rl.slice
            obtain ⟨ao2, co, rfl⟩ := ro.slice
            have HPF := Lib.hid hpf
            clear rp rl ro hpf HGL HPL HNL
            replace HT := Lib.hid (HT.out.step hb)
            replace HGB := Lib.hid ((hb.block _ (block_lt HGB.out)).trans HGB.out)
            replace HPB := Lib.hid ((hb.block _ (block_lt HPB.out)).trans HPB.out)
            try replace HGL := Lib.hid (HGL.out.below hb)
            try replace HPL := Lib.hid (HPL.out.below hb)
            try replace HNL := Lib.hid (nestD_below D HNL.out hb)
            try replace HX := Lib.hid ((hb.block _ (block_lt HX.out)).trans HX.out)
            clear hb
            go_wp2_with fail
            refine ⟨fun _ _ => ⟨cells_row _ _ HGB.out 0 _ rfl, cells_row _ _ HGB.out 1 _ rfl, cells_row _ _ HGB.out 2 _ rfl, cells_row _ _ HGB.out 3 _ rfl, cells_row _ _ HGB.out 4 _ rfl, cells_row _ _ HPB.out 0 _ rfl, cells_row _ _ HPB.out 1 _ rfl⟩, ?_⟩
            refine wpAnyT_later (r := [7, 8, 9]) (n := 2) hQ2 (by kernel_rfl) ⟨cells_row _ _ HGB.out 0 _ rfl, cells_row _ _ HGB.out 1 _ rfl, cells_row _ _ HGB.out 2 _ rfl, cells_row _ _ HGB.out 3 _ rfl, cells_row _ _ HGB.out 4 _ rfl, cells_row _ _ HPB.out 0 _ rfl, cells_row _ _ HPB.out 1 _ rfl⟩ ?_
            simp only [pickOps, List.flatMap_cons, List.flatMap_nil, List.drop_succ_cons, List.drop_zero, List.take_succ_cons, List.take_zero, List.cons_append, List.nil_append, List.append_nil]
            repeat (first
              | (refine wpReads_skip (by rfl) ?_; (try simp only [Act.put, List.setIfInBounds_toArray, List.set_cons_zero, List.set_cons_succ]))
              | (refine wpReads_cons ?_ (by rfl) (by rfl) ?_ ?_; rotate_left; (intro wz hz; (try dsimp only at hz); go_simp; try with_reducible rfl); (try simp only [Act.put, List.setIfInBounds_toArray, List.set_cons_zero, List.set_cons_succ]))
              | (refine wpReads_any ?_ (by rfl) ?_ ?_; rotate_left; (intro wz; go_simp; try with_reducible rfl); (try simp only [Act.put, List.setIfInBounds_toArray, List.set_cons_zero, List.set_cons_succ])))
            refine wpReads_nil ?_
            clear hQ2
            refine wpAnyT_list (ks := [11, 12]) (fun _ _ hx h => ⟨hx.cell h.1, hx.cell h.2.1, hx.cell h.2.2.1, hx.cell h.2.2.2.1, hx.cell h.2.2.2.2.1, hx.cell h.2.2.2.2.2.1, hx.cell h.2.2.2.2.2.2⟩) (by kernel_rfl) ?_
            simp only [pickOps, List.flatMap_cons, List.flatMap_nil, List.drop_succ_cons, List.drop_zero, List.take_succ_cons, List.take_zero, List.cons_append, List.nil_append, List.append_nil]
            have z0 := cells_row _ _ HX.out 0 _ rfl
            have z1 := cells_row _ _ HX.out 1 _ rfl
            have z2 := cells_row _ _ HX.out 2 _ rfl
            have z3 := cells_row _ _ HX.out 3 _ rfl
            have z4 := cells_row _ _ HX.out 4 _ rfl
            have z5 := cells_row _ _ HX.out 5 _ rfl
            have z6 := cells_row _ _ HX.out 6 _ rfl
            have f0 := frozen_of_block HX.out 0
            have f1 := frozen_of_block HX.out 1
            have f2 := frozen_of_block HX.out 2
            have f3 := frozen_of_block HX.out 3
            have f4 := frozen_of_block HX.out 4
            have f5 := frozen_of_block HX.out 5
            have f6 := frozen_of_block HX.out 6
            go_wp2
            have mm := prog_mods wm X (.int .i64 (makeP g p l).memory) (.int .i64 (makeP g p l).counters) (.int .i64 (makeP g p l).ins) (.int .i64 (makeP g p l).outs) (.slice ap (makeP g p l).parts.length cp) (.slice al (makeP g p l).lines.length cl) (.slice ao2 (makeP g p l).ops.length co)
            go_meet
            case rel => exact ⟨X, rfl, rfl, ⟨HT.out.below.trans (mm.below HT.out.size (fun k hk e => by have := HXW.out; omega)), Nat.le_trans HT.out.size mm.size⟩, block_mods HGB.out mm (by have := HXW.out; omega), block_mods HPB.out mm (by have := HXW.out; omega), _, _, _, _, _, _, prog_set HX.out _ _ _ _ _ _ _, HPF.out _ (mm.mono (fun k _ e => by subst e; exact HXL.out))⟩
        · skip
          simp only [pickOps, List.flatMap_cons, List.flatMap_nil, List.drop_succ_cons, List.drop_zero, List.take_succ_cons, List.take_zero, List.append_nil]
          have hb := below_alloc wc (.cells progZ 39)
          have hx := heap_alloc_new wc (.cells progZ 39)
          have hxw := block_lt HPB.out
          go_wp2
          replace HT := Lib.hid (HT.out.step hb)
          replace HGB := Lib.hid ((hb.block _ (block_lt HGB.out)).trans HGB.out)
          replace HPB := Lib.hid ((hb.block _ (block_lt HPB.out)).trans HPB.out)
          try replace HGL := Lib.hid (HGL.out.below hb)
          try replace HPL := Lib.hid (HPL.out.below hb)
          try replace HNL := Lib.hid (nestD_below D HNL.out hb)
          try replace HX := Lib.hid ((hb.block _ (block_lt HX.out)).trans HX.out)
          have HX := Lib.hid hx
          have HXW : Hid (w.heap.size + 1 < wc.heap.size) := Lib.hid hxw
          clear hb hx hxw
          refine ⟨fun _ _ => ⟨cells_row _ _ HGB.out 0 _ rfl, cells_row _ _ HGB.out 1 _ rfl, cells_row _ _ HGB.out 2 _ rfl, cells_row _ _ HGB.out 3 _ rfl, cells_row _ _ HGB.out 4 _ rfl, cells_row _ _ HPB.out 0 _ rfl, cells_row _ _ HPB.out 1 _ rfl⟩, ?_⟩
          obtain ⟨wd, hwd⟩ : ∃ x, wc.alloc (.cells progZ 39) = x := ⟨_, rfl⟩
          rw [hwd] at HT HGB HPB HX ⊢
          try rw [hwd] at HGL
          try rw [hwd] at HPL
          try rw [hwd] at HNL
          clear hwd
          obtain ⟨X, hX⟩ : ∃ x, wc.heap.size = x := ⟨_, rfl⟩
          rw [hX] at HX HXW ⊢
          clear hX
          obtain ⟨wc, hwc⟩ : ∃ x, x = wd := ⟨_, rfl⟩
          subst hwc
          refine wpAnyT_one (i := 3) (by kernel_rfl) ?_
          simp only [pickOps, List.flatMap_cons, List.flatMap_nil, List.drop_succ_cons, List.drop_zero, List.take_succ_cons, List.take_zero, List.append_nil]
          go_wp2_with fail
          refine (lentplan_any _ _ p (RP.out.below HT.out.below) (by have := HH.out; omega)).mono ?_
          rintro e wc ⟨vpl, rfl, hpl, hb⟩
          replace HT := Lib.hid (HT.out.step hb)
          replace HGB := Lib.hid ((hb.block _ (block_lt HGB.out)).trans HGB.out)
          replace HPB := Lib.hid ((hb.block _ (block_lt HPB.out)).trans HPB.out)
          try replace HGL := Lib.hid (HGL.out.below hb)
          try replace HPL := Lib.hid (HPL.out.below hb)
          try replace HNL := Lib.hid (nestD_below D HNL.out hb)
          try replace HX := Lib.hid ((hb.block _ (block_lt HX.out)).trans HX.out)
          have HPL := Lib.hid hpl
          clear hpl hb
          go_wp2_with fail
          refine ⟨fun _ _ => ⟨cells_row _ _ HGB.out 0 _ rfl, cells_row _ _ HGB.out 1 _ rfl, cells_row _ _ HGB.out 2 _ rfl, cells_row _ _ HGB.out 3 _ rfl, cells_row _ _ HGB.out 4 _ rfl, cells_row _ _ HPB.out 0 _ rfl, cells_row _ _ HPB.out 1 _ rfl⟩, ?_⟩
          refine wpAnyT_one (i := 5) (by kernel_rfl) ?_
          simp only [pickOps, List.flatMap_cons, List.flatMap_nil, List.drop_succ_cons, List.drop_zero, List.take_succ_cons, List.take_zero, List.append_nil]
          go_wp2_with fail
          refine (lentN_any D _ _ l (nestD_below D RN.out HT.out.below) HH.out.2.2).mono ?_
          rintro e wc ⟨vnl, rfl, hnl, hb⟩
          replace HT := Lib.hid (HT.out.step hb)
          replace HGB := Lib.hid ((hb.block _ (block_lt HGB.out)).trans HGB.out)
          replace HPB := Lib.hid ((hb.block _ (block_lt HPB.out)).trans HPB.out)
          try replace HGL := Lib.hid (HGL.out.below hb)
          try replace HPL := Lib.hid (HPL.out.below hb)
          try replace HNL := Lib.hid (nestD_below D HNL.out hb)
          try replace HX := Lib.hid ((hb.block _ (block_lt HX.out)).trans HX.out)
          have HNL := Lib.hid (hnl _ (Mods.refl _ _))
          clear hnl hb
          go_wp2_with fail
          refine ⟨fun _ _ => ⟨cells_row _ _ HGB.out 0 _ rfl, cells_row _ _ HGB.out 1 _ rfl, cells_row _ _ HGB.out 2 _ rfl, cells_row _ _ HGB.out 3 _ rfl, cells_row _ _ HGB.out 4 _ rfl, cells_row _ _ HPB.out 0 _ rfl, cells_row _ _ HPB.out 1 _ rfl⟩, ?_⟩
          refine wpAnyT_one (i := 6) (by kernel_rfl) ?_
          simp only [pickOps, List.flatMap_cons, List.flatMap_nil, List.drop_succ_cons, List.drop_zero, List.take_succ_cons, List.take_zero, List.append_nil]
          go_wp2_with fail
          try have HXL := Lib.hid (block_lt HX.out)
          refine (make_fresh D _ _ _ _ g p l HGL.out HPL.out HNL.out HGS.out HNS.out).mono ?_
          rintro e wm ⟨v4, rfl, hpf, hb⟩
          obtain ⟨vp, vl, vo, rfl, rp, rl, ro⟩ := hpf _ (Mods.refl _ _)
          obtain ⟨ap, cp, rfl⟩ := rp.slice
          obtain ⟨al, cl, rfl⟩ := rl.slice
          obtain ⟨ao2, co, rfl⟩ := ro.slice
          have HPF := Lib.hid hpf
          clear rp rl ro hpf HGL HPL HNL
          replace HT := Lib.hid (HT.out.step hb)
          replace HGB := Lib.hid ((hb.block _ (block_lt HGB.out)).trans HGB.out)
          replace HPB := Lib.hid ((hb.block _ (block_lt HPB.out)).trans HPB.out)
          try replace HGL := Lib.hid (HGL.out.below hb)
          try replace HPL := Lib.hid (HPL.out.below hb)
          try replace HNL := Lib.hid (nestD_below D HNL.out hb)
          try replace HX := Lib.hid ((hb.block _ (block_lt HX.out)).trans HX.out)
          clear hb
          go_wp2_with fail
          refine ⟨fun _ _ => ⟨cells_row _ _ HGB.out 0 _ rfl, cells_row _ _ HGB.out 1 _ rfl, cells_row _ _ HGB.out 2 _ rfl, cells_row _ _ HGB.out 3 _ rfl, cells_row _ _ HGB.out 4 _ rfl, cells_row _ _ HPB.out 0 _ rfl, cells_row _ _ HPB.out 1 _ rfl⟩, ?_⟩
          refine wpAnyT_later (r := [7, 8, 9]) (n := 2) hQ2 (by kernel_rfl) ⟨cells_row _ _ HGB.out 0 _ rfl, cells_row _ _ HGB.out 1 _ rfl, cells_row _ _ HGB.out 2 _ rfl, cells_row _ _ HGB.out 3 _ rfl, cells_row _ _ HGB.out 4 _ rfl, cells_row _ _ HPB.out 0 _ rfl, cells_row _ _ HPB.out 1 _ rfl⟩ ?_
          simp only [pickOps, List.flatMap_cons, List.flatMap_nil, List.drop_succ_cons, List.drop_zero, List.take_succ_cons, List.take_zero, List.cons_append, List.nil_append, List.append_nil]
          repeat (first
            | (refine wpReads_skip (by rfl) ?_; (try simp only [Act.put, List.setIfInBounds_toArray, List.set_cons_zero, List.set_cons_succ]))
            | (refine wpReads_cons ?_ (by rfl) (by rfl) ?_ ?_; rotate_left; (intro wz hz; (try dsimp only at hz); go_simp; try with_reducible rfl); (try simp only [Act.put, List.setIfInBounds_toArray, List.set_cons_zero, List.set_cons_succ]))
            | (refine wpReads_any ?_ (by rfl) ?_ ?_; rotate_left; (intro wz; go_simp; try with_reducible rfl); (try simp only [Act.put, List.setIfInBounds_toArray, List.set_cons_zero, List.set_cons_succ])))
          refine wpReads_nil ?_
          clear hQ2
          refine wpAnyT_list (ks := [11, 12]) (fun _ _ hx h => ⟨hx.cell h.1, hx.cell h.2.1, hx.cell h.2.2.1, hx.cell h.2.2.2.1, hx.cell h.2.2.2.2.1, hx.cell h.2.2.2.2.2.1, hx.cell h.2.2.2.2.2.2⟩) (by kernel_rfl) ?_
          simp only [pickOps, List.flatMap_cons, List.flatMap_nil, List.drop_succ_cons, List.drop_zero, List.take_succ_cons, List.take_zero, List.cons_append, List.nil_append, List.append_nil]
          have z0 := cells_row _ _ HX.out 0 _ rfl
          have z1 := cells_row _ _ HX.out 1 _ rfl
          have z2 := cells_row _ _ HX.out 2 _ rfl
          have z3 := cells_row _ _ HX.out 3 _ rfl
          have z4 := cells_row _ _ HX.out 4 _ rfl
          have z5 := cells_row _ _ HX.out 5 _ rfl
          have z6 := cells_row _ _ HX.out 6 _ rfl
          have f0 := frozen_of_block HX.out 0
          have f1 := frozen_of_block HX.out 1
          have f2 := frozen_of_block HX.out 2
          have f3 := frozen_of_block HX.out 3
          have f4 := frozen_of_block HX.out 4
          have f5 := frozen_of_block HX.out 5
          have f6 := frozen_of_block HX.out 6
          go_wp2
          have mm := prog_mods wm X (.int .i64 (makeP g p l).memory) (.int .i64 (makeP g p l).counters) (.int .i64 (makeP g p l).ins) (.int .i64 (makeP g p l).outs) (.slice ap (makeP g p l).parts.length cp) (.slice al (makeP g p l).lines.length cl) (.slice ao2 (makeP g p l).ops.length co)
          go_meet
          case rel => exact ⟨X, rfl, rfl, ⟨HT.out.below.trans (mm.below HT.out.size (fun k hk e => by have := HXW.out; omega)), Nat.le_trans HT.out.size mm.size⟩, block_mods HGB.out mm (by have := HXW.out; omega), block_mods HPB.out mm (by have := HXW.out; omega), _, _, _, _, _, _, prog_set HX.out _ _ _ _ _ _ _, HPF.out _ (mm.mono (fun k _ e => by subst e; exact HXL.out))⟩
      · skip
        simp only [pickOps, List.flatMap_cons, List.flatMap_nil, List.drop_succ_cons, List.drop_zero, List.take_succ_cons, List.take_zero, List.append_nil]
        have hb := below_alloc wc (.cells progZ 39)
        have hx := heap_alloc_new wc (.cells progZ 39)
        have hxw := block_lt HPB.out
        go_wp2
        replace HT := Lib.hid (HT.out.step hb)
        replace HGB := Lib.hid ((hb.block _ (block_lt HGB.out)).trans HGB.out)
        replace HPB := Lib.hid ((hb.block _ (block_lt HPB.out)).trans HPB.out)
        try replace HGL := Lib.hid (HGL.out.below hb)
        try replace HPL := Lib.hid (HPL.out.below hb)
        try replace HNL := Lib.hid (nestD_below D HNL.out hb)
        try replace HX := Lib.hid ((hb.block _ (block_lt HX.out)).trans HX.out)
        have HX := Lib.hid hx
        have HXW : Hid (w.heap.size + 1 < wc.heap.size) := Lib.hid hxw
        clear hb hx hxw
        refine ⟨fun _ _ => ⟨cells_row _ _ HGB.out 0 _ rfl, cells_row _ _ HGB.out 1 _ rfl, cells_row _ _ HGB.out 2 _ rfl, cells_row _ _ HGB.out 3 _ rfl, cells_row _ _ HGB.out 4 _ rfl, cells_row _ _ HPB.out 0 _ rfl, cells_row _ _ HPB.out 1 _ rfl⟩, ?_⟩
        obtain ⟨wd, hwd⟩ : ∃ x, wc.alloc (.cells progZ 39) = x := ⟨_, rfl⟩
        rw [hwd] at HT HGB HPB HX ⊢
        try rw [hwd] at HGL
        try rw [hwd] at HPL
        try rw [hwd] at HNL
        clear hwd
        obtain ⟨X, hX⟩ : ∃ x, wc.heap.size = x := ⟨_, rfl⟩
        rw [hX] at HX HXW ⊢
        clear hX
        obtain ⟨wc, hwc⟩ : ∃ x, x = wd := ⟨_, rfl⟩
        subst hwc
        refine wpAnyT_one (i := 1) (by kernel_rfl) ?_
        simp only [pickOps, List.flatMap_cons, List.flatMap_nil, List.drop_succ_cons, List.drop_zero, List.take_succ_cons, List.take_zero, List.append_nil]
        go_wp2_with fail
        refine (lentgraph_any _ _ g (RG.out.below HT.out.below) HH.out.1 HPS.out HES.out).mono ?_
        rintro e wc ⟨vgl, rfl, hgl, hb⟩
        replace HT := Lib.hid (HT.out.step hb)
        replace HGB := Lib.hid ((hb.block _ (block_lt HGB.out)).trans HGB.out)
        replace HPB := Lib.hid ((hb.block _ (block_lt HPB.out)).trans HPB.out)
        try replace HGL := Lib.hid (HGL.out.below hb)
        try replace HPL := Lib.hid (HPL.out.below hb)
        try replace HNL := Lib.hid (nestD_below D HNL.out hb)
        try replace HX := Lib.hid ((hb.block _ (block_lt HX.out)).trans HX.out)
        have HGL := Lib.hid hgl
        clear hgl hb
        go_wp2_with fail
        refine ⟨fun _ _ => ⟨cells_row _ _ HGB.out 0 _ rfl, cells_row _ _ HGB.out 1 _ rfl, cells_row _ _ HGB.out 2 _ rfl, cells_row _ _ HGB.out 3 _ rfl, cells_row _ _ HGB.out 4 _ rfl, cells_row _ _ HPB.out 0 _ rfl, cells_row _ _ HPB.out 1 _ rfl⟩, ?_⟩
        refine wpAnyT_one (i := 3) (by kernel_rfl) ?_
        simp only [pickOps, List.flatMap_cons, List.flatMap_nil, List.drop_succ_cons, List.drop_zero, List.take_succ_cons, List.take_zero, List.append_nil]
        go_wp2_with fail
        refine (lentplan_any _ _ p (RP.out.below HT.out.below) (by have := HH.out; omega)).mono ?_
        rintro e wc ⟨vpl, rfl, hpl, hb⟩
        replace HT := Lib.hid (HT.out.step hb)
        replace HGB := Lib.hid ((hb.block _ (block_lt HGB.out)).trans HGB.out)
        replace HPB := Lib.hid ((hb.block _ (block_lt HPB.out)).trans HPB.out)
        try replace HGL := Lib.hid (HGL.out.below hb)
        try replace HPL := Lib.hid (HPL.out.below hb)
        try replace HNL := Lib.hid (nestD_below D HNL.out hb)
        try replace HX := Lib.hid ((hb.block _ (block_lt HX.out)).trans HX.out)
        have HPL := Lib.hid hpl
        clear hpl hb
        go_wp2_with fail
        refine ⟨fun _ _ => ⟨cells_row _ _ HGB.out 0 _ rfl, cells_row _ _ HGB.out 1 _ rfl, cells_row _ _ HGB.out 2 _ rfl, cells_row _ _ HGB.out 3 _ rfl, cells_row _ _ HGB.out 4 _ rfl, cells_row _ _ HPB.out 0 _ rfl, cells_row _ _ HPB.out 1 _ rfl⟩, ?_⟩
        refine wpAnyT_one (i := 5) (by kernel_rfl) ?_
        simp only [pickOps, List.flatMap_cons, List.flatMap_nil, List.drop_succ_cons, List.drop_zero, List.take_succ_cons, List.take_zero, List.append_nil]
        go_wp2_with fail
        refine (lentN_any D _ _ l (nestD_below D RN.out HT.out.below) HH.out.2.2).mono ?_
        rintro e wc ⟨vnl, rfl, hnl, hb⟩
        replace HT := Lib.hid (HT.out.step hb)
        replace HGB := Lib.hid ((hb.block _ (block_lt HGB.out)).trans HGB.out)
        replace HPB := Lib.hid ((hb.block _ (block_lt HPB.out)).trans HPB.out)
        try replace HGL := Lib.hid (HGL.out.below hb)
        try replace HPL := Lib.hid (HPL.out.below hb)
        try replace HNL := Lib.hid (nestD_below D HNL.out hb)
        try replace HX := Lib.hid ((hb.block _ (block_lt HX.out)).trans HX.out)
        have HNL := Lib.hid (hnl _ (Mods.refl _ _))
        clear hnl hb
        go_wp2_with fail
        refine ⟨fun _ _ => ⟨cells_row _ _ HGB.out 0 _ rfl, cells_row _ _ HGB.out 1 _ rfl, cells_row _ _ HGB.out 2 _ rfl, cells_row _ _ HGB.out 3 _ rfl, cells_row _ _ HGB.out 4 _ rfl, cells_row _ _ HPB.out 0 _ rfl, cells_row _ _ HPB.out 1 _ rfl⟩, ?_⟩
        refine wpAnyT_one (i := 6) (by kernel_rfl) ?_
        simp only [pickOps, List.flatMap_cons, List.flatMap_nil, List.drop_succ_cons, List.drop_zero, List.take_succ_cons, List.take_zero, List.append_nil]
        go_wp2_with fail
        try have HXL := Lib.hid (block_lt HX.out)
        refine (make_fresh D _ _ _ _ g p l HGL.out HPL.out HNL.out HGS.out HNS.out).mono ?_
        rintro e wm ⟨v4, rfl, hpf, hb⟩
        obtain ⟨vp, vl, vo, rfl, rp, rl, ro⟩ := hpf _ (Mods.refl _ _)
        obtain ⟨ap, cp, rfl⟩ := rp.slice
        obtain ⟨al, cl, rfl⟩ := rl.slice
        obtain ⟨ao2, co, rfl⟩ := ro.slice
        have HPF := Lib.hid hpf
        clear rp rl ro hpf HGL HPL HNL
        replace HT := Lib.hid (HT.out.step hb)
        replace HGB := Lib.hid ((hb.block _ (block_lt HGB.out)).trans HGB.out)
        replace HPB := Lib.hid ((hb.block _ (block_lt HPB.out)).trans HPB.out)
        try replace HGL := Lib.hid (HGL.out.below hb)
        try replace HPL := Lib.hid (HPL.out.below hb)
        try replace HNL := Lib.hid (nestD_below D HNL.out hb)
        try replace HX := Lib.hid ((hb.block _ (block_lt HX.out)).trans HX.out)
        clear hb
        go_wp2_with fail
        refine ⟨fun _ _ => ⟨cells_row _ _ HGB.out 0 _ rfl, cells_row _ _ HGB.out 1 _ rfl, cells_row _ _ HGB.out 2 _ rfl, cells_row _ _ HGB.out 3 _ rfl, cells_row _ _ HGB.out 4 _ rfl, cells_row _ _ HPB.out 0 _ rfl, cells_row _ _ HPB.out 1 _ rfl⟩, ?_⟩
        refine wpAnyT_later (r := [7, 8, 9]) (n := 2) hQ2 (by kernel_rfl) ⟨cells_row _ _ HGB.out 0 _ rfl, cells_row _ _ HGB.out 1 _ rfl, cells_row _ _ HGB.out 2 _ rfl, cells_row _ _ HGB.out 3 _ rfl, cells_row _ _ HGB.out 4 _ rfl, cells_row _ _ HPB.out 0 _ rfl, cells_row _ _ HPB.out 1 _ rfl⟩ ?_
        simp only [pickOps, List.flatMap_cons, List.flatMap_nil, List.drop_succ_cons, List.drop_zero, List.take_succ_cons, List.take_zero, List.cons_append, List.nil_append, List.append_nil]
        repeat (first
          | (refine wpReads_skip (by rfl) ?_; (try simp only [Act.put, List.setIfInBounds_toArray, List.set_cons_zero, List.set_cons_succ]))
          | (refine wpReads_cons ?_ (by rfl) (by rfl) ?_ ?_; rotate_left; (intro wz hz; (try dsimp only at hz); go_simp; try with_reducible rfl); (try simp only [Act.put, List.setIfInBounds_toArray, List.set_cons_zero, List.set_cons_succ]))
          | (refine wpReads_any ?_ (by rfl) ?_ ?_; rotate_left; (intro wz; go_simp; try with_reducible rfl); (try simp only [Act.put, List.setIfInBounds_toArray, List.set_cons_zero, List.set_cons_succ])))
        refine wpReads_nil ?_
        clear hQ2
        refine wpAnyT_list (ks := [11, 12]) (fun _ _ hx h => ⟨hx.cell h.1, hx.cell h.2.1, hx.cell h.2.2.1, hx.cell h.2.2.2.1, hx.cell h.2.2.2.2.1, hx.cell h.2.2.2.2.2.1, hx.cell h.2.2.2.2.2.2⟩) (by kernel_rfl) ?_
        simp only [pickOps, List.flatMap_cons, List.flatMap_nil, List.drop_succ_cons, List.drop_zero, List.take_succ_cons, List.take_zero, List.cons_append, List.nil_append, List.append_nil]
        have z0 := cells_row _ _ HX.out 0 _ rfl
        have z1 := cells_row _ _ HX.out 1 _ rfl
        have z2 := cells_row _ _ HX.out 2 _ rfl
        have z3 := cells_row _ _ HX.out 3 _ rfl
        have z4 := cells_row _ _ HX.out 4 _ rfl
        have z5 := cells_row _ _ HX.out 5 _ rfl
        have z6 := cells_row _ _ HX.out 6 _ rfl
        have f0 := frozen_of_block HX.out 0
        have f1 := frozen_of_block HX.out 1
        have f2 := frozen_of_block HX.out 2
        have f3 := frozen_of_block HX.out 3
        have f4 := frozen_of_block HX.out 4
        have f5 := frozen_of_block HX.out 5
        have f6 := frozen_of_block HX.out 6
        go_wp2
        have mm := prog_mods wm X (.int .i64 (makeP g p l).memory) (.int .i64 (makeP g p l).counters) (.int .i64 (makeP g p l).ins) (.int .i64 (makeP g p l).outs) (.slice ap (makeP g p l).parts.length cp) (.slice al (makeP g p l).lines.length cl) (.slice ao2 (makeP g p l).ops.length co)
        go_meet
        case rel => exact ⟨X, rfl, rfl, ⟨HT.out.below.trans (mm.below HT.out.size (fun k hk e => by have := HXW.out; omega)), Nat.le_trans HT.out.size mm.size⟩, block_mods HGB.out mm (by have := HXW.out; omega), block_mods HPB.out mm (by have := HXW.out; omega), _, _, _, _, _, _, prog_set HX.out _ _ _ _ _ _ _, HPF.out _ (mm.mono (fun k _ e => by subst e; exact HXL.out))⟩
    case rest =>
      obtain ⟨X, rfl, rfl, hT, hG, hPl, hP⟩ := hcut
      have HT := Lib.hid hT
      have HGB := Lib.hid hG
      have HPB := Lib.hid hPl
      have HP := Lib.hid hP
      clear hT hG hPl hP
      go_wp2_with fail
      refine (lentN_any D _ _ l (nestD_below D RN.out HT.out.below) HH.out.2.2).mono ?_
      rintro e wd ⟨vnl, rfl, hnl, hb⟩
      replace HT := Lib.hid (HT.out.step hb)
      replace HGB := Lib.hid ((hb.block _ (block_lt HGB.out)).trans HGB.out)
      replace HPB := Lib.hid ((hb.block _ (block_lt HPB.out)).trans HPB.out)
      replace HP := Lib.hid (HP.out.below hb)
      try replace HZB := Lib.hid ((hb.block _ (block_lt HZB.out)).trans HZB.out)
      have HNL := Lib.hid (hnl _ (Mods.refl _ _))
      clear hnl hb
      go_wp2_with fail
      refine (measure_any D _ _ l HNL.out HNS.out HH.out.2.2).mono ?_
      rintro e we ⟨rfl, hb, -⟩
      replace HT := Lib.hid (HT.out.step hb)
      replace HGB := Lib.hid ((hb.block _ (block_lt HGB.out)).trans HGB.out)
      replace HPB := Lib.hid ((hb.block _ (block_lt HPB.out)).trans HPB.out)
      replace HP := Lib.hid (HP.out.below hb)
      try replace HZB := Lib.hid ((hb.block _ (block_lt HZB.out)).trans HZB.out)
      clear hb HNL
      obtain ⟨zf, zh, zd, tt, hz, hzm⟩ := size_some l
      rw [hz]
      have HZM := Lib.hid hzm
      clear hz hzm
      obtain ⟨NE, hNE⟩ : ∃ x, nestCheckE l = x := ⟨_, rfl⟩
      rw [hNE] at HZM ⊢
      have HNE := Lib.hid hNE
      obtain ⟨E, hE⟩ : ∃ x, makeE g p l = x := ⟨_, rfl⟩
      rw [hE]
      have hb := below_alloc we (.cells #[.int .i64 zf, .int .i64 zh, .int .i64 zd, .int .i64 tt] 82)
      have hzb := heap_alloc_new we (.cells #[.int .i64 zf, .int .i64 zh, .int .i64 zd, .int .i64 tt] 82)
      replace HT := Lib.hid (HT.out.step hb)
      replace HGB := Lib.hid ((hb.block _ (block_lt HGB.out)).trans HGB.out)
      replace HPB := Lib.hid ((hb.block _ (block_lt HPB.out)).trans HPB.out)
      replace HP := Lib.hid (HP.out.below hb)
      try replace HZB := Lib.hid ((hb.block _ (block_lt HZB.out)).trans HZB.out)
      have HZB := Lib.hid hzb
      obtain ⟨wf, hwf⟩ : ∃ x, we.alloc (.cells #[.int .i64 zf, .int .i64 zh, .int .i64 zd, .int .i64 tt] 82) = x := ⟨_, rfl⟩
      rw [hwf] at HT HGB HPB HP HZB
      clear hb hzb hNE
      by_cases h0 : E = 0
      · subst h0
        have HE := Lib.hid hE
        have hmp : makeP g p l = makeG g p l := by rw [makeP, if_pos hE]
        rw [hmp] at HP
        clear hmp hE
        have hne : NE = 0 := by rw [← HNE.out]; exact (make_facts HE.out).2.1
        subst hne
        obtain ⟨hm1, hm2⟩ := HZM.out rfl
        have hmo := made_ok HE.out HGS.out HPS.out
        rw [← hm1, ← hm2] at hmo
        obtain ⟨PP, hPP⟩ : ∃ x, makeG g p l = x := ⟨_, rfl⟩
        rw [hPP] at hmo HP
        have HMO := Lib.hid hmo
        clear hmo hm1 hm2 hPP HZM
        obtain ⟨cc, hcc⟩ : ∃ x, PP.counters = x := ⟨_, rfl⟩
        obtain ⟨ap, cp, al, cl, ao2, co, hX, hPG⟩ := HP.out
        rw [HMO.out.mem, HMO.out.ins, HMO.out.outs, HMO.out.parts, HMO.out.lines, hcc] at hX hPG
        have HX := Lib.hid hX
        have HPG := Lib.hid hPG
        have HCC : Hid (cc ≤ zh) := Lib.hid (by rw [← hcc]; exact HMO.out.cnt)
        clear hX hPG HP hcc
        have x0 := cells_row _ _ HX.out 0 _ rfl
        have x1 := cells_row _ _ HX.out 1 _ rfl
        have x2 := cells_row _ _ HX.out 2 _ rfl
        have x3 := cells_row _ _ HX.out 3 _ rfl
        have x4 := cells_row _ _ HX.out 4 _ rfl
        have x5 := cells_row _ _ HX.out 5 _ rfl
        have x6 := cells_row _ _ HX.out 6 _ rfl
        go_wp2_with fail
        clear hwf x0 x1 x2 x3 x4 x5 x6
        refine (ccheck_any _ _ PP HPG.out HMO.out.params).mono ?_
        rintro e wg ⟨rfl, hb⟩
        rw [HMO.out.check]
        replace HT := Lib.hid (HT.out.step hb)
        replace HGB := Lib.hid ((hb.block _ (block_lt HGB.out)).trans HGB.out)
        replace HPB := Lib.hid ((hb.block _ (block_lt HPB.out)).trans HPB.out)
        replace HZB := Lib.hid ((hb.block _ (block_lt HZB.out)).trans HZB.out)
        replace HX := Lib.hid ((hb.block _ (block_lt HX.out)).trans HX.out)
        replace HPG := Lib.hid (HPG.out.below hb)
        clear hb
        have x0 := cells_row _ _ HX.out 0 _ rfl
        have x2 := cells_row _ _ HX.out 2 _ rfl
        have x3 := cells_row _ _ HX.out 3 _ rfl
        have x4 := cells_row _ _ HX.out 4 _ rfl
        have x5 := cells_row _ _ HX.out 5 _ rfl
        have g1 := cells_row _ _ HGB.out 1 _ rfl
        have g2 := cells_row _ _ HGB.out 2 _ rfl
        have g3 := cells_row _ _ HGB.out 3 _ rfl
        have g4 := cells_row _ _ HGB.out 4 _ rfl
        have p1 := cells_row _ _ HPB.out 1 _ rfl
        have n1 : (p.total != p.total) = false := by simp
        have n2 : ((g.edges.length : Int) != (g.edges.length : Int)) = false := by simp
        have n3 : ((g.actors.length : Int) != (g.actors.length : Int)) = false := by simp
        have n4 : ((g.ins.length : Int) != (g.ins.length : Int)) = false := by simp
        have n5 : ((g.outs.length : Int) != (g.outs.length : Int)) = false := by simp
        go_wp2_with fail
        clear x0 x2 x3 x4 x5 g1 g2 g3 g4 p1 n1 n2 n3 n4 n5
        go_loopw [11] (fun i wr => ∃ j : Nat, j ≤ g.edges.length ∧ i = .int .i64 j ∧ Then wg wr) (fun i _ => g.edges.length - (intOf i).toNat)
        case atStart => exact ⟨0, Nat.zero_le _, rfl, Then.refl _⟩
        case round =>
          obtain ⟨j, hj, rfl, hT9⟩ := hrel
          have HT9 := Lib.hid hT9
          have HXj := Lib.hid ((hT9.below.block _ (block_lt HX.out)).trans HX.out)
          clear hT9
          have x5 := cells_row _ _ HXj.out 5 _ rfl
          by_cases hlt : j < g.edges.length
          · have hlti : (j : Int) < g.edges.length := by omega
            have HTW := Lib.hid (HT.out.step HT9.out.below)
            have hjr : j < p.regions.length := by rw [HMO.out.regions]; omega
            have hjl : j < PP.lines.length := by rw [HMO.out.lines]; omega
            obtain ⟨bl, ol, rfl, hcl, -, hrl⟩ := (HPG.out.lines.below (tail_steady _ _) HT9.out.below).at (by omega)
            obtain ⟨cl1, -, hPL, hll⟩ := hrl j hjl
            obtain ⟨yl, rfl, hsl⟩ := hPL
            rw [HMO.out.line j hlt hjr hjl] at hll hsl
            have l0 := hll 0 (by omega)
            have l1 := hll 1 (by omega)
            have l2 := hll 2 (by omega)
            obtain ⟨be, oe, rfl, hce, -, hre⟩ := (RE.out.below edge_steady HTW.out.below).at (by omega)
            obtain ⟨ce1, -, hPE, hle⟩ := hre j hlt
            obtain ⟨ye, rfl, hse⟩ := hPE
            have e4 := hle 4 (by omega)
            obtain ⟨br, orr, rfl, hcr, -, hrr⟩ := (RR.out.below region_steady HTW.out.below).at (by omega)
            obtain ⟨cr1, -, hPRr, hlr⟩ := hrr j hjr
            obtain rfl := hPRr
            have r0 := hlr 0 (by omega)
            have r1 := hlr 1 (by omega)
            simp [lineHd] at l0 l1 l2 e4 r0 r1
            have hcli : (g.edges.length : Int) ≤ cl := by have := HMO.out.lines; omega
            have hcei : (g.edges.length : Int) ≤ ec := by omega
            have hcri : (p.regions.length : Int) ≤ rc := by omega
            have hjri : (j : Int) < p.regions.length := by omega
            have HST := Lib.hid (HES.out _ (List.getElem_mem hlt))
            have HSL := Lib.hid hsl
            have HSE := Lib.hid hse
            have g2 := cell_later HT9.out.below (cells_row _ _ HGB.out 2 _ rfl)
            have p0 := cell_later HT9.out.below (cells_row _ _ HPB.out 0 _ rfl)
            clear hsl hse hll hle hlr hrl hre hrr hcl hce hcr
            generalize p.regions[j].base = rb at *
            generalize p.regions[j].size = rs at *
            dsimp only at HSL
            generalize g.edges[j].start = st at *
            clear hjr hjl
            go_wp2_with fail
            refine wp_region_soft (fun w' => Then wr w' ∧ w'.cell? ⟨X, 5, none⟩ = some (.slice (some ⟨bl, ol, none⟩) g.edges.length cl) ∧ w'.cell? ⟨w.heap.size, 2, none⟩ = some (.slice (some ⟨be, oe, none⟩) g.edges.length ec) ∧ w'.cell? ⟨w.heap.size + 1, 0, none⟩ = some (.slice (some ⟨br, orr, none⟩) p.regions.length rc) ∧ w'.cell? ⟨bl, ol + j * 3, none⟩ = some (.int .i64 rb) ∧ w'.cell? ⟨bl, ol + j * 3 + 1, none⟩ = some (.int .i64 rs) ∧ w'.cell? ⟨bl, ol + j * 3 + 2, none⟩ = some yl ∧ w'.cell? ⟨be, oe + j * 5 + 4, none⟩ = some ye ∧ w'.cell? ⟨br, orr + j * 2, none⟩ = some (.int .i64 rb) ∧ w'.cell? ⟨br, orr + j * 2 + 1, none⟩ = some (.int .i64 rs)) [0, 1, 2, 3, 4, 5, 6, 7, 8, 9, 10, 11, 12, 13, 14, 15, 16, 17, 18, 19, 20, 21, 22, 23, 24, 25, 26, 27] [] (by kernel_rfl) (by kernel_rfl) rfl ⟨(Then.refl wr).step (below_dr (n := 1) (Below.refl _ _)), x5, g2, p0, l0, l1, l2, e4, r0, r1⟩ ?_
            simp only [pickOps, List.flatMap_cons, List.flatMap_nil, List.drop_succ_cons, List.drop_zero, List.take_succ_cons, List.take_zero, List.cons_append, List.nil_append, List.append_nil]
            repeat (first
              | (refine wpHead_skip (by rfl) ?_; (try simp only [Act.put, List.setIfInBounds_toArray, List.set_cons_zero, List.set_cons_succ]))
              | (refine wpHead_val ?_ (by rfl) ?_ ?_; rotate_left; (intro wz hz; (try dsimp only at hz); (first | (go_simp; done) | (go_simp; with_reducible rfl))); (try simp only [Act.put, List.setIfInBounds_toArray, List.set_cons_zero, List.set_cons_succ])))
            refine wpHead_call (.bool true) 31 #[yl, ye] (by rfl) (fun wz => by go_simp) (fun wz hz => ?_) ?_
            · obtain ⟨hz1, hz2⟩ := hz
              refine (sameints_any (o := fun _ => 0) (c := 0) (o2 := fun _ => 0) (c2 := 0) (HSL.out.below hz1.below) (HSE.out.below hz1.below) (Nat.le_trans HST.out (by decide))).mono ?_
              rintro e wy ⟨rfl, m, rfl⟩
              exact ⟨by rw [decide_eq_true rfl], hz1.step (below_dr (Below.refl _ _)), hz2⟩
            simp only [Act.put, List.setIfInBounds_toArray, List.set_cons_zero, List.set_cons_succ]
            repeat (first
              | (refine wpHead_skip (by rfl) ?_; (try simp only [Act.put, List.setIfInBounds_toArray, List.set_cons_zero, List.set_cons_succ]))
              | (refine wpHead_val ?_ (by rfl) ?_ ?_; rotate_left; (intro wz hz; (try dsimp only at hz); (first | (go_simp; done) | (go_simp; with_reducible rfl))); (try simp only [Act.put, List.setIfInBounds_toArray, List.set_cons_zero, List.set_cons_succ])))
            refine wpHead_nil ?_
            intro w' hS
            have HS9 := Lib.hid (HT9.out.step hS.1.below)
            have hel : g.edges.length ≤ 1048576 := by have := HH.out.1; unfold headN at this; omega
            clear hS
            go_wp2
            go_roundw
            case rel => exact ⟨j + 1, hlt, by go_num, HS9.out⟩
            case measure => simp [intOf]; omega
          · obtain rfl : g.edges.length = j := by omega
            have HZj := Lib.hid ((HT9.out.below.block _ (block_lt HZB.out)).trans HZB.out)
            have HPGj := Lib.hid (HPG.out.below HT9.out.below)
            have HTW := Lib.hid (HT.out.step HT9.out.below)
            have x0 := cells_row _ _ HXj.out 0 _ rfl
            have x1 := cells_row _ _ HXj.out 1 _ rfl
            have x2 := cells_row _ _ HXj.out 2 _ rfl
            have x3 := cells_row _ _ HXj.out 3 _ rfl
            have x4 := cells_row _ _ HXj.out 4 _ rfl
            have x6 := cells_row _ _ HXj.out 6 _ rfl
            have z0 := cells_row _ _ HZj.out 0 _ rfl
            have z1 := cells_row _ _ HZj.out 1 _ rfl
            have hcz := HCC.out
            obtain ⟨Z, hZ⟩ : ∃ x, we.heap.size = x := ⟨_, rfl⟩
            go_wp2_with fail
            rw [hZ] at z0 z1
            refine wp_region_soft (fun w' => Then wr w' ∧ w'.cell? ⟨X, 0, none⟩ = some (.int .i64 p.total) ∧ w'.cell? ⟨X, 1, none⟩ = some (.int .i64 cc) ∧ w'.cell? ⟨X, 2, none⟩ = some (.int .i64 g.ins.length) ∧ w'.cell? ⟨X, 3, none⟩ = some (.int .i64 g.outs.length) ∧ w'.cell? ⟨X, 4, none⟩ = some (.slice ap g.actors.length cp) ∧ w'.cell? ⟨X, 5, none⟩ = some (.slice al g.edges.length cl) ∧ w'.cell? ⟨X, 6, none⟩ = some (.slice ao2 PP.ops.length co) ∧ w'.cell? ⟨Z, 0, none⟩ = some (.int .i64 zf) ∧ w'.cell? ⟨Z, 1, none⟩ = some (.int .i64 zh)) [0, 1, 2, 3, 4, 5, 6, 7, 8, 9, 10, 11, 12, 13, 14, 15, 16, 17, 18, 19, 20, 21, 22, 23, 24, 25, 26, 27, 28, 29, 30, 31, 32, 33, 34] [] (by kernel_rfl) (by kernel_rfl) rfl ⟨(Then.refl wr).step (below_dr (n := 1) (Below.refl _ _)), x0, x1, x2, x3, x4, x5, x6, z0, z1⟩ ?_
            simp only [pickOps, List.flatMap_cons, List.flatMap_nil, List.drop_succ_cons, List.drop_zero, List.take_succ_cons, List.take_zero, List.cons_append, List.nil_append, List.append_nil]
            repeat (first
              | (refine wpHead_skip (by rfl) ?_; (try simp only [Act.put, List.setIfInBounds_toArray, List.set_cons_zero, List.set_cons_succ]))
              | (refine wpHead_val ?_ (by rfl) ?_ ?_; rotate_left; (intro wz hz; (try dsimp only at hz); (first | (go_simp; done) | (go_simp; with_reducible rfl))); (try simp only [Act.put, List.setIfInBounds_toArray, List.set_cons_zero, List.set_cons_succ])))
            refine wpHead_call (.bool true) 19 #[] (by rfl) (fun wz => by go_simp) (fun wz hz => ?_) ?_
            · obtain ⟨hz1, -⟩ := hz
              refine (awake_yes _).mono ?_
              rintro e wy ⟨rfl, hb⟩
              have ht := hz1.step hb
              exact ⟨rfl, ht, cell_later ht.below x0, cell_later ht.below x1, cell_later ht.below x2, cell_later ht.below x3, cell_later ht.below x4, cell_later ht.below x5, cell_later ht.below x6, cell_later ht.below z0, cell_later ht.below z1⟩
            simp only [Act.put, List.setIfInBounds_toArray, List.set_cons_zero, List.set_cons_succ]
            repeat (first
              | (refine wpHead_skip (by rfl) ?_; (try simp only [Act.put, List.setIfInBounds_toArray, List.set_cons_zero, List.set_cons_succ]))
              | (refine wpHead_val ?_ (by rfl) ?_ ?_; rotate_left; (intro wz hz; (try dsimp only at hz); (first | (go_simp; done) | (go_simp; with_reducible rfl))); (try simp only [Act.put, List.setIfInBounds_toArray, List.set_cons_zero, List.set_cons_succ])))
            refine wpHead_call (.int .i64 zf) 30 #[(.agg #[.int .i64 p.total, .int .i64 cc, .int .i64 g.ins.length, .int .i64 g.outs.length, .slice ap g.actors.length cp, .slice al g.edges.length cl, .slice ao2 PP.ops.length co]), .int .u8 5] (by rfl) (fun wz => by go_simp) (fun wz hz => ?_) ?_
            · obtain ⟨hz1, -⟩ := hz
              refine (kinds_any _ _ PP 5 (HPGj.out.below hz1.below) HMO.out.ops).mono ?_
              rintro e wy ⟨rfl, hb⟩
              have ht := hz1.step hb
              exact ⟨by rw [HMO.out.calls], ht, cell_later ht.below x0, cell_later ht.below x1, cell_later ht.below x2, cell_later ht.below x3, cell_later ht.below x4, cell_later ht.below x5, cell_later ht.below x6, cell_later ht.below z0, cell_later ht.below z1⟩
            simp only [Act.put, List.setIfInBounds_toArray, List.set_cons_zero, List.set_cons_succ]
            repeat (first
              | (refine wpHead_skip (by rfl) ?_; (try simp only [Act.put, List.setIfInBounds_toArray, List.set_cons_zero, List.set_cons_succ]))
              | (refine wpHead_val ?_ (by rfl) ?_ ?_; rotate_left; (intro wz hz; (try dsimp only at hz); (first | (go_simp; done) | (go_simp; with_reducible rfl))); (try simp only [Act.put, List.setIfInBounds_toArray, List.set_cons_zero, List.set_cons_succ])))
            refine wpHead_call (.int .i64 zh) 30 #[(.agg #[.int .i64 p.total, .int .i64 cc, .int .i64 g.ins.length, .int .i64 g.outs.length, .slice ap g.actors.length cp, .slice al g.edges.length cl, .slice ao2 PP.ops.length co]), .int .u8 1] (by rfl) (fun wz => by go_simp) (fun wz hz => ?_) ?_
            · obtain ⟨hz1, -⟩ := hz
              refine (kinds_any _ _ PP 1 (HPGj.out.below hz1.below) HMO.out.ops).mono ?_
              rintro e wy ⟨rfl, hb⟩
              have ht := hz1.step hb
              exact ⟨by rw [HMO.out.heads], ht, cell_later ht.below x0, cell_later ht.below x1, cell_later ht.below x2, cell_later ht.below x3, cell_later ht.below x4, cell_later ht.below x5, cell_later ht.below x6, cell_later ht.below z0, cell_later ht.below z1⟩
            simp only [Act.put, List.setIfInBounds_toArray, List.set_cons_zero, List.set_cons_succ]
            repeat (first
              | (refine wpHead_skip (by rfl) ?_; (try simp only [Act.put, List.setIfInBounds_toArray, List.set_cons_zero, List.set_cons_succ]))
              | (refine wpHead_val ?_ (by rfl) ?_ ?_; rotate_left; (intro wz hz; (try dsimp only at hz); (first | (go_simp; done) | (go_simp; with_reducible rfl))); (try simp only [Act.put, List.setIfInBounds_toArray, List.set_cons_zero, List.set_cons_succ])))
            refine wpHead_call (.int .i64 zh) 30 #[(.agg #[.int .i64 p.total, .int .i64 cc, .int .i64 g.ins.length, .int .i64 g.outs.length, .slice ap g.actors.length cp, .slice al g.edges.length cl, .slice ao2 PP.ops.length co]), .int .u8 2] (by rfl) (fun wz => by go_simp) (fun wz hz => ?_) ?_
            · obtain ⟨hz1, -⟩ := hz
              refine (kinds_any _ _ PP 2 (HPGj.out.below hz1.below) HMO.out.ops).mono ?_
              rintro e wy ⟨rfl, hb⟩
              have ht := hz1.step hb
              exact ⟨by rw [HMO.out.backs], ht, cell_later ht.below x0, cell_later ht.below x1, cell_later ht.below x2, cell_later ht.below x3, cell_later ht.below x4, cell_later ht.below x5, cell_later ht.below x6, cell_later ht.below z0, cell_later ht.below z1⟩
            simp only [Act.put, List.setIfInBounds_toArray, List.set_cons_zero, List.set_cons_succ]
            repeat (first
              | (refine wpHead_skip (by rfl) ?_; (try simp only [Act.put, List.setIfInBounds_toArray, List.set_cons_zero, List.set_cons_succ]))
              | (refine wpHead_val ?_ (by rfl) ?_ ?_; rotate_left; (intro wz hz; (try dsimp only at hz); (first | (go_simp; done) | (go_simp; with_reducible rfl))); (try simp only [Act.put, List.setIfInBounds_toArray, List.set_cons_zero, List.set_cons_succ])))
            refine wpHead_call (.int .i64 1) 30 #[(.agg #[.int .i64 p.total, .int .i64 cc, .int .i64 g.ins.length, .int .i64 g.outs.length, .slice ap g.actors.length cp, .slice al g.edges.length cl, .slice ao2 PP.ops.length co]), .int .u8 0] (by rfl) (fun wz => by go_simp) (fun wz hz => ?_) ?_
            · obtain ⟨hz1, -⟩ := hz
              refine (kinds_any _ _ PP 0 (HPGj.out.below hz1.below) HMO.out.ops).mono ?_
              rintro e wy ⟨rfl, hb⟩
              have ht := hz1.step hb
              exact ⟨by rw [HMO.out.ends]; rfl, ht, cell_later ht.below x0, cell_later ht.below x1, cell_later ht.below x2, cell_later ht.below x3, cell_later ht.below x4, cell_later ht.below x5, cell_later ht.below x6, cell_later ht.below z0, cell_later ht.below z1⟩
            simp only [Act.put, List.setIfInBounds_toArray, List.set_cons_zero, List.set_cons_succ]
            repeat (first
              | (refine wpHead_skip (by rfl) ?_; (try simp only [Act.put, List.setIfInBounds_toArray, List.set_cons_zero, List.set_cons_succ]))
              | (refine wpHead_val ?_ (by rfl) ?_ ?_; rotate_left; (intro wz hz; (try dsimp only at hz); (first | (go_simp; done) | (go_simp; with_reducible rfl))); (try simp only [Act.put, List.setIfInBounds_toArray, List.set_cons_zero, List.set_cons_succ])))
            refine wpHead_nil ?_
            intro w' hS
            have HS9 := Lib.hid (HTW.out.step hS.1.below)
            clear hS
            go_wp2
            go_ret
            exact ⟨by first | rfl | simp, HS9.out.below⟩
      · have hmp : makeP g p l = .zero := by rw [makeP, if_neg (by rw [hE]; exact h0)]
        rw [hmp] at HP
        clear hmp hE
        obtain ⟨ap, cp, al, cl, ao2, co, hX, -⟩ := HP.out
        have HX := Lib.hid hX
        clear hX HP
        go_wp2_with fail
        refine (awake_yes _).mono ?_
        rintro e w2 ⟨rfl, hb⟩
        replace HT := Lib.hid (HT.out.step hb)
        have hx2 := (hb.block _ (block_lt HX.out)).trans HX.out
        clear hb
        have x0 : World.cell? w2 _ = some (.int .i64 0) := cells_row _ _ hx2 0 _ rfl
        have x4 : World.cell? w2 _ = some (.slice ap 0 cp) := cells_row _ _ hx2 4 _ rfl
        have x5 : World.cell? w2 _ = some (.slice al 0 cl) := cells_row _ _ hx2 5 _ rfl
        have x6 : World.cell? w2 _ = some (.slice ao2 0 co) := cells_row _ _ hx2 6 _ rfl
        clear hx2
        go_wp2
        go_ret
        exact ⟨rfl, HT.out.below⟩
end Go.Proofs.Ytbmbfifempkhgaa

/- nest.own. -/
namespace Go.Proofs.Ytbmbfifempkhgaa
open Go.RowKit

def OwnNOk (D : Nat) : Prop := ∀ (w : World) (v : Value) (l : Nest), HasNestD D w v l → nodesN l ≤ 65536 → Calls Try.prog 91 #[v] w (LentNRet D w l)


set_option maxRecDepth 100000 in
set_option maxHeartbeats 2000000 in
theorem ownN_succ {D : Nat} (hrec0 : OwnNOk D) : OwnNOk (D + 1) := by
  intro w v l hv hs
  have hv' : Recs w 3 (fun w x cs => ∃ y, cs = [.int .i64 x.1, .int .i64 x.2.1, y] ∧ HasNestD D w y x.2.2) v l.items := hv
  obtain ⟨ao, cap, rfl⟩ := hv'.slice
  have HV := Lib.hid hv'
  have HS := Lib.hid hs
  have hll : l.items.length ≤ 65536 := by have := nodesN_items l; omega
  have HREC := Lib.hid hrec0
  have HK := Lib.hid (Kept.start w)
  have HT : Hid (TailN D w (fun _ => 0) (.slice none 0 0) []) := Lib.hid ⟨Own.nil _ _ _ _ _, fun _ h => by cases h⟩
  clear hv hv' hs hrec0
  go_enter Try.func91, Try.ntmps91
  go_wp2_with fail
  go_loopw [3, 8] (fun v i wl => ∃ (j : Nat) (q : Col) (ps : List (LItem × Value)), j ≤ l.items.length ∧ i = .int .i64 j ∧ Kept w.heap.size q w wl ∧ TailN D wl q v ps ∧ ps.map Prod.fst = l.items.take j) (fun _ i _ => l.items.length - (intOf i).toNat)
  case atStart => exact ⟨0, _, [], Nat.zero_le _, rfl, HK.out, HT.out, rfl⟩
  case round =>
    clear HK HT
    obtain ⟨j, q, ps, hj, rfl, hK, hT, hps⟩ := hrel
    have HK := Lib.hid hK
    have HT := Lib.hid hT
    have HPJ := Lib.hid hps
    obtain ⟨pa0, pc0, rfl⟩ := hT.own.slice
    have HPL : Hid (ps.length = j) := Lib.hid (by have := congrArg List.length hps; rw [List.length_map, List.length_take] at this; omega)
    clear hK hT hps
    by_cases hlt : j < l.items.length
    · have hlti : (j : Int) < l.items.length := by omega
      obtain ⟨b0, off, rfl, hcap, hb0, hrec⟩ := HV.out.at (by omega)
      obtain ⟨cs, hcs, hPR, hcl⟩ := hrec j hlt
      obtain ⟨y, rfl, hy⟩ := hPR
      have c0 := cell_later HK.out.below (hcl 0 (by omega))
      have c1 := cell_later HK.out.below (hcl 1 (by omega))
      have c2 := cell_later HK.out.below (hcl 2 (by omega))
      simp at c0 c1 c2
      have hcapi : (l.items.length : Int) ≤ cap := by omega
      have HTK : Hid (l.items.take (j + 1) = l.items.take j ++ [l.items[j]]) := Lib.hid (List.take_succ_eq_append_getElem hlt)
      have HY := Lib.hid hy
      have HSb : Hid (nodesN (l.items[j]).2.2 ≤ 65536) := Lib.hid (by have := nodesN_at _ (List.getElem_mem hlt); have := HS.out; omega)
      obtain ⟨ya, yc, hys⟩ := nestD_slice D hy
      subst hys
      obtain ⟨it, hit⟩ : ∃ x, l.items[j] = x := ⟨_, rfl⟩
      rw [hit] at HTK HSb HY c0 c1 c2
      clear hcl hcs hrec hy hit
      obtain ⟨t, nd, b⟩ := it
      dsimp only at HSb HY c0 c1 c2
      have hbX := below_alloc wr (.cells #[.int .i64 t, .int .i64 nd, .slice ya b.items.length yc] 51)
      have hX : Blk _ (ext q wr.heap.size 8) 8 _ _ _ := ⟨heap_alloc_new wr (.cells #[.int .i64 t, .int .i64 nd, .slice ya b.items.length yc] 51), ext_new (Nat.le_refl _)⟩
      have TX := Turn.of_below q 8 hbX
      have HK2 := Lib.hid (HK.out.turn TX (fun h => h))
      have HT2 := Lib.hid (HT.out.turn TX (fun h => h) (fun h => h))
      have HX2 := Lib.hid hX
      have x2 := hX.cell 2 _ rfl
      clear hbX hX TX HK HT
      go_wp2_with fail
      refine (HREC.out _ _ b (nestD_below D HY.out HK2.out.below) HSb.out).mono ?_
      rintro e w5 ⟨v5, rfl, hv5, hb5⟩
      have T5 := Turn.of_below (ext q wr.heap.size 8) 5 hb5
      have HH5 : Hid (Held D w5 (ext (ext q wr.heap.size 8) _ 5) v5 b) := Lib.hid fun q'' w'' T => hv5 w'' (T.mods.mono fun k hk f => by
        refine Classical.byContradiction fun h2 => f (ext_new (Nat.le_of_not_lt h2)))
      obtain ⟨m5, k5, hvs⟩ := nestD_slice D (HH5.out _ w5 (Turn.refl _ _ _))
      subst hvs
      have HK5 := Lib.hid (HK2.out.turn T5 (fun h => h))
      have HT5 := Lib.hid (HT2.out.turn T5 (fun h => h) (fun h => h))
      have hX5 := HX2.out.turn T5 (fun h => h)
      have v4 := hX5.cell 2 _ rfl
      have f4 := hX5.frozen 2
      obtain ⟨b6, T6⟩ := hX5.set 2 (.slice m5 b.items.length k5)
      have HK6 := Lib.hid (HK5.out.turn T6 (by decide))
      have HT6 := Lib.hid (HT5.out.turn T6 (by decide) (by decide))
      have HH6 := Lib.hid (HH5.out.turn T6 (by decide))
      have u0 := b6.cell 0 _ rfl
      have u1 := b6.cell 1 _ rfl
      have u2 := b6.cell 2 _ rfl
      clear hv5 hb5 T5 T6 b6 hX5 HX2 x2 c0 c1 c2 HK2 HT2 HK5 HT5 HH5
      go_wp2_with (at_builtin; refine stop_here ?_)
      refine go_on ?_
      clear v4 f4 u0 u1 u2
      obtain ⟨w6, hw6⟩ : ∃ x, w5.setCell ⟨wr.heap.size, 2, none⟩ (.slice m5 b.items.length k5) = x := ⟨_, rfl⟩
      obtain ⟨q6, hq6⟩ : ∃ x : Col, x = ext (ext q wr.heap.size 8) (wr.alloc (.cells #[.int .i64 t, .int .i64 nd, .slice ya b.items.length yc] 51)).heap.size 5 := ⟨_, rfl⟩
      rw [hw6, ← hq6] at HK6 HT6 HH6
      have hs6 : w6.heap.size = w5.heap.size := by rw [← hw6, size_setCell']
      rw [hw6]
      clear hw6 hq6
      obtain ⟨i0, hi, hz0, hz1, hz2⟩ := info_parts info_Loop
      refine wpList_app rfl _ _ 30 rfl 0 51 i0 _ 3 40 Try.underlying30 hi hz0 hz1 hz2 rfl (.slice pa0 ps.length pc0) ps.length _ rfl (HT6.out.own.1.alloc (.cells #[.int .i64 t, .int .i64 nd, .slice m5 b.items.length k5] 51)) (some ⟨w5.heap.size, 0, none⟩) 1 1 [.int .i64 t, .int .i64 nd, .slice m5 b.items.length k5] rfl rfl (fun h => by cases h) (by rw [← hs6]; exact news_alloc w6 [.int .i64 t, .int .i64 nd, .slice m5 b.items.length k5] 51) (by simp [Value.oneCell']) (by have := HPL.out; unfold maxLen; omega) (grow_ok (by have := HPL.out; omega)) (Nat.zero_le _) ?_
      intro v7 w7 k1 k20 _ k4
      have hm7 : Mods (fun b => (Value.slice pa0 ps.length pc0).ownBlock = some b) w6 w7 := ((Mods.refl _ w6).alloc _).grown k20 (fun b hb _ => hb)
      obtain ⟨T7, N7⟩ := HT6.out.grow (a := (t, nd, b)) (y := .slice m5 b.items.length k5) HH6.out k1 hm7 (k4.imp id (fun k4 b hb => by rw [k4] at hb; have := Option.some.inj hb; simp at this; omega))
      obtain ⟨sp7, cp7, rfl⟩ := owns_slice k1
      have HK7 := Lib.hid (HK6.out.turn T7 (by decide))
      have HT7 := Lib.hid N7
      have HPJ7 : Hid ((ps ++ [((t, nd, b), (.slice m5 b.items.length k5 : Value))]).map Prod.fst = l.items.take (j + 1)) := Lib.hid (by rw [HTK.out, ← HPJ.out]; simp)
      clear HPL T7 N7 k1 k20 k4 hm7 HK6 HT6 hs6
      go_wp2
      go_roundw
      case rel => exact ⟨j + 1, _, _, hlt, by go_num, HK7.out, HT7.out, HPJ7.out⟩
      case measure => simp [intOf]; omega
    · obtain rfl : l.items.length = j := by omega
      clear hj hlt
      have hPJ := HPJ.out
      rw [List.take_of_length_le (Nat.le_refl _)] at hPJ
      have HPJ := Lib.hid hPJ
      clear hPJ
      go_wp2
      go_ret
      refine ⟨_, rfl, fun w'' mm => ?_, HK.out.below⟩
      have T : Turn _ _ (fun x => x = 0) wr w'' := ⟨mm.mono (fun k hk f => HK.out.old k f), fun _ _ => rfl⟩
      have h1 := (HT.out.turn T (by decide) (by decide)).recs
      rw [HPJ.out] at h1
      exact h1
set_option maxRecDepth 100000 in
theorem ownN_zero : OwnNOk 0 := by
  intro w v l hv hs
  obtain ⟨rfl, ao, cap, rfl⟩ := hv
  go_enter Try.func91, Try.ntmps91
  go_wp2_with fail
  go_loopw [3, 8] (fun v i wl => v = .slice none 0 0 ∧ i = .int .i64 0 ∧ wl = w) (fun _ _ _ => 0)
  case atStart => exact ⟨rfl, rfl, rfl⟩
  case round =>
    obtain ⟨rfl, rfl, rfl⟩ := hrel
    go_wp2
    go_ret
    exact ⟨_, rfl, fun _ _ => ⟨rfl, _, _, rfl⟩, Below.refl _ _⟩
theorem ownN_any : ∀ D, OwnNOk D
  | 0 => ownN_zero
  | D + 1 => ownN_succ (ownN_any D)
end Go.Proofs.Ytbmbfifempkhgaa

/- nest.walk and nest.All: what a range over a nest's firings tells, whatever the loop's body does to blocks that are no loops. -/
namespace Go.Proofs.Ytbmbfifempkhgaa
open Go.RowKit Go.Shelf
attribute [local go_sem] Oper.semAt_some

theorem room_none {F : Fence} (hd : F.depth = none) (k : Nat) : F.room k := fun d h => by rw [hd] at h; cases h
theorem round_anyDepth {F : Fence} (hd : F.depth = none) {m m' : Nat} {P : Program} {l : Nat} {f : FuncId} {tmps : Array Value} {assign body : Code} {w : World} {R : Ending → World → Prop}
    (h : RoundIn F m P l f tmps assign body w R) : RoundIn F m' P l f tmps assign body w R := ⟨h.1, fun c cs _ => h.2 c cs (room_none hd _)⟩
theorem yield_anyDepth {F : Fence} (hd : F.depth = none) {m : Nat} (m' : Nat) {P : Program} {l : Nat} {args : Array Value} {W : World} {R : Ending → World → Prop} (h : YieldAt F m P l args W R) : YieldAt F m' P l args W R := by
  obtain ⟨fn, tmps, assign, body, hy, hR⟩ := h
  exact ⟨fn, tmps, assign, body, hy, round_anyDepth hd hR⟩

/-- the firings of a nest -/
def expandP : Nest → List Int
  | .nil => []
  | .cons t nd b r => (List.replicate t.toNat (if b.isNil then [nd] else expandP b)).flatten ++ expandP r
def innerP (x : LItem) : List Int := if x.2.2.isNil then [x.2.1] else expandP x.2.2
def repsP (x : LItem) (k : Nat) : List Int := (List.replicate k (innerP x)).flatten
def oneX (x : LItem) : List Int := repsP x x.1.toNat
theorem expandP_items : ∀ l : Nest, expandP l = l.items.flatMap oneX
  | .nil => rfl
  | .cons t nd b r => by
    rw [expandP, expandP_items r, Nest.items, List.flatMap_cons]
    rfl
theorem repsP_succ (x : LItem) (k : Nat) : repsP x (k + 1) = repsP x k ++ innerP x := by
  unfold repsP
  rw [List.replicate_succ', List.flatten_append, List.flatten_cons, List.flatten_nil, List.append_nil]
theorem repsP_len (x : LItem) (k : Nat) : (repsP x k).length = k * (innerP x).length := by
  unfold repsP
  rw [List.length_flatten, List.map_replicate, List.sum_replicate_nat]
theorem repsP_prefix (x : LItem) {k m : Nat} (h : k ≤ m) : repsP x k <+: repsP x m := by
  obtain ⟨d, rfl⟩ := Nat.exists_eq_add_of_le h
  refine ⟨repsP x d, ?_⟩
  unfold repsP
  rw [← List.flatten_append, List.replicate_append_replicate]
/-- the firings ahead of item j, and k times it -/
def aheadP (l : List LItem) (j : Nat) : List Int := (l.take j).flatMap oneX
theorem aheadP_succ (l : List LItem) (j : Nat) (h : j < l.length) : aheadP l (j + 1) = aheadP l j ++ oneX l[j] := by
  unfold aheadP
  rw [List.take_succ_eq_append_getElem h, List.flatMap_append, List.flatMap_cons, List.flatMap_nil, List.append_nil]
theorem aheadP_prefix (l : List LItem) (j : Nat) : aheadP l j <+: l.flatMap oneX := by
  refine ⟨(l.drop j).flatMap oneX, ?_⟩
  unfold aheadP
  rw [← List.flatMap_append, List.take_append_drop]
theorem mid_prefix (l : List LItem) (j : Nat) (h : j < l.length) {k : Nat} (hk : k + 1 ≤ l[j].1.toNat) {q : List Int} (hq : q <+: innerP l[j]) : aheadP l j ++ repsP l[j] k ++ q <+: l.flatMap oneX := by
  refine List.IsPrefix.trans ?_ (aheadP_prefix l (j + 1))
  rw [aheadP_succ l j h, List.append_assoc]
  refine (List.prefix_append_right_inj _).2 ?_
  refine List.IsPrefix.trans ?_ (repsP_prefix l[j] hk)
  rw [repsP_succ]
  exact (List.prefix_append_right_inj _).2 hq

/-- what a round of the loop keeps: the nest's own blocks (B1 to B2), and every block that holds a loop -/
structure KpL (B1 B2 : Nat) (A C : World) : Prop where
  os : C.os = A.os
  tape : C.tape = A.tape
  output : C.output = A.output
  size : A.heap.size ≤ C.heap.size
  own : ∀ k, B1 ≤ k → k < B2 → k < A.heap.size → C.heap[k]? = A.heap[k]?
  loops : ∀ (k : Nat) (cs : Array Value) (fr : Nat × Nat), A.heap[k]? = some (Obj.cells cs 51 fr) → C.heap[k]? = A.heap[k]?
theorem KpL.refl (B1 B2 : Nat) (A : World) : KpL B1 B2 A A := ⟨rfl, rfl, rfl, Nat.le_refl _, fun _ _ _ _ => rfl, fun _ _ _ _ => rfl⟩
theorem KpL.trans {B1 B2 : Nat} {A B C : World} (h : KpL B1 B2 A B) (k : KpL B1 B2 B C) : KpL B1 B2 A C :=
  ⟨k.os.trans h.os, k.tape.trans h.tape, k.output.trans h.output, Nat.le_trans h.size k.size,
    fun i h1 h2 h3 => (k.own i h1 h2 (Nat.lt_of_lt_of_le h3 h.size)).trans (h.own i h1 h2 h3),
    fun i cs fr hi => (k.loops i cs fr ((h.loops i cs fr hi).trans hi)).trans (h.loops i cs fr hi)⟩
theorem KpL.mods {B1 B2 : Nat} {A C : World} (h : KpL B1 B2 A C) : Mods (fun k => k < B1 ∨ B2 ≤ k) A C :=
  ⟨h.os, h.tape, h.output, h.size, fun k hk hf => h.own k (by omega) (by omega) hk⟩
theorem KpL.grown {B1 B2 : Nat} {A C : World} {row : Option Nat} (h : A.grownBy C row) (hr : ∀ r, row = some r → (r < B1 ∨ B2 ≤ r) ∧ ∀ (cs : Array Value) (fr : Nat × Nat), A.heap[r]? ≠ some (Obj.cells cs 51 fr)) : KpL B1 B2 A C :=
  ⟨h.os, h.tape, h.output, h.size, fun k h1 h2 h3 => h.block k h3 (fun e => by have := (hr k e.symm).1; omega),
    fun k cs fr hk => h.block k (block_lt hk) (fun e => (hr k e.symm).2 cs fr hk)⟩
theorem KpL.alloc {B1 B2 : Nat} (A : World) (o : Obj) : KpL B1 B2 A (A.alloc o) := KpL.grown (World.grownBy_alloc A o none) (fun _ e => by cases e)
theorem KpL.putObj {B1 B2 : Nat} (W : World) (l : Nat) (o o' : Obj) (hl : B2 ≤ l) (h : W.heap[l]? = some o) (ho : o.isCells = false) : KpL B1 B2 W (W.putObj l o') :=
  KpL.grown (grownBy_putObj' W l o') (fun r e => by
    cases e
    exact ⟨.inr hl, fun cs fr hk => by rw [h] at hk; cases hk; simp [Obj.isCells] at ho⟩)
theorem KpL.cell {B1 B2 : Nat} {A C : World} (h : KpL B1 B2 A C) {k i : Nat} {cs : Array Value} {fr : Nat × Nat} {v : Value} (hk : A.heap[k]? = some (.cells cs 51 fr)) (hc : cs[i]? = some v) : C.cell? ⟨k, i, none⟩ = some v :=
  cells_row _ _ ((h.loops k cs fr hk).trans hk) i v hc

def WalkRet (B1 B2 : Nat) (J Jx : List Int → World → Prop) (pre : List Int) (l : Nest) (W : World) (e : Ending) (W' : World) : Prop :=
  (e = .returned (.bool true) ∧ J (pre ++ expandP l) W' ∧ KpL B1 B2 W W') ∨ (e = .returned (.bool false) ∧ ∃ q, q <+: expandP l ∧ Jx (pre ++ q) W')
def YieldOk (B1 B2 N lp : Nat) (J Jx : List Int → World → Prop) : Prop := ∀ m pre x W, J pre W → pre.length < N → YieldAt Fence.wide m Try.prog lp #[.int .i64 x] W fun e W' =>
  (e = .returned (.bool true) ∧ J (pre ++ [x]) W' ∧ KpL B1 B2 W W') ∨ (e = .returned (.bool false) ∧ Jx (pre ++ [x]) W')
def WalkOk (B1 B2 N lp : Nat) (J Jx : List Int → World → Prop) (D : Nat) : Prop := ∀ (n : Nat) (v : Value) (l : Nest) (pre : List Int) (W : World),
  (∀ W', KpL B1 B2 W W' → HasNestD D W' v l) → GoodT l → nodesN l ≤ 65536 → J pre W → pre.length + (expandP l).length ≤ N →
  CallsIn Fence.wide n Try.prog 93 #[v, .func (.yield lp) #[] #[]] W (WalkRet B1 B2 J Jx pre l W)
end Go.Proofs.Ytbmbfifempkhgaa

/- nest.walk, walked. -/
namespace Go.Proofs.Ytbmbfifempkhgaa
open Go.RowKit Go.Shelf
attribute [local go_sem] Oper.semAt_some

theorem goodT_at : ∀ {l : Nest}, GoodT l → ∀ x ∈ l.items, 1 ≤ x.1 ∧ x.1 ≤ 2048 ∧ GoodT x.2.2
  | .nil, _, x, hx => by simp [Nest.items] at hx
  | .cons _ _ _ _, h, x, hx => by
    simp only [Nest.items, List.mem_cons] at hx
    rcases hx with rfl | hx
    · exact ⟨h.1, h.2.1, h.2.2.1⟩
    · exact goodT_at h.2.2.2 x hx

/-- a block that can be read whatever a round does is kept -/
theorem kept_at {B1 B2 : Nat} {W : World} {b0 : Nat} (hlt : b0 < W.heap.size) (h : ∀ W', KpL B1 B2 W W' → ∃ i v, W'.cell? ⟨b0, i, none⟩ = some v) : ∀ W', KpL B1 B2 W W' → W'.heap[b0]? = W.heap[b0]? := by
  intro W' hk
  by_cases h1 : B1 ≤ b0 ∧ b0 < B2
  · exact hk.own b0 h1.1 h1.2 hlt
  by_cases h2 : ∃ cs fr, W.heap[b0]? = some (Obj.cells cs 51 fr)
  · obtain ⟨cs, fr, h2⟩ := h2
    exact hk.loops b0 cs fr h2
  · obtain ⟨i, v, hc⟩ := h (W.putObj b0 (.cells #[] 0 (0, 0))) (KpL.grown (grownBy_putObj' W b0 _) (fun r e => by
      cases e
      exact ⟨by omega, fun cs fr e2 => h2 ⟨cs, fr, e2⟩⟩))
    simp [World.cell?, World.putObj, hlt] at hc
/-- the body of a loop of a nest that stays -/
theorem held_at {B1 B2 D : Nat} {W : World} {v : Value} {l : Nest} (h : ∀ W', KpL B1 B2 W W' → HasNestD (D + 1) W' v l) {j : Nat} (hj : j < l.items.length) :
    ∃ b off cap y, v = .slice (some ⟨b, off, none⟩) l.items.length cap ∧ l.items.length ≤ cap ∧ W.cell? ⟨b, off + j * 3, none⟩ = some (.int .i64 (l.items[j]).1) ∧ W.cell? ⟨b, off + j * 3 + 1, none⟩ = some (.int .i64 (l.items[j]).2.1) ∧ W.cell? ⟨b, off + j * 3 + 2, none⟩ = some y ∧
      ∀ W', KpL B1 B2 W W' → HasNestD D W' y (l.items[j]).2.2 := by
  obtain ⟨ao, cap, rfl⟩ := nestD_slice (D + 1) (h W (KpL.refl _ _ _))
  obtain ⟨b0, off, hao, hcap, hb0, hrec⟩ := Recs.at (h W (KpL.refl _ _ _)) (by omega)
  subst hao
  obtain ⟨cs, hcs, hPR, hcl⟩ := hrec j hj
  obtain ⟨y, rfl, hy⟩ := hPR
  have c0 := hcl 0 (by omega)
  have c1 := hcl 1 (by omega)
  have c2 := hcl 2 (by omega)
  simp at c0 c1 c2
  refine ⟨_, _, _, y, rfl, hcap, c0, c1, c2, fun W' hk => ?_⟩
  obtain ⟨b1, off1, e1, -, -, hrec1⟩ := Recs.at (h W' hk) (by omega)
  obtain ⟨cs1, hcs1, hPR1, hcl1⟩ := hrec1 j hj
  obtain ⟨y1, rfl, hy1⟩ := hPR1
  have d2 := hcl1 2 (by omega)
  cases e1
  have hkeep := kept_at hb0 (fun W2 hk2 => by
    obtain ⟨b2, off2, e2, -, -, hrec2⟩ := Recs.at (h W2 hk2) (by omega)
    obtain ⟨cs2, hcs2, _, hcl2⟩ := hrec2 j hj
    cases e2
    exact ⟨_, _, hcl2 0 (by omega)⟩) W' hk
  have e3 := World.cell?_of_block (w := W) (w' := W') (a := ⟨b0, off + j * 3 + 2, none⟩) hkeep
  rw [e3, c2] at d2
  simp at d2
  subst d2
  exact hy1

set_option maxRecDepth 100000 in
set_option maxHeartbeats 2000000 in
theorem nwalk_zero (B1 B2 N lp : Nat) (J Jx : List Int → World → Prop) : WalkOk B1 B2 N lp J Jx 0 := by
  intro n v l pre W hv _ _ hJ _
  obtain ⟨rfl, ao, cap, rfl⟩ := hv W (KpL.refl _ _ _)
  have HJ := Lib.hid hJ
  clear hv hJ
  refine callsIn_of_wp Try.func93 rfl trivial ?_ rfl
  simp only [Try.ntmps93, List.size_toArray, List.length_cons, List.length_nil, Nat.reduceAdd, Nat.reduceSub, Array.replicate_succ, Array.replicate_zero, List.push_toArray, List.append_toArray, List.nil_append, List.cons_append]
  gi_wp2
  gi_loopw [9] (fun i wr => i = .int .i64 0 ∧ wr = W) (fun _ _ => 0)
  case atStart => exact ⟨rfl, rfl⟩
  case round =>
    obtain ⟨rfl, rfl⟩ := hrel
    gi_wp2
    go_ret
    exact .inl ⟨rfl, by simpa [expandP] using HJ.out, KpL.refl _ _ _⟩

set_option maxRecDepth 100000 in
set_option maxHeartbeats 4000000 in
theorem nwalk_succ (B1 B2 N lp B0 : Nat) (J Jx : List Int → World → Prop) (hJa : AbidesFrom B0 J) (hY : YieldOk B1 B2 N lp J Jx) {D : Nat} (ih : WalkOk B1 B2 N lp J Jx D) : WalkOk B1 B2 N lp J Jx (D + 1) := by
  intro n v l pre W hv hg hs hJ hN
  obtain ⟨ao, cap, rfl⟩ := nestD_slice (D + 1) (hv W (KpL.refl _ _ _))
  have HV := Lib.hid hv
  have HG := Lib.hid hg
  have HS := Lib.hid hs
  have HJ := Lib.hid hJ
  have HIH := Lib.hid ih
  have HY := Lib.hid hY
  have HA := Lib.hid hJa
  have hll : l.items.length ≤ 65536 := by have := nodesN_items l; omega
  rw [expandP_items] at hN
  have HN := Lib.hid hN
  clear hv hg hs hJ ih hY hJa hN
  refine callsIn_of_wp Try.func93 rfl trivial ?_ rfl
  simp only [Try.ntmps93, List.size_toArray, List.length_cons, List.length_nil, Nat.reduceAdd, Nat.reduceSub, Array.replicate_succ, Array.replicate_zero, List.push_toArray, List.append_toArray, List.nil_append, List.cons_append]
  gi_wp2
  gi_loopw [9] (fun i wr => ∃ j : Nat, j ≤ l.items.length ∧ i = .int .i64 j ∧ J (pre ++ aheadP l.items j) wr ∧ KpL B1 B2 W wr) (fun i _ => l.items.length - (intOf i).toNat)
  case atStart => exact ⟨0, Nat.zero_le _, rfl, by simpa [aheadP] using HJ.out, KpL.refl _ _ _⟩
  case round =>
    clear HJ
    obtain ⟨j, hj, rfl, hJ, hK⟩ := hrel
    have HJ := Lib.hid hJ
    have HK := Lib.hid hK
    clear hJ hK
    by_cases hlt : j < l.items.length
    · have hlti : (j : Int) < l.items.length := by omega
      have HVw : Hid (∀ W', KpL B1 B2 wr W' → HasNestD (D + 1) W' (.slice ao l.items.length cap) l) := Lib.hid fun W' h => HV.out W' (HK.out.trans h)
      obtain ⟨b0, off, cap1, y, hao, hcap, c0, c1, c2, hy⟩ := held_at HVw.out hlt
      cases hao
      have hcapi : (l.items.length : Int) ≤ cap := by omega
      obtain ⟨ya, yc, hys⟩ := nestD_slice D (hy wr (KpL.refl _ _ _))
      subst hys
      have HYb := Lib.hid hy
      have HGj := Lib.hid (goodT_at HG.out _ (List.getElem_mem hlt))
      have HSb : Hid (nodesN (l.items[j]).2.2 ≤ 65536) := Lib.hid (by have := nodesN_at _ (List.getElem_mem hlt); have := HS.out; omega)
      have HP1 := Lib.hid (aheadP_succ l.items j hlt)
      have HP2 : Hid (∀ k, k + 1 ≤ (l.items[j]).1.toNat → ∀ q, q <+: innerP l.items[j] → aheadP l.items j ++ repsP l.items[j] k ++ q <+: l.items.flatMap oneX) := Lib.hid fun k hk q hq => mid_prefix l.items j hlt hk hq
      clear hy
      obtain ⟨it, hit⟩ : ∃ x, l.items[j] = x := ⟨_, rfl⟩
      rw [hit] at HSb HYb HGj HP1 HP2 c0 c1 c2
      clear hit
      obtain ⟨t, nd, b⟩ := it
      dsimp only at HSb HYb HGj c0 c1 c2
      have hX := heap_alloc_new wr (.cells #[.int .i64 t, .int .i64 nd, .slice ya b.items.length yc] 51)
      have HX := Lib.hid hX
      have HJX : Hid (J (pre ++ aheadP l.items j) (wr.alloc (.cells #[.int .i64 t, .int .i64 nd, .slice ya b.items.length yc] 51))) := Lib.hid (HA.out _ _ _ none HJ.out (World.grownBy_alloc _ _ none) (fun _ e => by cases e))
      have HKX : Hid (KpL B1 B2 wr (wr.alloc (.cells #[.int .i64 t, .int .i64 nd, .slice ya b.items.length yc] 51))) := Lib.hid (KpL.alloc _ _)
      have hnil := isNil_len b
      have x0 := cells_row _ _ hX 0 _ rfl
      have ht1 := HGj.out.1
      have ht2 := HGj.out.2.1
      obtain ⟨m, hm⟩ : ∃ x, b.items.length = x := ⟨_, rfl⟩
      obtain ⟨t, rfl⟩ := Int.eq_ofNat_of_zero_le (show 0 ≤ t by omega)
      rw [hm] at HX HYb HJX HKX hnil c2 x0
      have HM := Lib.hid hm
      clear hX hm
      have htn : t ≤ 2048 := by omega
      clear ht1 ht2
      gi_wp2
      obtain ⟨W2, hW2⟩ : ∃ x, wr.alloc (.cells #[.int .i64 t, .int .i64 nd, .slice ya m yc] 51) = x := ⟨_, rfl⟩
      obtain ⟨X, hXs⟩ : ∃ x, wr.heap.size = x := ⟨_, rfl⟩
      rw [hW2] at HX HJX HKX x0 ⊢
      rw [hXs] at HX x0 ⊢
      have HW := Lib.hid hW2
      clear hW2 hXs c0 c1 c2 x0
      obtain ⟨wo, rfl⟩ : ∃ wo : World, wo = wr := ⟨_, rfl⟩
      gi_loopw [15] (fun i ws => ∃ k : Nat, k ≤ t ∧ i = .int .i64 k ∧ J (pre ++ aheadP l.items j ++ repsP (t, nd, b) k) ws ∧ KpL B1 B2 W2 ws) (fun i _ => t - (intOf i).toNat)
      case atStart => exact ⟨0, Nat.zero_le _, rfl, by simpa [repsP] using HJX.out, KpL.refl _ _ _⟩
      case round =>
        clear HJX
        obtain ⟨k, hk, rfl, hJ2, hK2⟩ := hrel
        have HJ2 := Lib.hid hJ2
        have HK2 := Lib.hid hK2
        have x1 := hK2.cell HX.out (i := 1) rfl
        have x2 := hK2.cell HX.out (i := 2) rfl
        clear hJ2 hK2
        by_cases hkt : k < t
        · have hkti : (k : Int) < t := by omega
          have HPL : Hid (pre.length + (aheadP l.items j ++ repsP (t, nd, b) k ++ innerP (t, nd, b)).length ≤ N) := Lib.hid (by
            have h1 := (HP2.out k (by show k + 1 ≤ (t : Int).toNat; omega) _ (List.prefix_rfl)).length_le
            have h2 := HN.out
            omega)
          have HPR : Hid (aheadP l.items j ++ repsP (t, nd, b) k ++ innerP (t, nd, b) = aheadP l.items j ++ repsP (t, nd, b) (k + 1)) := Lib.hid (by rw [repsP_succ, List.append_assoc])
          by_cases hz : m = 0
          · have hbn : innerP ((t : Int), nd, b) = [nd] := by
              unfold innerP
              rw [hnil, decide_eq_true hz, if_pos rfl]
            have HBN := Lib.hid hbn
            clear hnil hbn
            subst hz
            obtain ⟨fn, tmps, assign, body, hy, hR⟩ := HY.out (n - 1) _ nd wr HJ2.out (by have := HPL.out; rw [HBN.out] at this; simp at this; simp; omega)
            gi_wp2
            refine ⟨fun h => (by cases h), hR.mono ?_⟩
            rintro e W3 (⟨rfl, hJ3, hk3⟩ | ⟨rfl, hJx3⟩)
            · have hJ4 : J (pre ++ aheadP l.items j ++ repsP (t, nd, b) (k + 1)) W3 := by
                rw [List.append_assoc, ← HPR.out, HBN.out, ← List.append_assoc, ← List.append_assoc]
                exact hJ3
              have HJ4 := Lib.hid hJ4
              have HK4 := Lib.hid (HK2.out.trans hk3)
              clear hJ4 hJ3 hk3
              gi_wp2
              go_roundw
              case rel => exact ⟨k + 1, hkt, by go_num, HJ4.out, HK4.out⟩
              case measure => simp [intOf]; omega
            · have HX3 := Lib.hid hJx3
              clear hJx3
              gi_wp2
              go_ret
              exact .inr ⟨rfl, aheadP l.items j ++ repsP (t, nd, b) k ++ [nd], by rw [expandP_items]; exact HP2.out k (by show k + 1 ≤ (t : Int).toNat; omega) _ (by rw [HBN.out]; exact List.prefix_rfl), by rw [← List.append_assoc, ← List.append_assoc]; exact HX3.out⟩
          · have hzi : (0 : Int) < m := by omega
            have hbn : innerP ((t : Int), nd, b) = expandP b := by
              unfold innerP
              rw [hnil, decide_eq_false hz, if_neg (by simp)]
            have HBN := Lib.hid hbn
            clear hnil hbn
            gi_wp2_with fail
            refine ⟨trivial, fun h => (by cases h), (HIH.out (n - 1) _ b _ wr (fun W' h => HYb.out W' ((HKX.out.trans HK2.out).trans h)) HGj.out.2.2 HSb.out HJ2.out (by have := HPL.out; rw [HBN.out] at this; simp at this; simp; omega)).mono ?_⟩
            rintro e W3 (⟨rfl, hJ3, hk3⟩ | ⟨rfl, q, hq, hJx3⟩)
            · have hJ4 : J (pre ++ aheadP l.items j ++ repsP (t, nd, b) (k + 1)) W3 := by
                rw [List.append_assoc, ← HPR.out, HBN.out, ← List.append_assoc, ← List.append_assoc]
                exact hJ3
              have HJ4 := Lib.hid hJ4
              have HK4 := Lib.hid (HK2.out.trans hk3)
              clear hJ4 hJ3 hk3
              gi_wp2
              go_roundw
              case rel => exact ⟨k + 1, hkt, by go_num, HJ4.out, HK4.out⟩
              case measure => simp [intOf]; omega
            · have HX3 := Lib.hid hJx3
              have HQ := Lib.hid hq
              clear hJx3 hq
              gi_wp2
              go_ret
              exact .inr ⟨rfl, aheadP l.items j ++ repsP (t, nd, b) k ++ q, by rw [expandP_items]; exact HP2.out k (by show k + 1 ≤ (t : Int).toNat; omega) _ (by rw [HBN.out]; exact HQ.out), by rw [← List.append_assoc, ← List.append_assoc]; exact HX3.out⟩
        · obtain rfl : t = k := by omega
          have hpr : pre ++ aheadP l.items j ++ repsP (t, nd, b) t = pre ++ aheadP l.items (j + 1) := by
            rw [HP1.out]
            simp [oneX]
          have HPR := Lib.hid hpr
          clear hpr
          gi_wp2
          go_roundw
          case rel => exact ⟨j + 1, hlt, by go_num, by rw [← HPR.out]; exact HJ2.out, (HK.out.trans HKX.out).trans HK2.out⟩
          case measure => simp [intOf]; omega
    · obtain rfl : l.items.length = j := by omega
      have h1 : aheadP l.items l.items.length = expandP l := by rw [expandP_items, aheadP, List.take_length]
      have hJJ := HJ.out
      rw [h1] at hJJ
      have HJJ := Lib.hid hJJ
      clear hJJ h1
      gi_wp2
      go_ret
      exact .inl ⟨rfl, HJJ.out, HK.out⟩
end Go.Proofs.Ytbmbfifempkhgaa

/- nest.All and nest.Expand. -/
namespace Go.Proofs.Ytbmbfifempkhgaa
open Go.RowKit Go.Shelf
attribute [local go_sem] Oper.semAt_some

theorem nwalk_any (B1 B2 N lp B0 : Nat) (J Jx : List Int → World → Prop) (hJa : AbidesFrom B0 J) (hY : YieldOk B1 B2 N lp J Jx) : ∀ D, WalkOk B1 B2 N lp J Jx D
  | 0 => nwalk_zero B1 B2 N lp J Jx
  | D + 1 => nwalk_succ B1 B2 N lp B0 J Jx hJa hY (nwalk_any B1 B2 N lp B0 J Jx hJa hY D)

theorem KpL.of_below {B1 B2 : Nat} {A C : World} (h : Below A.heap.size A C) : KpL B1 B2 A C :=
  ⟨h.os, h.tape, h.output, h.size, fun k _ _ hk => h.block k hk, fun k _ _ hk => h.block k (block_lt hk)⟩

/-- a range over the nest in box Bx -/
structure NestSeq (D B1 B2 Bx : Nat) (w : World) (l : Nest) : Prop where
  box : ∃ v, w.cell? ⟨Bx, 0, none⟩ = some v ∧ ∀ W', KpL B1 B2 w W' → HasNestD D W' v l
  lt : Bx < w.heap.size
  good : GoodT l
  nodes : nodesN l ≤ 65536
theorem NestSeq.below {D B1 B2 Bx : Nat} {w w' : World} {l : Nest} (h : NestSeq D B1 B2 Bx w l) (hb : Below w.heap.size w w') : NestSeq D B1 B2 Bx w' l := by
  obtain ⟨v, h1, h2⟩ := h.box
  exact ⟨⟨v, cell_later hb h1, fun W' hk => h2 W' ((KpL.of_below hb).trans hk)⟩, Nat.lt_of_lt_of_le h.lt hb.size, h.good, h.nodes⟩

set_option maxRecDepth 100000 in
set_option maxHeartbeats 1000000 in
theorem all2_stops {D n B1 B2 Bx : Nat} {w : World} {l : Nest} (h : NestSeq D B1 B2 Bx w l) :
    SeqStopsK Fence.wide n Try.prog 92 #[.pointer (some ⟨Bx, 0, none⟩)] (fun x : Int => #[Value.int .i64 x]) (KpL B1 B2) (fun ys => ys = expandP l) (fun pre => pre <+: expandP l) (expandP l).length w := fun lp J Jx W hW hJ _ hY h0 => by
  obtain ⟨⟨v, hc, hn⟩, -, hg, hs⟩ := h.below hW
  have hp := nwalk_any B1 B2 (expandP l).length lp W.heap.size J Jx hJ (fun m pre x W1 hj hl => yield_anyDepth rfl m (hY pre x W1 hj hl)) D (n - 1) v l [] W hn hg hs h0 (by simp)
  have HP := Lib.hid hp
  clear hp hn hJ hY h0
  refine callsIn_of_wp Try.func92 rfl trivial ?_ rfl
  simp only [Try.ntmps92, List.size_toArray, List.length_cons, List.length_nil, Nat.reduceAdd, Nat.reduceSub, Array.replicate_succ, Array.replicate_zero, List.push_toArray, List.append_toArray, List.nil_append, List.cons_append]
  gi_wp2_with fail
  refine ⟨trivial, fun h => (by cases h), HP.out.mono ?_⟩
  rintro e W3 (⟨rfl, hJ3, -⟩ | ⟨rfl, q, hq, hJx⟩)
  · have H3 := Lib.hid hJ3
    clear hJ3
    gi_wp2
    refine bodyPost_end (results_none rfl _ _ _) rfl ?_
    exact ⟨⟨_, rfl⟩, .inl ⟨_, rfl, by simpa using H3.out⟩⟩
  · have H3 := Lib.hid hJx
    have HQ := Lib.hid hq
    clear hJx hq
    gi_wp2
    refine bodyPost_end (results_none rfl _ _ _) rfl ?_
    exact ⟨⟨_, rfl⟩, .inr ⟨q, HQ.out, by simpa using H3.out⟩⟩

def AllRet (D : Nat) (w : World) (l : Nest) (e : Ending) (w' : World) : Prop := ∃ B1 Bx, e = .returned (.func (.func 92) #[] #[.pointer (some ⟨Bx, 0, none⟩)]) ∧ w.heap.size ≤ B1 ∧ NestSeq D B1 w'.heap.size Bx w' l ∧ Below w.heap.size w w'
set_option maxRecDepth 100000 in
set_option maxHeartbeats 1000000 in
theorem nall_any (D : Nat) (w : World) (v : Value) (l : Nest) (hv : HasNestD D w v l) (hs : NSized l) (hn : nodesN l ≤ 65536) (hc : nestCheckE l = 0) : Calls Try.prog 72 #[v] w (AllRet D w l) := by
  obtain ⟨ao, cap, rfl⟩ := nestD_slice D hv
  have HV := Lib.hid hv
  have HS := Lib.hid hs
  have HN := Lib.hid hn
  have HC := Lib.hid hc
  clear hv hs hn hc
  go_enter Try.func72, Try.ntmps72
  go_wp2_with fail
  refine (ncheck_any D _ _ l HV.out HS.out).mono ?_
  rintro e w1 ⟨rfl, hb1⟩
  rw [HC.out]
  have HB := Lib.hid hb1
  clear hb1
  go_wp2_with fail
  refine (ownN_any D _ _ l (nestD_below D HV.out HB.out) HN.out).mono ?_
  rintro e w2 ⟨v2, rfl, hf, hb2⟩
  have HF := Lib.hid hf
  have HB2 := Lib.hid hb2
  clear hf hb2
  obtain ⟨m5, k5, hvs⟩ := nestD_slice D (HF.out w2 (Mods.refl _ _))
  subst hvs
  go_wp2
  go_ret
  have hbx := below_alloc w2 (.cells #[.slice m5 l.items.length k5] 30)
  have hcx := heap_alloc_new w2 (.cells #[.slice m5 l.items.length k5] 30)
  refine ⟨w1.heap.size, w2.heap.size, rfl, HB.out.size, ⟨⟨_, cells_row _ _ hcx 0 _ rfl, fun W' hk => HF.out W' ?_⟩, by simp, (nest_total HC.out).1, HN.out⟩, HB.out.trans ((HB2.out.mono (Nat.le_refl _)).mono HB.out.size |>.trans (hbx.mono (Nat.le_trans HB.out.size HB2.out.size)))⟩
  exact (Mods.of_below hbx (fun k => k < w1.heap.size)).trans hk.mods (fun _ _ h => h) (fun k hk2 h => by
    rcases h with h | h
    · exact h
    · simp at h
      omega)
end Go.Proofs.Ytbmbfifempkhgaa

/- nest.Expand. -/
namespace Go.Proofs.Ytbmbfifempkhgaa
open Go.RowKit Go.Shelf
attribute [local go_sem] Oper.semAt_some

theorem wpListIn_app {F : Fence} {n : Nat} {P : Program} {w : World} {ops : Array Oper} {rest : List Oper} {o : Oper} {a : Act} {Q : Exit → Act → World → Prop}
    (hg : o.guard = none) (s x : Operand) (t : TypeId) (hop : o.op = Op.call { callee := Callee.builtin Builtin.append, args := #[s, x], argTypes := #[t, t] })
    (base : Nat) (e : TypeId) (i : TypeInfo) (z : Value) (size bytes : Nat) (h1 : P.underlying t = some (.slice e)) (h2 : P.info? e = some i) (h3 : i.zero = some z) (h4 : i.size = size) (h5 : i.bytes = bytes) (h6 : z.cells.size = size)
    (v : Value) (k : Nat) (xs : List Value) (hs : a.eval s = v) (hown : w.ownsRow base e size v k xs) (ao : Option Addr) (m c : Nat) (news : List Value) (hx : a.eval x = .slice ao m c) (hn : news.length = m * size) (hnone : ao = none → m = 0)
    (hc : ∀ ad, ao = some ad → ∀ j u, news[j]? = some u → w.cell? (ad.add j) = some u) (h1c : ∀ u ∈ news, u.oneCell' = true) (b1 : k + m ≤ maxLen) (b2 : ∀ old, old < k + m → Builtin.nextslicecap (k + m) old * bytes ≤ 281474976710656) (b3 : base ≤ w.heap.size)
    (hK : ∀ v' w', w'.ownsRow base e size v' (k + m) (xs ++ news) → w.grownBy w' v.ownBlock → (v' = .slice none 0 0 ↔ v = .slice none 0 0 ∧ m = 0) → (v'.ownBlock = v.ownBlock ∨ v'.ownBlock = some w.heap.size) → wpListIn F n P ops Q rest (a.put o.dst v') w') :
    wpListIn F n P ops Q (o :: rest) a w := by
  refine wpListIn_plain hg fun K hK' => ?_
  obtain ⟨v', w', hrun, r1, r2, r3, r4⟩ := run_app (P := P) w base t o.type e i z size bytes h1 h2 h3 h4 h5 h6 v k xs hown ao m c news hn hnone hc h1c b1 b2 b3
  unfold Oper.wpIn
  refine ⟨?_, ?_⟩
  · simp [Oper.about, hop, resolve, Target.leads, Sem.run_pure]
  · rw [Oper.semAt_plain F _ _ (by rw [hop]; intro c hc'; cases hc')]
    simp [execOp, hop, resolve, invoke, builtin, hs, hx, hrun, Result.andThen]
    exact hK' _ _ (hK v' w' r1 r2 r3 r4)

theorem info_intX : (Try.prog.info? 3).map (fun i => (i.zero, i.size, i.bytes)) = some (some (.int .i64 0), 1, 8) := by kernel_rfl

theorem kpl_appended {B1 B2 X base k : Nat} {W w1 : World} {v v' : Value} {xs : List Value} {tmp : Obj} (hv : Boxed W X 52 v) (hX : X < B1) (hne : v.ownBlock ≠ some X) (hrow : W.ownsRow base 3 1 v k xs) (hb : ∀ k, v.ownBlock = some k → B2 ≤ k) (hg : (W.alloc tmp).grownBy w1 v.ownBlock) : KpL B1 B2 W (w1.setCell ⟨X, 0, none⟩ v') := by
  refine (KpL.alloc W tmp).trans ((KpL.grown hg fun r e => ⟨.inr (hb r e), fun cs fr h => ?_⟩).trans (KpL.grown (grownBy_setCell' w1 X v') fun r e => ?_))
  · rcases (hrow.alloc tmp).2 with ⟨rfl, _⟩ | ⟨g, cap, cur, rfl, _, hgb, _⟩
    · simp [Value.ownBlock] at e
    · obtain rfl : g = r := by simpa [Value.ownBlock] using e
      rw [hgb] at h
      cases h
  · cases e
    refine ⟨.inl hX, fun cs fr h => ?_⟩
    have h1 := block_grown (block_alloc (show W.heap[X]? = _ from hv) tmp) hg hne
    rw [h1] at h
    cases h

theorem expandP_len : ∀ l : Nest, (expandP l).length = totN l
  | .nil => rfl
  | .cons t nd b r => by
    rw [expandP, totN, List.length_append, expandP_len r, List.length_flatten, List.map_replicate, List.sum_replicate_nat]
    by_cases h : b.isNil = true
    · rw [if_pos h, if_pos h]; rfl
    · rw [if_neg h, if_neg h, expandP_len b]

def ExpRet (w : World) (l : Nest) (e : Ending) (w' : World) : Prop := ∃ v, e = .returned (.tuple #[v, .int .i64 (nestCheckE l)]) ∧ (nestCheckE l = 0 → w'.ownsRow w.heap.size 3 1 v (expandP l).length (ivs (expandP l))) ∧ (nestCheckE l ≠ 0 → v = .slice none 0 0) ∧ Below w.heap.size w w'

set_option maxRecDepth 100000 in
set_option maxHeartbeats 2000000 in
theorem expand_in (D : Nat) (w : World) (v : Value) (l : Nest) (hv : HasNestD D w v l) (hs : NSized l) (hn : nodesN l ≤ 65536) :
    CallsIn Fence.wide 4 Try.prog 34 #[v] w (ExpRet w l) := by
  obtain ⟨i0, hi, hz0, hz1, hz2⟩ := info_parts info_intX
  obtain ⟨ao, cap, rfl⟩ := nestD_slice D hv
  have HV := Lib.hid hv
  have HS := Lib.hid hs
  have HN := Lib.hid hn
  obtain ⟨E, hE⟩ : ∃ x, nestCheckE l = x := ⟨_, rfl⟩
  have HE := Lib.hid hE
  clear hv hs hn hE
  refine callsIn_of_wp_marks Try.func34 rfl trivial ?_ rfl
  simp only [Try.ntmps34, List.size_toArray, List.length_cons, List.length_nil, Nat.reduceAdd, Nat.reduceSub, Array.replicate_succ, Array.replicate_zero, List.push_toArray, List.append_toArray, List.nil_append, List.cons_append]
  gi_wp2_with fail
  refine ⟨trivial, (callsIn_wide.2 (ncheck_any D _ _ l HV.out HS.out)).mono ?_⟩
  rintro e w1 ⟨rfl, hb1⟩
  rw [HE.out]
  have HB := Lib.hid hb1
  clear hb1
  by_cases h0 : E = 0
  · subst h0
    have HEL : Hid ((expandP l).length ≤ 2048) := Lib.hid (by rw [expandP_len]; exact (nest_total HE.out).2)
    gi_wp2_with fail
    have hb5 := below_alloc w1 (.cells #[.slice none 0 0] 52)
    have HO := Lib.hid (Boxed.new w1 52 (.slice none 0 0))
    obtain ⟨w2, hw2⟩ : ∃ x, w1.alloc (.cells #[.slice none 0 0] 52) = x := ⟨_, rfl⟩
    obtain ⟨X, hX⟩ : ∃ x, w1.heap.size = x := ⟨_, rfl⟩
    have hX2 : w2.heap.size = X + 1 := by rw [← hw2, ← hX]; simp
    rw [hw2] at HO hb5 ⊢
    have HXs := Lib.hid hX2
    have hwX : w.heap.size ≤ X := by rw [← hX]; exact HB.out.size
    rw [hX] at HO ⊢
    have HB2 := Lib.hid (HB.out.trans (hb5.mono HB.out.size))
    clear hw2 hX hb5 HB hX2
    refine ⟨trivial, (callsIn_wide.2 (nall_any D _ _ l (nestD_below D HV.out HB2.out) HS.out HN.out HE.out)).mono ?_⟩
    rintro e w3 ⟨B1, Bx, rfl, hB1, hseq, hb3⟩
    have HSQ := Lib.hid hseq
    have HX1 : Hid (X < B1) := Lib.hid (by have := HXs.out; omega)
    have HB3 := Lib.hid (HB2.out.trans (hb3.mono HB2.out.size))
    have HO3 : Hid (Boxed w3 X 52 (.slice none 0 0)) := Lib.hid ((hb3.block _ (block_lt HO.out)).trans HO.out)
    clear hseq hb3 HO
    gi_wp2_with fail
    have hsz3 := HB3.out.size
    have hXlt : X < w3.heap.size := block_lt HO3.out
    refine wpIn_rangeFunc_ownG rfl (by omega) (gf := 92) (lb := #[.pointer (some ⟨Bx, 0, none⟩)]) rfl trivial (enters_of Try.func92 (by kernel_rfl) rfl)
      (all2_stops (n := 3) HSQ.out) KpL.trans (fun W l o o' hl h ho _ => KpL.putObj W l o o' hl h ho) (Below.refl _ _) (fun _ => rfl)
      (fun (pre : List Int) W => (∃ v, Boxed W X 52 v ∧ W.ownsRow w.heap.size 3 1 v pre.length (pre.map (Value.int .i64)) ∧ ∀ k, v.ownBlock = some k → w3.heap.size ≤ k) ∧ Below w.heap.size w W ∧ w3.heap.size ≤ W.heap.size)
      (fun _ _ _ => False)
      (OwnFrom.and (Own.from (holdsRow_own w.heap.size X 52 3 1 (fun (pre : List Int) => pre.length) (fun pre => pre.map (Value.int .i64)) (fun _ v => ∀ k, v.ownBlock = some k → w3.heap.size ≤ k)) _) (OwnFrom.and (ownFrom_below (Nat.le_refl _) hsz3) (fun _ _ _ _ h hg _ => Nat.le_trans h hg.size)))
      (fun _ _ _ _ _ hs _ _ => hs)
      ⟨⟨_, HO3.out, World.ownsRow_nil _ _ _ _, fun k h => by simp [Value.ownBlock] at h⟩, HB3.out, Nat.le_refl _⟩
      (fun x => { tmps := #[.slice ao l.items.length cap, undef, .slice none 0 0, .int .i64 0, .int .i64 0, .pointer (some ⟨X, 0, none⟩), .int .i64 x, .slice ao l.items.length cap, .int .i64 0, .int .i64 0, .bool false, undef, .slice ao l.items.length cap, .func (.func 92) #[] #[.pointer (some ⟨Bx, 0, none⟩)], .int .i64 x, undef, undef, undef, undef, undef], defers := [] }) ?assign ?body ?done ?stop
    case assign =>
      intro l x W K hK
      gi_wp2
      exact hK
    case body =>
      rintro lp pre x W ⟨⟨v, hv, hrow, hbk⟩, hB, hg3⟩ hlt
      have hc := hv.cell
      have hsz := hB.size
      obtain ⟨sv, cv, rfl⟩ := owns_slice hrow
      have hne : (Value.slice sv pre.length cv).ownBlock ≠ some X := (hv.not_row (by decide) hrow).symm
      have Hlt := Lib.hid hlt
      clear hlt
      gi_wp2_with (gi_at_builtin; refine stop_here ?_)
      refine go_on ?_
      refine wpListIn_app rfl _ _ 52 rfl w.heap.size 3 i0 _ 1 8 Try.underlying52 hi hz0 hz1 hz2 rfl (.slice sv pre.length cv) pre.length _ rfl (hrow.alloc (.cells #[.int .i64 x] 3)) (some ⟨W.heap.size, 0, none⟩) 1 1 [.int .i64 x] rfl rfl (fun h => by cases h) (news_alloc W [.int .i64 x] 3) (by simp [Value.oneCell']) (by have := Hlt.out; have := HEL.out; unfold maxLen; omega) (grow_ok (by have := Hlt.out; have := HEL.out; omega)) (size_le_alloc hsz _) ?_
      intro v' w4 g1 g2 _ g4
      obtain ⟨sa', cap', rfl⟩ := owns_slice g1
      obtain ⟨hv1, hv2, hr2, hk2, hb2⟩ := hv.appended (by decide) hrow hsz hwX g1 g2
      have hkp := kpl_appended (B1 := B1) (v' := .slice sa' (pre.length + 1) cap') hv HX1.out hne hrow hbk g2
      have HBK : Hid (∀ k, (Value.slice sa' (pre.length + 1) cap').ownBlock = some k → w3.heap.size ≤ k) := Lib.hid (fun k h => by
        rcases g4 with g4 | g4
        · exact hbk k (by rw [← g4]; exact h)
        · rw [g4] at h
          have := Option.some.inj h
          simp at this
          omega)
      have HS4 : Hid (w3.heap.size ≤ (w4.setCell ⟨X, 0, none⟩ (.slice sa' (pre.length + 1) cap')).heap.size) := Lib.hid (by have := g2.size; simp at this; rw [size_setCell']; omega)
      have hc1 := hv1.cell
      have hf1 := hv1.frozen
      clear g4 hbk
      gi_wp2
      exact ⟨hk2.from _, hkp, ⟨_, hv2, by simpa using hr2, HBK.out⟩, hB.trans (hb2.mono (Nat.le_refl _)), HS4.out⟩
    case done =>
      rintro D ys W hD rfl ⟨⟨v, hv, hrow, -⟩, hB, -⟩ hK
      have hc := hv.cell
      gi_wp2
      refine ⟨by simp, .inl ⟨_, _, rfl, run_takeDeferred hK, ?_⟩⟩
      refine ⟨_, results_tmp2 rfl _ _ _, v, (by rw [HE.out]; rfl), fun _ => ?_, fun h => absurd HE.out h, hB.trans (belowK_b (w := w) (Nat.le_refl _) W D _ _ (by omega) hK rfl rfl)⟩
      exact ownsRow_putObj hrow _ hK rfl
    case stop =>
      rintro D c pre W _ _ h _
      exact h.elim
  · gi_wp2
    exact ⟨_, results_tmp2 rfl _ _ _, _, (by rw [HE.out]; rfl), fun h => absurd (HE.out.symm.trans h) h0, fun _ => rfl, HB.out⟩
theorem expand_any (D : Nat) (w : World) (v : Value) (l : Nest) (hv : HasNestD D w v l) (hs : NSized l) (hn : nodesN l ≤ 65536) : Calls Try.prog 34 #[v] w (ExpRet w l) := callsIn_wide.1 (expand_in D w v l hv hs hn)
end Go.Proofs.Ytbmbfifempkhgaa

/- Going through the program that is made, plainly: it calls what the nest expands to. No function in sight. -/
namespace Go.Proofs.Ytbmbfifempkhgaa
open Go.RowKit

/-- a walk's state: the calls, 64 counters, the place -/
structure WS where
  calls : List Int
  cs : List Int
  pc : Int
def opW (ops : List GOp) (s : WS) : GOp := ops[s.pc.toNat]?.getD ⟨0, 0, 0⟩
def reachW (x : GOp) : Prop := 0 ≤ x.a ∧ x.a < 64
instance (x : GOp) : Decidable (reachW x) := inferInstanceAs (Decidable (_ ∧ _))
def csW (cs : List Int) (x : GOp) : List Int :=
  if reachW x then if x.kind = 1 then cs.set x.a.toNat x.b else if x.kind = 2 then cs.set x.a.toNat (cs[x.a.toNat]?.getD 0 - 1) else cs else cs
def pcW (cs : List Int) (x : GOp) (pc : Int) : Int := if reachW x ∧ x.kind = 2 ∧ 0 < cs[x.a.toNat]?.getD 0 - 1 then x.b else pc + 1
def wS (ops : List GOp) (s : WS) : WS := ⟨if (opW ops s).kind = 5 then s.calls ++ [(opW ops s).a] else s.calls, csW s.cs (opW ops s), pcW s.cs (opW ops s) s.pc⟩
def wI (ops : List GOp) (s : WS) : Nat → WS
  | 0 => s
  | k + 1 => wS ops (wI ops s k)
theorem wI_add (ops : List GOp) (s : WS) (a : Nat) : ∀ b, wI ops s (a + b) = wI ops (wI ops s a) b
  | 0 => rfl
  | b + 1 => by
    show wS ops (wI ops s (a + b)) = wS ops _
    rw [wI_add ops s a b]
def CsOk (cs : List Int) : Prop := cs.length = 64 ∧ ∀ x ∈ cs, 0 ≤ x ∧ x ≤ 2048
structure OkW (ops : List GOp) (s : WS) : Prop where
  lo : 0 ≤ s.pc
  hi : s.pc < ops.length
  cs : CsOk s.cs
structure Runs (ops : List GOp) (s : WS) (m : Nat) (s' : WS) : Prop where
  ok : ∀ k, k < m → OkW ops (wI ops s k)
  is : wI ops s m = s'
theorem Runs.refl (ops : List GOp) (s : WS) : Runs ops s 0 s := ⟨fun k h => by omega, rfl⟩
theorem Runs.trans {ops : List GOp} {s s1 s2 : WS} {a b : Nat} (h : Runs ops s a s1) (k : Runs ops s1 b s2) : Runs ops s (a + b) s2 := by
  refine ⟨fun j hj => ?_, by rw [wI_add, h.is, k.is]⟩
  by_cases h1 : j < a
  · exact h.ok j h1
  · obtain ⟨d, rfl⟩ := Nat.exists_eq_add_of_le (Nat.le_of_not_lt h1)
    rw [wI_add, h.is]
    exact k.ok d (by omega)
theorem Runs.one {ops : List GOp} {s : WS} (h : OkW ops s) {s' : WS} (e : wS ops s = s') : Runs ops s 1 s' := by
  refine ⟨fun k hk => ?_, e⟩
  obtain rfl : k = 0 := by omega
  exact h
theorem cntP_le : ∀ (l : Nest) (op : Nat) {c c' : Nat}, c ≤ c' → cntP l op c ≤ cntP l op c'
  | .nil, _, _, _, h => h
  | .cons t _ b r, op, c, c', h => by
    rw [cntP, cntP]
    refine cntP_le r op ?_
    split
    · exact cntP_le b (op + 1) (by omega)
    · exact cntP_le b op h
theorem dropW_head {α : Type} {L R : List α} {x : α} {i : Nat} (h : L.drop i = x :: R) : i < L.length ∧ L[i]? = some x ∧ L.drop (i + 1) = R := by
  have h1 : (L.drop i)[0]? = some x := by rw [h]; rfl
  rw [List.getElem?_drop] at h1
  refine ⟨?_, by simpa using h1, ?_⟩
  · have := congrArg List.length h
    rw [List.length_drop, List.length_cons] at this
    omega
  · rw [← List.drop_drop, h]
    rfl
theorem okW_at {ops : List GOp} {c cs : List Int} {i : Nat} (h : i < ops.length) (hc : CsOk cs) : OkW ops ⟨c, cs, i⟩ := ⟨by show (0 : Int) ≤ i; omega, by show (i : Int) < _; omega, hc⟩
theorem opW_at {ops : List GOp} {c cs : List Int} {i : Nat} {x : GOp} (h : ops[i]? = some x) : opW ops ⟨c, cs, i⟩ = x := by
  unfold opW
  simp [h]
theorem set_csOk {cs : List Int} (h : CsOk cs) {k : Nat} {v : Int} (h1 : 0 ≤ v ∧ v ≤ 2048) : CsOk (cs.set k v) :=
  ⟨by rw [List.length_set]; exact h.1, fun x hx => by
    rcases List.mem_or_eq_of_mem_set hx with hx | rfl
    · exact h.2 x hx
    · exact h1⟩

def callsL (X : List GOp) : List Int := (X.filter fun x => decide (x.kind = 5)).map GOp.a
theorem run_fire {P : GProg} {ops : List GOp} : ∀ (X R : List GOp) (c cs : List Int) (i : Nat), (∀ x ∈ X, FireOp P x) → ops.drop i = X ++ R → CsOk cs → Runs ops ⟨c, cs, i⟩ X.length ⟨c ++ callsL X, cs, ((i + X.length : Nat) : Int)⟩
  | [], R, c, cs, i, _, _, _ => by
    simp only [callsL, List.filter_nil, List.map_nil, List.append_nil, List.length_nil, Nat.add_zero]
    exact Runs.refl _ _
  | x :: X, R, c, cs, i, hX, hd, hc => by
    obtain ⟨h1, h2, h3⟩ := dropW_head (R := X ++ R) hd
    obtain ⟨k1, k2, -⟩ := hX x List.mem_cons_self
    have ih := run_fire X R (if x.kind = 5 then c ++ [x.a] else c) cs (i + 1) (fun y hy => hX y (List.mem_cons_of_mem _ hy)) h3 hc
    have hs : wS ops ⟨c, cs, i⟩ = ⟨if x.kind = 5 then c ++ [x.a] else c, cs, ((i + 1 : Nat) : Int)⟩ := by
      unfold wS
      rw [opW_at h2]
      have e1 : csW cs x = cs := by
        unfold csW
        split
        · rw [if_neg (by omega), if_neg (by omega)]
        · rfl
      have e2 : pcW cs x i = ((i + 1 : Nat) : Int) := by
        unfold pcW
        rw [if_neg (by omega)]
        omega
      rw [e1, e2]
    have hr := (Runs.one (okW_at h1 hc) hs).trans ih
    have e3 : (if x.kind = 5 then c ++ [x.a] else c) ++ callsL X = c ++ callsL (x :: X) := by
      unfold callsL
      rw [List.filter_cons]
      by_cases h5 : x.kind = 5
      · rw [if_pos h5, if_pos (by simpa using h5), List.map_cons, List.append_assoc]; rfl
      · rw [if_neg h5, if_neg (by simpa using h5)]
    have e4 : i + 1 + X.length = i + (x :: X).length := by rw [List.length_cons]; omega
    rw [e3, e4, show 1 + X.length = (x :: X).length by rw [List.length_cons]; omega] at hr
    exact hr

/-- the rows of firings call their actors -/
def CallIs (n : Nat) (F : List (List GOp)) : Prop := ∀ k, k < n → callsL (rowM F k) = [(k : Int)]
theorem step_head {ops : List GOp} {c cs : List Int} {i op : Nat} {t : Int} (h : ops[i]? = some ⟨1, op, t⟩) (hi : i < ops.length) (hc : CsOk cs) (ho : op < 64) : Runs ops ⟨c, cs, i⟩ 1 ⟨c, cs.set op t, ((i + 1 : Nat) : Int)⟩ := by
  refine Runs.one (okW_at hi hc) ?_
  have hr : reachW (⟨1, op, t⟩ : GOp) := ⟨by show (0 : Int) ≤ op; omega, by show (op : Int) < 64; omega⟩
  unfold wS
  rw [opW_at h]
  unfold csW pcW
  rw [if_neg (by show ¬ (1 : Int) = 5; omega), if_pos hr, if_pos rfl, if_neg (by rintro ⟨-, h2, -⟩; exact absurd (show (1 : Int) = 2 from h2) (by omega))]
  simp
theorem step_back {ops : List GOp} {c cs : List Int} {i op : Nat} {B : Int} (h : ops[i]? = some ⟨2, op, B⟩) (hi : i < ops.length) (hc : CsOk cs) (ho : op < 64) {r : Int} (hr1 : cs[op]? = some r) : Runs ops ⟨c, cs, i⟩ 1 ⟨c, cs.set op (r - 1), if 0 < r - 1 then B else ((i + 1 : Nat) : Int)⟩ := by
  refine Runs.one (okW_at hi hc) ?_
  have hr : reachW (⟨2, op, B⟩ : GOp) := ⟨by show (0 : Int) ≤ op; omega, by show (op : Int) < 64; omega⟩
  unfold wS
  rw [opW_at h]
  unfold csW pcW
  rw [if_neg (by show ¬ (2 : Int) = 5; omega), if_pos hr, if_neg (by show ¬ (2 : Int) = 1; omega), if_pos rfl]
  by_cases h0 : 0 < r - 1
  · rw [if_pos h0, if_pos ⟨hr, rfl, by simpa [hr1] using h0⟩]
    simp [hr1]
  · rw [if_neg h0, if_neg (by rintro ⟨-, -, h1⟩; simp [hr1] at h1; omega)]
    simp [hr1]

theorem run_row {P : GProg} {F : List (List GOp)} {n : Nat} {ops : List GOp} (hF : FireOk P n F) (hC : CallIs n F) : ∀ (l : Nest) (op i : Nat) (R : List GOp) (c cs : List Int), GoodT l → LeafOk n l → ops.drop i = rowL F l op i ++ R → cntP l op 0 ≤ 64 → CsOk cs →
    ∃ cs', CsOk cs' ∧ (∀ j, j < op → cs'[j]? = cs[j]?) ∧ Runs ops ⟨c, cs, i⟩ (stN F l) ⟨c ++ expandP l, cs', ((i + (rowL F l op i).length : Nat) : Int)⟩
  | .nil, op, i, R, c, cs, _, _, _, _, hc => by
    refine ⟨cs, hc, fun _ _ => rfl, ?_⟩
    simp only [expandP, List.append_nil, rowL, List.length_nil, Nat.add_zero, stN]
    exact Runs.refl _ _
  | .cons t nd b r, op, i, R, c, cs, hg, hl, hd, hcn, hc => by
    obtain ⟨g1, g2, gb, gr⟩ := hg
    obtain ⟨l1, lb, lr⟩ := hl
    rw [rowL_cons, List.append_assoc] at hd
    -- the body
    have hb : ∀ (o j : Nat) (R2 : List GOp) (c2 cs2 : List Int), ops.drop j = inL F nd b o j ++ R2 → (b.isNil = false → cntP b o 0 ≤ 64) → CsOk cs2 →
        ∃ cs', CsOk cs' ∧ (∀ k, k < o → cs'[k]? = cs2[k]?) ∧ Runs ops ⟨c2, cs2, j⟩ (inN F nd b) ⟨c2 ++ innerP (t, nd, b), cs', ((j + (inL F nd b o j).length : Nat) : Int)⟩ := by
      intro o j R2 c2 cs2 h1 h2 h3
      by_cases hbn : b.isNil = true
      · have h4 := l1 hbn
        rw [inL, if_pos hbn] at h1 ⊢
        rw [inN, if_pos hbn, innerP, if_pos hbn]
        have h5 := run_fire (P := P) (rowM F nd.toNat) R2 c2 cs2 j (hF _ (by omega)) h1 h3
        rw [hC _ (by omega), Int.toNat_of_nonneg h4.1] at h5
        exact ⟨cs2, h3, fun _ _ => rfl, h5⟩
      · rw [inL, if_neg hbn] at h1 ⊢
        rw [inN, if_neg hbn, innerP, if_neg hbn]
        exact run_row hF hC b o j R2 c2 cs2 gb lb h1 (h2 (by simpa using hbn)) h3
    have hcm : cntP r op (if 1 < t then cntP b (op + 1) (max 0 (op + 1)) else cntP b op 0) ≤ 64 := hcn
    -- the loop
    have ho : ∃ cs', CsOk cs' ∧ (∀ j, j < op → cs'[j]? = cs[j]?) ∧ Runs ops ⟨c, cs, i⟩ (oneN F t nd b) ⟨c ++ oneX (t, nd, b), cs', ((i + (oneL F t nd b op i).length : Nat) : Int)⟩ := by
      by_cases h1 : 1 < t
      · rw [oneL, if_pos h1, List.cons_append, List.append_assoc] at hd
        have hop := cntP_mono r op (cntP b (op + 1) (max 0 (op + 1)))
        rw [if_pos h1] at hcm
        have hop2 := cntP_mono b (op + 1) (max 0 (op + 1))
        obtain ⟨d1, d2, d3⟩ := dropW_head hd
        rw [oneL, if_pos h1, oneN, if_pos h1]
        have hcb : cntP b (op + 1) 0 ≤ 64 := by
          have := cntP_le b (op + 1) (Nat.zero_le (max 0 (op + 1)))
          omega
        have hlen : (ops.drop (i + 1 + (inL F nd b (op + 1) (i + 1)).length)) = ⟨2, op, ((i + 1 : Nat) : Int)⟩ :: ([] ++ (rowL F r op (i + (oneL F t nd b op i).length) ++ R)) := by
          rw [← List.drop_drop, d3, List.drop_left']
          · rw [oneL, if_pos h1]; rfl
          · rfl
        obtain ⟨e1, e2, -⟩ := dropW_head hlen
        -- r rounds
        have hrounds : ∀ (k : Nat) (c2 cs2 : List Int), CsOk cs2 → cs2[op]? = some ((k + 1 : Nat) : Int) → k + 1 ≤ 2048 →
            ∃ cs', CsOk cs' ∧ (∀ j, j < op → cs'[j]? = cs2[j]?) ∧ Runs ops ⟨c2, cs2, ((i + 1 : Nat) : Int)⟩ ((k + 1) * (inN F nd b + 1)) ⟨c2 ++ repsP (t, nd, b) (k + 1), cs', ((i + 1 + (inL F nd b (op + 1) (i + 1)).length + 1 : Nat) : Int)⟩ := by
          intro k
          induction k with
          | zero =>
            intro c2 cs2 h2 h3 _
            obtain ⟨cs3, m1, m2, m3⟩ := hb (op + 1) (i + 1) _ c2 cs2 d3 (fun _ => hcb) h2
            have m4 := step_back (c := c2 ++ innerP (t, nd, b)) e2 e1 m1 (by omega) (r := 1) (by rw [m2 op (by omega), h3]; rfl)
            rw [if_neg (by omega)] at m4
            refine ⟨_, set_csOk (k := op) m1 (v := (1 : Int) - 1) (by omega), fun j hj => ?_, ?_⟩
            · rw [List.getElem?_set_ne (by omega)]
              exact m2 j (by omega)
            · have := m3.trans m4
              rw [show repsP (t, nd, b) (0 + 1) = innerP (t, nd, b) by simp [repsP], show (0 + 1) * (inN F nd b + 1) = inN F nd b + 1 by omega]
              exact this
          | succ k ih =>
            intro c2 cs2 h2 h3 h4
            obtain ⟨cs3, m1, m2, m3⟩ := hb (op + 1) (i + 1) _ c2 cs2 d3 (fun _ => hcb) h2
            have m4 := step_back (c := c2 ++ innerP (t, nd, b)) e2 e1 m1 (by omega) (r := ((k + 1 + 1 : Nat) : Int)) (by rw [m2 op (by omega), h3])
            rw [if_pos (by omega)] at m4
            have hlt : op < cs3.length := by rw [m1.1]; omega
            obtain ⟨cs4, n1, n2, n3⟩ := ih (c2 ++ innerP (t, nd, b)) (cs3.set op (((k + 1 + 1 : Nat) : Int) - 1)) (set_csOk m1 (by omega)) (by rw [List.getElem?_set_self hlt]; congr 1; omega) (by omega)
            refine ⟨cs4, n1, fun j hj => ?_, ?_⟩
            · rw [n2 j hj, List.getElem?_set_ne (by omega)]
              exact m2 j (by omega)
            · have := (m3.trans m4).trans n3
              rw [show repsP (t, nd, b) (k + 1 + 1) = innerP (t, nd, b) ++ repsP (t, nd, b) (k + 1) by unfold repsP; rw [List.replicate_succ, List.flatten_cons], ← List.append_assoc, show (k + 1 + 1) * (inN F nd b + 1) = inN F nd b + 1 + (k + 1) * (inN F nd b + 1) by rw [Nat.add_mul (k + 1)]; omega]
              exact this
        have hop3 : op < 64 := by omega
        have s1 := step_head (c := c) d2 d1 hc hop3
        obtain ⟨k, hk⟩ : ∃ k : Nat, t = ((k + 1 : Nat) : Int) := ⟨(t - 1).toNat, by omega⟩
        obtain ⟨cs5, p1, p2, p3⟩ := hrounds k c (cs.set op t) (set_csOk hc (by omega)) (by rw [List.getElem?_set_self (by rw [hc.1]; omega), hk]) (by omega)
        refine ⟨cs5, p1, fun j hj => ?_, ?_⟩
        · rw [p2 j hj, List.getElem?_set_ne (by omega)]
        · have := s1.trans p3
          have ht : t.toNat = k + 1 := by omega
          rw [oneX]
          show Runs ops _ (1 + t.toNat * _) ⟨c ++ repsP (t, nd, b) t.toNat, _, _⟩
          rw [ht]
          have hl2 : i + (⟨1, op, t⟩ :: (inL F nd b (op + 1) (i + 1) ++ [⟨2, op, ((i + 1 : Nat) : Int)⟩] : List GOp)).length = i + 1 + (inL F nd b (op + 1) (i + 1)).length + 1 := by simp; omega
          rw [hl2]
          exact this
      · rw [oneL, if_neg h1] at hd ⊢
        rw [oneN, if_neg h1]
        have ht : t = 1 := by omega
        rw [if_neg h1] at hcm
        have hop := cntP_mono r op (cntP b op 0)
        obtain ⟨cs3, m1, m2, m3⟩ := hb op i _ c cs hd (fun _ => by omega) hc
        refine ⟨cs3, m1, m2, ?_⟩
        have : oneX (t, nd, b) = innerP (t, nd, b) := by subst ht; simp [oneX, repsP]
        rw [this]
        exact m3
    obtain ⟨cs1, q1, q2, q3⟩ := ho
    have hd2 : ops.drop (i + (oneL F t nd b op i).length) = rowL F r op (i + (oneL F t nd b op i).length) ++ R := by
      rw [← List.drop_drop, hd, List.drop_left' rfl]
    have hcr : cntP r op 0 ≤ 64 := Nat.le_trans (cntP_le r op (Nat.zero_le _)) hcm
    obtain ⟨cs2, u1, u2, u3⟩ := run_row hF hC r op _ R (c ++ oneX (t, nd, b)) cs1 gr lr hd2 hcr q1
    refine ⟨cs2, u1, fun j hj => (u2 j hj).trans (q2 j hj), ?_⟩
    rw [stN_cons, rowL_cons, List.length_append, expandP_items, Nest.items, List.flatMap_cons, ← expandP_items, ← List.append_assoc, ← Nat.add_assoc]
    exact q3.trans u3

theorem calls_of {X : List GOp} (h : cK 5 X = 1) {k : Int} (hm : (⟨5, k, 0⟩ : GOp) ∈ X) : callsL X = [k] := by
  unfold callsL
  have hl : (X.filter fun x => decide (x.kind = 5)).length = 1 := by rw [← List.countP_eq_length_filter]; exact h
  obtain ⟨y, hy⟩ := List.length_eq_one_iff.1 hl
  have hm2 : (⟨5, k, 0⟩ : GOp) ∈ X.filter fun x => decide (x.kind = 5) := List.mem_filter.2 ⟨hm, by simp⟩
  rw [hy] at hm2 ⊢
  rw [← List.mem_singleton.1 hm2]
  rfl
theorem make_calls {g : GGraph} {p : GPlan} {l : Nest} (h : makeE g p l = 0) (hs : GSized g) : CallIs g.actors.length (firP g) := fun k hk => by
  refine calls_of ((make_fire h hs).2 k hk) ?_
  rw [fire_row hk]
  simp
/-- THE PROGRAM, GONE THROUGH -/
theorem make_run {g : GGraph} {p : GPlan} {l : Nest} (h : makeE g p l = 0) (hs : GSized g) : ∃ cs', Runs (makeG g p l).ops ⟨[], List.replicate 64 0, 0⟩ (stN (firP g) l + 1) ⟨expandP l, cs', (((makeG g p l).ops.length : Nat) : Int)⟩ ∧ CsOk cs' := by
  obtain ⟨h1, h2, h3, h4⟩ := make_facts h
  have hcn : cntP l 0 0 ≤ 64 := by
    have e1 := rowP_cnt (F := firP g) l 0 ([], 0)
    rw [rowP_cntP] at e1
    have := (nest_facts h2).2.1
    simp only at e1
    omega
  have hc0 : CsOk (List.replicate 64 (0 : Int)) := ⟨List.length_replicate, fun x hx => by
    have := List.eq_of_mem_replicate hx
    omega⟩
  have hops := make_ops2 g p l
  obtain ⟨cs1, q1, -, q3⟩ := run_row (make_fire h hs).1 (make_calls h hs) l 0 0 [⟨0, 0, 0⟩] [] (List.replicate 64 0) (nest_total h2).1 (make_leaves h) hops hcn hc0
  rw [List.nil_append, Nat.zero_add] at q3
  have hd : (makeG g p l).ops.drop (rowL (firP g) l 0 0).length = [⟨0, 0, 0⟩] := by rw [hops, List.drop_left' rfl]
  obtain ⟨e1, e2, -⟩ := dropW_head hd
  refine ⟨cs1, q3.trans (Runs.one (okW_at e1 q1) ?_), q1⟩
  have hl : (makeG g p l).ops.length = (rowL (firP g) l 0 0).length + 1 := by rw [hops]; simp
  unfold wS
  rw [opW_at e2, hl]
  unfold csW pcW
  rw [if_neg (by show ¬ (0 : Int) = 5; omega), if_pos (show reachW (⟨0, 0, 0⟩ : GOp) from ⟨by decide, by decide⟩), if_neg (by show ¬ (0 : Int) = 1; omega), if_neg (by show ¬ (0 : Int) = 2; omega), if_neg (by rintro ⟨-, h2, -⟩; exact absurd (show (0 : Int) = 2 from h2) (by omega))]
  simp
end Go.Proofs.Ytbmbfifempkhgaa
