/- SameGraph: a graph is the same as itself. -/
import Derived.Test.YtbmbfifempkhgaaEmitMakesZ2
import Derived.Test.YtbmbfifempkhgaaEmitMakesZ6
import Derived.Test.YtbmbfifempkhgaaEmitMakesZ5
import Derived.Test.YtbmbfifempkhgaaEmitMakesZ1
namespace Go.Proofs.Ytbmbfifempkhgaa
open Go.RowKit
set_option maxRecDepth 100000 in
set_option maxHeartbeats 4000000 in
theorem samegraph_yes (w : World) (v v' : Value) (g : GGraph) (h : HasGraph w v g) (h' : HasGraph w v' g) (hps : ∀ x ∈ g.actors, x.params.length ≤ 4611686018427387904) (hls : ∀ x ∈ g.edges, x.start.length ≤ 4611686018427387904) (hpl : g.actors.length ≤ 4611686018427387904) (hll : g.edges.length ≤ 4611686018427387904) (hil : g.ins.length ≤ 4611686018427387904) (hol : g.outs.length ≤ 4611686018427387904) : Calls Try.prog 54 #[v, v'] w (Yes w) := by
 obtain ⟨vp, vl, vi, vo, rfl, rp, rl, ri, ro⟩ := h.shape
 obtain ⟨vp', vl', vi', vo', rfl, rp', rl', ri', ro'⟩ := h'.shape
 obtain ⟨ap, cp, rfl⟩ := rp.slice
 obtain ⟨al, cl, rfl⟩ := rl.slice
 obtain ⟨ap', cp', rfl⟩ := rp'.slice
 obtain ⟨al', cl', rfl⟩ := rl'.slice
 have HPS := Lib.hid hps
 have HLS := Lib.hid hls
 have HOL := Lib.hid hol
 have HIL := Lib.hid hil
 clear hps hls hol hil h h'
 have hb1 := below_alloc w (.cells #[.string g.name, .slice ap g.actors.length cp, .slice al g.edges.length cl, vi, vo] 26)
 have hA := heap_alloc_new w (.cells #[.string g.name, .slice ap g.actors.length cp, .slice al g.edges.length cl, vi, vo] 26)
 generalize hW1 : w.alloc (.cells #[.string g.name, .slice ap g.actors.length cp, .slice al g.edges.length cl, vi, vo] 26) = W1 at *
 have hs1 : W1.heap.size = w.heap.size + 1 := by rw [← hW1]; simp
 have hb2 := below_alloc W1 (.cells #[.string g.name, .slice ap' g.actors.length cp', .slice al' g.edges.length cl', vi', vo'] 26)
 have hB := heap_alloc_new W1 (.cells #[.string g.name, .slice ap' g.actors.length cp', .slice al' g.edges.length cl', vi', vo'] 26)
 have hA2 := block_alloc hA (.cells #[.string g.name, .slice ap' g.actors.length cp', .slice al' g.edges.length cl', vi', vo'] 26)
 generalize hW2 : W1.alloc (.cells #[.string g.name, .slice ap' g.actors.length cp', .slice al' g.edges.length cl', vi', vo'] 26) = W2 at *
 have HB2 := Lib.hid (Below.then hb1 hb2)
 have HRP := Lib.hid (rp.below actor_steady HB2.out)
 have HRL := Lib.hid (rl.below edge_steady HB2.out)
 have HRI : Hid (Recs W2 3 (FlatR portHd) vi g.ins) := Lib.hid (ri.below port_steady HB2.out)
 have HRO : Hid (Recs W2 3 (FlatR portHd) vo g.outs) := Lib.hid (ro.below port_steady HB2.out)
 have HRP' := Lib.hid (rp'.below actor_steady HB2.out)
 have HRL' := Lib.hid (rl'.below edge_steady HB2.out)
 have HRI' : Hid (Recs W2 3 (FlatR portHd) vi' g.ins) := Lib.hid (ri'.below port_steady HB2.out)
 have HRO' : Hid (Recs W2 3 (FlatR portHd) vo' g.outs) := Lib.hid (ro'.below port_steady HB2.out)
 clear hb1 hb2 rp rl ri ro rp' rl' ri' ro' hA
 rw [hs1] at hB
 have y0 := cells_row _ _ hA2 0 _ rfl
 have y1 := cells_row _ _ hA2 1 _ rfl
 have y2 := cells_row _ _ hA2 2 _ rfl
 have y3 := cells_row _ _ hA2 3 _ rfl
 have y4 := cells_row _ _ hA2 4 _ rfl
 have z0 := cells_row _ _ hB 0 _ rfl
 have z1 := cells_row _ _ hB 1 _ rfl
 have z2 := cells_row _ _ hB 2 _ rfl
 have z3 := cells_row _ _ hB 3 _ rfl
 have z4 := cells_row _ _ hB 4 _ rfl
 clear hA2 hB
 simp only [List.getElem_toArray, List.getElem_cons_succ, List.getElem_cons_zero] at y0 y1 y2 y3 y4 z0 z1 z2 z3 z4
 generalize g.name = p0 at *
 go_enter Try.func54, Try.ntmps54
 go_wp2_with fail
 have HY1 := Lib.hid y1
 have HY2 := Lib.hid y2
 have HY3 := Lib.hid y3
 have HY4 := Lib.hid y4
 have HZ1 := Lib.hid z1
 have HZ2 := Lib.hid z2
 have HZ3 := Lib.hid z3
 have HZ4 := Lib.hid z4
 clear hW1 hW2 y0 y1 y2 y3 y4 z0 z1 z2 z3 z4
 obtain ⟨n, hn⟩ : ∃ x, g.actors.length = x := ⟨_, rfl⟩
 obtain ⟨m, hm⟩ : ∃ x, g.edges.length = x := ⟨_, rfl⟩
 have HN := Lib.hid hn
 have HM := Lib.hid hm
 rw [hn] at HY1 HZ1 hpl
 rw [hm] at HY2 HZ2 hll
 rw [hn] at HRP HRP'
 rw [hm] at HRL HRL'
 clear hn hm
 go_loopw [5] (fun i wr => ∃ j : Nat, j ≤ n ∧ i = .int .i64 j ∧ Below W2.heap.size W2 wr) (fun i _ => n - (intOf i).toNat)
 case atStart => exact ⟨0, Nat.zero_le _, rfl, Below.refl _ _⟩
 case round =>
  obtain ⟨j, hj, rfl, hB⟩ := hrel
  have HB := Lib.hid hB
  clear hB
  have y1 := cell_later HB.out HY1.out
  by_cases hlt : j < n
  ·
   have z1 := cell_later HB.out HZ1.out
   have hjn : j < g.actors.length := by have := HN.out; omega
   obtain ⟨b, off, rfl, hcap, -, hrec⟩ := HRP.out.at (by omega)
   obtain ⟨cs, -, ⟨x, rfl, hx⟩, hcl⟩ := hrec j hjn
   obtain ⟨b', off', rfl, hcap', -, hrec'⟩ := HRP'.out.at (by omega)
   obtain ⟨cs, -, ⟨x', rfl, hx'⟩, hcl'⟩ := hrec' j hjn
   obtain ⟨xa, xc, hxs⟩ := Ints.slice hx
   subst hxs
   obtain ⟨xa', xc', hxs⟩ := Ints.slice hx'
   subst hxs
   have c0 := cell_later HB.out (hcl 0 (by omega))
   have c1 := cell_later HB.out (hcl 1 (by omega))
   have c2 := cell_later HB.out (hcl 2 (by omega))
   have d0 := cell_later HB.out (hcl' 0 (by omega))
   have d1 := cell_later HB.out (hcl' 1 (by omega))
   have d2 := cell_later HB.out (hcl' 2 (by omega))
   simp at c0 c1 c2 d0 d1 d2
   rw [HN.out] at hcap hcap'
   have hci : (n : Int) ≤ cp := by omega
   have hci' : (n : Int) ≤ cp' := by omega
   have hlti : (j : Int) < n := by omega
   have HX := Lib.hid (hx.below HB.out)
   have HX' := Lib.hid (hx'.below HB.out)
   have HST := Lib.hid (HPS.out _ (List.getElem_mem hjn))
   clear hx hx' hcl hcl' hrec hrec' hcap hcap'
   generalize g.actors[j].name = nm at *
   generalize g.actors[j].tag = tg at *
   generalize g.actors[j].params = st at *
   clear hjn
   have e0 := ca (o := .cells #[.string nm, .int .u8 tg, .slice xa st.length xc] 57) d0
   have e1 := ca (o := .cells #[.string nm, .int .u8 tg, .slice xa st.length xc] 57) d1
   have e2 := ca (o := .cells #[.string nm, .int .u8 tg, .slice xa st.length xc] 57) d2
   have ez := ca (o := .cells #[.string nm, .int .u8 tg, .slice xa st.length xc] 57) z1
   have hX := heap_alloc_new wr (.cells #[.string nm, .int .u8 tg, .slice xa st.length xc] 57)
   have hX2 := block_alloc hX (.cells #[.string nm, .int .u8 tg, .slice xa' st.length xc'] 57)
   have hY := heap_alloc_new (wr.alloc (.cells #[.string nm, .int .u8 tg, .slice xa st.length xc] 57)) (.cells #[.string nm, .int .u8 tg, .slice xa' st.length xc'] 57)
   rw [show (wr.alloc (.cells #[.string nm, .int .u8 tg, .slice xa st.length xc] 57)).heap.size = wr.heap.size + 1 by simp] at hY
   have u0 := cells_row _ _ hX2 0 _ rfl
   have u1 := cells_row _ _ hX2 1 _ rfl
   have u2 := cells_row _ _ hX2 2 _ rfl
   have q0 := cells_row _ _ hY 0 _ rfl
   have q1 := cells_row _ _ hY 1 _ rfl
   have q2 := cells_row _ _ hY 2 _ rfl
   simp only [List.getElem_toArray, List.getElem_cons_succ, List.getElem_cons_zero] at u0 u1 u2 q0 q1 q2
   have HBX := Lib.hid (Below.then (below_alloc wr (.cells #[.string nm, .int .u8 tg, .slice xa st.length xc] 57)) (below_alloc _ (.cells #[.string nm, .int .u8 tg, .slice xa' st.length xc'] 57)))
   clear hX hX2 hY
   go_wp2_with fail
   refine (sameints_yes (o := fun _ => 0) (c := 0) (o2 := fun _ => 0) (c2 := 0) (HX.out.below HBX.out) (HX'.out.below HBX.out) HST.out).mono ?_
   rintro e wy ⟨rfl, mm, rfl⟩
   have HS9 := Lib.hid (below_dr (n := mm) (Below.then HB.out HBX.out))
   clear HB HX HX' HBX
   go_wp2
   go_roundw
   case rel => exact ⟨j + 1, hlt, by go_num, HS9.out⟩
   case measure => simp [intOf]; omega
  ·
   obtain rfl : n = j := by omega
   clear hj hlt
   go_wp2_with fail
   go_loopw [8] (fun i wl => ∃ j : Nat, j ≤ m ∧ i = .int .i64 j ∧ Below W2.heap.size W2 wl) (fun i _ => m - (intOf i).toNat)
   case atStart => exact ⟨0, Nat.zero_le _, rfl, HB.out⟩
   case round =>
    clear HB y1
    obtain ⟨j, hj, rfl, hB⟩ := hrel
    have HB := Lib.hid hB
    clear hB
    have y2 := cell_later HB.out HY2.out
    by_cases hlt : j < m
    ·
     have z2 := cell_later HB.out HZ2.out
     have hjn : j < g.edges.length := by have := HM.out; omega
     obtain ⟨b, off, rfl, hcap, -, hrec⟩ := HRL.out.at (by omega)
     obtain ⟨cs, -, ⟨x, rfl, hx⟩, hcl⟩ := hrec j hjn
     obtain ⟨b', off', rfl, hcap', -, hrec'⟩ := HRL'.out.at (by omega)
     obtain ⟨cs, -, ⟨x', rfl, hx'⟩, hcl'⟩ := hrec' j hjn
     obtain ⟨xa, xc, hxs⟩ := Ints.slice hx
     subst hxs
     obtain ⟨xa', xc', hxs⟩ := Ints.slice hx'
     subst hxs
     have c0 := cell_later HB.out (hcl 0 (by omega))
     have c1 := cell_later HB.out (hcl 1 (by omega))
     have c2 := cell_later HB.out (hcl 2 (by omega))
     have c3 := cell_later HB.out (hcl 3 (by omega))
     have c4 := cell_later HB.out (hcl 4 (by omega))
     have d0 := cell_later HB.out (hcl' 0 (by omega))
     have d1 := cell_later HB.out (hcl' 1 (by omega))
     have d2 := cell_later HB.out (hcl' 2 (by omega))
     have d3 := cell_later HB.out (hcl' 3 (by omega))
     have d4 := cell_later HB.out (hcl' 4 (by omega))
     simp at c0 c1 c2 c3 c4 d0 d1 d2 d3 d4
     rw [HM.out] at hcap hcap'
     have hci : (m : Int) ≤ cl := by omega
     have hci' : (m : Int) ≤ cl' := by omega
     have hlti : (j : Int) < m := by omega
     have HX := Lib.hid (hx.below HB.out)
     have HX' := Lib.hid (hx'.below HB.out)
     have HST := Lib.hid (HLS.out _ (List.getElem_mem hjn))
     clear hx hx' hcl hcl' hrec hrec' hcap hcap'
     generalize g.edges[j].src = t1 at *
     generalize g.edges[j].sport = t2 at *
     generalize g.edges[j].dst = t3 at *
     generalize g.edges[j].dport = t4 at *
     generalize g.edges[j].start = st at *
     clear hjn
     have e0 := ca (o := .cells #[.int .i64 t1, .int .i64 t2, .int .i64 t3, .int .i64 t4, .slice xa st.length xc] 63) d0
     have e1 := ca (o := .cells #[.int .i64 t1, .int .i64 t2, .int .i64 t3, .int .i64 t4, .slice xa st.length xc] 63) d1
     have e2 := ca (o := .cells #[.int .i64 t1, .int .i64 t2, .int .i64 t3, .int .i64 t4, .slice xa st.length xc] 63) d2
     have e3 := ca (o := .cells #[.int .i64 t1, .int .i64 t2, .int .i64 t3, .int .i64 t4, .slice xa st.length xc] 63) d3
     have e4 := ca (o := .cells #[.int .i64 t1, .int .i64 t2, .int .i64 t3, .int .i64 t4, .slice xa st.length xc] 63) d4
     have ez := ca (o := .cells #[.int .i64 t1, .int .i64 t2, .int .i64 t3, .int .i64 t4, .slice xa st.length xc] 63) z2
     have hX := heap_alloc_new wr (.cells #[.int .i64 t1, .int .i64 t2, .int .i64 t3, .int .i64 t4, .slice xa st.length xc] 63)
     have hX2 := block_alloc hX (.cells #[.int .i64 t1, .int .i64 t2, .int .i64 t3, .int .i64 t4, .slice xa' st.length xc'] 63)
     have hY := heap_alloc_new (wr.alloc (.cells #[.int .i64 t1, .int .i64 t2, .int .i64 t3, .int .i64 t4, .slice xa st.length xc] 63)) (.cells #[.int .i64 t1, .int .i64 t2, .int .i64 t3, .int .i64 t4, .slice xa' st.length xc'] 63)
     rw [show (wr.alloc (.cells #[.int .i64 t1, .int .i64 t2, .int .i64 t3, .int .i64 t4, .slice xa st.length xc] 63)).heap.size = wr.heap.size + 1 by simp] at hY
     have u0 := cells_row _ _ hX2 0 _ rfl
     have u1 := cells_row _ _ hX2 1 _ rfl
     have u2 := cells_row _ _ hX2 2 _ rfl
     have u3 := cells_row _ _ hX2 3 _ rfl
     have u4 := cells_row _ _ hX2 4 _ rfl
     have q0 := cells_row _ _ hY 0 _ rfl
     have q1 := cells_row _ _ hY 1 _ rfl
     have q2 := cells_row _ _ hY 2 _ rfl
     have q3 := cells_row _ _ hY 3 _ rfl
     have q4 := cells_row _ _ hY 4 _ rfl
     simp only [List.getElem_toArray, List.getElem_cons_succ, List.getElem_cons_zero] at u0 u1 u2 u3 u4 q0 q1 q2 q3 q4
     have HBX := Lib.hid (Below.then (below_alloc wr (.cells #[.int .i64 t1, .int .i64 t2, .int .i64 t3, .int .i64 t4, .slice xa st.length xc] 63)) (below_alloc _ (.cells #[.int .i64 t1, .int .i64 t2, .int .i64 t3, .int .i64 t4, .slice xa' st.length xc'] 63)))
     clear hX hX2 hY
     go_wp2_with fail
     refine (sameints_yes (o := fun _ => 0) (c := 0) (o2 := fun _ => 0) (c2 := 0) (HX.out.below HBX.out) (HX'.out.below HBX.out) HST.out).mono ?_
     rintro e wy ⟨rfl, mm, rfl⟩
     have HS9 := Lib.hid (below_dr (n := mm) (Below.then HB.out HBX.out))
     clear HB HX HX' HBX
     go_wp2
     go_roundw
     case rel => exact ⟨j + 1, hlt, by go_num, HS9.out⟩
     case measure => simp [intOf]; omega
    ·
     obtain rfl : m = j := by omega
     clear hj hlt
     have y3 := cell_later HB.out HY3.out
     have z3 := cell_later HB.out HZ3.out
     have y4 := cell_later HB.out HY4.out
     have z4 := cell_later HB.out HZ4.out
     go_wp2_with fail
     refine (sameports_yes _ vi vi' g.ins (HRI.out.below (fun _ _ _ _ _ h => h) HB.out) (HRI'.out.below (fun _ _ _ _ _ h => h) HB.out) HIL.out).mono ?_
     rintro e wy ⟨rfl, mm, rfl⟩
     have HS9 := Lib.hid (below_dr (n := mm) HB.out)
     go_wp2_with fail
     refine (sameports_yes _ vo vo' g.outs (HRO.out.below (fun _ _ _ _ _ h => h) HS9.out) (HRO'.out.below (fun _ _ _ _ _ h => h) HS9.out) HOL.out).mono ?_
     rintro e wy ⟨rfl, mm2, rfl⟩
     go_wp2
     go_ret
     exact ⟨rfl, below_dr (Below.then HB2.out HB.out)⟩
end Go.Proofs.Ytbmbfifempkhgaa

/- A list lent: Lent. -/
namespace Go.Proofs.Ytbmbfifempkhgaa
open Go.RowKit
theorem new_cells {w w' : World} {B : Nat} {ao : Option Addr} {vs : List Value} (hb : Below B w w') (h : ∀ ad, ao = some ad → ∀ j u, vs[j]? = some u → w.cell? (ad.add j) = some u) (hB : ∀ k, k < w.heap.size → k < B := by intro k hk; exact hk) : ∀ ad, ao = some ad → ∀ j u, vs[j]? = some u → w'.cell? (ad.add j) = some u := fun ad had j u hu =>
 (hb.cell (hB _ (World.block_lt_of_cell? _ _ (h ad had j u hu)))).trans (h ad had j u hu)
set_option maxHeartbeats 800000 in
theorem lent_any (w : World) (zs : List Int) (ao : Option Addr) (zc : Nat) (hz : zs.length ≤ 17600000000000) (hnone : ao = none → zs.length = 0) (hcz : ∀ ad, ao = some ad → ∀ j u, (zs.map (Value.int .i64))[j]? = some u → w.cell? (ad.add j) = some u) :
  Calls Try.prog 37 #[.slice ao zs.length zc] w fun e w' => ∃ g cap, e = .returned (.slice (some ⟨g, 0, none⟩) zs.length cap) ∧
   w'.ownsRow w.heap.size 3 1 (.slice (some ⟨g, 0, none⟩) (zs.length + 4) cap) (zs.length + 4) ((zs ++ List.replicate 4 (-7770777)).map (Value.int .i64)) ∧ Below w.heap.size w w' := by
 obtain ⟨i0, hi, hz0, hz1, hz2⟩ := info_parts info_int
 have HZ := Lib.hid hz
 have Hnone := Lib.hid hnone
 have Hcz := Lib.hid hcz
 have hzi : (zs.length : Int) + 4 ≤ 4611686018427387904 := by omega
 clear hz hnone hcz
 go_enter Try.func37, Try.ntmps37
 obtain ⟨w1, hr, hown, hg⟩ := run_make_own (P := Try.prog) w w.heap.size 52 3 i0 _ 1 Try.underlying52 hi hz0 hz1 .i64 .i64 (zs.length + 4) (by rw [hz2]; have := HZ.out; omega) (by have := HZ.out; unfold maxLen; omega) (Nat.le_refl _)
 have hcast : ((zs.length + 4 : Nat) : Int) = (zs.length : Int) + 4 := by omega
 rw [hcast] at hr
 go_wp2_with (at_builtin; refine stop_here ?_)
 refine go_on ?_
 have hm1 : Mods (fun _ => False) w w1 := (Mods.refl (fun _ => False) w).grown hg (fun k hk _ => by simp at hk)
 have hsz1 := hm1.size
 have hcz1 : ∀ ad, ao = some ad → ∀ j u, (zs.map (Value.int .i64))[j]? = some u → w1.cell? (ad.add j) = some u := new_cells (below_mods hm1) Hcz.out
 refine wpList_app rfl _ _ 52 rfl w.heap.size 3 i0 _ 1 8 Try.underlying52 hi hz0 hz1 hz2 rfl (.slice (some ⟨w.heap.size, 0, none⟩) 0 (zs.length + 4)) 0 [] rfl hown ao zs.length zc (zs.map (Value.int .i64)) rfl (by simp) Hnone.out hcz1 (ivs_one zs) (by have := HZ.out; unfold maxLen; omega) (grow_ok (by have := HZ.out; omega)) hsz1 ?_
 intro v2 w2 g1 g20 _ g4
 have g2 : w1.grownBy w2 (Value.slice (some ⟨w.heap.size, 0, none⟩) 0 (zs.length + 4)).ownBlock := ⟨g20.os, g20.tape, g20.output, g20.size, g20.block⟩
 have hb2 : Below w.heap.size w w2 := (hm1.below (Nat.le_refl _) (fun _ _ h => h)).trans (((Mods.refl (fun k => k = w.heap.size) w1).grown g2 (fun k hk _ => (Option.some.inj hk).symm)).below hsz1 (fun k hk e => by omega))
 simp only [Nat.zero_add, List.nil_append] at g1
 have hT : ∃ v n, v2 = v ∧ n = zs.length ∧ w2.ownsRow w.heap.size 3 1 v n ((zs ++ List.replicate 0 (-7770777)).map (Value.int .i64)) := ⟨_, _, rfl, rfl, by simpa using g1⟩
 clear g20 g2 g4 hown hg hr hcast hcz1
 go_wp2_with fail
 go_loopw [3, 4] (fun v i wr => ∃ k : Nat, k ≤ 4 ∧ i = .int .i64 k ∧ wr.ownsRow w.heap.size 3 1 v (zs.length + k) ((zs ++ List.replicate k (-7770777)).map (Value.int .i64)) ∧ Below w.heap.size w wr) (fun _ i _ => 4 - (intOf i).toNat)
 case atStart => exact ⟨0, by omega, rfl, by simpa using g1, hb2⟩
 case round =>
  clear hT g1 hb2
  obtain ⟨k, hk, rfl, hrow, hbw⟩ := hrel
  have hsz := hbw.size
  obtain ⟨sv, cv, rfl⟩ := owns_slice hrow
  by_cases hlt : k < 4
  ·
   have hki : (k : Int) < 4 := by omega
   go_wp2_with (at_builtin; refine stop_here ?_)
   refine go_on ?_
   refine wpList_app rfl _ _ 52 rfl w.heap.size 3 i0 _ 1 8 Try.underlying52 hi hz0 hz1 hz2 rfl (.slice sv (zs.length + k) cv) (zs.length + k) _ rfl (hrow.alloc (.cells #[.int .i64 (-7770777)] 3)) (some ⟨wr.heap.size, 0, none⟩) 1 1 [.int .i64 (-7770777)] rfl rfl (fun h => by cases h) (news_alloc wr [.int .i64 (-7770777)] 3) (by simp [Value.oneCell']) (by have := HZ.out; unfold maxLen; omega) (grow_ok (by have := HZ.out; omega)) (size_le_alloc hsz _) ?_
   intro v5 w5 k1 k20 _ _
   have k2 : (wr.alloc (.cells #[.int .i64 (-7770777)] 3)).grownBy w5 (Value.slice sv (zs.length + k) cv).ownBlock := ⟨k20.os, k20.tape, k20.output, k20.size, k20.block⟩
   have hb5 := hbw.trans (below_app hrow k2 hsz)
   have k3 : w5.ownsRow w.heap.size 3 1 v5 (zs.length + (k + 1)) ((zs ++ List.replicate (k + 1) (-7770777)).map (Value.int .i64)) := by
    rw [List.replicate_succ', ← List.append_assoc, List.map_append]; exact k1
   clear k1 k20 k2 hrow
   go_wp2
   go_roundw
   case rel => exact ⟨k + 1, by omega, by go_num, k3, hb5⟩
   case measure => simp [intOf]; omega
  ·
   obtain rfl : k = 4 := by omega
   obtain ⟨_, hcap, g, hg, rfl, _⟩ := owns_cell hrow (by simp)
   have hcapi : (zs.length : Int) ≤ cv := by omega
   go_wp2
   go_ret
   exact ⟨g, cv, rfl, by simpa using hrow, hbw⟩
def Lends (w : World) (g n cap : Nat) (zs : List Int) : Prop :=
 n = zs.length ∧ n + 4 ≤ cap ∧ g < w.heap.size ∧ (∀ k, k < n → w.cell? ⟨g, k, none⟩ = some (.int .i64 (zs[k]?.getD 0))) ∧ ∀ k, n ≤ k → k < n + 4 → w.cell? ⟨g, k, none⟩ = some (.int .i64 (-7770777))
theorem lends_of_owns {w : World} {base g cap : Nat} {zs : List Int} (h : w.ownsRow base 3 1 (.slice (some ⟨g, 0, none⟩) (zs.length + 4) cap) (zs.length + 4) ((zs ++ List.replicate 4 (-7770777)).map (Value.int .i64))) : Lends w g zs.length cap zs := by
 obtain ⟨_, hcap, g', _, e, hc, _, hg⟩ := owns_cell h (by simp)
 cases e
 refine ⟨rfl, hcap, hg, fun k hk => hc k _ ?_, fun k h1 h2 => hc k _ ?_⟩
 ·
  simp [List.getElem?_append_left, hk]
 ·
  rw [List.getElem?_map, List.getElem?_append_right h1, List.getElem?_replicate, if_pos (by omega)]
  rfl
theorem Lends.below {w w' : World} {g n cap : Nat} {zs : List Int} (h : Lends w g n cap zs) (hb : Below w.heap.size w w') : Lends w' g n cap zs :=
 ⟨h.1, h.2.1, Nat.lt_of_lt_of_le h.2.2.1 hb.size, fun k hk => cell_later hb (h.2.2.2.1 k hk), fun k h1 h2 => cell_later hb (h.2.2.2.2 k h1 h2)⟩
theorem Lends.has {w : World} {g n cap c : Nat} {zs : List Int} (h : Lends w g n cap zs) (hc : n ≤ c) : Has w (.slice (some ⟨g, 0, none⟩) n c) (ivs zs) := by
 obtain ⟨rfl, _, hg, hcl, _⟩ := h
 by_cases hp : 0 < zs.length
 ·
  exact .inr ⟨by simpa using hp, g, 0, c, by simp, by simpa using hc, hg, rfl, fun k hk => by
   have hk' : k < zs.length := by simpa using hk
   rw [ivs_get hk', Nat.zero_add]; exact hcl k hk'⟩
 ·
  obtain rfl : zs = [] := List.eq_nil_of_length_eq_zero (by omega)
  exact .inl ⟨rfl, _, c, rfl⟩
theorem Vals.recol {w : World} {o : Col} {g n cap d : Nat} {vs : List Value} (h : Has w (.slice (some ⟨g, 0, none⟩) n cap) vs) (ho : o g = d) : Vals w o d (.slice (some ⟨g, 0, none⟩) n cap) vs := by
 rcases h with h | ⟨hp, b, off, cap', e, hl, hb, _, hcl⟩
 ·
  exact .inl h
 ·
  cases e
  exact .inr ⟨hp, _, _, _, rfl, hl, hb, ho, hcl⟩
end Go.Proofs.Ytbmbfifempkhgaa

/- What was lent is as it was: Kept, KeptPlan, KeptGraph. -/
namespace Go.Proofs.Ytbmbfifempkhgaa
open Go.RowKit
def LendV (w : World) (x : Value) (zs : List Int) : Prop := ∃ G cap, x = .slice (some ⟨G, 0, none⟩) zs.length cap ∧ Lends w G zs.length cap zs
theorem LendV.below {w w' : World} {x : Value} {zs : List Int} (h : LendV w x zs) (hb : Below w.heap.size w w') : LendV w' x zs := by
 obtain ⟨G, cap, h1, h2⟩ := h
 exact ⟨G, cap, h1, h2.below hb⟩
theorem LendV.has {w : World} {x : Value} {zs : List Int} (h : LendV w x zs) : Has w x (ivs zs) := by
 obtain ⟨G, cap, rfl, h2⟩ := h
 exact h2.has (by have := h2.2.1; omega)
def MarkAt (w : World) (ao : Option Addr) (cap n sz i : Nat) (u : Value) : Prop := ∃ b off, ao = some ⟨b, off, none⟩ ∧ n + 1 ≤ cap ∧ b < w.heap.size ∧ w.cell? ⟨b, off + n * sz + i, none⟩ = some u
theorem MarkAt.below {w w' : World} {ao : Option Addr} {cap n sz i : Nat} {u : Value} (h : MarkAt w ao cap n sz i u) (hb : Below w.heap.size w w') : MarkAt w' ao cap n sz i u := by
 obtain ⟨b, off, h1, h2, h3, h4⟩ := h
 exact ⟨b, off, h1, h2, Nat.lt_of_lt_of_le h3 hb.size, cell_later hb h4⟩
theorem Recs.mark {α : Type} {w : World} {sz : Nat} {R : World → α → List Value → Prop} {ao : Option Addr} {n cap : Nat} {l : List α} {m : α} (h : Recs w sz R (.slice ao n cap) (l ++ [m])) : ∃ cs, cs.length = sz ∧ R w m cs ∧ ∀ i, i < sz → MarkAt w ao cap l.length sz i (cs[i]?.getD undef) := by
 obtain ⟨b, off, rfl, hc, hb, hcl⟩ := h.at (by simp)
 obtain ⟨cs, h1, h2, h3⟩ := hcl l.length (by simp)
 rw [List.getElem_append_right (Nat.le_refl _)] at h2
 refine ⟨cs, h1, by simpa using h2, fun i hi => ⟨b, off, rfl, by simpa using hc, hb, h3 i hi⟩⟩
def ActorK (w : World) (a : GActor) (cs : List Value) : Prop := ∃ x, cs = [.string a.name, .int .u8 a.tag, x] ∧ LendV w x a.params
def EdgeK (w : World) (e : GEdge) (cs : List Value) : Prop := ∃ x, cs = [.int .i64 e.src, .int .i64 e.sport, .int .i64 e.dst, .int .i64 e.dport, x] ∧ LendV w x e.start
theorem actorK_steady : Steady ActorK := fun _ _ _ _ hb ⟨x, h1, h2⟩ => ⟨x, h1, h2.below hb⟩
theorem edgeK_steady : Steady EdgeK := fun _ _ _ _ hb ⟨x, h1, h2⟩ => ⟨x, h1, h2.below hb⟩
theorem flat_steady {α : Type} (hd : α → List Value) : Steady (FlatR hd) := fun _ _ _ _ _ h => h
abbrev markV : Value := .int .i64 (-7770777)
def KeepG (w : World) (v : Value) (g : GGraph) : Prop := ∃ aa ca ae ce ai ci ao co, v = .agg #[.string g.name, .slice aa g.actors.length ca, .slice ae g.edges.length ce, .slice ai g.ins.length ci, .slice ao g.outs.length co] ∧
 Recs w 3 ActorK (.slice aa g.actors.length ca) g.actors ∧ MarkAt w aa ca g.actors.length 3 1 (.int .u8 99) ∧ Recs w 5 EdgeK (.slice ae g.edges.length ce) g.edges ∧ MarkAt w ae ce g.edges.length 5 0 markV ∧
 Recs w 3 (FlatR portHd) (.slice ai g.ins.length ci) g.ins ∧ MarkAt w ai ci g.ins.length 3 1 markV ∧ Recs w 3 (FlatR portHd) (.slice ao g.outs.length co) g.outs ∧ MarkAt w ao co g.outs.length 3 1 markV
theorem KeepG.below {w w' : World} {v : Value} {g : GGraph} (h : KeepG w v g) (hb : Below w.heap.size w w') : KeepG w' v g := by
 obtain ⟨aa, ca, ae, ce, ai, ci, ao, co, h0, h1, h2, h3, h4, h5, h6, h7, h8⟩ := h
 exact ⟨aa, ca, ae, ce, ai, ci, ao, co, h0, h1.below actorK_steady hb, h2.below hb, h3.below edgeK_steady hb, h4.below hb, h5.below (flat_steady _) hb, h6.below hb, h7.below (flat_steady _) hb, h8.below hb⟩
theorem KeepG.has {w : World} {v : Value} {g : GGraph} (h : KeepG w v g) : HasGraph w v g := by
 obtain ⟨aa, ca, ae, ce, ai, ci, ao, co, h0, h1, h2, h3, h4, h5, h6, h7, h8⟩ := h
 exact ⟨_, _, _, _, h0, recs_mono h1 (fun a cs ⟨x, e, hx⟩ => ⟨x, e, hx.has⟩), recs_mono h3 (fun a cs ⟨x, e, hx⟩ => ⟨x, e, hx.has⟩), h5, h7⟩
def KeepP (w : World) (v : Value) (p : GPlan) : Prop := ∃ ar cr, v = .agg #[.slice ar p.regions.length cr, .int .i64 p.total] ∧ Recs w 2 (FlatR regionHd) (.slice ar p.regions.length cr) p.regions ∧ MarkAt w ar cr p.regions.length 2 0 markV
theorem KeepP.below {w w' : World} {v : Value} {p : GPlan} (h : KeepP w v p) (hb : Below w.heap.size w w') : KeepP w' v p := by
 obtain ⟨ar, cr, h0, h1, h2⟩ := h
 exact ⟨ar, cr, h0, h1.below (flat_steady _) hb, h2.below hb⟩
theorem KeepP.has {w : World} {v : Value} {p : GPlan} (h : KeepP w v p) : HasPlan w v p := by
 obtain ⟨ar, cr, h0, h1, h2⟩ := h
 exact ⟨_, h0, h1⟩
set_option maxHeartbeats 800000 in
theorem kept_yes (w : World) (zs : List Int) (g cap : Nat) (ao : Option Addr) (zc : Nat) (hz : zs.length ≤ 17600000000000) (h : Lends w g zs.length cap zs) (hv : Has w (.slice ao zs.length zc) (ivs zs)) :
  Calls Try.prog 55 #[.slice (some ⟨g, 0, none⟩) zs.length cap, .slice ao zs.length zc] w (Quiet (.bool true) w) := by
 have HZ := Lib.hid hz
 have hzi : (zs.length : Int) + 4 ≤ 4611686018427387904 := by omega
 have hs := h.has (c := cap) (by have := h.2.1; omega)
 obtain ⟨_, hcap, hg, _, hmk⟩ := h
 have HM := Lib.hid hmk
 have hcapi : (zs.length : Int) + 4 ≤ cap := by omega
 clear hz hmk
 go_enter Try.func55, Try.ntmps55
 go_wp2_with fail
 refine (sameints_yes hs hv (by have := HZ.out; omega)).mono ?_
 rintro e w1 ⟨rfl, m1, rfl⟩
 go_wp2_with fail
 go_loopw [6] (fun i wr => ∃ k : Nat, zs.length ≤ k ∧ k ≤ zs.length + 4 ∧ i = .int .i64 k ∧ ∃ m, wr = w.drewN m) (fun i _ => zs.length + 4 - (intOf i).toNat)
 case atStart => exact ⟨zs.length, Nat.le_refl _, by omega, rfl, _, rfl⟩
 case round =>
  obtain ⟨k, hk0, hk, rfl, m, rfl⟩ := hrel
  by_cases hlt : k < zs.length + 4
  ·
   have hc := HM.out k hk0 hlt
   have hlti : (k : Int) < (zs.length : Int) + 4 := by omega
   go_wp2
   go_roundw
   case rel => exact ⟨k + 1, by omega, by omega, by go_num, _, rfl⟩
   case measure => simp [intOf]; omega
  ·
   have hlti : ¬ (k : Int) < (zs.length : Int) + 4 := by omega
   go_wp2
   go_ret
   exact ⟨rfl, _, rfl⟩
theorem keptV_yes {w : World} {x y : Value} {zs : List Int} (hz : zs.length ≤ 17600000000000) (h : LendV w x zs) (hv : Has w y (ivs zs)) : Calls Try.prog 55 #[x, y] w (Quiet (.bool true) w) := by
 obtain ⟨G, cap, rfl, h2⟩ := h
 obtain ⟨ao, zc, rfl⟩ := Ints.slice hv
 exact kept_yes w zs G cap ao zc hz h2 hv
set_option maxRecDepth 100000 in
set_option maxHeartbeats 1000000 in
theorem keptplan_yes (w : World) (v v' : Value) (p : GPlan) (h : KeepP w v p) (h' : HasPlan w v' p) (hl : p.regions.length ≤ 1100000) : Calls Try.prog 17 #[v, v'] w (Yes w) := by
 obtain ⟨ar, cr, rfl, h1, b, off, rfl, hcap, hb, hm⟩ := h
 obtain ⟨vr, rfl, h2⟩ := h'
 obtain ⟨ar', cr', rfl⟩ := h2.slice
 have hb1 := below_alloc w (.cells #[.slice (some ⟨b, off, none⟩) p.regions.length cr, .int .i64 p.total] 29)
 have hA := heap_alloc_new w (.cells #[.slice (some ⟨b, off, none⟩) p.regions.length cr, .int .i64 p.total] 29)
 generalize hW1 : w.alloc (.cells #[.slice (some ⟨b, off, none⟩) p.regions.length cr, .int .i64 p.total] 29) = W1 at *
 have hs1 : W1.heap.size = w.heap.size + 1 := by rw [← hW1]; simp
 have hb2 := below_alloc W1 (.cells #[.slice ar' p.regions.length cr', .int .i64 p.total] 29)
 have hB := heap_alloc_new W1 (.cells #[.slice ar' p.regions.length cr', .int .i64 p.total] 29)
 have hA2 := block_alloc hA (.cells #[.slice ar' p.regions.length cr', .int .i64 p.total] 29)
 generalize hW2 : W1.alloc (.cells #[.slice ar' p.regions.length cr', .int .i64 p.total] 29) = W2 at *
 have HB2 := Lib.hid (Below.then hb1 hb2)
 have HR := Lib.hid (h1.below (flat_steady _) HB2.out)
 have HR' : Hid (Recs W2 2 (FlatR regionHd) (.slice ar' p.regions.length cr') p.regions) := Lib.hid (h2.below region_steady HB2.out)
 have mk := cell_later HB2.out hm
 rw [hs1] at hB
 have y0 := cells_row _ _ hA2 0 _ rfl
 have y1 := cells_row _ _ hA2 1 _ rfl
 have z0 := cells_row _ _ hB 0 _ rfl
 have z1 := cells_row _ _ hB 1 _ rfl
 simp only [List.getElem_toArray, List.getElem_cons_succ, List.getElem_cons_zero] at y0 y1 z0 z1
 have hci : (p.regions.length : Int) + 1 ≤ cr := by omega
 have hli : (p.regions.length : Int) ≤ 1100000 := by omega
 simp only [Nat.add_zero] at mk
 have HL := Lib.hid hl
 clear hb1 hb2 hA hA2 hB hm h1 h2 hl hcap
 go_enter Try.func17, Try.ntmps17
 go_wp2_with fail
 clear hW1 hW2
 refine (sameregions_yes _ _ _ p.regions HR.out HR'.out (by have := HL.out; omega)).mono ?_
 rintro e w1 ⟨rfl, m1, rfl⟩
 go_wp2
 go_ret
 exact ⟨rfl, below_dr HB2.out⟩
end Go.Proofs.Ytbmbfifempkhgaa

/- A graph that was lent is as it was: KeptGraph. -/
namespace Go.Proofs.Ytbmbfifempkhgaa
open Go.RowKit
set_option maxRecDepth 100000 in
set_option maxHeartbeats 4000000 in
theorem keptgraph_yes (w : World) (v v' : Value) (g : GGraph) (h : KeepG w v g) (h' : HasGraph w v' g) (hps : ∀ x ∈ g.actors, x.params.length ≤ 17600000000000) (hls : ∀ x ∈ g.edges, x.start.length ≤ 17600000000000) (hpl : g.actors.length ≤ 1100000) (hll : g.edges.length ≤ 1100000) (hil : g.ins.length ≤ 1100000) (hol : g.outs.length ≤ 1100000) : Calls Try.prog 16 #[v, v'] w (Yes w) := by
 have HG0 := h.has
 obtain ⟨aa, ca, ae, ce, ai, ci, ao, co, rfl, rp, ma, rl, me, ri, mi, ro, mo⟩ := h
 obtain ⟨vp', vl', vi', vo', rfl, rp', rl', ri', ro'⟩ := h'.shape
 have HG0' := h'
 obtain ⟨ap', cp', rfl⟩ := rp'.slice
 obtain ⟨al', cl', rfl⟩ := rl'.slice
 obtain ⟨ai', ci', rfl⟩ := ri'.slice
 obtain ⟨ao', co', rfl⟩ := ro'.slice
 have HPS := Lib.hid hps
 have HLS := Lib.hid hls
 clear hps hls h'
 have hb1 := below_alloc w (.cells #[.string g.name, .slice aa g.actors.length ca, .slice ae g.edges.length ce, .slice ai g.ins.length ci, .slice ao g.outs.length co] 26)
 have hA := heap_alloc_new w (.cells #[.string g.name, .slice aa g.actors.length ca, .slice ae g.edges.length ce, .slice ai g.ins.length ci, .slice ao g.outs.length co] 26)
 generalize hW1 : w.alloc (.cells #[.string g.name, .slice aa g.actors.length ca, .slice ae g.edges.length ce, .slice ai g.ins.length ci, .slice ao g.outs.length co] 26) = W1 at *
 have hs1 : W1.heap.size = w.heap.size + 1 := by rw [← hW1]; simp
 have hb2 := below_alloc W1 (.cells #[.string g.name, .slice ap' g.actors.length cp', .slice al' g.edges.length cl', .slice ai' g.ins.length ci', .slice ao' g.outs.length co'] 26)
 have hB := heap_alloc_new W1 (.cells #[.string g.name, .slice ap' g.actors.length cp', .slice al' g.edges.length cl', .slice ai' g.ins.length ci', .slice ao' g.outs.length co'] 26)
 have hA2 := block_alloc hA (.cells #[.string g.name, .slice ap' g.actors.length cp', .slice al' g.edges.length cl', .slice ai' g.ins.length ci', .slice ao' g.outs.length co'] 26)
 generalize hW2 : W1.alloc (.cells #[.string g.name, .slice ap' g.actors.length cp', .slice al' g.edges.length cl', .slice ai' g.ins.length ci', .slice ao' g.outs.length co'] 26) = W2 at *
 have HB2 := Lib.hid (Below.then hb1 hb2)
 have HRP := Lib.hid (rp.below actorK_steady HB2.out)
 have HRL := Lib.hid (rl.below edgeK_steady HB2.out)
 have HRP' := Lib.hid (rp'.below actor_steady HB2.out)
 have HRL' := Lib.hid (rl'.below edge_steady HB2.out)
 have HMA := Lib.hid (ma.below HB2.out)
 have HME := Lib.hid (me.below HB2.out)
 have HMI := Lib.hid (mi.below HB2.out)
 have HMO := Lib.hid (mo.below HB2.out)
 have HG := Lib.hid (HG0.below HB2.out)
 have HG' := Lib.hid (HG0'.below HB2.out)
 clear hb1 hb2 rp rl ri ro rp' rl' ri' ro' hA ma me mi mo HG0 HG0'
 rw [hs1] at hB
 have y0 := cells_row _ _ hA2 0 _ rfl
 have y1 := cells_row _ _ hA2 1 _ rfl
 have y2 := cells_row _ _ hA2 2 _ rfl
 have y3 := cells_row _ _ hA2 3 _ rfl
 have y4 := cells_row _ _ hA2 4 _ rfl
 have z0 := cells_row _ _ hB 0 _ rfl
 have z1 := cells_row _ _ hB 1 _ rfl
 have z2 := cells_row _ _ hB 2 _ rfl
 have z3 := cells_row _ _ hB 3 _ rfl
 have z4 := cells_row _ _ hB 4 _ rfl
 clear hA2 hB
 simp only [List.getElem_toArray, List.getElem_cons_succ, List.getElem_cons_zero] at y0 y1 y2 y3 y4 z0 z1 z2 z3 z4
 go_enter Try.func16, Try.ntmps16
 go_wp2_with fail
 refine (samegraph_yes _ _ _ g HG.out HG'.out (fun x hx => Nat.le_trans (HPS.out x hx) (by decide)) (fun x hx => Nat.le_trans (HLS.out x hx) (by decide)) (Nat.le_trans hpl (by decide)) (Nat.le_trans hll (by decide)) (Nat.le_trans hil (by decide)) (Nat.le_trans hol (by decide))).mono ?_
 rintro e W3 ⟨rfl, hB3⟩
 have HB3 := Lib.hid hB3
 have HY1 := Lib.hid (cell_later hB3 y1)
 have HY2 := Lib.hid (cell_later hB3 y2)
 have HY3 := Lib.hid (cell_later hB3 y3)
 have HY4 := Lib.hid (cell_later hB3 y4)
 have HZ1 := Lib.hid (cell_later hB3 z1)
 have HZ2 := Lib.hid (cell_later hB3 z2)
 have HZ3 := Lib.hid (cell_later hB3 z3)
 have HZ4 := Lib.hid (cell_later hB3 z4)
 replace HRP := Lib.hid (HRP.out.below actorK_steady hB3)
 replace HRL := Lib.hid (HRL.out.below edgeK_steady hB3)
 replace HRP' := Lib.hid (HRP'.out.below actor_steady hB3)
 replace HRL' := Lib.hid (HRL'.out.below edge_steady hB3)
 replace HMA := Lib.hid (HMA.out.below hB3)
 replace HME := Lib.hid (HME.out.below hB3)
 replace HMI := Lib.hid (HMI.out.below hB3)
 replace HMO := Lib.hid (HMO.out.below hB3)
 clear hW1 hW2 y0 y1 y2 y3 y4 z0 z1 z2 z3 z4 hB3 HG HG'
 obtain ⟨n, hn⟩ : ∃ x, g.actors.length = x := ⟨_, rfl⟩
 obtain ⟨m, hm⟩ : ∃ x, g.edges.length = x := ⟨_, rfl⟩
 have HN := Lib.hid hn
 have HM := Lib.hid hm
 rw [hn] at HY1 HZ1 hpl
 rw [hm] at HY2 HZ2 hll
 rw [hn] at HRP HRP' HMA
 rw [hm] at HRL HRL' HME
 clear hn hm
 go_wp2_with fail
 go_loopw [5] (fun i wr => ∃ j : Nat, j ≤ n ∧ i = .int .i64 j ∧ Below W3.heap.size W3 wr) (fun i _ => n - (intOf i).toNat)
 case atStart => exact ⟨0, Nat.zero_le _, rfl, Below.refl _ _⟩
 case round =>
  obtain ⟨j, hj, rfl, hB⟩ := hrel
  have HB := Lib.hid hB
  clear hB
  have z1 := cell_later HB.out HZ1.out
  by_cases hlt : j < n
  ·
   have y1 := cell_later HB.out HY1.out
   have hjn : j < g.actors.length := by have := HN.out; omega
   obtain ⟨b, off, rfl, hcap, -, hrec⟩ := HRP.out.at (by omega)
   obtain ⟨cs, -, ⟨x, rfl, hx⟩, hcl⟩ := hrec j hjn
   obtain ⟨b', off', rfl, hcap', -, hrec'⟩ := HRP'.out.at (by omega)
   obtain ⟨cs, -, ⟨x', rfl, hx'⟩, hcl'⟩ := hrec' j hjn
   have c2 := cell_later HB.out (hcl 2 (by omega))
   have d2 := cell_later HB.out (hcl' 2 (by omega))
   simp at c2 d2
   rw [HN.out] at hcap hcap'
   have hci1 : (n : Int) ≤ ca := by omega
   have hci2 : (n : Int) ≤ cp' := by omega
   have hlti : (j : Int) < n := by omega
   have HX := Lib.hid (hx.below HB.out)
   have HX' := Lib.hid (hx'.below HB.out)
   have HST := Lib.hid (HPS.out _ (List.getElem_mem hjn))
   clear hx hx' hcl hcl' hrec hrec' hcap hcap'
   generalize g.actors[j].params = st at *
   clear hjn
   go_wp2_with fail
   refine wp_region_soft (fun w' => Below wr.heap.size wr w' ∧ w'.cell? ⟨w.heap.size, 1, none⟩ = some (.slice (some ⟨b, off, none⟩) n ca) ∧ w'.cell? ⟨w.heap.size + 1, 1, none⟩ = some (.slice (some ⟨b', off', none⟩) n cp') ∧ w'.cell? ⟨b, off + j * 3 + 2, none⟩ = some x ∧ w'.cell? ⟨b', off' + j * 3 + 2, none⟩ = some x') [0, 1, 2, 3, 4, 5, 6, 7, 8, 9, 10, 11, 12, 13] [] (by kernel_rfl) (by kernel_rfl) rfl ⟨below_dr (n := 1) (Below.refl _ _), y1, z1, c2, d2⟩ ?_
   simp only [pickOps, List.flatMap_cons, List.flatMap_nil, List.drop_succ_cons, List.drop_zero, List.take_succ_cons, List.take_zero, List.cons_append, List.nil_append, List.append_nil]
   repeat (first
    | (refine wpHead_skip (by rfl) ?_; (try simp only [Act.put, List.setIfInBounds_toArray, List.set_cons_zero, List.set_cons_succ]))
    | (refine wpHead_val ?_ (by rfl) ?_ ?_; rotate_left; (intro wz hz; (try dsimp only at hz); (first | (go_simp; done) | (go_simp; with_reducible rfl))); (try simp only [Act.put, List.setIfInBounds_toArray, List.set_cons_zero, List.set_cons_succ])))
   refine wpHead_call (.bool true) 55 #[x, x'] (by rfl) (fun wz => by go_simp) (fun wz hz => ?_) ?_
   ·
    obtain ⟨hz1, hz2⟩ := hz
    refine (keptV_yes HST.out (HX.out.below hz1) (HX'.out.below hz1)).mono ?_
    rintro e wy ⟨rfl, m, rfl⟩
    exact ⟨rfl, below_dr hz1, hz2⟩
   simp only [Act.put, List.setIfInBounds_toArray, List.set_cons_zero, List.set_cons_succ]
   repeat (first
    | (refine wpHead_skip (by rfl) ?_; (try simp only [Act.put, List.setIfInBounds_toArray, List.set_cons_zero, List.set_cons_succ]))
    | (refine wpHead_val ?_ (by rfl) ?_ ?_; rotate_left; (intro wz hz; (try dsimp only at hz); (first | (go_simp; done) | (go_simp; with_reducible rfl))); (try simp only [Act.put, List.setIfInBounds_toArray, List.set_cons_zero, List.set_cons_succ])))
   refine wpHead_nil ?_
   intro w' hS
   have HS9 := Lib.hid (Below.then HB.out hS.1)
   clear hS
   go_wp2
   go_roundw
   case rel => exact ⟨j + 1, hlt, by go_num, HS9.out⟩
   case measure => simp [intOf]; omega
  ·
   obtain rfl : n = j := by omega
   clear hj hlt
   go_wp2_with fail
   go_loopw [6] (fun i wl => ∃ j : Nat, j ≤ m ∧ i = .int .i64 j ∧ Below W3.heap.size W3 wl) (fun i _ => m - (intOf i).toNat)
   case atStart => exact ⟨0, Nat.zero_le _, rfl, HB.out⟩
   case round =>
    clear HB z1
    obtain ⟨j, hj, rfl, hB⟩ := hrel
    have HB := Lib.hid hB
    clear hB
    have z2 := cell_later HB.out HZ2.out
    by_cases hlt : j < m
    ·
     have y2 := cell_later HB.out HY2.out
     have hjn : j < g.edges.length := by have := HM.out; omega
     obtain ⟨b, off, rfl, hcap, -, hrec⟩ := HRL.out.at (by omega)
     obtain ⟨cs, -, ⟨x, rfl, hx⟩, hcl⟩ := hrec j hjn
     obtain ⟨b', off', rfl, hcap', -, hrec'⟩ := HRL'.out.at (by omega)
     obtain ⟨cs, -, ⟨x', rfl, hx'⟩, hcl'⟩ := hrec' j hjn
     have c4 := cell_later HB.out (hcl 4 (by omega))
     have d4 := cell_later HB.out (hcl' 4 (by omega))
     simp at c4 d4
     rw [HM.out] at hcap hcap'
     have hci1 : (m : Int) ≤ ce := by omega
     have hci2 : (m : Int) ≤ cl' := by omega
     have hlti : (j : Int) < m := by omega
     have HX := Lib.hid (hx.below HB.out)
     have HX' := Lib.hid (hx'.below HB.out)
     have HST := Lib.hid (HLS.out _ (List.getElem_mem hjn))
     clear hx hx' hcl hcl' hrec hrec' hcap hcap'
     generalize g.edges[j].start = st at *
     clear hjn
     go_wp2_with fail
     refine wp_region_soft (fun w' => Below wr.heap.size wr w' ∧ w'.cell? ⟨w.heap.size, 2, none⟩ = some (.slice (some ⟨b, off, none⟩) m ce) ∧ w'.cell? ⟨w.heap.size + 1, 2, none⟩ = some (.slice (some ⟨b', off', none⟩) m cl') ∧ w'.cell? ⟨b, off + j * 5 + 4, none⟩ = some x ∧ w'.cell? ⟨b', off' + j * 5 + 4, none⟩ = some x') [0, 1, 2, 3, 4, 5, 6, 7, 8, 9, 10, 11, 12, 13] [] (by kernel_rfl) (by kernel_rfl) rfl ⟨below_dr (n := 1) (Below.refl _ _), y2, z2, c4, d4⟩ ?_
     simp only [pickOps, List.flatMap_cons, List.flatMap_nil, List.drop_succ_cons, List.drop_zero, List.take_succ_cons, List.take_zero, List.cons_append, List.nil_append, List.append_nil]
     repeat (first
      | (refine wpHead_skip (by rfl) ?_; (try simp only [Act.put, List.setIfInBounds_toArray, List.set_cons_zero, List.set_cons_succ]))
      | (refine wpHead_val ?_ (by rfl) ?_ ?_; rotate_left; (intro wz hz; (try dsimp only at hz); (first | (go_simp; done) | (go_simp; with_reducible rfl))); (try simp only [Act.put, List.setIfInBounds_toArray, List.set_cons_zero, List.set_cons_succ])))
     refine wpHead_call (.bool true) 55 #[x, x'] (by rfl) (fun wz => by go_simp) (fun wz hz => ?_) ?_
     ·
      obtain ⟨hz1, hz2⟩ := hz
      refine (keptV_yes HST.out (HX.out.below hz1) (HX'.out.below hz1)).mono ?_
      rintro e wy ⟨rfl, m, rfl⟩
      exact ⟨rfl, below_dr hz1, hz2⟩
     simp only [Act.put, List.setIfInBounds_toArray, List.set_cons_zero, List.set_cons_succ]
     repeat (first
      | (refine wpHead_skip (by rfl) ?_; (try simp only [Act.put, List.setIfInBounds_toArray, List.set_cons_zero, List.set_cons_succ]))
      | (refine wpHead_val ?_ (by rfl) ?_ ?_; rotate_left; (intro wz hz; (try dsimp only at hz); (first | (go_simp; done) | (go_simp; with_reducible rfl))); (try simp only [Act.put, List.setIfInBounds_toArray, List.set_cons_zero, List.set_cons_succ])))
     refine wpHead_nil ?_
     intro w' hS
     have HS9 := Lib.hid (Below.then HB.out hS.1)
     clear hS
     go_wp2
     go_roundw
     case rel => exact ⟨j + 1, hlt, by go_num, HS9.out⟩
     case measure => simp [intOf]; omega
    ·
     obtain rfl : m = j := by omega
     clear hj hlt
     obtain ⟨ba, fa, rfl, hca, -, ka⟩ := HMA.out
     obtain ⟨be, fe, rfl, hce, -, ke⟩ := HME.out
     obtain ⟨bi, fi, rfl, hci, -, ki⟩ := HMI.out
     obtain ⟨bo, fo, rfl, hco, -, ko⟩ := HMO.out
     have y1 := cell_later HB.out HY1.out
     have z1 := cell_later HB.out HZ1.out
     have y2 := cell_later HB.out HY2.out
     have y3 := cell_later HB.out HY3.out
     have z3 := cell_later HB.out HZ3.out
     have y4 := cell_later HB.out HY4.out
     have z4 := cell_later HB.out HZ4.out
     replace ka := cell_later HB.out ka
     replace ke := cell_later HB.out ke
     replace ki := cell_later HB.out ki
     replace ko := cell_later HB.out ko
     simp only [Nat.add_zero] at ka ke ki ko
     have h1i : (n : Int) + 1 ≤ ca := by omega
     have h2i : (m : Int) + 1 ≤ ce := by omega
     have h3i : (g.ins.length : Int) + 1 ≤ ci := by omega
     have h4i : (g.outs.length : Int) + 1 ≤ co := by omega
     have b1i : (n : Int) ≤ 1100000 := by omega
     have b2i : (m : Int) ≤ 1100000 := by omega
     have b3i : (g.ins.length : Int) ≤ 1100000 := by omega
     have b4i : (g.outs.length : Int) ≤ 1100000 := by omega
     clear hca hce hci hco hpl hll hil hol
     go_wp2
     go_ret
     exact ⟨rfl, Below.then (Below.then HB2.out HB3.out) HB.out⟩
end Go.Proofs.Ytbmbfifempkhgaa

/- lentPorts, LentPlan. -/
namespace Go.Proofs.Ytbmbfifempkhgaa
open Go.RowKit
theorem info_Port : (Try.prog.info? 65).map (fun i => (i.zero, i.size, i.bytes)) = some (some (.agg #[.string ByteArray.empty, .int .i64 0, .int .i64 0]), 3, 32) := by kernel_rfl
theorem info_Region : (Try.prog.info? 70).map (fun i => (i.zero, i.size, i.bytes)) = some (some (.agg #[.int .i64 0, .int .i64 0]), 2, 16) := by kernel_rfl
def markT : ByteArray := { data := #[109, 97, 114, 107] }
def portMark : GPort := ⟨markT, -7770777, 0⟩
def regionMark : GRegion := ⟨-7770777, 0⟩
theorem flat_one {α : Type} {hd : α → List Value} (h : ∀ a, ∀ u ∈ hd a, u.oneCell' = true) (l : List α) : ∀ u ∈ flatV hd l, u.oneCell' = true := fun u hu => by
 obtain ⟨a, _, ha⟩ := List.mem_flatMap.1 hu
 exact h a u ha
theorem recs_mods {α : Type} {hd : α → List Value} {w w' : World} {F : Nat → Prop} {sz : Nat} {ao : Option Addr} {n cap : Nat} {l : List α} (h : Recs w sz (FlatR hd) (.slice ao n cap) l) (m : Mods F w w') (hF : ∀ b off, ao = some ⟨b, off, none⟩ → ¬ F b) : Recs w' sz (FlatR hd) (.slice ao n cap) l := by
 rcases h with h | ⟨hp, b, off, cap', e, hl, hlt, h⟩
 ·
  exact .inl h
 ·
  cases e
  refine .inr ⟨hp, b, off, _, rfl, hl, Nat.lt_of_lt_of_le hlt m.size, fun k hk => ?_⟩
  obtain ⟨cs, h1, h2, h3⟩ := h k hk
  exact ⟨cs, h1, h2, fun i hi => (m.cell (p := ⟨b, off + k * sz + i, none⟩) hlt (hF b off rfl)).trans (h3 i hi)⟩
end Go.Proofs.Ytbmbfifempkhgaa

/- LentGraph. -/
namespace Go.Proofs.Ytbmbfifempkhgaa
open Go.RowKit
theorem info_Actor : (Try.prog.info? 57).map (fun i => (i.zero, i.size, i.bytes)) = some (some (.agg #[.string ByteArray.empty, .int .u8 0, .slice none 0 0]), 3, 48) := by kernel_rfl
theorem info_Edge : (Try.prog.info? 63).map (fun i => (i.zero, i.size, i.bytes)) = some (some (.agg #[.int .i64 0, .int .i64 0, .int .i64 0, .int .i64 0, .slice none 0 0]), 5, 56) := by kernel_rfl
def actorMark : GActor := ⟨markT, 99, []⟩
def edgeMark : GEdge := ⟨-7770777, 0, 0, 0, []⟩
def RecC {α : Type} (hd : α → List Value) (w : World) (o : Col) (c sz : Nat) (v : Value) (l : List α) : Prop :=
 (l = [] ∧ ∃ ao cap, v = .slice ao 0 cap) ∨ (Recs w sz (FlatR hd) v l ∧ ∃ b off n cap, v = .slice (some ⟨b, off, none⟩) n cap ∧ b < w.heap.size ∧ o b = c)
theorem RecC.made {α : Type} {hd : α → List Value} {w : World} {o : Col} {c sz : Nat} {v : Value} {l : List α} (h : Recs w sz (FlatR hd) v l) (ho : ∀ b off n cap, v = .slice (some ⟨b, off, none⟩) n cap → o b = c) : RecC hd w o c sz v l := by
 rcases h with h | ⟨hp, b, off, cap', e, hl, hlt, h2⟩
 ·
  exact .inl h
 ·
  exact .inr ⟨.inr ⟨hp, b, off, cap', e, hl, hlt, h2⟩, b, off, _, _, e, hlt, ho b off _ _ e⟩
theorem RecC.turn {α : Type} {hd : α → List Value} {w w' : World} {o o' : Col} {c sz : Nat} {C : Nat → Prop} {v : Value} {l : List α} (h : RecC hd w o c sz v l) (T : Turn o o' C w w') (hc : ¬ C c) : RecC hd w' o' c sz v l := by
 rcases h with h | ⟨h, b, off, n, cap, rfl, hlt, hob⟩
 ·
  exact .inl h
 ·
  refine .inr ⟨recs_mods h T.mods (fun b' off' e => ?_), b, off, n, cap, rfl, Nat.lt_of_lt_of_le hlt T.size, (T.same _ hlt).trans hob⟩
  cases e
  rw [hob]; exact hc
theorem RecC.recs {α : Type} {hd : α → List Value} {w : World} {o : Col} {c sz : Nat} {v : Value} {l : List α} (h : RecC hd w o c sz v l) : Recs w sz (FlatR hd) v l := by
 rcases h with h | ⟨h, _⟩
 ·
  exact .inl h
 ·
  exact h
abbrev graphZ : Array Value := #[.string { data := #[] }, .slice none 0 0, .slice none 0 0, .slice none 0 0, .slice none 0 0]
abbrev setGraph (w : World) (R : Nat) (a b c d x : Value) : World := ((((w.setCell ⟨R, 0, none⟩ a).setCell ⟨R, 1, none⟩ b).setCell ⟨R, 2, none⟩ c).setCell ⟨R, 3, none⟩ d).setCell ⟨R, 4, none⟩ x
theorem graph_set {w : World} {R : Nat} {t : TypeId} (h : w.heap[R]? = some (.cells graphZ t (0, 0))) (a b c d x : Value) : (setGraph w R a b c d x).heap[R]? = some (.cells #[a, b, c, d, x] t (0, 0)) :=
 block_setCell (block_setCell (block_setCell (block_setCell (block_setCell h 0 a) 1 b) 2 c) 3 d) 4 x
theorem graph_mods (w : World) (R : Nat) (a b c d x : Value) : Mods (fun k => k = R) w (setGraph w R a b c d x) :=
 (((((Mods.refl (fun k => k = R) w).setCell (p := ⟨R, 0, none⟩) (fun _ => rfl) a).setCell (p := ⟨R, 1, none⟩) (fun _ => rfl) b).setCell (p := ⟨R, 2, none⟩) (fun _ => rfl) c).setCell (p := ⟨R, 3, none⟩) (fun _ => rfl) d).setCell (p := ⟨R, 4, none⟩) (fun _ => rfl) x
end Go.Proofs.Ytbmbfifempkhgaa

/- What is lent, with its marks: lentPorts, LentPlan, LentGraph (printed by tools/gen_lentk.py out of ELentP and ELentG). -/
namespace Go.Proofs.Ytbmbfifempkhgaa
open Go.RowKit
theorem lentL_has {w : World} {v : Value} {zs : List Int} (h : Has w v (ivs zs)) (hz : zs.length ≤ 17600000000000) : Calls Try.prog 37 #[v] w (fun e w' => ∃ g cap, e = .returned (.slice (some ⟨g, 0, none⟩) zs.length cap) ∧ Lends w' g zs.length cap zs ∧ w.heap.size ≤ g ∧ Below w.heap.size w w') := by
 obtain ⟨ao, n, rfl⟩ := Ints.slice h
 obtain ⟨h1, h2⟩ := h.news
 refine (lent_any w zs ao n hz h1 h2).mono ?_
 rintro e w' ⟨g, cap, rfl, hown, hb⟩
 exact ⟨g, cap, rfl, lends_of_owns hown, (hown.lt g rfl).1, hb⟩
def LendC (w : World) (o : Col) (d : Nat) (y : Value) (zs : List Int) : Prop := ∃ G cap, y = .slice (some ⟨G, 0, none⟩) zs.length cap ∧ Lends w G zs.length cap zs ∧ o G = d
theorem LendC.turn {w w' : World} {o o' : Col} {C : Nat → Prop} {d : Nat} {y : Value} {zs : List Int} (h : LendC w o d y zs) (T : Turn o o' C w w') (hd : ¬ C d) : LendC w' o' d y zs := by
 obtain ⟨G, cap, h1, ⟨l1, l2, l3, l4, l5⟩, h3⟩ := h
 have hG : ¬ C (o G) := by rw [h3]; exact hd
 exact ⟨G, cap, h1, ⟨l1, l2, Nat.lt_of_lt_of_le l3 T.size, fun k hk => T.cell (l4 k hk) hG, fun k a b => T.cell (l5 k a b) hG⟩, (T.same G l3).trans h3⟩
theorem LendC.vals {w : World} {o : Col} {d : Nat} {y : Value} {zs : List Int} (h : LendC w o d y zs) : Ints w o d y zs := by
 obtain ⟨G, cap, rfl, h2, h3⟩ := h
 exact Vals.recol (h2.has (by have := h2.2.1; omega)) h3
theorem LendC.lendV {w : World} {o : Col} {d : Nat} {y : Value} {zs : List Int} (h : LendC w o d y zs) : LendV w y zs := by
 obtain ⟨G, cap, h1, h2, _⟩ := h
 exact ⟨G, cap, h1, h2⟩
structure TailL {α : Type} (hd : α → List Value) (tl : α → List Int) (w : World) (o : Col) (c d : Nat) (ty sz : Nat) (v : Value) (ps : List (α × Value)) (m : Nat) : Prop where
 tail : TailAt hd tl w o c d ty sz v ps
 lend : ∀ k x, k < m → ps[k]? = some x → LendC w o d x.2 (tl x.1)
section
variable {α : Type} {hd : α → List Value} {tl : α → List Int} {w w' w2 : World} {o o' : Col} {C : Nat → Prop} {c d ty sz m : Nat} {v : Value} {ps : List (α × Value)}
theorem TailL.own (h : TailL hd tl w o c d ty sz v ps m) : Own w o c ty sz v ps.length (tailV hd ps) := h.tail.own
theorem TailL.turn (h : TailL hd tl w o c d ty sz v ps m) (T : Turn o o' C w w') (hc : ¬ C c) (hdd : ¬ C d) : TailL hd tl w' o' c d ty sz v ps m := ⟨h.tail.turn T hc hdd, fun k x hk hx => (h.lend k x hk hx).turn T hdd⟩
theorem TailL.nil : TailL hd tl w o c d ty sz (.slice none 0 0) [] 0 := ⟨TailAt.nil, fun _ _ h => by omega⟩
theorem TailL.last {B i e : Nat} {t : TypeId} {cs : Array Value} {a : α} {y v' : Value} (h : TailL hd tl w o c d ty sz v ps m) (hB : Blk w o e B t cs) (hce : c ≠ e) (hde : d ≠ e) (hcd : c ≠ d) (hi : i < cs.size) (hy : Ints w o d y (tl a)) (hm : m ≤ ps.length)
  (k1 : w2.ownsRow 0 ty sz v' (ps.length + 1) (tailV hd ps ++ (hd a ++ [y]))) (k2 : Mods (fun b => v.ownBlock = some b) w w2) (k4 : v'.ownBlock = v.ownBlock ∨ ∀ b, v'.ownBlock = some b → w.heap.size ≤ b) :
  w2.cell? ⟨B, i, none⟩ = some cs[i] ∧ w2.frozen? ⟨B, i, none⟩ = false ∧ Turn o (ext o w.heap.size c) (fun x => x = c ∨ x = e) w (w2.setCell ⟨B, i, none⟩ v') ∧ TailL hd tl (w2.setCell ⟨B, i, none⟩ v') (ext o w.heap.size c) c d ty sz v' (ps ++ [(a, y)]) m ∧ Blk (w2.setCell ⟨B, i, none⟩ v') (ext o w.heap.size c) e B t (cs.setIfInBounds i v') := by
 obtain ⟨h1, h2, T, h4, h5⟩ := h.tail.grow hB hce hde hcd hi hy k1 k2 k4
 refine ⟨h1, h2, T, ⟨h4, fun k x hk hx => ?_⟩, h5⟩
 rw [List.getElem?_append_left (by omega)] at hx
 exact (h.lend k x hk hx).turn T (fun h => h.elim (fun e => hcd e.symm) (fun e => hde e))
theorem TailL.grow {B i e : Nat} {t : TypeId} {cs : Array Value} {a : α} {y v' : Value} (h : TailL hd tl w o c d ty sz v ps ps.length) (hB : Blk w o e B t cs) (hce : c ≠ e) (hde : d ≠ e) (hcd : c ≠ d) (hi : i < cs.size) (hy : LendC w o d y (tl a))
  (k1 : w2.ownsRow 0 ty sz v' (ps.length + 1) (tailV hd ps ++ (hd a ++ [y]))) (k2 : Mods (fun b => v.ownBlock = some b) w w2) (k4 : v'.ownBlock = v.ownBlock ∨ ∀ b, v'.ownBlock = some b → w.heap.size ≤ b) :
  w2.cell? ⟨B, i, none⟩ = some cs[i] ∧ w2.frozen? ⟨B, i, none⟩ = false ∧ Turn o (ext o w.heap.size c) (fun x => x = c ∨ x = e) w (w2.setCell ⟨B, i, none⟩ v') ∧ TailL hd tl (w2.setCell ⟨B, i, none⟩ v') (ext o w.heap.size c) c d ty sz v' (ps ++ [(a, y)]) (ps ++ [(a, y)]).length ∧ Blk (w2.setCell ⟨B, i, none⟩ v') (ext o w.heap.size c) e B t (cs.setIfInBounds i v') := by
 obtain ⟨h1, h2, T, h4, h5⟩ := h.tail.grow hB hce hde hcd hi hy.vals k1 k2 k4
 have hd2 : ¬ (d = c ∨ d = e) := fun h => h.elim (fun e => hcd e.symm) (fun e => hde e)
 refine ⟨h1, h2, T, ⟨h4, fun k x hk hx => ?_⟩, h5⟩
 by_cases hl : k < ps.length
 ·
  rw [List.getElem?_append_left hl] at hx
  exact (h.lend k x hl hx).turn T hd2
 ·
  rw [List.length_append] at hk
  obtain rfl : k = ps.length := by simp at hk; omega
  simp at hx
  subst hx
  exact hy.turn T hd2
def TailK (hd : α → List Value) (tl : α → List Int) (w : World) (a : α) (cs : List Value) : Prop := ∃ y, cs = hd a ++ [y] ∧ LendV w y (tl a)
theorem TailL.keep (hsz : ∀ a, (hd a).length + 1 = sz) {ao : Option Addr} {n cap : Nat} {l : List α} {mk : α} (h : TailL hd tl w o c d ty sz (.slice ao n cap) ps l.length) (e : ps.map Prod.fst = l ++ [mk]) : Recs w sz (TailK hd tl) (.slice ao l.length cap) l ∧ ∀ i, i + 1 < sz → MarkAt w ao cap l.length sz i ((hd mk)[i]?.getD undef) := by
 have hr := h.tail.recs hsz
 rw [e] at hr
 have hln : ps.length = l.length + 1 := by have := congrArg List.length e; simpa using this
 obtain ⟨b, off, rfl, hcap, hb, hcl⟩ := hr.at (by simp)
 refine ⟨?_, fun i hi => ?_⟩
 ·
  by_cases hp : 0 < l.length
  ·
   obtain ⟨_, _, g, _, e2, hc, _, _⟩ := owns_cell h.tail.own.1 (by rw [tailV_len hsz, hln]; have := hsz mk; exact Nat.mul_pos (by omega) (by omega))
   cases e2
   refine .inr ⟨hp, b, 0, cap, rfl, by simp at hcap; omega, hb, fun k hk => ?_⟩
   have hk' : k < ps.length := by omega
   have hkm : (ps[k]).1 = l[k] := by
    have h1 : (ps.map Prod.fst)[k]? = (l ++ [mk])[k]? := by rw [e]
    rw [List.getElem?_map, List.getElem?_append_left hk, List.getElem?_eq_getElem hk', List.getElem?_eq_getElem hk] at h1
    simpa using h1
   refine ⟨hd l[k] ++ [(ps[k]).2], by simp [hsz], ⟨(ps[k]).2, rfl, ?_⟩, fun i hi => ?_⟩
   ·
    rw [← hkm]
    exact (h.lend k _ hk (List.getElem?_eq_getElem hk')).lendV
   ·
    have hg2 := tailV_get hsz ps k i hk' hi
    rw [hkm] at hg2
    have hlen : i < (hd l[k] ++ [(ps[k]).2]).length := by simp [hsz]; exact hi
    rw [List.getElem?_eq_getElem hlen] at hg2 ⊢
    rw [Nat.zero_add]
    exact hc _ _ hg2
  ·
   rw [List.eq_nil_of_length_eq_zero (by omega : l.length = 0)]
   exact .inl ⟨rfl, _, cap, rfl⟩
 ·
  obtain ⟨cs, _, ⟨y, rfl, _⟩, hm⟩ := hr.mark
  have := hm i (by omega)
  rwa [List.getElem?_append_left (by have := hsz mk; omega)] at this
end
def LentPKRet (w : World) (l : List GPort) (e : Ending) (w' : World) : Prop := ∃ ao cap, e = .returned (.slice ao l.length cap) ∧ Recs w' 3 (FlatR portHd) (.slice ao (l ++ [portMark]).length cap) (l ++ [portMark]) ∧ (∀ b off, ao = some ⟨b, off, none⟩ → w.heap.size ≤ b) ∧ Below w.heap.size w w'
set_option maxRecDepth 100000 in
theorem lentportsK_any (w : World) (v : Value) (l : List GPort) (h : Recs w 3 PortR v l) (hl : l.length ≤ 1100000) : Calls Try.prog 38 #[v] w (LentPKRet w l) := by
 obtain ⟨i0, hi, hz0, hz1, hz2⟩ := info_parts info_Port
 obtain ⟨ao, cap, rfl⟩ := h.slice
 have h' : Recs w 3 (FlatR portHd) (.slice ao l.length cap) l := h
 obtain ⟨n1, n2⟩ := h'.news (show ∀ a, (portHd a).length = 3 from fun _ => rfl) (by decide)
 have hfl : (flatV portHd l).length = l.length * 3 := flatV_len (show ∀ a, (portHd a).length = 3 from fun _ => rfl) l
 have H1 := Lib.hid n1
 have H2 := Lib.hid n2
 clear h h' n1 n2
 go_enter Try.func38, Try.ntmps38
 go_wp2_with (at_builtin; refine stop_here ?_)
 refine go_on ?_
 refine wpList_app rfl _ _ 24 rfl w.heap.size 65 i0 _ 3 32 Try.underlying24 hi hz0 hz1 hz2 rfl (.slice none 0 0) 0 [] rfl (World.ownsRow_nil w w.heap.size 65 3) ao l.length cap (flatV portHd l) rfl hfl H1.out H2.out (flat_one (fun a u hu => by simp [portHd] at hu; rcases hu with rfl | rfl | rfl <;> rfl) l) (by unfold maxLen; omega) (grow_ok (by omega)) (Nat.le_refl _) ?_
 intro v5 w5 k1 k20 _ _
 have hb : Below w.heap.size w w5 := below_mods ((Mods.refl _ w).grown k20 (fun b hb _ => by simp [Value.ownBlock] at hb))
 have k3 : w5.ownsRow w.heap.size 65 3 v5 l.length (flatV portHd l) := by simpa using k1
 obtain ⟨s5, c5, rfl⟩ := owns_slice k3
 have HB := Lib.hid hb
 have HK := Lib.hid k3
 have hsz := hb.size
 clear k1 k20 hb k3
 go_wp2_with (at_builtin; refine stop_here ?_)
 refine go_on ?_
 refine wpList_app rfl _ _ 24 rfl w.heap.size 65 i0 _ 3 32 Try.underlying24 hi hz0 hz1 hz2 rfl (.slice s5 l.length c5) l.length _ rfl (HK.out.alloc (.cells #[.string markT, .int .i64 (-7770777), .int .i64 0] 65)) (some ⟨w5.heap.size, 0, none⟩) 1 1 [.string markT, .int .i64 (-7770777), .int .i64 0] rfl rfl (fun h => by cases h) (news_alloc w5 [.string markT, .int .i64 (-7770777), .int .i64 0] 65) (by simp [Value.oneCell']) (by unfold maxLen; omega) (grow_ok (by omega)) (size_le_alloc hsz _) ?_
 intro v6 w6 k1 k20 _ _
 have k2 : (w5.alloc (.cells #[.string markT, .int .i64 (-7770777), .int .i64 0] 65)).grownBy w6 (Value.slice s5 l.length c5).ownBlock := ⟨k20.os, k20.tape, k20.output, k20.size, k20.block⟩
 have hb6 := HB.out.trans (below_app HK.out k2 hsz)
 have k3 : w6.ownsRow w.heap.size 65 3 v6 (l ++ [portMark]).length (flatV portHd (l ++ [portMark])) := by
  rw [flatV_app, List.length_append]; exact k1
 obtain ⟨s6, c6, rfl⟩ := owns_slice k3
 have HR : Hid (Recs w6 3 (FlatR portHd) (.slice s6 (l ++ [portMark]).length c6) (l ++ [portMark])) := Lib.hid (Own.flat (o := fun _ => 0) (c := 0) (show ∀ a, (portHd a).length = 3 from fun _ => rfl) ⟨owns_base k3 (fun _ _ => Nat.zero_le _), fun _ _ => rfl⟩)
 have HLT : Hid (∀ b, (Value.slice s6 (l ++ [portMark]).length c6).ownBlock = some b → w.heap.size ≤ b) := Lib.hid fun b hb => (k3.lt b hb).1
 have HB6 := Lib.hid hb6
 have hcap : l.length + 1 ≤ c6 := by
  obtain ⟨_, _, _, hc, _⟩ := HR.out.at (by simp)
  simpa using hc
 have hci : (l.length : Int) + 1 ≤ c6 := by omega
 clear k1 k20 k2 k3 hb6 HK HB
 go_wp2
 go_ret
 exact ⟨_, _, rfl, HR.out, fun b off e => HLT.out b (by cases e; rfl), HB6.out⟩
def LentPlanKRet (w : World) (p : GPlan) (e : Ending) (w' : World) : Prop := ∃ v, e = .returned v ∧ KeepP w' v p ∧ Below w.heap.size w w'
set_option maxRecDepth 100000 in
theorem lentplanK_any (w : World) (v : Value) (p : GPlan) (h : HasPlan w v p) (hl : p.regions.length ≤ 1100000) : Calls Try.prog 11 #[v] w (LentPlanKRet w p) := by
 obtain ⟨i0, hi, hz0, hz1, hz2⟩ := info_parts info_Region
 obtain ⟨vr, rfl, hr⟩ := h
 obtain ⟨ao, cap, rfl⟩ := hr.slice
 have hfl : (flatV regionHd p.regions).length = p.regions.length * 2 := flatV_len (show ∀ a, (regionHd a).length = 2 from fun _ => rfl) p.regions
 have hb1 := below_alloc w (.cells #[.slice ao p.regions.length cap, .int .i64 p.total] 29)
 have hP := heap_alloc_new w (.cells #[.slice ao p.regions.length cap, .int .i64 p.total] 29)
 have hs1 : (w.alloc (.cells #[.slice ao p.regions.length cap, .int .i64 p.total] 29)).heap.size = w.heap.size + 1 := by simp
 have hr1 := hr.below region_steady hb1
 generalize hW1 : w.alloc (.cells #[.slice ao p.regions.length cap, .int .i64 p.total] 29) = W1 at *
 have hb2 := below_alloc W1 (.cells #[.slice none 0 0, .int .i64 0] 29)
 have hR := heap_alloc_new W1 (.cells #[.slice none 0 0, .int .i64 0] 29)
 have hP2 := block_alloc hP (.cells #[.slice none 0 0, .int .i64 0] 29)
 have hr2 := hr1.below region_steady hb2
 rw [hs1] at hR
 have hB2 := hb1.trans (hb2.mono (by omega))
 have hs2 : (W1.alloc (.cells #[.slice none 0 0, .int .i64 0] 29)).heap.size = w.heap.size + 2 := by rw [World.size_alloc]; omega
 generalize hW2 : W1.alloc (.cells #[.slice none 0 0, .int .i64 0] 29) = W2 at *
 have h' : Recs W2 2 (FlatR regionHd) (.slice ao p.regions.length cap) p.regions := hr2
 obtain ⟨n1, n2⟩ := h'.news (show ∀ a, (regionHd a).length = 2 from fun _ => rfl) (by decide)
 have H1 := Lib.hid n1
 have H2 := Lib.hid n2
 have HP := Lib.hid hP2
 have HR := Lib.hid hR
 have HB2 := Lib.hid hB2
 have y0 := cells_row _ _ hP2 0 _ rfl
 clear h' n1 n2 hr hr1 hr2 hb1 hb2 hP hP2 hR hB2
 go_enter Try.func11, Try.ntmps11
 go_wp2_with (at_builtin; refine stop_here ?_)
 refine go_on ?_
 clear hW1 hW2 hs1 y0
 refine wpList_app rfl _ _ 27 rfl W2.heap.size 70 i0 _ 2 16 Try.underlying27 hi hz0 hz1 hz2 rfl (.slice none 0 0) 0 [] rfl (World.ownsRow_nil W2 W2.heap.size 70 2) ao p.regions.length cap (flatV regionHd p.regions) rfl hfl H1.out H2.out (flat_one (fun a u hu => by simp [regionHd] at hu; rcases hu with rfl | rfl <;> rfl) p.regions) (by unfold maxLen; omega) (grow_ok (by omega)) (Nat.le_refl _) ?_
 intro v5 w5 k1 k20 _ _
 have hb : Below W2.heap.size W2 w5 := below_mods ((Mods.refl _ W2).grown k20 (fun b hb _ => by simp [Value.ownBlock] at hb))
 have k3 : w5.ownsRow W2.heap.size 70 2 v5 p.regions.length (flatV regionHd p.regions) := by simpa using k1
 obtain ⟨s5, c5, rfl⟩ := owns_slice k3
 have HB := Lib.hid hb
 have HK := Lib.hid k3
 have hsz := hb.size
 clear k1 k20 hb k3
 go_wp2_with (at_builtin; refine stop_here ?_)
 refine go_on ?_
 refine wpList_app rfl _ _ 27 rfl W2.heap.size 70 i0 _ 2 16 Try.underlying27 hi hz0 hz1 hz2 rfl (.slice s5 p.regions.length c5) p.regions.length _ rfl (HK.out.alloc (.cells #[.int .i64 (-7770777), .int .i64 0] 70)) (some ⟨w5.heap.size, 0, none⟩) 1 1 [.int .i64 (-7770777), .int .i64 0] rfl rfl (fun h => by cases h) (news_alloc w5 [.int .i64 (-7770777), .int .i64 0] 70) (by simp [Value.oneCell']) (by unfold maxLen; omega) (grow_ok (by omega)) (size_le_alloc hsz _) ?_
 intro v6 w6 k1 k20 _ _
 have k2 : (w5.alloc (.cells #[.int .i64 (-7770777), .int .i64 0] 70)).grownBy w6 (Value.slice s5 p.regions.length c5).ownBlock := ⟨k20.os, k20.tape, k20.output, k20.size, k20.block⟩
 have hb6 := HB.out.trans (below_app HK.out k2 hsz)
 have k3 : w6.ownsRow W2.heap.size 70 2 v6 (p.regions ++ [regionMark]).length (flatV regionHd (p.regions ++ [regionMark])) := by
  rw [flatV_app, List.length_append]; exact k1
 obtain ⟨s6, c6, rfl⟩ := owns_slice k3
 have hr6 := hb6.block _ (block_lt HR.out)
 have hp6 := hb6.block _ (block_lt HP.out)
 rw [HR.out] at hr6
 rw [HP.out] at hp6
 have HOW := Lib.hid k3
 have HR6 := Lib.hid hr6
 have HB6 := Lib.hid hb6
 have HRx : Recs w6 2 (FlatR regionHd) (.slice s6 (p.regions ++ [regionMark]).length c6) (p.regions ++ [regionMark]) := Own.flat (o := fun _ => 0) (c := 0) (show ∀ a, (regionHd a).length = 2 from fun _ => rfl) ⟨owns_base k3 (fun _ _ => Nat.zero_le _), fun _ _ => rfl⟩
 obtain ⟨bb, oo, rfl, hcap, hbb, _⟩ := HRx.at (by simp)
 have hne : bb ≠ w.heap.size + 1 := fun e => by have := (k3.lt bb rfl).1; omega
 have HF := Lib.hid HRx
 have hln : (p.regions ++ [regionMark]).length = p.regions.length + 1 := by simp
 rw [hln] at hcap
 clear HRx hln
 have hci : (p.regions.length : Int) + 1 ≤ c6 := by omega
 have hcn : p.regions.length ≤ c6 := by omega
 have y0 := cells_row _ _ hp6 0 _ rfl
 have y1 := cells_row _ _ hp6 1 _ rfl
 have z0 := cells_row _ _ hr6 0 _ rfl
 have z1 := cells_row _ _ hr6 1 _ rfl
 have f0 := frozen_of_block hr6 0
 have f1 := frozen_of_block hr6 1
 clear k1 k20 k2 k3 hb6 HK HB hp6 hr6 HR HP
 go_wp2_with fail
 refine wp_region_lex (fun w' => w'.cell? ⟨w.heap.size, 0, none⟩ = some (.slice ao p.regions.length cap) ∧ w'.cell? ⟨w.heap.size, 1, none⟩ = some (.int .i64 p.total)) [0, 1, 2, 3, 4, 5, 6, 7] [8] (by kernel_rfl) (by kernel_rfl) rfl (fun _ _ hx h => ⟨hx.cell h.1, hx.cell h.2⟩) ⟨y0, y1⟩ ?_
 intro Q' hQ'
 simp only [pickOps, List.flatMap_cons, List.flatMap_nil, List.drop_succ_cons, List.drop_zero, List.take_succ_cons, List.take_zero, List.cons_append, List.nil_append, List.append_nil]
 repeat (first
  | (refine wpReads_skip (by rfl) ?_; (try simp only [Act.put, List.setIfInBounds_toArray, List.set_cons_zero, List.set_cons_succ]))
  | (refine wpReads_cons ?_ (by rfl) (by rfl) ?_ ?_; rotate_left; (intro wz hz; (try dsimp only at hz); go_simp; try with_reducible rfl); (try simp only [Act.put, List.setIfInBounds_toArray, List.set_cons_zero, List.set_cons_succ]))
  | (refine wpReads_any ?_ (by rfl) ?_ ?_; rotate_left; (intro wz; go_simp; try with_reducible rfl); (try simp only [Act.put, List.setIfInBounds_toArray, List.set_cons_zero, List.set_cons_succ])))
 refine wpReads_nil ?_
 go_wp2
 refine bodyPost_ret_by (results_cell_row rfl _ _ _ _ _ _ _ rfl (block_setCell (block_setCell (w := w6.drew) HR6.out 0 (.slice (some ⟨bb, oo, none⟩) p.regions.length c6)) 1 (.int .i64 p.total)) Try.underlying29 rfl (by kernel_rfl)) rfl ?_
 have m : Mods (fun k => k = w.heap.size + 1) w6 ((w6.drew.setCell ⟨w.heap.size + 1, 0, none⟩ (.slice (some ⟨bb, oo, none⟩) p.regions.length c6)).setCell ⟨w.heap.size + 1, 1, none⟩ (.int .i64 p.total)) := (((Mods.refl (fun k => k = w.heap.size + 1) w6).drew.setCell (p := ⟨w.heap.size + 1, 0, none⟩) (fun _ => rfl) _).setCell (p := ⟨w.heap.size + 1, 1, none⟩) (fun _ => rfl) _)
 have hrm := recs_mods HF.out m (fun b off e => by cases e; exact hne)
 obtain ⟨cs, -, rfl, hmk⟩ := hrm.mark
 refine ⟨_, rfl, ⟨_, _, rfl, hrm.front, hmk 0 (by omega)⟩, HB2.out.trans ((HB6.out.mono (by omega)).trans (m.below (by have := HB6.out.size; omega) (fun k hk e => by omega)))⟩
def LentGKRet (w : World) (g : GGraph) (e : Ending) (w' : World) : Prop := ∃ v, e = .returned v ∧ KeepG w' v g ∧ Below w.heap.size w w'
set_option maxRecDepth 100000 in
set_option maxHeartbeats 4000000 in
theorem lentgraphK_any (w : World) (vg : Value) (g : GGraph) (hg : HasGraph w vg g) (hgr : headN g + pSum g.actors + eSum g.edges ≤ 1048576) (hps : ∀ a ∈ g.actors, a.params.length ≤ 17600000000000) (hes : ∀ e ∈ g.edges, e.start.length ≤ 17600000000000) : Calls Try.prog 10 #[vg] w (LentGKRet w g) := by
 obtain ⟨va, ve, vi, vo, rfl, ra, re, ri, ro⟩ := hg.shape
 obtain ⟨aa, ac, rfl⟩ := ra.slice
 obtain ⟨ae, ec, rfl⟩ := re.slice
 obtain ⟨ai, ic, rfl⟩ := ri.slice
 obtain ⟨ao, oc, rfl⟩ := ro.slice
 have RA := Lib.hid ra
 have RE := Lib.hid re
 have RI := Lib.hid ri
 have RO := Lib.hid ro
 have HPS := Lib.hid hps
 have HES := Lib.hid hes
 have hsA : g.actors.length ≤ 1048576 := by unfold headN at hgr; omega
 have hsE : g.edges.length ≤ 1048576 := by unfold headN at hgr; omega
 have hsI : g.ins.length ≤ 1048576 := by unfold headN at hgr; omega
 have hsO : g.outs.length ≤ 1048576 := by unfold headN at hgr; omega
 clear ra re ri ro hg hps hes hgr
 have hb1 := below_alloc w (.cells #[.string g.name, .slice aa g.actors.length ac, .slice ae g.edges.length ec, .slice ai g.ins.length ic, .slice ao g.outs.length oc] 26)
 have T1 := Turn.of_below (fun _ => 0) 9 hb1
 have hG : Blk _ (ext (fun _ => 0) w.heap.size 9) 9 _ _ _ := ⟨heap_alloc_new w (.cells #[.string g.name, .slice aa g.actors.length ac, .slice ae g.edges.length ec, .slice ai g.ins.length ic, .slice ao g.outs.length oc] 26), ext_new (Nat.le_refl _)⟩
 have K1 := (Kept.start w).turn T1 (fun h => h)
 generalize hW1 : w.alloc (.cells #[.string g.name, .slice aa g.actors.length ac, .slice ae g.edges.length ec, .slice ai g.ins.length ic, .slice ao g.outs.length oc] 26) = W1 at *
 have hs1 : W1.heap.size = w.heap.size + 1 := by rw [← hW1]; simp
 have T2 := Turn.of_below (ext (fun _ => 0) w.heap.size 9) 9 (below_alloc W1 (.cells graphZ 26))
 have hR : Blk _ (ext (ext (fun _ => 0) w.heap.size 9) W1.heap.size 9) 9 _ _ _ := ⟨heap_alloc_new W1 (.cells graphZ 26), ext_new (Nat.le_refl _)⟩
 generalize ext (fun _ => 0) w.heap.size 9 = q0 at *
 have K2 := K1.turn T2 (fun h => h)
 have hG2 := hG.turn T2 (fun h => h)
 generalize hW2 : W1.alloc (.cells graphZ 26) = W2 at *
 have hs2 : W2.heap.size = w.heap.size + 2 := by rw [← hW2, World.size_alloc, hs1]
 generalize ext q0 W1.heap.size 9 = q1 at *
 rw [hs1] at hR
 have T3 := Turn.of_below q1 3 (below_alloc W2 (.cells #[.string g.name, .slice none 0 0, .slice none 0 0, .slice none 0 0, .slice none 0 0] 26))
 have hO : Blk _ (ext q1 W2.heap.size 3) 3 _ _ _ := ⟨heap_alloc_new W2 (.cells #[.string g.name, .slice none 0 0, .slice none 0 0, .slice none 0 0, .slice none 0 0] 26), ext_new (Nat.le_refl _)⟩
 have HK := Lib.hid (K2.turn T3 (fun h => h))
 have HGB := Lib.hid (hG2.turn T3 (fun h => h))
 have HR := Lib.hid (hR.turn T3 (fun h => h))
 have z0 := hG2.cell 0 _ rfl
 rw [hs2] at hO HK HGB HR
 have HO := Lib.hid hO
 generalize ext q1 (w.heap.size + 2) 3 = q at *
 clear hb1 T1 hG K1 T2 hR K2 hG2 T3 hO
 go_enter Try.func10, Try.ntmps10
 go_wp2_with fail
 clear hW1 hs1 hW2 hs2 z0
 obtain ⟨n, hn⟩ : ∃ x, g.actors.length = x := ⟨_, rfl⟩
 have HNA := Lib.hid hn
 rw [hn] at hsA HGB ⊢
 clear hn
 go_loopw [4] (fun i wl => ∃ (j : Nat) (q : Col) (v : Value) (ps : List (GActor × Value)), j ≤ n ∧ i = .int .i64 j ∧ Kept w.heap.size q w wl ∧ Blk wl q 9 w.heap.size 26 #[.string g.name, .slice aa n ac, .slice ae g.edges.length ec, .slice ai g.ins.length ic, .slice ao g.outs.length oc] ∧ Blk wl q 9 (w.heap.size + 1) 26 graphZ ∧ Blk wl q 3 (w.heap.size + 2) 26 #[.string g.name, v, .slice none 0 0, .slice none 0 0, .slice none 0 0] ∧ TailL actorHd GActor.params wl q 4 5 57 3 v ps ps.length ∧ ps.map Prod.fst = g.actors.take j) (fun i _ => n - (intOf i).toNat)
 case atStart => exact ⟨0, _, _, [], Nat.zero_le _, rfl, HK.out, HGB.out, HR.out, HO.out, TailL.nil, rfl⟩
 case round =>
  clear HK HGB HR HO
  obtain ⟨j, q, v, ps, hj, rfl, hK, hG, hR, hO, hT, hps⟩ := hrel
  have HK := Lib.hid hK
  have HGB := Lib.hid hG
  have HR := Lib.hid hR
  have HO := Lib.hid hO
  have HT := Lib.hid hT
  have HPJ := Lib.hid hps
  clear hK hG hR hO hT hps
  by_cases hlt : j < n
  ·
   have hlti : (j : Int) < n := by omega
   have hlt2 : j < g.actors.length := by have := HNA.out; omega
   obtain ⟨b0, off, rfl, hcap, hb0, hrec⟩ := RA.out.at (by omega)
   obtain ⟨cs, hcs, hPR, hcl⟩ := hrec j hlt2
   obtain ⟨xs, rfl, hst⟩ := hPR
   have c0 := cell_later HK.out.below (hcl 0 (by omega))
   have c1 := cell_later HK.out.below (hcl 1 (by omega))
   have c2 := cell_later HK.out.below (hcl 2 (by omega))
   simp at c0 c1 c2
   have hcapi : (n : Int) ≤ ac := by have := HNA.out; omega
   have hst2 : Has w xs (ivs g.actors[j].params) := hst
   obtain ⟨sa, sc, hxs⟩ := Ints.slice hst2
   subst hxs
   have HST := Lib.hid hst2
   have hpl := HPS.out _ (List.getElem_mem hlt2)
   have HTK : Hid (g.actors.take (j + 1) = g.actors.take j ++ [g.actors[j]]) := Lib.hid (List.take_succ_eq_append_getElem hlt2)
   clear hcl hcs hrec hst hst2
   generalize g.actors[j] = a at *
   have y := HGB.out.cell 1 _ rfl
   have hbX := below_alloc wr (.cells #[.string a.name, .int .u8 a.tag, .slice sa a.params.length sc] 57)
   have TX := Turn.of_below q 8 hbX
   have HX : Hid (Blk _ (ext q wr.heap.size 8) 8 _ _ _) := Lib.hid ⟨heap_alloc_new wr (.cells #[.string a.name, .int .u8 a.tag, .slice sa a.params.length sc] 57), ext_new (Nat.le_refl _)⟩
   have HK2 := Lib.hid (HK.out.turn TX (fun h => h))
   have HG2 := Lib.hid (HGB.out.turn TX (fun h => h))
   have HR2 := Lib.hid (HR.out.turn TX (fun h => h))
   have HO2 := Lib.hid (HO.out.turn TX (fun h => h))
   have HT2 := Lib.hid (HT.out.turn TX (fun h => h) (fun h => h))
   have x4 := HX.out.cell 2 _ rfl
   clear hbX TX HK HGB HR HO HT
   go_wp2_with fail
   refine (lentL_has (HST.out.below HK2.out.below) hpl).mono ?_
   rintro e w5 ⟨gy, cy, rfl, hy, hgy, hb5⟩
   have T5 := Turn.of_below (ext q wr.heap.size 8) 5 hb5
   have HY5 := Lib.hid (show LendC w5 (ext (ext q wr.heap.size 8) _ 5) 5 _ _ from ⟨gy, cy, rfl, hy, ext_new (o := ext q wr.heap.size 8) (c := 5) hgy⟩)
   have HK5 := Lib.hid (HK2.out.turn T5 (fun h => h))
   have HG5 := Lib.hid (HG2.out.turn T5 (fun h => h))
   have HR5 := Lib.hid (HR2.out.turn T5 (fun h => h))
   have HO5 := Lib.hid (HO2.out.turn T5 (fun h => h))
   have HT5 := Lib.hid (HT2.out.turn T5 (fun h => h) (fun h => h))
   have hX5 := HX.out.turn T5 (fun h => h)
   have v4 := hX5.cell 2 _ rfl
   have f4 := hX5.frozen 2
   obtain ⟨b6, T6⟩ := hX5.set 2 (.slice (some ⟨gy, 0, none⟩) a.params.length cy)
   have HX6 := Lib.hid b6
   have HK6 := Lib.hid (HK5.out.turn T6 (by decide))
   have HG6 := Lib.hid (HG5.out.turn T6 (by decide))
   have HR6 := Lib.hid (HR5.out.turn T6 (by decide))
   have HO6 := Lib.hid (HO5.out.turn T6 (by decide))
   have HT6 := Lib.hid (HT5.out.turn T6 (by decide) (by decide))
   have HY6 := Lib.hid (HY5.out.turn T6 (by decide))
   clear hy hgy hb5 T5 T6 b6 hX5 HX x4 y c0 c1 c2 HK2 HG2 HR2 HO2 HT2 HK5 HG5 HR5 HO5 HT5 HY5
   obtain ⟨pa0, pc0, rfl⟩ := HT6.out.own.slice
   have o1 := HO6.out.cell 1 _ rfl
   have u0 := HX6.out.cell 0 _ rfl
   have u1 := HX6.out.cell 1 _ rfl
   have u2 := HX6.out.cell 2 _ rfl
   have HPL : Hid (ps.length = j) := Lib.hid (by have := congrArg List.length HPJ.out; rw [List.length_map, List.length_take] at this; omega)
   go_wp2_with (at_builtin; refine stop_here ?_)
   refine go_on ?_
   clear v4 f4 o1 u0 u1 u2
   obtain ⟨i0, hi, hz0, hz1, hz2⟩ := info_parts info_Actor
   obtain ⟨w6, hw6⟩ : ∃ x, w5.setCell ⟨wr.heap.size, 2, none⟩ (.slice (some ⟨gy, 0, none⟩) a.params.length cy) = x := ⟨_, rfl⟩
   obtain ⟨q6, hq6⟩ : ∃ x : Col, x = ext (ext q wr.heap.size 8) (wr.alloc (.cells #[.string a.name, .int .u8 a.tag, .slice sa a.params.length sc] 57)).heap.size 5 := ⟨_, rfl⟩
   rw [hw6, ← hq6] at HX6 HK6 HG6 HR6 HO6 HT6 HY6
   have hs6 : w5.heap.size = w6.heap.size := by rw [← hw6, size_setCell']
   rw [hw6, hs6]
   clear hw6 hq6 hs6
   refine wpList_app rfl _ _ 22 rfl 0 57 i0 _ 3 48 Try.underlying22 hi hz0 hz1 hz2 rfl (.slice pa0 ps.length pc0) ps.length _ rfl (HT6.out.own.1.alloc (.cells #[.string a.name, .int .u8 a.tag, .slice (some ⟨gy, 0, none⟩) a.params.length cy] 57)) (some ⟨w6.heap.size, 0, none⟩) 1 1 [.string a.name, .int .u8 a.tag, .slice (some ⟨gy, 0, none⟩) a.params.length cy] rfl rfl (fun h => by cases h) (news_alloc w6 [.string a.name, .int .u8 a.tag, .slice (some ⟨gy, 0, none⟩) a.params.length cy] 57) (by simp [Value.oneCell']) (by have := HPL.out; unfold maxLen; omega) (grow_ok (by have := HPL.out; omega)) (Nat.zero_le _) ?_
   intro v7 w7 k1 k20 _ k4
   have hm : Mods (fun b => (Value.slice pa0 ps.length pc0).ownBlock = some b) w6 w7 := ((Mods.refl _ w6).alloc _).grown k20 (fun b hb _ => hb)
   obtain ⟨z4, zf, T7, N7, B7⟩ := HT6.out.grow (a := a) (y := .slice (some ⟨gy, 0, none⟩) a.params.length cy) (v' := v7) (w2 := w7) HO6.out (i := 1) (by decide) (by decide) (by decide) (by show 1 < 5; decide) HY6.out k1 hm (k4.imp id (fun k4 b hb => by rw [k4] at hb; have := Option.some.inj hb; simp at this; omega))
   obtain ⟨sp7, cp7, rfl⟩ := owns_slice k1
   have HK7 := Lib.hid (HK6.out.turn T7 (by decide))
   have HG7 := Lib.hid (HG6.out.turn T7 (by decide))
   have HR7 := Lib.hid (HR6.out.turn T7 (by decide))
   have HO7 := Lib.hid B7
   have HT7 := Lib.hid N7
   have HPJ7 : Hid ((ps ++ [(a, (.slice (some ⟨gy, 0, none⟩) a.params.length cy : Value))]).map Prod.fst = g.actors.take (j + 1)) := Lib.hid (by rw [HTK.out, ← HPJ.out]; simp)
   clear HPL T7 N7 B7 k1 k20 k4 hm HK6 HG6 HR6 HO6 HT6 HY6 HX6
   go_wp2
   go_roundw
   case rel => exact ⟨j + 1, _, _, _, hlt, by go_num, HK7.out, HG7.out, HR7.out, HO7.out, HT7.out, HPJ7.out⟩
   case measure => simp [intOf]; omega
  ·
   obtain rfl : n = j := by omega
   clear hj hlt
   have hPJ := HPJ.out
   rw [List.take_of_length_le (by have := HNA.out; omega)] at hPJ
   have HPJ := Lib.hid hPJ
   have HPL : Hid (ps.length = n) := Lib.hid (by have := congrArg List.length hPJ; rw [List.length_map] at this; have := HNA.out; omega)
   clear hPJ
   obtain ⟨pa0, pc0, rfl⟩ := HT.out.own.slice
   have o1 := HO.out.cell 1 _ rfl
   have y := HGB.out.cell 1 _ rfl
   obtain ⟨i0, hi, hz0, hz1, hz2⟩ := info_parts info_Actor
   go_wp2_with (at_builtin; refine stop_here ?_)
   refine go_on ?_
   clear o1
   refine wpList_app rfl _ _ 22 rfl 0 57 i0 _ 3 48 Try.underlying22 hi hz0 hz1 hz2 rfl (.slice pa0 ps.length pc0) ps.length _ rfl (HT.out.own.1.alloc (.cells #[.string markT, .int .u8 99, .slice none 0 0] 57)) (some ⟨wr.heap.size, 0, none⟩) 1 1 [.string markT, .int .u8 99, .slice none 0 0] rfl rfl (fun h => by cases h) (news_alloc wr [.string markT, .int .u8 99, .slice none 0 0] 57) (by simp [Value.oneCell']) (by have := HPL.out; unfold maxLen; omega) (grow_ok (by have := HPL.out; omega)) (Nat.zero_le _) ?_
   intro v7 w7 k1 k20 _ k4
   have hm : Mods (fun b => (Value.slice pa0 ps.length pc0).ownBlock = some b) wr w7 := ((Mods.refl _ wr).alloc _).grown k20 (fun b hb _ => hb)
   obtain ⟨z4, zf, T7, N7, B7⟩ := HT.out.last (a := actorMark) (y := .slice none 0 0) (v' := v7) (w2 := w7) HO.out (i := 1) (by decide) (by decide) (by decide) (by show 1 < 5; decide) (.inl ⟨rfl, _, _, rfl⟩) (Nat.le_refl _) k1 hm (k4.imp id (fun k4 b hb => by rw [k4] at hb; have := Option.some.inj hb; simp at this; omega))
   obtain ⟨sp7, cp7, rfl⟩ := owns_slice k1
   have HK7 := Lib.hid (HK.out.turn T7 (by decide))
   have hG7 := HGB.out.turn T7 (by decide)
   have HG7 := Lib.hid hG7
   have HR7 := Lib.hid (HR.out.turn T7 (by decide))
   obtain ⟨_, hcp7, ba, _, eb7, _⟩ := owns_cell k1 (by simp [actorHd])
   subst eb7
   have hcp7n : n ≤ cp7 := by have := HPL.out; omega
   have y7 := hG7.cell 1 _ rfl
   have o7 := B7.cell 1 _ rfl
   have g7 := B7.frozen 1
   obtain ⟨B8, T8⟩ := B7.set 1 (.slice (some ⟨ba, 0, none⟩) n cp7)
   have HK8 := Lib.hid (HK7.out.turn T8 (by decide))
   have HG8 := Lib.hid (HG7.out.turn T8 (by decide))
   have HR8 := Lib.hid (HR7.out.turn T8 (by decide))
   have HO8 := Lib.hid B8
   have HT8 := Lib.hid (N7.turn T8 (by decide) (by decide))
   clear T7 N7 B7 B8 T8 k1 k20 k4 hm hG7 HK HGB HR HO HT HK7 HG7 HR7 y
   go_wp2_with fail
   rw [HPL.out] at HT8
   rw [HPL.out] at HK8 HG8 HR8 HO8 ⊢
   obtain ⟨w8, hw8⟩ : ∃ x, (w7.setCell ⟨w.heap.size + 2, 1, none⟩ (.slice (some ⟨ba, 0, none⟩) (n + 1) cp7)).setCell ⟨w.heap.size + 2, 1, none⟩ (.slice (some ⟨ba, 0, none⟩) n cp7) = x := ⟨_, rfl⟩
   obtain ⟨q8, hq8⟩ : ∃ x : Col, x = ext q wr.heap.size 4 := ⟨_, rfl⟩
   obtain ⟨pa, hpa⟩ : ∃ x, ps ++ [(actorMark, Value.slice none 0 0)] = x := ⟨_, rfl⟩
   have HPA : Hid (pa.map Prod.fst = g.actors ++ [actorMark]) := Lib.hid (by rw [← hpa, ← HPJ.out]; simp)
   rw [hw8, ← hq8] at HK8 HG8 HR8 HO8 HT8
   rw [hpa] at HT8
   rw [hw8]
   have HTA := HT8
   have HK := HK8
   have HGB := HG8
   have HR := HR8
   have HO : Hid (Blk w8 q8 3 (w.heap.size + 2) 26 #[.string g.name, .slice (some ⟨ba, 0, none⟩) n cp7, .slice none 0 0, .slice none 0 0, .slice none 0 0]) := HO8
   clear hw8 hq8 hpa HT8 HK8 HG8 HR8 HO8 HPJ HPL o7 g7 y7 z4 zf
   obtain ⟨ca, hca⟩ : ∃ x, x = cp7 := ⟨_, rfl⟩
   rw [← hca] at HTA HO hcp7n
   have HCA := Lib.hid hca
   clear hca
   obtain ⟨m, hm⟩ : ∃ x, g.edges.length = x := ⟨_, rfl⟩
   have HNE := Lib.hid hm
   rw [hm] at hsE HGB ⊢
   clear hm
   go_loopw [6] (fun i wl => ∃ (j : Nat) (q : Col) (v : Value) (ps : List (GEdge × Value)), j ≤ m ∧ i = .int .i64 j ∧ Kept w.heap.size q w wl ∧ Blk wl q 9 w.heap.size 26 #[.string g.name, .slice aa n ac, .slice ae m ec, .slice ai g.ins.length ic, .slice ao g.outs.length oc] ∧ Blk wl q 9 (w.heap.size + 1) 26 graphZ ∧ Blk wl q 3 (w.heap.size + 2) 26 #[.string g.name, .slice (some ⟨ba, 0, none⟩) n ca, v, .slice none 0 0, .slice none 0 0] ∧ TailL edgeHd GEdge.start wl q 6 7 63 5 v ps ps.length ∧ ps.map Prod.fst = g.edges.take j ∧ TailL actorHd GActor.params wl q 4 5 57 3 (.slice (some ⟨ba, 0, none⟩) (n + 1) ca) pa n) (fun i _ => m - (intOf i).toNat)
   case atStart => exact ⟨0, _, _, [], Nat.zero_le _, rfl, HK.out, HGB.out, HR.out, HO.out, TailL.nil, rfl, HTA.out⟩
   case round =>
    clear HK HGB HR HO HTA
    obtain ⟨j, q, v, ps, hj, rfl, hK, hG, hR, hO, hT, hps, hTA⟩ := hrel
    have HK := Lib.hid hK
    have HGB := Lib.hid hG
    have HR := Lib.hid hR
    have HO := Lib.hid hO
    have HT := Lib.hid hT
    have HPJ := Lib.hid hps
    have HTA := Lib.hid hTA
    clear hK hG hR hO hT hps hTA
    by_cases hlt : j < m
    ·
     have hlti : (j : Int) < m := by omega
     have hlt2 : j < g.edges.length := by have := HNE.out; omega
     obtain ⟨b0, off, rfl, hcap, hb0, hrec⟩ := RE.out.at (by omega)
     obtain ⟨cs, hcs, hPR, hcl⟩ := hrec j hlt2
     obtain ⟨xs, rfl, hst⟩ := hPR
     have c0 := cell_later HK.out.below (hcl 0 (by omega))
     have c1 := cell_later HK.out.below (hcl 1 (by omega))
     have c2 := cell_later HK.out.below (hcl 2 (by omega))
     have c3 := cell_later HK.out.below (hcl 3 (by omega))
     have c4 := cell_later HK.out.below (hcl 4 (by omega))
     simp at c0 c1 c2 c3 c4
     have hcapi : (m : Int) ≤ ec := by have := HNE.out; omega
     have hst2 : Has w xs (ivs g.edges[j].start) := hst
     obtain ⟨sa, sc, hxs⟩ := Ints.slice hst2
     subst hxs
     have HST := Lib.hid hst2
     have hpl := HES.out _ (List.getElem_mem hlt2)
     have HTK : Hid (g.edges.take (j + 1) = g.edges.take j ++ [g.edges[j]]) := Lib.hid (List.take_succ_eq_append_getElem hlt2)
     clear hcl hcs hrec hst hst2
     generalize g.edges[j] = a at *
     have y := HGB.out.cell 2 _ rfl
     have hbX := below_alloc wr (.cells #[.int .i64 a.src, .int .i64 a.sport, .int .i64 a.dst, .int .i64 a.dport, .slice sa a.start.length sc] 63)
     have TX := Turn.of_below q 8 hbX
     have HX : Hid (Blk _ (ext q wr.heap.size 8) 8 _ _ _) := Lib.hid ⟨heap_alloc_new wr (.cells #[.int .i64 a.src, .int .i64 a.sport, .int .i64 a.dst, .int .i64 a.dport, .slice sa a.start.length sc] 63), ext_new (Nat.le_refl _)⟩
     have HK2 := Lib.hid (HK.out.turn TX (fun h => h))
     have HG2 := Lib.hid (HGB.out.turn TX (fun h => h))
     have HR2 := Lib.hid (HR.out.turn TX (fun h => h))
     have HO2 := Lib.hid (HO.out.turn TX (fun h => h))
     have HT2 := Lib.hid (HT.out.turn TX (fun h => h) (fun h => h))
     have HTA2 := Lib.hid (HTA.out.turn TX (fun h => h) (fun h => h))
     have x4 := HX.out.cell 4 _ rfl
     clear hbX TX HK HGB HR HO HT HTA
     go_wp2_with fail
     refine (lentL_has (HST.out.below HK2.out.below) hpl).mono ?_
     rintro e w5 ⟨gy, cy, rfl, hy, hgy, hb5⟩
     have T5 := Turn.of_below (ext q wr.heap.size 8) 7 hb5
     have HY5 := Lib.hid (show LendC w5 (ext (ext q wr.heap.size 8) _ 7) 7 _ _ from ⟨gy, cy, rfl, hy, ext_new (o := ext q wr.heap.size 8) (c := 7) hgy⟩)
     have HK5 := Lib.hid (HK2.out.turn T5 (fun h => h))
     have HG5 := Lib.hid (HG2.out.turn T5 (fun h => h))
     have HR5 := Lib.hid (HR2.out.turn T5 (fun h => h))
     have HO5 := Lib.hid (HO2.out.turn T5 (fun h => h))
     have HT5 := Lib.hid (HT2.out.turn T5 (fun h => h) (fun h => h))
     have HTA5 := Lib.hid (HTA2.out.turn T5 (fun h => h) (fun h => h))
     have hX5 := HX.out.turn T5 (fun h => h)
     have v4 := hX5.cell 4 _ rfl
     have f4 := hX5.frozen 4
     obtain ⟨b6, T6⟩ := hX5.set 4 (.slice (some ⟨gy, 0, none⟩) a.start.length cy)
     have HX6 := Lib.hid b6
     have HK6 := Lib.hid (HK5.out.turn T6 (by decide))
     have HG6 := Lib.hid (HG5.out.turn T6 (by decide))
     have HR6 := Lib.hid (HR5.out.turn T6 (by decide))
     have HO6 := Lib.hid (HO5.out.turn T6 (by decide))
     have HT6 := Lib.hid (HT5.out.turn T6 (by decide) (by decide))
     have HTA6 := Lib.hid (HTA5.out.turn T6 (by decide) (by decide))
     have HY6 := Lib.hid (HY5.out.turn T6 (by decide))
     clear hy hgy hb5 T5 T6 b6 hX5 HX x4 y c0 c1 c2 c3 c4 HK2 HG2 HR2 HO2 HT2 HK5 HG5 HR5 HO5 HT5 HY5 HTA2 HTA5
     obtain ⟨pa0, pc0, rfl⟩ := HT6.out.own.slice
     have o1 := HO6.out.cell 2 _ rfl
     have u0 := HX6.out.cell 0 _ rfl
     have u1 := HX6.out.cell 1 _ rfl
     have u2 := HX6.out.cell 2 _ rfl
     have u3 := HX6.out.cell 3 _ rfl
     have u4 := HX6.out.cell 4 _ rfl
     have HPL : Hid (ps.length = j) := Lib.hid (by have := congrArg List.length HPJ.out; rw [List.length_map, List.length_take] at this; omega)
     go_wp2_with (at_builtin; refine stop_here ?_)
     refine go_on ?_
     clear v4 f4 o1 u0 u1 u2 u3 u4
     obtain ⟨i0, hi, hz0, hz1, hz2⟩ := info_parts info_Edge
     obtain ⟨w6, hw6⟩ : ∃ x, w5.setCell ⟨wr.heap.size, 4, none⟩ (.slice (some ⟨gy, 0, none⟩) a.start.length cy) = x := ⟨_, rfl⟩
     obtain ⟨q6, hq6⟩ : ∃ x : Col, x = ext (ext q wr.heap.size 8) (wr.alloc (.cells #[.int .i64 a.src, .int .i64 a.sport, .int .i64 a.dst, .int .i64 a.dport, .slice sa a.start.length sc] 63)).heap.size 7 := ⟨_, rfl⟩
     rw [hw6, ← hq6] at HX6 HK6 HG6 HR6 HO6 HT6 HY6 HTA6
     have hs6 : w5.heap.size = w6.heap.size := by rw [← hw6, size_setCell']
     rw [hw6, hs6]
     clear hw6 hq6 hs6
     refine wpList_app rfl _ _ 23 rfl 0 63 i0 _ 5 56 Try.underlying23 hi hz0 hz1 hz2 rfl (.slice pa0 ps.length pc0) ps.length _ rfl (HT6.out.own.1.alloc (.cells #[.int .i64 a.src, .int .i64 a.sport, .int .i64 a.dst, .int .i64 a.dport, .slice (some ⟨gy, 0, none⟩) a.start.length cy] 63)) (some ⟨w6.heap.size, 0, none⟩) 1 1 [.int .i64 a.src, .int .i64 a.sport, .int .i64 a.dst, .int .i64 a.dport, .slice (some ⟨gy, 0, none⟩) a.start.length cy] rfl rfl (fun h => by cases h) (news_alloc w6 [.int .i64 a.src, .int .i64 a.sport, .int .i64 a.dst, .int .i64 a.dport, .slice (some ⟨gy, 0, none⟩) a.start.length cy] 63) (by simp [Value.oneCell']) (by have := HPL.out; unfold maxLen; omega) (grow_ok (by have := HPL.out; omega)) (Nat.zero_le _) ?_
     intro v7 w7 k1 k20 _ k4
     have hm : Mods (fun b => (Value.slice pa0 ps.length pc0).ownBlock = some b) w6 w7 := ((Mods.refl _ w6).alloc _).grown k20 (fun b hb _ => hb)
     obtain ⟨z4, zf, T7, N7, B7⟩ := HT6.out.grow (a := a) (y := .slice (some ⟨gy, 0, none⟩) a.start.length cy) (v' := v7) (w2 := w7) HO6.out (i := 2) (by decide) (by decide) (by decide) (by show 2 < 5; decide) HY6.out k1 hm (k4.imp id (fun k4 b hb => by rw [k4] at hb; have := Option.some.inj hb; simp at this; omega))
     obtain ⟨sp7, cp7, rfl⟩ := owns_slice k1
     have HK7 := Lib.hid (HK6.out.turn T7 (by decide))
     have HG7 := Lib.hid (HG6.out.turn T7 (by decide))
     have HR7 := Lib.hid (HR6.out.turn T7 (by decide))
     have HTA7 := Lib.hid (HTA6.out.turn T7 (by decide) (by decide))
     have HO7 := Lib.hid B7
     have HT7 := Lib.hid N7
     have HPJ7 : Hid ((ps ++ [(a, (.slice (some ⟨gy, 0, none⟩) a.start.length cy : Value))]).map Prod.fst = g.edges.take (j + 1)) := Lib.hid (by rw [HTK.out, ← HPJ.out]; simp)
     clear HPL T7 N7 B7 k1 k20 k4 hm HK6 HG6 HR6 HO6 HT6 HY6 HX6 HTA6
     go_wp2
     go_roundw
     case rel => exact ⟨j + 1, _, _, _, hlt, by go_num, HK7.out, HG7.out, HR7.out, HO7.out, HT7.out, HPJ7.out, HTA7.out⟩
     case measure => simp [intOf]; omega
    ·
     obtain rfl : m = j := by omega
     clear hj hlt
     have hPJ := HPJ.out
     rw [List.take_of_length_le (by have := HNE.out; omega)] at hPJ
     have HPJ := Lib.hid hPJ
     have HPL : Hid (ps.length = m) := Lib.hid (by have := congrArg List.length hPJ; rw [List.length_map] at this; have := HNE.out; omega)
     clear hPJ
     obtain ⟨pa0, pc0, rfl⟩ := HT.out.own.slice
     have o1 := HO.out.cell 2 _ rfl
     have y := HGB.out.cell 2 _ rfl
     obtain ⟨i0, hi, hz0, hz1, hz2⟩ := info_parts info_Edge
     go_wp2_with (at_builtin; refine stop_here ?_)
     refine go_on ?_
     clear o1
     refine wpList_app rfl _ _ 23 rfl 0 63 i0 _ 5 56 Try.underlying23 hi hz0 hz1 hz2 rfl (.slice pa0 ps.length pc0) ps.length _ rfl (HT.out.own.1.alloc (.cells #[.int .i64 (-7770777), .int .i64 0, .int .i64 0, .int .i64 0, .slice none 0 0] 63)) (some ⟨wr.heap.size, 0, none⟩) 1 1 [.int .i64 (-7770777), .int .i64 0, .int .i64 0, .int .i64 0, .slice none 0 0] rfl rfl (fun h => by cases h) (news_alloc wr [.int .i64 (-7770777), .int .i64 0, .int .i64 0, .int .i64 0, .slice none 0 0] 63) (by simp [Value.oneCell']) (by have := HPL.out; unfold maxLen; omega) (grow_ok (by have := HPL.out; omega)) (Nat.zero_le _) ?_
     intro v7 w7 k1 k20 _ k4
     have hm : Mods (fun b => (Value.slice pa0 ps.length pc0).ownBlock = some b) wr w7 := ((Mods.refl _ wr).alloc _).grown k20 (fun b hb _ => hb)
     obtain ⟨z4, zf, T7, N7, B7⟩ := HT.out.last (a := edgeMark) (y := .slice none 0 0) (v' := v7) (w2 := w7) HO.out (i := 2) (by decide) (by decide) (by decide) (by show 2 < 5; decide) (.inl ⟨rfl, _, _, rfl⟩) (Nat.le_refl _) k1 hm (k4.imp id (fun k4 b hb => by rw [k4] at hb; have := Option.some.inj hb; simp at this; omega))
     obtain ⟨sp7, cp7, rfl⟩ := owns_slice k1
     have HK7 := Lib.hid (HK.out.turn T7 (by decide))
     have hG7 := HGB.out.turn T7 (by decide)
     have HG7 := Lib.hid hG7
     have HR7 := Lib.hid (HR.out.turn T7 (by decide))
     have HTA7 := Lib.hid (HTA.out.turn T7 (by decide) (by decide))
     obtain ⟨_, hcp7, be, _, eb7, _⟩ := owns_cell k1 (by simp [edgeHd])
     subst eb7
     have hcp7n : m ≤ cp7 := by have := HPL.out; omega
     have y7 := hG7.cell 2 _ rfl
     have o7 := B7.cell 2 _ rfl
     have g7 := B7.frozen 2
     obtain ⟨B8, T8⟩ := B7.set 2 (.slice (some ⟨be, 0, none⟩) m cp7)
     have HK8 := Lib.hid (HK7.out.turn T8 (by decide))
     have HG8 := Lib.hid (HG7.out.turn T8 (by decide))
     have HR8 := Lib.hid (HR7.out.turn T8 (by decide))
     have HTA8 := Lib.hid (HTA7.out.turn T8 (by decide) (by decide))
     have HO8 := Lib.hid B8
     have y9 := HG8.out.cell 3 _ rfl
     have HT8 := Lib.hid (N7.turn T8 (by decide) (by decide))
     clear T7 N7 B7 B8 T8 k1 k20 k4 hm hG7 HK HGB HR HO HT HK7 HG7 HR7 HTA HTA7 y
     go_wp2_with fail
     rw [HPL.out] at HT8
     rw [HPL.out] at HK8 HG8 HR8 HO8 HTA8 ⊢
     have HPE : Hid ((ps ++ [(edgeMark, Value.slice none 0 0)]).map Prod.fst = g.edges ++ [edgeMark]) := Lib.hid (by rw [← HPJ.out]; simp)
     clear y9 o7 g7 y7 z4 zf HPJ
     refine (lentportsK_any _ _ g.ins (RI.out.below port_steady HK8.out.below) (by omega)).mono ?_
     rintro e w9 ⟨ii, jc, rfl, hri, hli, hb9⟩
     have T9 := fun q => Turn.of_below q 10 hb9
     have HK9 := Lib.hid (HK8.out.turn (T9 _) (fun h => h))
     have HG9 := Lib.hid (HG8.out.turn (T9 _) (fun h => h))
     have HR9 := Lib.hid (HR8.out.turn (T9 _) (fun h => h))
     have hO9 := HO8.out.turn (T9 _) (fun h => h)
     have HA9 := Lib.hid (HTA8.out.turn (T9 _) (fun h => h) (fun h => h))
     have HE9 := Lib.hid (HT8.out.turn (T9 _) (fun h => h) (fun h => h))
     have HI9 := Lib.hid (RecC.made (o := ext (ext q wr.heap.size 6) _ 10) (c := 10) hri (fun b off n cap e => ext_new (hli b off (by cases e; rfl))))
     obtain ⟨BX, TX⟩ := hO9.set 3 (.slice ii g.ins.length jc)
     have o9 := hO9.cell 3 _ rfl
     have g9 := hO9.frozen 3
     have HKX := Lib.hid (HK9.out.turn TX (by decide))
     have HGX := Lib.hid (HG9.out.turn TX (by decide))
     have HRX := Lib.hid (HR9.out.turn TX (by decide))
     have HAX := Lib.hid (HA9.out.turn TX (by decide) (by decide))
     have HEX := Lib.hid (HE9.out.turn TX (by decide) (by decide))
     have HIX := Lib.hid (HI9.out.turn TX (by decide))
     have HOX := Lib.hid BX
     have yx := HGX.out.cell 4 _ rfl
     clear T9 HK8 HG8 HR8 HO8 HTA8 HT8 hri hli hb9 hO9 HK9 HG9 HR9 HA9 HE9 HI9 BX TX
     go_wp2_with fail
     clear o9 g9 yx
     obtain ⟨wx, hwx⟩ : ∃ x, w9.setCell ⟨w.heap.size + 2, 3, none⟩ (.slice ii g.ins.length jc) = x := ⟨_, rfl⟩
     obtain ⟨qx, hqx⟩ : ∃ x : Col, x = ext (ext q wr.heap.size 6) ((w7.setCell ⟨w.heap.size + 2, 2, none⟩ (.slice (some ⟨be, 0, none⟩) (m + 1) cp7)).setCell ⟨w.heap.size + 2, 2, none⟩ (.slice (some ⟨be, 0, none⟩) m cp7)).heap.size 10 := ⟨_, rfl⟩
     rw [hwx, ← hqx] at HKX HGX HRX HAX HEX HIX HOX
     rw [hwx]
     clear hwx hqx
     refine (lentportsK_any _ _ g.outs (RO.out.below port_steady HKX.out.below) (by omega)).mono ?_
     rintro e wy ⟨io, ko, rfl, hro, hlo, hby⟩
     have T9 := fun q => Turn.of_below q 11 hby
     have HKY := Lib.hid (HKX.out.turn (T9 _) (fun h => h))
     have hRY := HRX.out.turn (T9 _) (fun h => h)
     have hOY := HOX.out.turn (T9 _) (fun h => h)
     have hAY := HAX.out.turn (T9 _) (fun h => h) (fun h => h)
     have hEY := HEX.out.turn (T9 _) (fun h => h) (fun h => h)
     have hIY := HIX.out.turn (T9 _) (fun h => h)
     have hUY := RecC.made (o := ext qx _ 11) (c := 11) hro (fun b off n cap e => ext_new (hlo b off (by cases e; rfl)))
     obtain ⟨BX, TX⟩ := hOY.set 4 (.slice io g.outs.length ko)
     have o9 := hOY.cell 4 _ rfl
     have g9 := hOY.frozen 4
     have hRZ := hRY.turn TX (by decide)
     have HKZ := Lib.hid (HKY.out.turn TX (by decide))
     have HAZ := Lib.hid (hAY.turn TX (by decide) (by decide))
     have HEZ := Lib.hid (hEY.turn TX (by decide) (by decide))
     have HIZ := Lib.hid (hIY.turn TX (by decide))
     have HUZ := Lib.hid (hUY.turn TX (by decide))
     have HRZ := Lib.hid hRZ
     have s0 := BX.cell 0 _ rfl
     have s1 := BX.cell 1 _ rfl
     have s2 := BX.cell 2 _ rfl
     have s3 := BX.cell 3 _ rfl
     have s4 := BX.cell 4 _ rfl
     have z0 := hRZ.cell 0 _ rfl
     have z1 := hRZ.cell 1 _ rfl
     have z2 := hRZ.cell 2 _ rfl
     have z3 := hRZ.cell 3 _ rfl
     have z4 := hRZ.cell 4 _ rfl
     have f0 := hRZ.frozen 0
     have f1 := hRZ.frozen 1
     have f2 := hRZ.frozen 2
     have f3 := hRZ.frozen 3
     have f4 := hRZ.frozen 4
     clear T9 hro hlo hRY hOY hAY hEY hIY hUY BX TX hRZ HKX HRX HOX HAX HEX HIX HGX HKY
     go_wp2
     clear o9 g9 s0 s1 s2 s3 s4 z0 z1 z2 z3 z4 f0 f1 f2 f3 f4
     obtain ⟨wz, hwz⟩ : ∃ x, wy.setCell ⟨w.heap.size + 2, 4, none⟩ (.slice io g.outs.length ko) = x := ⟨_, rfl⟩
     rw [hwz] at HKZ HAZ HEZ HIZ HUZ HRZ ⊢
     clear hwz
     refine bodyPost_ret_by (results_cell_row rfl _ _ _ _ _ _ _ rfl (graph_set HRZ.out.1 _ _ _ _ _) Try.underlying26 rfl (by kernel_rfl)) rfl ?_
     have mm := graph_mods wz (w.heap.size + 1) (.string g.name) (.slice (some ⟨ba, 0, none⟩) n ca) (.slice (some ⟨be, 0, none⟩) m cp7) (.slice ii g.ins.length jc) (.slice io g.outs.length ko)
     have T : Turn (ext qx _ 11) (ext qx _ 11) (fun x => x = 9) wz _ := ⟨mm.mono (fun k _ e => by subst e; exact HRZ.out.2), fun _ _ => rfl⟩
     have hbl := HKZ.out.below.trans (mm.below HKZ.out.size (fun k hk e => by omega))
     have en := HNA.out
     have em := HNE.out
     subst en
     subst em
     obtain ⟨ka1, ka2⟩ := TailL.keep (show ∀ a, (actorHd a).length + 1 = 3 from fun _ => rfl) (HAZ.out.turn T (by decide) (by decide)) HPA.out
     obtain ⟨ke1, ke2⟩ := TailL.keep (show ∀ a, (edgeHd a).length + 1 = 5 from fun _ => rfl) (HEZ.out.turn T (by decide) (by decide)) HPE.out
     have hri := (HIZ.out.turn T (by decide)).recs
     have hro := (HUZ.out.turn T (by decide)).recs
     obtain ⟨c1, -, rfl, mi⟩ := hri.mark
     obtain ⟨c2, -, rfl, mo⟩ := hro.mark
     exact ⟨_, rfl, ⟨_, _, _, _, _, _, _, _, rfl, ka1, ka2 1 (by omega), ke1, ke2 0 (by omega), hri.front, mi 1 (by omega), hro.front, mo 1 (by omega)⟩, hbl⟩
end Go.Proofs.Ytbmbfifempkhgaa

/- LentLoops. -/
namespace Go.Proofs.Ytbmbfifempkhgaa
open Go.RowKit
theorem info_Loop : (Try.prog.info? 51).map (fun i => (i.zero, i.size, i.bytes)) = some (some (.agg #[.int .i64 0, .int .i64 0, .slice none 0 0]), 3, 40) := by kernel_rfl
abbrev LItem := Int × Int × Nest
def loopHd (x : LItem) : List Value := [.int .i64 x.1, .int .i64 x.2.1]
def Held (D : Nat) (w : World) (q : Col) (y : Value) (b : Nest) : Prop := ∀ q'' w'', Turn q q'' (fun x => x ≠ 5) w w'' → HasNestD D w'' y b
theorem Held.turn {D : Nat} {w w' : World} {q q' : Col} {C : Nat → Prop} {y : Value} {b : Nest} (h : Held D w q y b) (T : Turn q q' C w w') (hc : ¬ C 5) : Held D w' q' y b := fun q'' w'' T2 => h q'' w'' ((T.mono (D := fun x => x ≠ 5) (fun x hx e => hc (by subst e; exact hx))).trans T2 (fun _ h => h))
structure TailN (D : Nat) (w : World) (q : Col) (v : Value) (ps : List (LItem × Value)) : Prop where
 own : Own w q 4 51 3 v ps.length (tailV loopHd ps)
 held : ∀ x ∈ ps, Held D w q x.2 x.1.2.2
theorem TailN.turn {D : Nat} {w w' : World} {q q' : Col} {C : Nat → Prop} {v : Value} {ps : List (LItem × Value)} (h : TailN D w q v ps) (T : Turn q q' C w w') (h4 : ¬ C 4) (h5 : ¬ C 5) : TailN D w' q' v ps := ⟨h.own.turn T h4, fun x hx => (h.held x hx).turn T h5⟩
theorem TailN.recs {D : Nat} {w : World} {q : Col} {v : Value} {ps : List (LItem × Value)} (h : TailN D w q v ps) : Recs w 3 (fun w x cs => ∃ y, cs = [.int .i64 x.1, .int .i64 x.2.1, y] ∧ HasNestD D w y x.2.2) v (ps.map Prod.fst) := by
 rcases h.own.1.2 with ⟨rfl, h0⟩ | ⟨G, cap, cur, rfl, _, hg, hnc, _⟩
 ·
  rw [List.eq_nil_of_length_eq_zero h0]
  exact .inl ⟨rfl, none, 0, rfl⟩
 ·
  by_cases hp : 0 < ps.length
  ·
   refine .inr ⟨by simpa using hp, G, 0, cap, by simp, by simpa using hnc, block_lt hg, fun k hk => ?_⟩
   have hk' : k < ps.length := by simpa using hk
   refine ⟨loopHd (ps[k]).1 ++ [(ps[k]).2], rfl, ⟨(ps[k]).2, by simp [loopHd], ?_⟩, fun i hi => ?_⟩
   ·
    have := h.held _ (List.getElem_mem hk') q w (Turn.refl _ _ _)
    simpa using this
   ·
    have hg2 := tailV_get (show ∀ a, (loopHd a).length + 1 = 3 from fun _ => rfl) ps k i hk' hi
    have hlen : i < (loopHd (ps[k]).1 ++ [(ps[k]).2]).length := hi
    rw [List.getElem?_eq_getElem hlen] at hg2 ⊢
    have := h.own.1.cells (g := G) rfl _ _ hg2
    rw [Addr.add_lit] at this
    rw [Nat.add_assoc]
    exact this
  ·
   rw [List.eq_nil_of_length_eq_zero (by omega : ps.length = 0)]
   exact .inl ⟨rfl, some ⟨G, 0, none⟩, cap, rfl⟩
theorem TailN.grow {D : Nat} {w w2 : World} {q : Col} {v v' : Value} {ps : List (LItem × Value)} {a : LItem} {y : Value} (h : TailN D w q v ps) (hy : Held D w q y a.2.2) (k1 : w2.ownsRow 0 51 3 v' (ps.length + 1) (tailV loopHd ps ++ (loopHd a ++ [y])))
  (k2 : Mods (fun b => v.ownBlock = some b) w w2) (k4 : v'.ownBlock = v.ownBlock ∨ ∀ b, v'.ownBlock = some b → w.heap.size ≤ b) : Turn q (ext q w.heap.size 4) (fun x => x = 4) w w2 ∧ TailN D w2 (ext q w.heap.size 4) v' (ps ++ [(a, y)]) := by
 have T : Turn q (ext q w.heap.size 4) (fun x => x = 4) w w2 := Turn.of_mods q 4 k2 (fun b _ hb => h.own.2 b hb)
 refine ⟨T, ⟨?_, fun b hb => ?_⟩, fun x hx => ?_⟩
 ·
  rw [List.length_append, tailV_snoc]; exact k1
 ·
  rcases k4 with k4 | k4
  ·
   rw [k4] at hb
   exact (ext_old (h.own.1.lt b hb).2).trans (h.own.2 b hb)
  ·
   exact ext_new (k4 b hb)
 ·
  rcases List.mem_append.1 hx with hx | hx
  ·
   exact (h.held x hx).turn T (by decide)
  ·
   obtain rfl : x = (a, y) := by simpa using hx
   exact hy.turn T (by decide)
end Go.Proofs.Ytbmbfifempkhgaa

/- A nest that was lent is as it was: KeptLoops. -/
namespace Go.Proofs.Ytbmbfifempkhgaa
open Go.RowKit
def HasNestM : Nat → World → Value → Nest → Prop
 | 0, w, v, l => l = .nil ∧ ∃ ao cap, v = .slice ao 0 cap ∧ MarkAt w ao cap 0 3 0 markV
 | d + 1, w, v, l => ∃ ao cap, v = .slice ao l.items.length cap ∧ Recs w 3 (fun w x cs => ∃ y, cs = [.int .i64 x.1, .int .i64 x.2.1, y] ∧ ((x.2.2 = .nil ∧ ∃ ao cap, y = .slice ao 0 cap) ∨ (x.2.2.isNil = false ∧ HasNestM d w y x.2.2))) v l.items ∧ MarkAt w ao cap l.items.length 3 0 markV
theorem nestM_below : ∀ (d : Nat) {w w' : World} {v : Value} {l : Nest}, HasNestM d w v l → Below w.heap.size w w' → HasNestM d w' v l
 | 0, _, _, _, _, ⟨h, ao, cap, e, m⟩, hb => ⟨h, ao, cap, e, m.below hb⟩
 | d + 1, _, _, _, _, ⟨ao, cap, e, h, m⟩, hb => ⟨ao, cap, e, Recs.below (fun _ _ _ _ hb ⟨y, h1, h2⟩ => ⟨y, h1, h2.imp id fun ⟨h3, h4⟩ => ⟨h3, nestM_below d h4 hb⟩⟩) h hb, m.below hb⟩
theorem nestM_slice : ∀ (d : Nat) {w : World} {v : Value} {l : Nest}, HasNestM d w v l → ∃ ao cap, v = .slice ao l.items.length cap
 | 0, _, _, _, ⟨h, ao, cap, e, _⟩ => ⟨ao, cap, by rw [h]; exact e⟩
 | _ + 1, _, _, _, ⟨ao, cap, e, _⟩ => ⟨ao, cap, e⟩
theorem nestD_nil (d : Nat) {w : World} {ao : Option Addr} {cap : Nat} : HasNestD d w (.slice ao 0 cap) .nil := by
 cases d with
 | zero => exact ⟨rfl, _, _, rfl⟩
 | succ d => exact .inl ⟨rfl, _, _, rfl⟩
theorem nestM_has : ∀ (d : Nat) {w : World} {v : Value} {l : Nest}, HasNestM d w v l → HasNestD d w v l
 | 0, _, _, _, ⟨h, ao, cap, e, _⟩ => ⟨h, ao, cap, e⟩
 | d + 1, _, _, _, ⟨ao, cap, e, h, _⟩ => recs_mono h fun x cs ⟨y, h1, h2⟩ => ⟨y, h1, by
  rcases h2 with ⟨h3, ao, cap, rfl⟩ | ⟨_, h4⟩
  ·
   rw [h3]; exact nestD_nil d
  ·
   exact nestM_has d h4⟩
theorem drewn_draw (w : World) (a b : Nat) : ∃ m, ((w.drewN a).drewN b).drew = w.drewN m := ⟨a + b + 1, by rw [World.drewN_drewN]; rfl⟩
def KeptNOk (D : Nat) : Prop := ∀ (w : World) (v v' : Value) (l : Nest), HasNestM D w v l → HasNestD D w v' l → nodesN l ≤ 65536 → Calls Try.prog 18 #[v, v'] w (Quiet (.bool true) w)
set_option maxRecDepth 100000 in
set_option maxHeartbeats 4000000 in
theorem keptN_succ {D : Nat} (hrec0 : ∀ (w : World) (v v' : Value) (l : Nest), l.isNil = false → HasNestM D w v l → HasNestD D w v' l → nodesN l ≤ 65536 → Calls Try.prog 18 #[v, v'] w (Quiet (.bool true) w)) : KeptNOk (D + 1) := by
 intro w v v' l hv hv' hs
 obtain ⟨ao, cap, rfl, hr, hm⟩ := hv
 have hr' : Recs w 3 (fun w x cs => ∃ y, cs = [.int .i64 x.1, .int .i64 x.2.1, y] ∧ HasNestD D w y x.2.2) v' l.items := hv'
 obtain ⟨ao', cap', rfl⟩ := hr'.slice
 have HV := Lib.hid hr
 have HV' := Lib.hid hr'
 have HM := Lib.hid hm
 have HS := Lib.hid hs
 have hll : l.items.length ≤ 65536 := by have := nodesN_items l; omega
 have HREC := Lib.hid hrec0
 clear hr hr' hm hs hrec0 hv'
 go_enter Try.func18, Try.ntmps18
 go_wp2_with fail
 obtain ⟨n, hn⟩ : ∃ x, l.items.length = x := ⟨_, rfl⟩
 have HN := Lib.hid hn
 rw [hn] at HV HV' HM hll ⊢
 clear hn
 go_loopw [5] (fun i wr => ∃ k : Nat, k ≤ n ∧ i = .int .i64 k ∧ ∃ m, wr = w.drewN m) (fun i _ => n - (intOf i).toNat)
 case atStart => exact ⟨0, Nat.zero_le _, rfl, 0, rfl⟩
 case round =>
  obtain ⟨k, hk, rfl, mm, rfl⟩ := hrel
  by_cases hlt : k < n
  ·
   have hkn : k < l.items.length := by have := HN.out; omega
   obtain ⟨b, off, rfl, hcap, -, hrec⟩ := HV.out.at (by omega)
   obtain ⟨cs, -, ⟨y, rfl, hy⟩, hcl⟩ := hrec k hkn
   obtain ⟨b', off', rfl, hcap', -, hrec'⟩ := HV'.out.at (by omega)
   obtain ⟨cs, -, ⟨y', rfl, hy'⟩, hcl'⟩ := hrec' k hkn
   have c0 := hcl 0 (by omega)
   have c1 := hcl 1 (by omega)
   have c2 := hcl 2 (by omega)
   have d0 := hcl' 0 (by omega)
   have d1 := hcl' 1 (by omega)
   have d2 := hcl' 2 (by omega)
   simp at c0 c1 c2 d0 d1 d2
   have HSb : Hid (nodesN (l.items[k]).2.2 ≤ 65536) := Lib.hid (by have := nodesN_at _ (List.getElem_mem hkn); have := HS.out; omega)
   obtain ⟨it, hit⟩ : ∃ x, l.items[k] = x := ⟨_, rfl⟩
   rw [hit] at hy hy' c0 c1 d0 d1 HSb
   obtain ⟨t, nd, bd⟩ := it
   dsimp only at hy hy' c0 c1 d0 d1 HSb
   have hlti : (k : Int) < n := by omega
   rw [HN.out] at hcap hcap'
   have hci : (n : Int) ≤ cap := by omega
   have hci' : (n : Int) ≤ cap' := by omega
   obtain ⟨ya', yc', e'⟩ := nestD_slice D hy'
   subst e'
   clear hcl hcl' hrec hrec' hcap hcap' hit hkn
   rcases hy with ⟨rfl, ya, yc, rfl⟩ | ⟨hnl, hy⟩
   ·
    clear hy'
    rw [show Nest.nil.items.length = 0 from rfl] at d2
    go_wp2
    go_quiet (fail)
    go_wp2
    go_quiet (fail)
    go_wp2
    go_roundw
    case rel => exact ⟨k + 1, hlt, by go_num, _, rfl⟩
    case measure => simp [intOf]; omega
   ·
    obtain ⟨ya, yc, e⟩ := nestM_slice D hy
    subst e
    have HY := Lib.hid hy
    have HY' := Lib.hid hy'
    have HNL := Lib.hid hnl
    have hz : ¬ bd.items.length = 0 := by
     have := isNil_len bd
     rw [hnl] at this
     simpa using this.symm
    have hzi : (0 : Int) < bd.items.length := by omega
    clear hy hy' hnl
    obtain ⟨q, hq⟩ : ∃ x, bd.items.length = x := ⟨_, rfl⟩
    rw [hq] at c2 d2 HY HY' hzi
    have hzn : 0 < q := by omega
    have hd1 : decide ((0 : Int) < (q : Int)) = true := decide_eq_true hzi
    have hd2 : decide (0 < q) = true := decide_eq_true hzn
    clear hq hz
    go_wp2
    go_quiet (fail)
    go_wp2_with fail
    refine wp_region_soft (fun w' => Below w.heap.size w w' ∧ w'.cell? ⟨b, off + k * 3 + 2, none⟩ = some (.slice ya q yc) ∧ w'.cell? ⟨b', off' + k * 3 + 2, none⟩ = some (.slice ya' q yc') ∧ ∃ m, w' = w.drewN m) [0, 1, 2, 3, 4, 5, 6, 7, 8, 9, 10, 11, 12, 13, 14, 15, 16, 17, 18, 19, 20] [] (by kernel_rfl) (by kernel_rfl) rfl ⟨below_dr (below_dr (below_dr (Below.refl _ _))), c2, d2, drewn_draw _ _ _⟩ ?_
    simp only [pickOps, List.flatMap_cons, List.flatMap_nil, List.drop_succ_cons, List.drop_zero, List.take_succ_cons, List.take_zero, List.cons_append, List.nil_append, List.append_nil]
    repeat (first
     | (refine wpHead_skip (by rfl) ?_; (try simp only [Act.put, List.setIfInBounds_toArray, List.set_cons_zero, List.set_cons_succ]))
     | (refine wpHead_val ?_ (by rfl) ?_ ?_; rotate_left; (intro wz hz; (try dsimp only at hz); (first | (go_simp; done) | (go_simp; with_reducible rfl))); (try simp only [Act.put, List.setIfInBounds_toArray, List.set_cons_zero, List.set_cons_succ])))
    refine wpHead_call (.bool true) 18 #[.slice ya q yc, .slice ya' q yc'] (by rfl) (fun wz => by go_simp) (fun wz hz => ?_) ?_
    ·
     obtain ⟨hz1, hz2, hz3, hz4⟩ := hz
     refine (HREC.out wz _ _ bd HNL.out (nestM_below D HY.out hz1) (nestD_below D HY'.out hz1) HSb.out).mono ?_
     rintro e wy ⟨rfl, m, rfl⟩
     obtain ⟨m2, rfl⟩ := hz4
     exact ⟨rfl, below_dr hz1, hz2, hz3, m2 + m, World.drewN_drewN _ _ _⟩
    simp only [Act.put, List.setIfInBounds_toArray, List.set_cons_zero, List.set_cons_succ]
    repeat (first
     | (refine wpHead_skip (by rfl) ?_; (try simp only [Act.put, List.setIfInBounds_toArray, List.set_cons_zero, List.set_cons_succ]))
     | (refine wpHead_val ?_ (by rfl) ?_ ?_; rotate_left; (intro wz hz; (try dsimp only at hz); (first | (go_simp; done) | (go_simp; with_reducible rfl))); (try simp only [Act.put, List.setIfInBounds_toArray, List.set_cons_zero, List.set_cons_succ])))
    refine wpHead_nil ?_
    intro w' hS
    obtain ⟨_, _, _, m9, rfl⟩ := hS
    clear c0 c1 c2 d0 d1 d2
    go_wp2
    go_roundw
    case rel => exact ⟨k + 1, hlt, by go_num, _, rfl⟩
    case measure => simp [intOf]; omega
  ·
   obtain rfl : n = k := by omega
   obtain ⟨b, off, rfl, hc, -, kk⟩ := HM.out
   simp only [Nat.add_zero] at kk
   have hci : (n : Int) + 1 ≤ cap := by omega
   have hni : (n : Int) ≤ 65536 := by omega
   clear hc hll
   go_wp2
   go_ret
   exact ⟨rfl, _, rfl⟩
theorem keptN_zero : KeptNOk 0 := by
 intro w v v' l hv hv' hs
 obtain ⟨rfl, ao, cap, rfl, hm⟩ := hv
 obtain ⟨-, ao', cap', rfl⟩ := hv'
 exact keptN_succ (D := 0) (fun w v v' l hl hv => by obtain ⟨rfl, _⟩ := hv; cases hl) w _ _ .nil ⟨ao, cap, rfl, .inl ⟨rfl, _, _, rfl⟩, hm⟩ (.inl ⟨rfl, _, _, rfl⟩) hs
theorem keptN_any : ∀ D, KeptNOk D
 | 0 => keptN_zero
 | D + 1 => keptN_succ (fun w v v' l _ hv hv' hs => keptN_any D w v v' l hv hv' hs)
end Go.Proofs.Ytbmbfifempkhgaa

/- LentLoops, with the marks (printed by tools/gen_nlentk.py out of NLent). -/
namespace Go.Proofs.Ytbmbfifempkhgaa
open Go.RowKit
def BodyM (D : Nat) (w : World) (y : Value) (b : Nest) : Prop := (b = .nil ∧ ∃ ao cap, y = .slice ao 0 cap) ∨ (b.isNil = false ∧ HasNestM D w y b)
theorem bodyM_slice (D : Nat) {w : World} {y : Value} {b : Nest} (h : BodyM D w y b) : ∃ ao cap, y = .slice ao b.items.length cap := by
 rcases h with ⟨rfl, ao, cap, rfl⟩ | ⟨_, h⟩
 ·
  exact ⟨ao, cap, rfl⟩
 ·
  exact nestM_slice D h
def HeldK (D : Nat) (w : World) (q : Col) (y : Value) (b : Nest) : Prop := ∀ q'' w'', Turn q q'' (fun x => x ≠ 5) w w'' → BodyM D w'' y b
theorem HeldK.turn {D : Nat} {w w' : World} {q q' : Col} {C : Nat → Prop} {y : Value} {b : Nest} (h : HeldK D w q y b) (T : Turn q q' C w w') (hc : ¬ C 5) : HeldK D w' q' y b := fun q'' w'' T2 => h q'' w'' ((T.mono (D := fun x => x ≠ 5) (fun x hx e => hc (by subst e; exact hx))).trans T2 (fun _ h => h))
theorem held_nilK {D : Nat} {w : World} {q : Col} {ao : Option Addr} {cap : Nat} : HeldK D w q (.slice ao 0 cap) .nil := fun _ _ _ => .inl ⟨rfl, _, _, rfl⟩
structure TailNK (D : Nat) (w : World) (q : Col) (v : Value) (ps : List (LItem × Value)) : Prop where
 own : Own w q 4 51 3 v ps.length (tailV loopHd ps)
 held : ∀ x ∈ ps, HeldK D w q x.2 x.1.2.2
theorem TailNK.turn {D : Nat} {w w' : World} {q q' : Col} {C : Nat → Prop} {v : Value} {ps : List (LItem × Value)} (h : TailNK D w q v ps) (T : Turn q q' C w w') (h4 : ¬ C 4) (h5 : ¬ C 5) : TailNK D w' q' v ps := ⟨h.own.turn T h4, fun x hx => (h.held x hx).turn T h5⟩
theorem TailNK.recs {D : Nat} {w : World} {q : Col} {v : Value} {ps : List (LItem × Value)} (h : TailNK D w q v ps) : Recs w 3 (fun w x cs => ∃ y, cs = [.int .i64 x.1, .int .i64 x.2.1, y] ∧ BodyM D w y x.2.2) v (ps.map Prod.fst) := by
 rcases h.own.1.2 with ⟨rfl, h0⟩ | ⟨G, cap, cur, rfl, _, hg, hnc, _⟩
 ·
  rw [List.eq_nil_of_length_eq_zero h0]
  exact .inl ⟨rfl, none, 0, rfl⟩
 ·
  by_cases hp : 0 < ps.length
  ·
   refine .inr ⟨by simpa using hp, G, 0, cap, by simp, by simpa using hnc, block_lt hg, fun k hk => ?_⟩
   have hk' : k < ps.length := by simpa using hk
   refine ⟨loopHd (ps[k]).1 ++ [(ps[k]).2], rfl, ⟨(ps[k]).2, by simp [loopHd], ?_⟩, fun i hi => ?_⟩
   ·
    have := h.held _ (List.getElem_mem hk') q w (Turn.refl _ _ _)
    simpa using this
   ·
    have hg2 := tailV_get (show ∀ a, (loopHd a).length + 1 = 3 from fun _ => rfl) ps k i hk' hi
    have hlen : i < (loopHd (ps[k]).1 ++ [(ps[k]).2]).length := hi
    rw [List.getElem?_eq_getElem hlen] at hg2 ⊢
    have := h.own.1.cells (g := G) rfl _ _ hg2
    rw [Addr.add_lit] at this
    rw [Nat.add_assoc]
    exact this
  ·
   rw [List.eq_nil_of_length_eq_zero (by omega : ps.length = 0)]
   exact .inl ⟨rfl, some ⟨G, 0, none⟩, cap, rfl⟩
theorem TailNK.grow {D : Nat} {w w2 : World} {q : Col} {v v' : Value} {ps : List (LItem × Value)} {a : LItem} {y : Value} (h : TailNK D w q v ps) (hy : HeldK D w q y a.2.2) (k1 : w2.ownsRow 0 51 3 v' (ps.length + 1) (tailV loopHd ps ++ (loopHd a ++ [y])))
  (k2 : Mods (fun b => v.ownBlock = some b) w w2) (k4 : v'.ownBlock = v.ownBlock ∨ ∀ b, v'.ownBlock = some b → w.heap.size ≤ b) : Turn q (ext q w.heap.size 4) (fun x => x = 4) w w2 ∧ TailNK D w2 (ext q w.heap.size 4) v' (ps ++ [(a, y)]) := by
 have T : Turn q (ext q w.heap.size 4) (fun x => x = 4) w w2 := Turn.of_mods q 4 k2 (fun b _ hb => h.own.2 b hb)
 refine ⟨T, ⟨?_, fun b hb => ?_⟩, fun x hx => ?_⟩
 ·
  rw [List.length_append, tailV_snoc]; exact k1
 ·
  rcases k4 with k4 | k4
  ·
   rw [k4] at hb
   exact (ext_old (h.own.1.lt b hb).2).trans (h.own.2 b hb)
  ·
   exact ext_new (k4 b hb)
 ·
  rcases List.mem_append.1 hx with hx | hx
  ·
   exact (h.held x hx).turn T (by decide)
  ·
   obtain rfl : x = (a, y) := by simpa using hx
   exact hy.turn T (by decide)
def LentNRetK (D : Nat) (w : World) (l : Nest) (e : Ending) (w' : World) : Prop := ∃ v, e = .returned v ∧ (∀ w'', Mods (fun k => k < w.heap.size) w' w'' → HasNestM D w'' v l) ∧ Below w.heap.size w w'
def LentNOkK (D : Nat) : Prop := ∀ (w : World) (v : Value) (l : Nest), HasNestD D w v l → nodesN l ≤ 65536 → Calls Try.prog 12 #[v] w (LentNRetK D w l)
set_option maxRecDepth 100000 in
set_option maxHeartbeats 2000000 in
theorem lentN_succK {D : Nat} (hrec0 : ∀ (w : World) (v : Value) (l : Nest), l.isNil = false → HasNestD D w v l → nodesN l ≤ 65536 → Calls Try.prog 12 #[v] w (LentNRetK D w l)) : LentNOkK (D + 1) := by
 intro w v l hv hs
 have hv' : Recs w 3 (fun w x cs => ∃ y, cs = [.int .i64 x.1, .int .i64 x.2.1, y] ∧ HasNestD D w y x.2.2) v l.items := hv
 obtain ⟨ao, cap, rfl⟩ := hv'.slice
 have HV := Lib.hid hv'
 have HS := Lib.hid hs
 have hll : l.items.length ≤ 65536 := by have := nodesN_items l; omega
 have HREC := Lib.hid hrec0
 have HK := Lib.hid (Kept.start w)
 have HT : Hid (TailNK D w (fun _ => 0) (.slice none 0 0) []) := Lib.hid ⟨Own.nil _ _ _ _ _, fun _ h => by cases h⟩
 clear hv hv' hs hrec0
 go_enter Try.func12, Try.ntmps12
 go_wp2_with fail
 go_loopw [3, 4] (fun v i wl => ∃ (j : Nat) (q : Col) (ps : List (LItem × Value)), j ≤ l.items.length ∧ i = .int .i64 j ∧ Kept w.heap.size q w wl ∧ TailNK D wl q v ps ∧ ps.map Prod.fst = l.items.take j) (fun _ i _ => l.items.length - (intOf i).toNat)
 case atStart => exact ⟨0, _, [], Nat.zero_le _, rfl, HK.out, HT.out, rfl⟩
 case round =>
  clear HK HT
  obtain ⟨j, q, ps, hj, rfl, hK, hT, hps⟩ := hrel
  have HK := Lib.hid hK
  have HT := Lib.hid hT
  have HPJ := Lib.hid hps
  obtain ⟨pa0, pc0, rfl⟩ := hT.own.slice
  have HPL : Hid (ps.length = j) := Lib.hid (by have := congrArg List.length hps; rw [List.length_map, List.length_take] at this; omega)
  clear hK hT hps
  by_cases hlt : j < l.items.length
  ·
   have hlti : (j : Int) < l.items.length := by omega
   obtain ⟨b0, off, rfl, hcap, hb0, hrec⟩ := HV.out.at (by omega)
   obtain ⟨cs, hcs, hPR, hcl⟩ := hrec j hlt
   obtain ⟨y, rfl, hy⟩ := hPR
   have c0 := cell_later HK.out.below (hcl 0 (by omega))
   have c1 := cell_later HK.out.below (hcl 1 (by omega))
   have c2 := cell_later HK.out.below (hcl 2 (by omega))
   simp at c0 c1 c2
   have hcapi : (l.items.length : Int) ≤ cap := by omega
   have HTK : Hid (l.items.take (j + 1) = l.items.take j ++ [l.items[j]]) := Lib.hid (List.take_succ_eq_append_getElem hlt)
   have HY := Lib.hid hy
   have HSb : Hid (nodesN (l.items[j]).2.2 ≤ 65536) := Lib.hid (by have := nodesN_at _ (List.getElem_mem hlt); have := HS.out; omega)
   obtain ⟨ya, yc, hys⟩ := nestD_slice D hy
   subst hys
   obtain ⟨it, hit⟩ : ∃ x, l.items[j] = x := ⟨_, rfl⟩
   rw [hit] at HTK HSb HY c0 c1 c2
   clear hcl hcs hrec hy hit
   obtain ⟨t, nd, b⟩ := it
   dsimp only at HSb HY c0 c1 c2
   have hbX := below_alloc wr (.cells #[.int .i64 t, .int .i64 nd, .slice ya b.items.length yc] 51)
   have hX : Blk _ (ext q wr.heap.size 8) 8 _ _ _ := ⟨heap_alloc_new wr (.cells #[.int .i64 t, .int .i64 nd, .slice ya b.items.length yc] 51), ext_new (Nat.le_refl _)⟩
   have TX := Turn.of_below q 8 hbX
   have HK2 := Lib.hid (HK.out.turn TX (fun h => h))
   have HT2 := Lib.hid (HT.out.turn TX (fun h => h) (fun h => h))
   have HX2 := Lib.hid hX
   have x2 := hX.cell 2 _ rfl
   have hnil := isNil_len b
   clear hbX hX TX HK HT
   obtain ⟨m, hm⟩ : ∃ x, b.items.length = x := ⟨_, rfl⟩
   rw [hm] at HY HK2 HT2 HX2 x2 hnil c2
   have HM := Lib.hid hm
   by_cases hz : m = 0
   ·
    have hbn : b = .nil := by
     cases b with
     | nil => rfl
     | cons _ _ _ _ => rw [hz] at hnil; cases hnil
    subst hbn
    clear hm
    subst hz
    have u0 := HX2.out.cell 0 _ rfl
    have u1 := HX2.out.cell 1 _ rfl
    go_wp2_with (at_builtin; refine stop_here ?_)
    refine go_on ?_
    obtain ⟨w6, hw6⟩ : ∃ x, wr.alloc (.cells #[.int .i64 t, .int .i64 nd, .slice ya 0 yc] 51) = x := ⟨_, rfl⟩
    have hs6 : w6.heap.size = wr.heap.size + 1 := by rw [← hw6]; simp
    rw [hw6] at HT2 HK2 ⊢
    clear hw6 u0 u1 x2 c0 c1 c2
    have HT6 := HT2
    have HK6 := HK2
    clear HT2 HK2 HX2
    obtain ⟨i0, hi, hz0, hz1, hz2⟩ := info_parts info_Loop
    refine wpList_app rfl _ _ 30 rfl 0 51 i0 _ 3 40 Try.underlying30 hi hz0 hz1 hz2 rfl (.slice pa0 ps.length pc0) ps.length _ rfl (HT6.out.own.1.alloc (.cells #[.int .i64 t, .int .i64 nd, .slice ya 0 yc] 51)) (some ⟨wr.heap.size + 1, 0, none⟩) 1 1 [.int .i64 t, .int .i64 nd, .slice ya 0 yc] rfl rfl (fun h => by cases h) (by rw [← hs6]; exact news_alloc w6 [.int .i64 t, .int .i64 nd, .slice ya 0 yc] 51) (by simp [Value.oneCell']) (by have := HPL.out; unfold maxLen; omega) (grow_ok (by have := HPL.out; omega)) (Nat.zero_le _) ?_
    intro v7 w7 k1 k20 _ k4
    have hm7 : Mods (fun b => (Value.slice pa0 ps.length pc0).ownBlock = some b) w6 w7 := ((Mods.refl _ w6).alloc _).grown k20 (fun b hb _ => hb)
    obtain ⟨T7, N7⟩ := HT6.out.grow (a := (t, nd, Nest.nil)) (y := .slice ya 0 yc) held_nilK k1 hm7 (k4.imp id (fun k4 b hb => by rw [k4] at hb; have := Option.some.inj hb; simp at this; omega))
    obtain ⟨sp7, cp7, rfl⟩ := owns_slice k1
    have HK7 := Lib.hid (HK6.out.turn T7 (by decide))
    have HT7 := Lib.hid N7
    have HPJ7 : Hid ((ps ++ [((t, nd, Nest.nil), (.slice ya 0 yc : Value))]).map Prod.fst = l.items.take (j + 1)) := Lib.hid (by rw [HTK.out, ← HPJ.out]; simp)
    clear HPL T7 N7 k1 k20 k4 hm7 HK6 HT6 hs6
    go_wp2
    go_roundw
    case rel => exact ⟨j + 1, _, _, hlt, by go_num, HK7.out, HT7.out, HPJ7.out⟩
    case measure => simp [intOf]; omega
   ·
    have hzi : (0 : Int) < m := by omega
    have hbn : b.isNil = false := by rw [hnil, decide_eq_false hz]
    have HBN := Lib.hid hbn
    clear hm hnil hbn
    go_wp2_with fail
    refine (HREC.out _ _ b HBN.out (nestD_below D HY.out HK2.out.below) HSb.out).mono ?_
    rintro e w5 ⟨v5, rfl, hv5, hb5⟩
    have T5 := Turn.of_below (ext q wr.heap.size 8) 5 hb5
    have HH5 : Hid (HeldK D w5 (ext (ext q wr.heap.size 8) _ 5) v5 b) := Lib.hid fun q'' w'' T => .inr ⟨HBN.out, hv5 w'' (T.mods.mono fun k hk f => by
     refine Classical.byContradiction fun h2 => f (ext_new (Nat.le_of_not_lt h2)))⟩
    obtain ⟨m5, k5, hvs⟩ := bodyM_slice D (HH5.out _ w5 (Turn.refl _ _ _))
    subst hvs
    have HK5 := Lib.hid (HK2.out.turn T5 (fun h => h))
    have HT5 := Lib.hid (HT2.out.turn T5 (fun h => h) (fun h => h))
    have hX5 := HX2.out.turn T5 (fun h => h)
    have v4 := hX5.cell 2 _ rfl
    have f4 := hX5.frozen 2
    obtain ⟨b6, T6⟩ := hX5.set 2 (.slice m5 b.items.length k5)
    have HK6 := Lib.hid (HK5.out.turn T6 (by decide))
    have HT6 := Lib.hid (HT5.out.turn T6 (by decide) (by decide))
    have HH6 := Lib.hid (HH5.out.turn T6 (by decide))
    have u0 := b6.cell 0 _ rfl
    have u1 := b6.cell 1 _ rfl
    have u2 := b6.cell 2 _ rfl
    clear hv5 hb5 T5 T6 b6 hX5 HX2 x2 c0 c1 c2 HK2 HT2 HK5 HT5 HH5
    go_wp2_with (at_builtin; refine stop_here ?_)
    refine go_on ?_
    clear v4 f4 u0 u1 u2
    obtain ⟨w6, hw6⟩ : ∃ x, w5.setCell ⟨wr.heap.size, 2, none⟩ (.slice m5 b.items.length k5) = x := ⟨_, rfl⟩
    obtain ⟨q6, hq6⟩ : ∃ x : Col, x = ext (ext q wr.heap.size 8) (wr.alloc (.cells #[.int .i64 t, .int .i64 nd, .slice ya m yc] 51)).heap.size 5 := ⟨_, rfl⟩
    rw [hw6, ← hq6] at HK6 HT6 HH6
    have hs6 : w6.heap.size = w5.heap.size := by rw [← hw6, size_setCell']
    rw [hw6]
    clear hw6 hq6
    obtain ⟨i0, hi, hz0, hz1, hz2⟩ := info_parts info_Loop
    refine wpList_app rfl _ _ 30 rfl 0 51 i0 _ 3 40 Try.underlying30 hi hz0 hz1 hz2 rfl (.slice pa0 ps.length pc0) ps.length _ rfl (HT6.out.own.1.alloc (.cells #[.int .i64 t, .int .i64 nd, .slice m5 b.items.length k5] 51)) (some ⟨w5.heap.size, 0, none⟩) 1 1 [.int .i64 t, .int .i64 nd, .slice m5 b.items.length k5] rfl rfl (fun h => by cases h) (by rw [← hs6]; exact news_alloc w6 [.int .i64 t, .int .i64 nd, .slice m5 b.items.length k5] 51) (by simp [Value.oneCell']) (by have := HPL.out; unfold maxLen; omega) (grow_ok (by have := HPL.out; omega)) (Nat.zero_le _) ?_
    intro v7 w7 k1 k20 _ k4
    have hm7 : Mods (fun b => (Value.slice pa0 ps.length pc0).ownBlock = some b) w6 w7 := ((Mods.refl _ w6).alloc _).grown k20 (fun b hb _ => hb)
    obtain ⟨T7, N7⟩ := HT6.out.grow (a := (t, nd, b)) (y := .slice m5 b.items.length k5) HH6.out k1 hm7 (k4.imp id (fun k4 b hb => by rw [k4] at hb; have := Option.some.inj hb; simp at this; omega))
    obtain ⟨sp7, cp7, rfl⟩ := owns_slice k1
    have HK7 := Lib.hid (HK6.out.turn T7 (by decide))
    have HT7 := Lib.hid N7
    have HPJ7 : Hid ((ps ++ [((t, nd, b), (.slice m5 b.items.length k5 : Value))]).map Prod.fst = l.items.take (j + 1)) := Lib.hid (by rw [HTK.out, ← HPJ.out]; simp)
    clear HPL T7 N7 k1 k20 k4 hm7 HK6 HT6 hs6
    go_wp2
    go_roundw
    case rel => exact ⟨j + 1, _, _, hlt, by go_num, HK7.out, HT7.out, HPJ7.out⟩
    case measure => simp [intOf]; omega
  ·
   obtain rfl : l.items.length = j := by omega
   clear hj hlt
   have hPJ := HPJ.out
   rw [List.take_of_length_le (Nat.le_refl _)] at hPJ
   have HPJ := Lib.hid hPJ
   clear hPJ
   obtain ⟨i0, hi, hz0, hz1, hz2⟩ := info_parts info_Loop
   go_wp2_with (at_builtin; refine stop_here ?_)
   refine go_on ?_
   refine wpList_app rfl _ _ 30 rfl 0 51 i0 _ 3 40 Try.underlying30 hi hz0 hz1 hz2 rfl (.slice pa0 ps.length pc0) ps.length _ rfl (HT.out.own.1.alloc (.cells #[.int .i64 (-7770777), .int .i64 0, .slice none 0 0] 51)) (some ⟨wr.heap.size, 0, none⟩) 1 1 [.int .i64 (-7770777), .int .i64 0, .slice none 0 0] rfl rfl (fun h => by cases h) (news_alloc wr [.int .i64 (-7770777), .int .i64 0, .slice none 0 0] 51) (by simp [Value.oneCell']) (by have := HPL.out; unfold maxLen; omega) (grow_ok (by have := HPL.out; omega)) (Nat.zero_le _) ?_
   intro v7 w7 k1 k20 _ k4
   have hm7 : Mods (fun b => (Value.slice pa0 ps.length pc0).ownBlock = some b) wr w7 := ((Mods.refl _ wr).alloc _).grown k20 (fun b hb _ => hb)
   obtain ⟨T7, N7⟩ := HT.out.grow (a := (-7770777, 0, .nil)) (y := .slice none 0 0) held_nilK k1 hm7 (k4.imp id (fun k4 b hb => by rw [k4] at hb; have := Option.some.inj hb; simp at this; omega))
   obtain ⟨sp7, cp7, rfl⟩ := owns_slice k1
   obtain ⟨_, hcp7, bN, _, eb7, _⟩ := owns_cell k1 (by simp [loopHd])
   subst eb7
   have hcp7n : l.items.length ≤ cp7 := by have := HPL.out; omega
   have HK7 := Lib.hid (HK.out.turn T7 (by decide))
   have HT7 := Lib.hid N7
   clear T7 N7 k1 k20 k4 hm7 HK HT
   go_wp2
   go_ret
   refine ⟨_, rfl, fun w'' mm => ?_, HK7.out.below⟩
   have T : Turn _ _ (fun x => x = 0) w7 w'' := ⟨mm.mono (fun k hk f => HK7.out.old k f), fun _ _ => rfl⟩
   have h1 := (HT7.out.turn T (by decide) (by decide)).recs
   rw [List.map_append, HPJ.out] at h1
   obtain ⟨cs, -, ⟨y, e, -⟩, hm⟩ := h1.mark
   subst e
   exact ⟨_, _, rfl, h1.front, hm 0 (by omega)⟩
theorem lentN_zeroK : LentNOkK 0 := by
 intro w v l hv hs
 have h1 : HasNestD 1 w v l := by
  obtain ⟨rfl, h⟩ := hv
  exact .inl ⟨rfl, h⟩
 refine (lentN_succK (D := 0) (fun w v l hl hv => by obtain ⟨rfl, _⟩ := hv; cases hl) w v l h1 hs).mono ?_
 rintro e w' ⟨v', rfl, h2, h3⟩
 refine ⟨v', rfl, fun w'' mm => ?_, h3⟩
 obtain ⟨rfl, _⟩ := hv
 obtain ⟨ao, cap, rfl, _, hm⟩ := h2 w'' mm
 exact ⟨rfl, ao, cap, rfl, hm⟩
theorem lentN_anyK : ∀ D, LentNOkK D
 | 0 => lentN_zeroK
 | D + 1 => lentN_succK (fun w v l _ hv hs => lentN_anyK D w v l hv hs)
end Go.Proofs.Ytbmbfifempkhgaa

/- Blocks made one behind the other. No function in sight. -/
namespace Go.Proofs.Ytbmbfifempkhgaa
open Go.RowKit
abbrev allocs (w : World) (os : List Obj) : World := os.foldl World.alloc w
theorem allocs_keep : ∀ (os : List Obj) (w : World) (b : Nat) (x : Obj), w.heap[b]? = some x → (allocs w os).heap[b]? = some x
 | [], _, _, _, h => h
 | o :: os, w, b, x, h => allocs_keep os (w.alloc o) b x (block_alloc h o)
theorem allocs_get : ∀ (os : List Obj) (w : World) (k : Nat) (o : Obj), os[k]? = some o → (allocs w os).heap[w.heap.size + k]? = some o
 | [], _, _, _, h => by simp at h
 | x :: os, w, 0, o, h => by
  have e : x = o := by simpa using h
  subst e
  exact allocs_keep os (w.alloc x) _ x (heap_alloc_new w x)
 | x :: os, w, k + 1, o, h => by
  have := allocs_get os (w.alloc x) k o (by simpa using h)
  rw [World.size_alloc, show w.heap.size + 1 + k = w.heap.size + (k + 1) by omega] at this
  exact this
theorem allocs_below : ∀ (os : List Obj) (w : World), Below w.heap.size w (allocs w os) ∧ w.heap.size ≤ (allocs w os).heap.size
 | [], w => ⟨Below.refl _ _, Nat.le_refl _⟩
 | o :: os, w => by
  have h := allocs_below os (w.alloc o)
  have h1 := below_alloc w o
  have h2 : w.heap.size ≤ (w.alloc o).heap.size := h1.size
  exact ⟨h1.trans (h.1.mono h2), Nat.le_trans h2 h.2⟩
theorem allocs_cell (w : World) (os : List Obj) (b i : Nat) {cs : Array Value} {t : TypeId} {v : Value} (h : os[b]? = some (.cells cs t (0, 0))) (hv : cs[i]? = some v) : (allocs w os).cell? ⟨w.heap.size + b, i, none⟩ = some v := cells_row _ _ (allocs_get os w b _ h) i v hv
theorem allocs_one (w : World) (os : List Obj) (b : Nat) {x : Int} {t : TypeId} (h : os[b]? = some (.cells #[.int .i64 x] t (0, 0))) : Has (allocs w os) (.slice (some ⟨w.heap.size + b, 0, none⟩) 1 1) (ivs [x]) :=
 .inr ⟨by simp, _, 0, 1, rfl, Nat.le_refl _, block_lt (allocs_get os w b _ h), rfl, fun k hk => by
  match k, hk with
  | 0, _ => exact allocs_cell w os b 0 h rfl⟩
end Go.Proofs.Ytbmbfifempkhgaa

/- The small example of layer 21: its graph, plan, nest; awake. -/
namespace Go.Proofs.Ytbmbfifempkhgaa
open Go.RowKit
def txt (b : UInt8) : ByteArray := { data := #[b] }
def smallG : GGraph := ⟨txt 103, [⟨txt 97, 2, [2]⟩, ⟨txt 98, 8, []⟩], [⟨0, 0, 1, 0, [7]⟩], [⟨txt 120, 0, 0⟩], [⟨txt 121, 1, 0⟩]⟩
def planG : GPlan := ⟨[⟨0, 3⟩], 3⟩
def rowN : Nest := .cons 1 0 .nil (.cons 2 1 .nil .nil)
def SmallRet (w : World) (e : Ending) (w' : World) : Prop := ∃ v, e = .returned v ∧ HasGraph w' v smallG ∧ Below w.heap.size w w'
def PlanRet (w : World) (e : Ending) (w' : World) : Prop := ∃ v, e = .returned v ∧ HasPlan w' v planG ∧ Below w.heap.size w w'
def NestRet (w : World) (e : Ending) (w' : World) : Prop := ∃ v, e = .returned v ∧ HasNestD 1 w' v rowN ∧ Below w.heap.size w w'
set_option maxRecDepth 100000 in
theorem plan_ret (w : World) : Calls Try.prog 25 #[] w (PlanRet w) := by
 go_enter Try.func25, Try.ntmps25
 go_wp2
 refine bodyPost_ret_by (results_cell_row rfl _ _ _ _ _ _ _ rfl (allocs_get [.cells #[.slice (some ⟨w.heap.size + 1, 0, none⟩) 1 1, .int .i64 3] 29, .cells #[.int .i64 0, .int .i64 3] 70] w 0 _ rfl) Try.underlying29 rfl (by kernel_rfl)) rfl ?_
 refine ⟨_, rfl, ⟨_, rfl, ?_⟩, (allocs_below [_, _] w).1⟩
 refine .inr ⟨by decide, w.heap.size + 1, 0, 1, rfl, Nat.le_refl _, block_lt (allocs_get [_, .cells #[.int .i64 0, .int .i64 3] 70] w 1 _ rfl), fun k hk => ?_⟩
 have hk2 : k < 1 := hk
 obtain rfl : k = 0 := by omega
 refine ⟨_, rfl, rfl, fun i hi => ?_⟩
 match i, hi with
 | 0, _ => exact allocs_cell w [_, .cells #[.int .i64 0, .int .i64 3] 70] 1 0 rfl rfl
 | 1, _ => exact allocs_cell w [_, .cells #[.int .i64 0, .int .i64 3] 70] 1 1 rfl rfl
set_option maxRecDepth 100000 in
theorem nest_ret (w : World) : Calls Try.prog 26 #[] w (NestRet w) := by
 have hb := below_alloc w (.cells #[.int .i64 1, .int .i64 0, .slice none 0 0, .int .i64 2, .int .i64 1, .slice none 0 0] 51)
 have hX := heap_alloc_new w (.cells #[.int .i64 1, .int .i64 0, .slice none 0 0, .int .i64 2, .int .i64 1, .slice none 0 0] 51)
 have c := fun i v => cells_row _ _ hX i v
 go_enter Try.func26, Try.ntmps26
 go_wp2
 go_ret
 refine ⟨_, rfl, ?_, hb⟩
 refine .inr ⟨by decide, _, 0, 2, rfl, by decide, by simp, fun k hk => ?_⟩
 have hk2 : k < 2 := hk
 match k, hk2 with
 | 0, _ => exact ⟨[.int .i64 1, .int .i64 0, .slice none 0 0], rfl, ⟨_, rfl, rfl, _, _, rfl⟩, fun i hi => by match i, hi with | 0, _ => exact c 0 _ rfl | 1, _ => exact c 1 _ rfl | 2, _ => exact c 2 _ rfl⟩
 | 1, _ => exact ⟨[.int .i64 2, .int .i64 1, .slice none 0 0], rfl, ⟨_, rfl, rfl, _, _, rfl⟩, fun i hi => by match i, hi with | 0, _ => exact c 3 _ rfl | 1, _ => exact c 4 _ rfl | 2, _ => exact c 5 _ rfl⟩
def smallO (w : World) : List Obj :=
 [.cells #[.string (txt 103), .slice (some ⟨w.heap.size + 2, 0, none⟩) 2 2, .slice (some ⟨w.heap.size + 4, 0, none⟩) 1 1, .slice (some ⟨w.heap.size + 5, 0, none⟩) 1 1, .slice (some ⟨w.heap.size + 6, 0, none⟩) 1 1] 26, .cells #[.int .i64 2] 3, .cells #[.string (txt 97), .int .u8 2, .slice (some ⟨w.heap.size + 1, 0, none⟩) 1 1, .string (txt 98), .int .u8 8, .slice none 0 0] 57, .cells #[.int .i64 7] 3, .cells #[.int .i64 0, .int .i64 0, .int .i64 1, .int .i64 0, .slice (some ⟨w.heap.size + 3, 0, none⟩) 1 1] 63, .cells #[.string (txt 120), .int .i64 0, .int .i64 0] 65, .cells #[.string (txt 121), .int .i64 1, .int .i64 0] 65]
set_option maxRecDepth 100000 in
theorem small_has (w : World) : HasGraph (allocs w (smallO w)) (.agg #[.string (txt 103), .slice (some ⟨w.heap.size + 2, 0, none⟩) 2 2, .slice (some ⟨w.heap.size + 4, 0, none⟩) 1 1, .slice (some ⟨w.heap.size + 5, 0, none⟩) 1 1, .slice (some ⟨w.heap.size + 6, 0, none⟩) 1 1]) smallG := by
 refine ⟨_, _, _, _, rfl, ?_, ?_, ?_, ?_⟩
 ·
  refine .inr ⟨by decide, w.heap.size + 2, 0, 2, rfl, Nat.le_refl _, block_lt (allocs_get (smallO w) w 2 _ rfl), fun k hk => ?_⟩
  match k, (show k < 2 from hk) with
  | 0, _ => exact ⟨_, rfl, ⟨_, rfl, allocs_one w (smallO w) 1 rfl⟩, fun i hi => by
   match i, hi with
   | 0, _ => exact allocs_cell w (smallO w) 2 0 rfl rfl
   | 1, _ => exact allocs_cell w (smallO w) 2 1 rfl rfl
   | 2, _ => exact allocs_cell w (smallO w) 2 2 rfl rfl⟩
  | 1, _ => exact ⟨[.string (txt 98), .int .u8 8, .slice none 0 0], rfl, ⟨_, rfl, .inl ⟨rfl, _, _, rfl⟩⟩, fun i hi => by
   match i, hi with
   | 0, _ => exact allocs_cell w (smallO w) 2 3 rfl rfl
   | 1, _ => exact allocs_cell w (smallO w) 2 4 rfl rfl
   | 2, _ => exact allocs_cell w (smallO w) 2 5 rfl rfl⟩
 ·
  refine .inr ⟨by decide, w.heap.size + 4, 0, 1, rfl, Nat.le_refl _, block_lt (allocs_get (smallO w) w 4 _ rfl), fun k hk => ?_⟩
  match k, (show k < 1 from hk) with
  | 0, _ => exact ⟨_, rfl, ⟨_, rfl, allocs_one w (smallO w) 3 rfl⟩, fun i hi => by
   match i, hi with
   | 0, _ => exact allocs_cell w (smallO w) 4 0 rfl rfl
   | 1, _ => exact allocs_cell w (smallO w) 4 1 rfl rfl
   | 2, _ => exact allocs_cell w (smallO w) 4 2 rfl rfl
   | 3, _ => exact allocs_cell w (smallO w) 4 3 rfl rfl
   | 4, _ => exact allocs_cell w (smallO w) 4 4 rfl rfl⟩
 ·
  refine .inr ⟨by decide, w.heap.size + 5, 0, 1, rfl, Nat.le_refl _, block_lt (allocs_get (smallO w) w 5 _ rfl), fun k hk => ?_⟩
  match k, (show k < 1 from hk) with
  | 0, _ => exact ⟨_, rfl, rfl, fun i hi => by
   match i, hi with
   | 0, _ => exact allocs_cell w (smallO w) 5 0 rfl rfl
   | 1, _ => exact allocs_cell w (smallO w) 5 1 rfl rfl
   | 2, _ => exact allocs_cell w (smallO w) 5 2 rfl rfl⟩
 ·
  refine .inr ⟨by decide, w.heap.size + 6, 0, 1, rfl, Nat.le_refl _, block_lt (allocs_get (smallO w) w 6 _ rfl), fun k hk => ?_⟩
  match k, (show k < 1 from hk) with
  | 0, _ => exact ⟨_, rfl, rfl, fun i hi => by
   match i, hi with
   | 0, _ => exact allocs_cell w (smallO w) 6 0 rfl rfl
   | 1, _ => exact allocs_cell w (smallO w) 6 1 rfl rfl
   | 2, _ => exact allocs_cell w (smallO w) 6 2 rfl rfl⟩
set_option maxRecDepth 100000 in
theorem small_ret (w : World) : Calls Try.prog 24 #[] w (SmallRet w) := by
 go_enter Try.func24, Try.ntmps24
 go_wp2
 refine bodyPost_ret_by (results_cell_row rfl _ _ _ _ _ _ _ rfl (allocs_get (smallO w) w 0 _ rfl) Try.underlying26 rfl (by kernel_rfl)) rfl ?_
 exact ⟨_, rfl, small_has w, (allocs_below (smallO w) w).1⟩
abbrev leaf1 (t n : Int) : Nest := .cons t n .nil .nil
theorem mk_1 : makeE smallG planG rowN = 0 := by kernel_rfl
theorem mk_2 : makeE smallG planG (leaf1 1 2) = 100 := by kernel_rfl
theorem mk_3 : makeE smallG ⟨[], 0⟩ rowN = 210 := by kernel_rfl
theorem mp_1 : makeP smallG planG rowN = ⟨3, 1, 1, 1, [⟨2, [2]⟩, ⟨8, []⟩], [⟨0, 3, [7]⟩], [⟨4, 0, 1⟩, ⟨5, 0, 0⟩, ⟨6, 0, 2⟩, ⟨1, 0, 2⟩, ⟨3, 0, 1⟩, ⟨5, 1, 0⟩, ⟨7, 0, 1⟩, ⟨2, 0, 4⟩, ⟨0, 0, 0⟩]⟩ := by kernel_rfl
theorem small_sized : GSized smallG := ⟨by decide, by decide, by decide, by decide⟩
end Go.Proofs.Ytbmbfifempkhgaa

/- awake of layer 21 answers true. -/
namespace Go.Proofs.Ytbmbfifempkhgaa
open Go.RowKit
theorem leaf_has (w : World) (t n : Int) : HasNestD 1 (w.alloc (.cells #[.int .i64 t, .int .i64 n, .slice none 0 0] 51)) (.slice (some ⟨w.heap.size, 0, none⟩) 1 1) (leaf1 t n) := by
 have hX := heap_alloc_new w (.cells #[.int .i64 t, .int .i64 n, .slice none 0 0] 51)
 refine .inr ⟨Nat.zero_lt_one, _, 0, 1, rfl, Nat.le_refl _, block_lt hX, fun k hk => ?_⟩
 match k, (show k < 1 from hk) with
 | 0, _ => exact ⟨[.int .i64 t, .int .i64 n, .slice none 0 0], rfl, ⟨_, rfl, rfl, _, _, rfl⟩, fun i hi => by
  match i, hi with
  | 0, _ => exact cells_row _ _ hX 0 _ rfl
  | 1, _ => exact cells_row _ _ hX 1 _ rfl
  | 2, _ => exact cells_row _ _ hX 2 _ rfl⟩
theorem leaf_sized (t n : Int) : NSized (leaf1 t n) := by simp [NSized, Nest.items]
theorem row_sized : NSized rowN := by simp [rowN, NSized, Nest.items]
structure Then (w w' : World) : Prop where
 below : Below w.heap.size w w'
 size : w.heap.size ≤ w'.heap.size
theorem Then.refl (w : World) : Then w w := ⟨Below.refl _ _, Nat.le_refl _⟩
theorem Then.step {w w1 w2 : World} (h : Then w w1) (b : Below w1.heap.size w1 w2) : Then w w2 := ⟨h.below.trans (b.mono h.size), Nat.le_trans h.size b.size⟩
theorem HasProg.none {w : World} {v : Value} (h : HasProg w v .zero) : ∃ a x b y c z, v = .agg #[.int .i64 0, .int .i64 0, .int .i64 0, .int .i64 0, .slice a 0 x, .slice b 0 y, .slice c 0 z] := by
 obtain ⟨vp, vl, vo, rfl, rp, rl, ro⟩ := h
 obtain ⟨ap, cp, rfl⟩ := rp.slice
 obtain ⟨al, cl, rfl⟩ := rl.slice
 obtain ⟨ao, co, rfl⟩ := ro.slice
 exact ⟨_, _, _, _, _, _, rfl⟩
set_option maxRecDepth 100000 in
set_option maxHeartbeats 2000000 in
theorem awake_yes (w : World) : Calls Try.prog 19 #[] w (Tells (.bool true) w) := by
 have HT := Lib.hid (Then.refl w)
 go_enter Try.func19, Try.ntmps19
 go_wp2_with fail
 refine (small_ret _).mono ?_
 rintro e w1 ⟨vg, rfl, hg, hb⟩
 replace HT := Lib.hid (HT.out.step hb)
 have HG := Lib.hid hg
 clear hg hb
 go_wp2_with fail
 refine (plan_ret _).mono ?_
 rintro e w1 ⟨vp, rfl, hp, hb⟩
 replace HT := Lib.hid (HT.out.step hb)
 have HP := Lib.hid hp
 replace HG := Lib.hid (HG.out.below hb)
 clear hp hb
 go_wp2_with fail
 refine (nest_ret _).mono ?_
 rintro e w1 ⟨vn, rfl, hn, hb⟩
 replace HT := Lib.hid (HT.out.step hb)
 have HN := Lib.hid hn
 replace HP := Lib.hid (HP.out.below hb)
 replace HG := Lib.hid (HG.out.below hb)
 clear hn hb
 go_wp2_with fail
 refine (make_any 1 _ _ _ _ smallG planG rowN HG.out HP.out HN.out small_sized row_sized).mono ?_
 rintro e w4 ⟨v4, rfl, p4, hb⟩
 replace HT := Lib.hid (HT.out.step hb)
 clear hb HG HP HN
 rw [mk_1]
 rw [mp_1] at p4
 obtain ⟨vp, vl, vo, rfl, rp, rl, ro⟩ := p4
 obtain ⟨ap, cp, rfl⟩ := rp.slice
 obtain ⟨al, cl, rfl⟩ := rl.slice
 obtain ⟨ao, co, rfl⟩ := ro.slice
 have HRO := Lib.hid ro
 clear rp rl ro
 obtain ⟨B, hB⟩ : ∃ x, w4.heap.size = x := ⟨_, rfl⟩
 obtain ⟨OPS, hOPS⟩ : ∃ x : List GOp, [⟨4, 0, 1⟩, ⟨5, 0, 0⟩, ⟨6, 0, 2⟩, ⟨1, 0, 2⟩, ⟨3, 0, 1⟩, ⟨5, 1, 0⟩, ⟨7, 0, 1⟩, ⟨2, 0, 4⟩, ⟨0, 0, 0⟩] = x := ⟨_, rfl⟩
 have hl9 : OPS.length = 9 := by rw [← hOPS]; rfl
 simp only [] at HRO
 rw [hOPS] at HRO
 rw [hl9] at HRO
 have HOPS := Lib.hid hOPS
 clear hOPS hl9
 have hbX := below_alloc w4 (.cells #[.int .i64 3, .int .i64 1, .int .i64 1, .int .i64 1, .slice ap 2 cp, .slice al 1 cl, .slice ao 9 co] 39)
 have HB1 := Lib.hid (heap_alloc_new w4 (.cells #[.int .i64 3, .int .i64 1, .int .i64 1, .int .i64 1, .slice ap 2 cp, .slice al 1 cl, .slice ao 9 co] 39))
 replace HRO := Lib.hid (HRO.out.below hbX)
 replace HT := Lib.hid (HT.out.step hbX)
 rw [hB] at HB1
 clear hbX
 go_wp2_with fail
 clear hB
 refine (small_ret _).mono ?_
 rintro e w1 ⟨vg, rfl, hg, hb⟩
 replace HT := Lib.hid (HT.out.step hb)
 replace HB1 := Lib.hid ((hb.block _ (block_lt HB1.out)).trans HB1.out)
 replace HRO := Lib.hid (HRO.out.below hb)
 have HG := Lib.hid hg
 clear hg hb
 go_wp2_with fail
 refine (plan_ret _).mono ?_
 rintro e w1 ⟨vp, rfl, hp, hb⟩
 replace HT := Lib.hid (HT.out.step hb)
 replace HB1 := Lib.hid ((hb.block _ (block_lt HB1.out)).trans HB1.out)
 replace HRO := Lib.hid (HRO.out.below hb)
 have HP := Lib.hid hp
 replace HG := Lib.hid (HG.out.below hb)
 clear hp hb
 have hbL := below_alloc w1 (.cells #[.int .i64 1, .int .i64 2, .slice none 0 0] 51)
 have HL := Lib.hid (leaf_has w1 1 2)
 go_wp2_with fail
 obtain ⟨w2, hw2⟩ : ∃ x, w1.alloc (.cells #[.int .i64 1, .int .i64 2, .slice none 0 0] 51) = x := ⟨_, rfl⟩
 rw [hw2] at hbL HL ⊢
 clear hw2
 have hb := hbL
 replace HT := Lib.hid (HT.out.step hb)
 replace HB1 := Lib.hid ((hb.block _ (block_lt HB1.out)).trans HB1.out)
 replace HRO := Lib.hid (HRO.out.below hb)
 refine (make_any 1 w2 _ _ _ smallG planG (leaf1 1 2) (HG.out.below hbL) (HP.out.below hbL) HL.out small_sized (leaf_sized 1 2)).mono ?_
 clear hb hbL HG HP HL
 rintro e w4 ⟨v4, rfl, p4, hb⟩
 replace HT := Lib.hid (HT.out.step hb)
 replace HB1 := Lib.hid ((hb.block _ (block_lt HB1.out)).trans HB1.out)
 replace HRO := Lib.hid (HRO.out.below hb)
 rw [mk_2]
 rw [makeP, if_neg (by rw [mk_2]; decide)] at p4
 obtain ⟨ap2, cp2, al2, cl2, ao2, co2, rfl⟩ := p4.none
 clear p4 hb
 have hb := below_alloc w4 (.cells #[.int .i64 0, .int .i64 0, .int .i64 0, .int .i64 0, .slice ap2 0 cp2, .slice al2 0 cl2, .slice ao2 0 co2] 39)
 replace HT := Lib.hid (HT.out.step hb)
 replace HB1 := Lib.hid ((hb.block _ (block_lt HB1.out)).trans HB1.out)
 replace HRO := Lib.hid (HRO.out.below hb)
 clear hb
 go_wp2_with fail
 refine (small_ret _).mono ?_
 rintro e w1 ⟨vg, rfl, hg, hb⟩
 replace HT := Lib.hid (HT.out.step hb)
 replace HB1 := Lib.hid ((hb.block _ (block_lt HB1.out)).trans HB1.out)
 replace HRO := Lib.hid (HRO.out.below hb)
 have HG := Lib.hid hg
 clear hg hb
 go_wp2_with fail
 have HP : Hid (HasPlan w1 (.agg #[.slice none 0 0, .int .i64 0]) ⟨[], 0⟩) := Lib.hid ⟨_, rfl, .inl ⟨rfl, _, _, rfl⟩⟩
 refine (nest_ret _).mono ?_
 rintro e w1 ⟨vn, rfl, hn, hb⟩
 replace HT := Lib.hid (HT.out.step hb)
 replace HB1 := Lib.hid ((hb.block _ (block_lt HB1.out)).trans HB1.out)
 replace HRO := Lib.hid (HRO.out.below hb)
 have HN := Lib.hid hn
 replace HP := Lib.hid (HP.out.below hb)
 replace HG := Lib.hid (HG.out.below hb)
 clear hn hb
 go_wp2_with fail
 refine (make_any 1 _ _ _ _ smallG ⟨[], 0⟩ rowN HG.out HP.out HN.out small_sized row_sized).mono ?_
 clear HG HP HN
 rintro e w4 ⟨v4, rfl, p4, hb⟩
 replace HT := Lib.hid (HT.out.step hb)
 replace HB1 := Lib.hid ((hb.block _ (block_lt HB1.out)).trans HB1.out)
 replace HRO := Lib.hid (HRO.out.below hb)
 rw [mk_3]
 rw [makeP, if_neg (by rw [mk_3]; decide)] at p4
 obtain ⟨ap2, cp2, al2, cl2, ao2, co2, rfl⟩ := p4.none
 clear p4 hb
 have hb := below_alloc w4 (.cells #[.int .i64 0, .int .i64 0, .int .i64 0, .int .i64 0, .slice ap2 0 cp2, .slice al2 0 cl2, .slice ao2 0 co2] 39)
 replace HT := Lib.hid (HT.out.step hb)
 replace HB1 := Lib.hid ((hb.block _ (block_lt HB1.out)).trans HB1.out)
 replace HRO := Lib.hid (HRO.out.below hb)
 clear hb
 have b0 := cells_row _ _ HB1.out 0 _ rfl
 have b1 := cells_row _ _ HB1.out 1 _ rfl
 have b4 := cells_row _ _ HB1.out 4 _ rfl
 have b5 := cells_row _ _ HB1.out 5 _ rfl
 have b6 := cells_row _ _ HB1.out 6 _ rfl
 have hOP := HOPS.out
 subst hOP
 obtain ⟨-, hc9, ob, off, rfl, hops⟩ := HRO.out.at (k := 0) (Nat.zero_lt_succ _)
 have hci : (9 : Int) ≤ co := by omega
 obtain ⟨x1, x2, x3⟩ : (w4.alloc (.cells #[.int .i64 0, .int .i64 0, .int .i64 0, .int .i64 0, .slice ap2 0 cp2, .slice al2 0 cl2, .slice ao2 0 co2] 39)).cell? ⟨ob, off + 9, none⟩ = some (.int .u8 1) ∧ (w4.alloc (.cells #[.int .i64 0, .int .i64 0, .int .i64 0, .int .i64 0, .slice ap2 0 cp2, .slice al2 0 cl2, .slice ao2 0 co2] 39)).cell? ⟨ob, off + 9 + 1, none⟩ = some (.int .i64 0) ∧ (w4.alloc (.cells #[.int .i64 0, .int .i64 0, .int .i64 0, .int .i64 0, .slice ap2 0 cp2, .slice al2 0 cl2, .slice ao2 0 co2] 39)).cell? ⟨ob, off + 9 + 2, none⟩ = some (.int .i64 2) := hops 3 (by decide)
 obtain ⟨y1, y2, y3⟩ : (w4.alloc (.cells #[.int .i64 0, .int .i64 0, .int .i64 0, .int .i64 0, .slice ap2 0 cp2, .slice al2 0 cl2, .slice ao2 0 co2] 39)).cell? ⟨ob, off + 21, none⟩ = some (.int .u8 2) ∧ (w4.alloc (.cells #[.int .i64 0, .int .i64 0, .int .i64 0, .int .i64 0, .slice ap2 0 cp2, .slice al2 0 cl2, .slice ao2 0 co2] 39)).cell? ⟨ob, off + 21 + 1, none⟩ = some (.int .i64 0) ∧ (w4.alloc (.cells #[.int .i64 0, .int .i64 0, .int .i64 0, .int .i64 0, .slice ap2 0 cp2, .slice al2 0 cl2, .slice ao2 0 co2] 39)).cell? ⟨ob, off + 21 + 2, none⟩ = some (.int .i64 4) := hops 7 (by decide)
 obtain ⟨z1, z2, z3⟩ : (w4.alloc (.cells #[.int .i64 0, .int .i64 0, .int .i64 0, .int .i64 0, .slice ap2 0 cp2, .slice al2 0 cl2, .slice ao2 0 co2] 39)).cell? ⟨ob, off + 6, none⟩ = some (.int .u8 6) ∧ (w4.alloc (.cells #[.int .i64 0, .int .i64 0, .int .i64 0, .int .i64 0, .slice ap2 0 cp2, .slice al2 0 cl2, .slice ao2 0 co2] 39)).cell? ⟨ob, off + 6 + 1, none⟩ = some (.int .i64 0) ∧ (w4.alloc (.cells #[.int .i64 0, .int .i64 0, .int .i64 0, .int .i64 0, .slice ap2 0 cp2, .slice al2 0 cl2, .slice ao2 0 co2] 39)).cell? ⟨ob, off + 6 + 2, none⟩ = some (.int .i64 2) := hops 2 (by decide)
 clear hops
 go_wp2
 go_ret
 exact ⟨rfl, HT.out.below⟩
end Go.Proofs.Ytbmbfifempkhgaa

/- heavy. -/
namespace Go.Proofs.Ytbmbfifempkhgaa
open Go.RowKit
def HeavyLRet (w : World) (g : GGraph) (p : GPlan) (l : Nest) (e : Ending) (w' : World) : Prop := ∃ b, e = .returned (.bool b) ∧ (b = false → headN g + pSum g.actors + eSum g.edges ≤ 1048576 ∧ p.regions.length ≤ 65536 ∧ nodesN l ≤ 65536) ∧ Below w.heap.size w w'
set_option maxRecDepth 100000 in
set_option maxHeartbeats 1000000 in
theorem heavyl_any (D : Nat) (w : World) (vg vp v : Value) (g : GGraph) (p : GPlan) (l : Nest) (hg : HasGraph w vg g) (hp : HasPlan w vp p) (hv : HasNestD D w v l) (hgr : Great g) (hns : NSized l) (hrl : p.regions.length ≤ 17600000000000) : Calls Try.prog 9 #[vg, vp, v] w (HeavyLRet w g p l) := by
 obtain ⟨va, ve, vi, vo, rfl, ra, re, ri, ro⟩ := hg.shape
 obtain ⟨vr, rfl, rr⟩ := hp
 obtain ⟨ar, rc, rfl⟩ := rr.slice
 obtain ⟨an, nc, rfl⟩ := nestD_slice D hv
 have RG := Lib.hid hg
 have RN := Lib.hid hv
 have HNS := Lib.hid hns
 have HGR := Lib.hid hgr
 have HRL := Lib.hid hrl
 have hb1 := below_alloc w (.cells #[.string g.name, va, ve, vi, vo] 26)
 have h1 := heap_alloc_new w (.cells #[.string g.name, va, ve, vi, vo] 26)
 have hs1 : (w.alloc (.cells #[.string g.name, va, ve, vi, vo] 26)).heap.size = w.heap.size + 1 := by simp
 have hb2 := below_alloc (w.alloc (.cells #[.string g.name, va, ve, vi, vo] 26)) (.cells #[.slice ar p.regions.length rc, .int .i64 p.total] 29)
 have h2 := heap_alloc_new (w.alloc (.cells #[.string g.name, va, ve, vi, vo] 26)) (.cells #[.slice ar p.regions.length rc, .int .i64 p.total] 29)
 have h3 := block_alloc h1 (.cells #[.slice ar p.regions.length rc, .int .i64 p.total] 29)
 have HT := Lib.hid (((Then.refl w).step hb1).step hb2)
 rw [hs1] at h2
 obtain ⟨W, hW⟩ : ∃ x, (w.alloc (.cells #[.string g.name, va, ve, vi, vo] 26)).alloc (.cells #[.slice ar p.regions.length rc, .int .i64 p.total] 29) = x := ⟨_, rfl⟩
 rw [hW] at h2 h3 HT
 have HPB := Lib.hid h2
 have y0 := cells_row _ _ h3 0 _ rfl
 have y1 := cells_row _ _ h3 1 _ rfl
 have y2 := cells_row _ _ h3 2 _ rfl
 have y3 := cells_row _ _ h3 3 _ rfl
 have y4 := cells_row _ _ h3 4 _ rfl
 clear ra re ri ro rr hg hgr hb1 hb2 h1 h2 h3 hs1 hv hns hrl
 go_enter Try.func9, Try.ntmps9
 go_wp2_with fail
 clear hW y0 y1 y2 y3 y4
 refine (heavy_graph _ _ g (RG.out.below HT.out.below) HGR.out).mono ?_
 rintro e wc ⟨b, rfl, hbl, hb⟩
 replace HT := Lib.hid (HT.out.step hb)
 replace HPB := Lib.hid ((hb.block _ (block_lt HPB.out)).trans HPB.out)
 clear hb
 have p0 := cells_row _ _ HPB.out 0 _ rfl
 cases b with
 | true =>
  go_wp2
  go_ret
  exact ⟨true, rfl, (fun h => by cases h), HT.out.below⟩
 | false =>
  have HH := Lib.hid (hbl rfl)
  clear hbl
  by_cases hr : 65536 < p.regions.length
  ·
   have hri : (65536 : Int) < p.regions.length := by omega
   go_wp2
   go_ret
   exact ⟨true, rfl, (fun h => by cases h), HT.out.below⟩
  have hri : ¬ (65536 : Int) < p.regions.length := by omega
  have HRL2 := Lib.hid hr
  have HD : Hid (decide ((65536 : Int) < p.regions.length) = false) := Lib.hid (by simpa using hri)
  clear hr
  go_wp2_with fail
  refine (heavyloops_any D _ _ l (nestD_below D RN.out HT.out.below) HNS.out).mono ?_
  rintro e wd ⟨rfl, hb⟩
  replace HT := Lib.hid (HT.out.step hb)
  have HWN := Lib.hid (weight_nodes (l := l))
  clear hb p0 hri
  obtain ⟨n, hn⟩ : ∃ n, weightP l 0 0 = n := ⟨_, rfl⟩
  rw [hn]
  have HN := Lib.hid hn
  clear hn
  by_cases hw : 65536 < n
  ·
   rw [decide_eq_true hw]
   go_wp2
   go_ret
   exact ⟨true, rfl, (fun h => by cases h), HT.out.below⟩
  ·
   rw [decide_eq_false hw]
   have HW := Lib.hid hw
   clear hw
   have hd := HD.out
   go_wp2
   go_ret
   exact ⟨false, rfl, (fun _ => ⟨HH.out, by have := HRL2.out; omega, HWN.out (by rw [HN.out]; have := HW.out; omega)⟩), HT.out.below⟩
end Go.Proofs.Ytbmbfifempkhgaa

/- An actor's rates, plainly. No function in sight. -/
namespace Go.Proofs.Ytbmbfifempkhgaa
def ratesI (g : GGraph) (t : Nat) : List Int := match g.actors[t]? with | some a => insP a.tag a.params | none => []
def ratesO (g : GGraph) (t : Nat) : List Int := match g.actors[t]? with | some a => outsP a.tag a.params | none => []
end Go.Proofs.Ytbmbfifempkhgaa
