/- emit's fits. -/
import Derived.Test.YtbmbfifempkhgaaEmitMakesZ2
import Derived.Test.YtbmbfifempkhgaaEmitMakesZ1
import Derived.Test.YtbmbfifempkhgaaEmitMakesZ3
import Derived.Carry
namespace Go.Proofs.Ytbmbfifempkhgaa
open Go.RowKit
def regionP (total : Int) (r : GRegion) (n : Nat) : Bool := decide (0 ≤ r.base) && decide (r.base ≤ total) && decide ((n : Int) ≤ r.size) && decide (r.size ≤ total - r.base)
def regionsP (total : Int) : List GRegion → List GEdge → Bool
 | r :: rs, e :: es => regionP total r e.start.length && regionsP total rs es
 | _, _ => true
def fitsP (g : GGraph) (p : GPlan) : Bool := decide (p.regions.length = g.edges.length) && decide (0 ≤ p.total) && decide (p.total ≤ 1024) && regionsP p.total p.regions g.edges
theorem wrapP {x : Int} (h : 0 ≤ x) (h2 : x ≤ 1024) : IntKind.i64.wrap x = x := by
 exact IntWalk.i64_in _ (by omega)
theorem regionsP_nil {total : Int} {es : List GEdge} : regionsP total [] es = true := by cases es <;> rfl
theorem regionsP_cons {total : Int} {rs : List GRegion} {es : List GEdge} {j : Nat} (h : j < rs.length) (h2 : j < es.length) : regionsP total (rs.drop j) (es.drop j) = (regionP total rs[j] es[j].start.length && regionsP total (rs.drop (j + 1)) (es.drop (j + 1))) := by
 rw [List.drop_eq_getElem_cons h, List.drop_eq_getElem_cons h2, regionsP]
set_option maxRecDepth 100000 in
set_option maxHeartbeats 2000000 in
theorem fits_any (w : World) (vg vp : Value) (g : GGraph) (p : GPlan) (hg : HasGraph w vg g) (hp : HasPlan w vp p) (hle : g.edges.length ≤ 1000000) (hst : ∀ e ∈ g.edges, e.start.length ≤ 17600000000000) : Calls Try.prog 42 #[vg, vp] w (Tells (.bool (fitsP g p)) w) := by
 obtain ⟨va, ve, vi, vo, rfl, ra, re, ri, ro⟩ := hg.shape
 obtain ⟨vr, rfl, rr⟩ := hp
 obtain ⟨ae, ce, rfl⟩ := re.slice
 obtain ⟨ar, cr, rfl⟩ := rr.slice
 obtain ⟨F, hF⟩ : ∃ F, fitsP g p = F := ⟨_, rfl⟩
 rw [hF]
 have HF := Lib.hid hF
 have RE := Lib.hid re
 have RR := Lib.hid rr
 have HST := Lib.hid hst
 have HLE := Lib.hid hle
 have hb1 := below_alloc w (.cells #[.string g.name, va, .slice ae g.edges.length ce, vi, vo] 26)
 have hG := heap_alloc_new w (.cells #[.string g.name, va, .slice ae g.edges.length ce, vi, vo] 26)
 have hb2 := below_alloc (w.alloc (.cells #[.string g.name, va, .slice ae g.edges.length ce, vi, vo] 26)) (.cells #[.slice ar p.regions.length cr, .int .i64 p.total] 29)
 have hP := heap_alloc_new (w.alloc (.cells #[.string g.name, va, .slice ae g.edges.length ce, vi, vo] 26)) (.cells #[.slice ar p.regions.length cr, .int .i64 p.total] 29)
 rw [World.size_alloc] at hP
 have hG2 := block_alloc hG (.cells #[.slice ar p.regions.length cr, .int .i64 p.total] 29)
 have HB0 := Lib.hid (hb1.trans (hb2.mono hb1.size))
 have HSZ := Lib.hid (show w.heap.size + 2 ≤ ((w.alloc (.cells #[.string g.name, va, .slice ae g.edges.length ce, vi, vo] 26)).alloc (.cells #[.slice ar p.regions.length cr, .int .i64 p.total] 29)).heap.size by simp)
 generalize hW : (w.alloc (.cells #[.string g.name, va, .slice ae g.edges.length ce, vi, vo] 26)).alloc (.cells #[.slice ar p.regions.length cr, .int .i64 p.total] 29) = W at *
 have HG2 := Lib.hid hG2
 have HP := Lib.hid hP
 have e2 := cells_row _ _ hG2 2 _ rfl
 have t1 := cells_row _ _ hP 1 _ rfl
 have r0 := cells_row _ _ hP 0 _ rfl
 clear hF ra re ri ro rr hst hle hb1 hb2 hG hP hG2 hg
 by_cases hl : p.regions.length = g.edges.length
 ·
  have hli : ((p.regions.length : Int) != g.edges.length) = false := by simp [hl]
  by_cases h1 : 0 ≤ p.total
  ·
   have h1i : ¬ p.total < 0 := by omega
   by_cases h2 : p.total ≤ 1024
   ·
    have h2i : ¬ (1024 : Int) < p.total := by omega
    have HE := Lib.hid (show regionsP p.total (p.regions.drop 0) (g.edges.drop 0) = F by rw [← HF.out, fitsP, decide_eq_true hl, decide_eq_true h1, decide_eq_true h2]; simp)
    rw [hl] at r0 ⊢
    rw [hl] at hli hW
    go_enter Try.func42, Try.ntmps42
    go_wp2_with fail
    clear hW r0
    go_loopw [27] (fun i wr => ∃ (j : Nat), j ≤ g.edges.length ∧ i = .int .i64 j ∧ Below W.heap.size W wr ∧ regionsP p.total (p.regions.drop j) (g.edges.drop j) = F) (fun i _ => g.edges.length - (intOf i).toNat)
    case atStart => exact ⟨0, Nat.zero_le _, rfl, Below.refl _ _, HE.out⟩
    case round =>
     clear HE
     obtain ⟨j, hj, rfl, hb, hE⟩ := hrel
     have HB := Lib.hid hb
     have HE := Lib.hid hE
     clear hb hE
     by_cases hlt : j < g.edges.length
     ·
      have hlti : (j : Int) < g.edges.length := by omega
      have hlt2 : j < p.regions.length := by omega
      obtain ⟨br, orr, rfl, hcr, hbr, hrec⟩ := RR.out.at (by omega)
      obtain ⟨cs, hcs, hPR, hcl⟩ := hrec j hlt2
      obtain rfl := hPR
      have hbW := HB0.out.trans (HB.out.mono HB0.out.size)
      have c0 := cell_later hbW (hcl 0 (by omega))
      have c1 := cell_later hbW (hcl 1 (by omega))
      obtain ⟨be, oe, rfl, hce, hbe, hrece⟩ := RE.out.at (by omega)
      obtain ⟨cse, hcse, hPE, hcle⟩ := hrece j hlt
      obtain ⟨xs, rfl, hst⟩ := hPE
      have e4 := cell_later hbW (hcle 4 (by omega))
      simp at c0 c1 e4
      obtain ⟨sa, sc, hxs⟩ := Ints.slice hst
      subst hxs
      have hcri : (g.edges.length : Int) ≤ cr := by omega
      have hcei : (g.edges.length : Int) ≤ ce := by omega
      have hnn := HST.out _ (List.getElem_mem hlt)
      have hEc := HE.out
      rw [regionsP_cons hlt2 hlt, regionP] at hEc
      have HEC := Lib.hid hEc
      have t1' := cell_later HB.out t1
      have e2' := cell_later HB.out e2
      clear hcl hcs hrec hcle hcse hrece hst hEc HE
      generalize (g.edges[j]).start.length = n at *
      generalize (p.regions[j]).base = base at *
      generalize (p.regions[j]).size = size at *
      have hbX := below_alloc wr (.cells #[.int .i64 base, .int .i64 size] 70)
      have hX := heap_alloc_new wr (.cells #[.int .i64 base, .int .i64 size] 70)
      have x0 := cells_row _ _ hX 0 _ rfl
      have x1 := cells_row _ _ hX 1 _ rfl
      have t1 := cell_later hbX t1'
      have e2 := cell_later hbX e2'
      have e4 := cell_later hbX e4
      have HBX := Lib.hid (hbW.trans (hbX.mono hbW.size))
      have HBY := Lib.hid (HB.out.trans (hbX.mono HB.out.size))
      clear hbX hX hbW t1' e2' hli
      by_cases d1 : base < 0
      ·
       skip
       have e : F = false := by rw [← HEC.out, decide_eq_false (by omega : ¬ 0 ≤ base)]; simp
       subst e
       go_wp2_with fail
       refine wp_region_lex (fun w' => w'.cell? ⟨wr.heap.size, 0, none⟩ = some (.int .i64 base) ∧ w'.cell? ⟨wr.heap.size, 1, none⟩ = some (.int .i64 size) ∧ w'.cell? ⟨w.heap.size + 1, 1, none⟩ = some (.int .i64 p.total) ∧ w'.cell? ⟨w.heap.size, 2, none⟩ = some (.slice (some ⟨be, oe, none⟩) g.edges.length ce) ∧ w'.cell? ⟨be, oe + j * 5 + 4, none⟩ = some (.slice sa n sc)) [0, 1, 2, 3, 4, 5, 6, 7, 8, 9, 10, 11, 12, 13, 14, 15, 16, 17, 18, 19, 20, 21, 22, 23, 24, 25, 26, 27, 28, 29, 30, 31] [] (by kernel_rfl) (by kernel_rfl) rfl (fun _ _ hx h => ⟨hx.cell h.1, hx.cell h.2.1, hx.cell h.2.2.1, hx.cell h.2.2.2.1, hx.cell h.2.2.2.2⟩) ⟨x0, x1, t1, e2, e4⟩ ?_
       intro Q' hQ'
       simp only [pickOps, List.flatMap_cons, List.flatMap_nil, List.drop_succ_cons, List.drop_zero, List.take_succ_cons, List.take_zero, List.cons_append, List.nil_append, List.append_nil]
       have b1 : decide (base < 0) = true := decide_eq_true d1
       have b2 : decide (p.total < base) = decide (p.total < base) := rfl
       have b3 : decide (size < (n : Int)) = decide (size < (n : Int)) := rfl
       have b4 : decide (IntKind.i64.wrap (p.total - base) < size) = decide (IntKind.i64.wrap (p.total - base) < size) := rfl
       repeat (first
        | (refine wpReads_skip (by rfl) ?_; (try simp only [Act.put, List.setIfInBounds_toArray, List.set_cons_zero, List.set_cons_succ]))
        | (refine wpReads_cons ?_ (by rfl) (by rfl) ?_ ?_; rotate_left; (intro wz hz; (try dsimp only at hz); go_simp; try with_reducible rfl); (try simp only [Act.put, List.setIfInBounds_toArray, List.set_cons_zero, List.set_cons_succ]))
        | (refine wpReads_any ?_ (by rfl) ?_ ?_; rotate_left; (intro wz; go_simp; try with_reducible rfl); (try simp only [Act.put, List.setIfInBounds_toArray, List.set_cons_zero, List.set_cons_succ])))
       refine wpReads_nil ?_
       go_wp2
       go_ret
       exact ⟨rfl, below_dr (n := 1) HBX.out⟩
      have d1i : ¬ base < 0 := d1
      by_cases d2 : p.total < base
      ·
       skip
       have e : F = false := by rw [← HEC.out, decide_eq_false (by omega : ¬ base ≤ p.total)]; simp
       subst e
       go_wp2_with fail
       refine wp_region_lex (fun w' => w'.cell? ⟨wr.heap.size, 0, none⟩ = some (.int .i64 base) ∧ w'.cell? ⟨wr.heap.size, 1, none⟩ = some (.int .i64 size) ∧ w'.cell? ⟨w.heap.size + 1, 1, none⟩ = some (.int .i64 p.total) ∧ w'.cell? ⟨w.heap.size, 2, none⟩ = some (.slice (some ⟨be, oe, none⟩) g.edges.length ce) ∧ w'.cell? ⟨be, oe + j * 5 + 4, none⟩ = some (.slice sa n sc)) [0, 1, 2, 3, 4, 5, 6, 7, 8, 9, 10, 11, 12, 13, 14, 15, 16, 17, 18, 19, 20, 21, 22, 23, 24, 25, 26, 27, 28, 29, 30, 31] [] (by kernel_rfl) (by kernel_rfl) rfl (fun _ _ hx h => ⟨hx.cell h.1, hx.cell h.2.1, hx.cell h.2.2.1, hx.cell h.2.2.2.1, hx.cell h.2.2.2.2⟩) ⟨x0, x1, t1, e2, e4⟩ ?_
       intro Q' hQ'
       simp only [pickOps, List.flatMap_cons, List.flatMap_nil, List.drop_succ_cons, List.drop_zero, List.take_succ_cons, List.take_zero, List.cons_append, List.nil_append, List.append_nil]
       have b1 : decide (base < 0) = false := decide_eq_false (by omega)
       have b2 : decide (p.total < base) = true := decide_eq_true d2
       have b3 : decide (size < (n : Int)) = decide (size < (n : Int)) := rfl
       have b4 : decide (IntKind.i64.wrap (p.total - base) < size) = decide (IntKind.i64.wrap (p.total - base) < size) := rfl
       repeat (first
        | (refine wpReads_skip (by rfl) ?_; (try simp only [Act.put, List.setIfInBounds_toArray, List.set_cons_zero, List.set_cons_succ]))
        | (refine wpReads_cons ?_ (by rfl) (by rfl) ?_ ?_; rotate_left; (intro wz hz; (try dsimp only at hz); go_simp; try with_reducible rfl); (try simp only [Act.put, List.setIfInBounds_toArray, List.set_cons_zero, List.set_cons_succ]))
        | (refine wpReads_any ?_ (by rfl) ?_ ?_; rotate_left; (intro wz; go_simp; try with_reducible rfl); (try simp only [Act.put, List.setIfInBounds_toArray, List.set_cons_zero, List.set_cons_succ])))
       refine wpReads_nil ?_
       go_wp2
       go_ret
       exact ⟨rfl, below_dr (n := 1) HBX.out⟩
      have d2i : ¬ p.total < base := d2
      by_cases d3 : size < (n : Int)
      ·
       skip
       have e : F = false := by rw [← HEC.out, decide_eq_false (by omega : ¬ (n : Int) ≤ size)]; simp
       subst e
       go_wp2_with fail
       refine wp_region_lex (fun w' => w'.cell? ⟨wr.heap.size, 0, none⟩ = some (.int .i64 base) ∧ w'.cell? ⟨wr.heap.size, 1, none⟩ = some (.int .i64 size) ∧ w'.cell? ⟨w.heap.size + 1, 1, none⟩ = some (.int .i64 p.total) ∧ w'.cell? ⟨w.heap.size, 2, none⟩ = some (.slice (some ⟨be, oe, none⟩) g.edges.length ce) ∧ w'.cell? ⟨be, oe + j * 5 + 4, none⟩ = some (.slice sa n sc)) [0, 1, 2, 3, 4, 5, 6, 7, 8, 9, 10, 11, 12, 13, 14, 15, 16, 17, 18, 19, 20, 21, 22, 23, 24, 25, 26, 27, 28, 29, 30, 31] [] (by kernel_rfl) (by kernel_rfl) rfl (fun _ _ hx h => ⟨hx.cell h.1, hx.cell h.2.1, hx.cell h.2.2.1, hx.cell h.2.2.2.1, hx.cell h.2.2.2.2⟩) ⟨x0, x1, t1, e2, e4⟩ ?_
       intro Q' hQ'
       simp only [pickOps, List.flatMap_cons, List.flatMap_nil, List.drop_succ_cons, List.drop_zero, List.take_succ_cons, List.take_zero, List.cons_append, List.nil_append, List.append_nil]
       have b1 : decide (base < 0) = false := decide_eq_false (by omega)
       have b2 : decide (p.total < base) = false := decide_eq_false (by omega)
       have b3 : decide (size < (n : Int)) = true := decide_eq_true d3
       have b4 : decide (IntKind.i64.wrap (p.total - base) < size) = decide (IntKind.i64.wrap (p.total - base) < size) := rfl
       repeat (first
        | (refine wpReads_skip (by rfl) ?_; (try simp only [Act.put, List.setIfInBounds_toArray, List.set_cons_zero, List.set_cons_succ]))
        | (refine wpReads_cons ?_ (by rfl) (by rfl) ?_ ?_; rotate_left; (intro wz hz; (try dsimp only at hz); go_simp; try with_reducible rfl); (try simp only [Act.put, List.setIfInBounds_toArray, List.set_cons_zero, List.set_cons_succ]))
        | (refine wpReads_any ?_ (by rfl) ?_ ?_; rotate_left; (intro wz; go_simp; try with_reducible rfl); (try simp only [Act.put, List.setIfInBounds_toArray, List.set_cons_zero, List.set_cons_succ])))
       refine wpReads_nil ?_
       go_wp2
       go_ret
       exact ⟨rfl, below_dr (n := 1) HBX.out⟩
      have d3i : ¬ size < (n : Int) := d3
      have hwr : IntKind.i64.wrap (p.total - base) = p.total - base := wrapP (by omega) (by omega)
      by_cases d4 : p.total - base < size
      ·
       skip
       have e : F = false := by rw [← HEC.out, decide_eq_false (by omega : ¬ size ≤ p.total - base)]; simp
       subst e
       go_wp2_with fail
       refine wp_region_lex (fun w' => w'.cell? ⟨wr.heap.size, 0, none⟩ = some (.int .i64 base) ∧ w'.cell? ⟨wr.heap.size, 1, none⟩ = some (.int .i64 size) ∧ w'.cell? ⟨w.heap.size + 1, 1, none⟩ = some (.int .i64 p.total) ∧ w'.cell? ⟨w.heap.size, 2, none⟩ = some (.slice (some ⟨be, oe, none⟩) g.edges.length ce) ∧ w'.cell? ⟨be, oe + j * 5 + 4, none⟩ = some (.slice sa n sc)) [0, 1, 2, 3, 4, 5, 6, 7, 8, 9, 10, 11, 12, 13, 14, 15, 16, 17, 18, 19, 20, 21, 22, 23, 24, 25, 26, 27, 28, 29, 30, 31] [] (by kernel_rfl) (by kernel_rfl) rfl (fun _ _ hx h => ⟨hx.cell h.1, hx.cell h.2.1, hx.cell h.2.2.1, hx.cell h.2.2.2.1, hx.cell h.2.2.2.2⟩) ⟨x0, x1, t1, e2, e4⟩ ?_
       intro Q' hQ'
       simp only [pickOps, List.flatMap_cons, List.flatMap_nil, List.drop_succ_cons, List.drop_zero, List.take_succ_cons, List.take_zero, List.cons_append, List.nil_append, List.append_nil]
       have b1 : decide (base < 0) = false := decide_eq_false (by omega)
       have b2 : decide (p.total < base) = false := decide_eq_false (by omega)
       have b3 : decide (size < (n : Int)) = false := decide_eq_false (by omega)
       have b4 : decide (IntKind.i64.wrap (p.total - base) < size) = true := by rw [hwr]; exact decide_eq_true d4
       repeat (first
        | (refine wpReads_skip (by rfl) ?_; (try simp only [Act.put, List.setIfInBounds_toArray, List.set_cons_zero, List.set_cons_succ]))
        | (refine wpReads_cons ?_ (by rfl) (by rfl) ?_ ?_; rotate_left; (intro wz hz; (try dsimp only at hz); go_simp; try with_reducible rfl); (try simp only [Act.put, List.setIfInBounds_toArray, List.set_cons_zero, List.set_cons_succ]))
        | (refine wpReads_any ?_ (by rfl) ?_ ?_; rotate_left; (intro wz; go_simp; try with_reducible rfl); (try simp only [Act.put, List.setIfInBounds_toArray, List.set_cons_zero, List.set_cons_succ])))
       refine wpReads_nil ?_
       go_wp2
       go_ret
       exact ⟨rfl, below_dr (n := 1) HBX.out⟩
      have d4i : ¬ p.total - base < size := d4
      have HR1 := Lib.hid (show regionsP p.total (p.regions.drop (j + 1)) (g.edges.drop (j + 1)) = F by rw [← HEC.out, decide_eq_true (by omega : 0 ≤ base), decide_eq_true (by omega : base ≤ p.total), decide_eq_true (by omega : (n : Int) ≤ size), decide_eq_true (by omega : size ≤ p.total - base)]; simp)
      have hll := HLE.out
      go_wp2_with fail
      refine wp_region_lex (fun w' => w'.cell? ⟨wr.heap.size, 0, none⟩ = some (.int .i64 base) ∧ w'.cell? ⟨wr.heap.size, 1, none⟩ = some (.int .i64 size) ∧ w'.cell? ⟨w.heap.size + 1, 1, none⟩ = some (.int .i64 p.total) ∧ w'.cell? ⟨w.heap.size, 2, none⟩ = some (.slice (some ⟨be, oe, none⟩) g.edges.length ce) ∧ w'.cell? ⟨be, oe + j * 5 + 4, none⟩ = some (.slice sa n sc)) [0, 1, 2, 3, 4, 5, 6, 7, 8, 9, 10, 11, 12, 13, 14, 15, 16, 17, 18, 19, 20, 21, 22, 23, 24, 25, 26, 27, 28, 29, 30, 31] [] (by kernel_rfl) (by kernel_rfl) rfl (fun _ _ hx h => ⟨hx.cell h.1, hx.cell h.2.1, hx.cell h.2.2.1, hx.cell h.2.2.2.1, hx.cell h.2.2.2.2⟩) ⟨x0, x1, t1, e2, e4⟩ ?_
      intro Q' hQ'
      simp only [pickOps, List.flatMap_cons, List.flatMap_nil, List.drop_succ_cons, List.drop_zero, List.take_succ_cons, List.take_zero, List.cons_append, List.nil_append, List.append_nil]
      have b1 : decide (base < 0) = false := decide_eq_false (by omega)
      have b2 : decide (p.total < base) = false := decide_eq_false (by omega)
      have b3 : decide (size < (n : Int)) = false := decide_eq_false (by omega)
      have b4 : decide (IntKind.i64.wrap (p.total - base) < size) = false := by rw [hwr]; exact decide_eq_false (by omega)
      repeat (first
       | (refine wpReads_skip (by rfl) ?_; (try simp only [Act.put, List.setIfInBounds_toArray, List.set_cons_zero, List.set_cons_succ]))
       | (refine wpReads_cons ?_ (by rfl) (by rfl) ?_ ?_; rotate_left; (intro wz hz; (try dsimp only at hz); go_simp; try with_reducible rfl); (try simp only [Act.put, List.setIfInBounds_toArray, List.set_cons_zero, List.set_cons_succ]))
       | (refine wpReads_any ?_ (by rfl) ?_ ?_; rotate_left; (intro wz; go_simp; try with_reducible rfl); (try simp only [Act.put, List.setIfInBounds_toArray, List.set_cons_zero, List.set_cons_succ])))
      refine wpReads_nil ?_
      go_wp2
      go_roundw
      case rel => exact ⟨j + 1, hlt, by go_num, below_dr (n := 1) HBY.out, HR1.out⟩
      case measure => simp [intOf]; omega
     ·
      obtain rfl : j = g.edges.length := by omega
      have e := HE.out
      rw [List.drop_of_length_le (by omega), regionsP_nil] at e
      subst e
      go_wp2
      go_ret
      exact ⟨rfl, HB0.out.trans (HB.out.mono HB0.out.size)⟩
   ·
    obtain rfl : false = F := by rw [← HF.out, fitsP, decide_eq_false h2]; simp
    have h2i : (1024 : Int) < p.total := by omega
    rw [hl] at r0 ⊢
    rw [hl] at hli hW
    go_enter Try.func42, Try.ntmps42
    go_wp2
    go_ret
    exact ⟨rfl, HB0.out⟩
  ·
   obtain rfl : false = F := by rw [← HF.out, fitsP, decide_eq_false h1]; simp
   have h1i : p.total < 0 := by omega
   rw [hl] at r0 ⊢
   rw [hl] at hli hW
   go_enter Try.func42, Try.ntmps42
   go_wp2
   go_ret
   exact ⟨rfl, HB0.out⟩
 ·
  obtain rfl : false = F := by rw [← HF.out, fitsP, decide_eq_false hl]; simp
  have hli : ((p.regions.length : Int) != g.edges.length) = true := by simp; omega
  go_enter Try.func42, Try.ntmps42
  go_wp2
  go_ret
  exact ⟨rfl, HB0.out⟩
end Go.Proofs.Ytbmbfifempkhgaa

/- The checker's head. -/
namespace Go.Proofs.Ytbmbfifempkhgaa
open Go.RowKit
def headL (s : ByteArray) (n1 n2 n3 n4 : Nat) : Int := if !nameP s then 82 else if n1 = 0 then 80 else if 32 < n1 then 81 else if 96 < n2 then 81 else if 16 < n3 then 81 else if 16 < n4 then 81 else 0
set_option maxRecDepth 100000 in
set_option maxHeartbeats 2000000 in
theorem ghead_any (w : World) (o : Col) (C B : Nat) (X : ChkV) (k : Chk) (a1 a2 a3 a4 : Option Addr) (n1 n2 n3 n4 c1 c2 c3 c4 : Nat) (h1 : X.va = .slice a1 n1 c1) (h2 : X.ve = .slice a2 n2 c2) (h3 : X.vi = .slice a3 n3 c3) (h4 : X.vo = .slice a4 n4 c4) (hs : X.name.size ≤ 4611686018427387904) (h : ChkAt w o C B X k) :
  Calls Try.prog 96 #[.pointer (some ⟨C, 0, none⟩)] w (ChkRet w o C B X (headL X.name n1 n2 n3 n4) k) := by
 obtain ⟨E, hE⟩ : ∃ E, headL X.name n1 n2 n3 n4 = E := ⟨_, rfl⟩
 rw [hE]
 have HE := Lib.hid hE
 have HS := Lib.hid hs
 have hbR := below_alloc w (.cells #[.int .u8 0, .int .i64 0, .int .i64 0] 140)
 have hC0 := h.below 7 hbR
 obtain ⟨q0, q1, q2, q3, q4, _⟩ := hC0.cells
 rw [h1] at q1
 rw [h2] at q2
 rw [h3] at q3
 rw [h4] at q4
 have HT0 := Lib.hid ((Turn.of_below o 7 hbR).mono (D := ChkC) (fun _ h => h.elim))
 have HC0 := Lib.hid hC0
 have HR0 := Lib.hid (spot_new w o 7)
 clear hE hs h hbR hC0 h1 h2 h3 h4
 go_enter Try.func96, Try.ntmps96
 go_wp2_with fail
 obtain ⟨R, hR⟩ : ∃ R, w.heap.size = R := ⟨_, rfl⟩
 have HRE := Lib.hid hR
 have hbG := below_alloc (w.alloc (.cells #[.int .u8 0, .int .i64 0, .int .i64 0] 140)) (.cells #[.string X.name, .slice a1 n1 c1, .slice a2 n2 c2, .slice a3 n3 c3, .slice a4 n4 c4] 26)
 have hG := heap_alloc_new (w.alloc (.cells #[.int .u8 0, .int .i64 0, .int .i64 0] 140)) (.cells #[.string X.name, .slice a1 n1 c1, .slice a2 n2 c2, .slice a3 n3 c3, .slice a4 n4 c4] 26)
 rw [World.size_alloc] at hG
 have HT1 := Lib.hid (HT0.out.trans ((Turn.of_below _ 8 hbG).mono (D := ChkC) (fun _ h => h.elim)) (fun _ h => h))
 have HR1 := Lib.hid (HR0.out.turn (Turn.of_below _ 8 hbG) (fun h => h))
 have HC1 := Lib.hid (HC0.out.below 8 hbG)
 have HG := Lib.hid hG
 rw [hR] at HR1 HT1 HC1 HG
 clear hbG hG q0 q1 q2 q3 q4 HT0 HC0 HR0
 refine (name_any _ X.name HS.out).mono ?_
 rintro e w2 ⟨rfl, hb2⟩
 have HT2 := Lib.hid (HT1.out.trans ((Turn.of_below _ 9 hb2).mono (D := ChkC) (fun _ h => h.elim)) (fun _ h => h))
 have HR2 := Lib.hid (HR1.out.turn (Turn.of_below _ 9 hb2) (fun h => h))
 have HC2 := Lib.hid (HC1.out.below 9 hb2)
 have hG2 := block_mods HG.out (Mods.of_below hb2 (fun _ => False)) (fun h => h)
 have q1 := cells_row w2 _ hG2 1 _ rfl
 have q2 := cells_row w2 _ hG2 2 _ rfl
 have q3 := cells_row w2 _ hG2 3 _ rfl
 have q4 := cells_row w2 _ hG2 4 _ rfl
 clear hb2 hG2 HT1 HR1 HC1 HG
 obtain ⟨np, hnp⟩ : ∃ x, nameP X.name = x := ⟨_, rfl⟩
 rw [hnp, hR]
 have HNP := Lib.hid hnp
 clear hnp hR
 cases np with
 | false =>
  have e : E = 82 := by rw [← HE.out, headL, HNP.out]; simp []
  subst e
  have z0 := HR2.out.cell 0 _ rfl
  have z1 := HR2.out.cell 1 _ rfl
  have z2 := HR2.out.cell 2 _ rfl
  have f0 := HR2.out.frozen 0
  have f1 := HR2.out.frozen 1
  have f2 := HR2.out.frozen 2
  go_wp2
  refine bodyPost_ret_by (results_tmp_row rfl _ _ _ _ _ _ _ rfl (spot_set HR2.out) Try.underlying140 rfl (by kernel_rfl)) rfl ?_
  exact ⟨⟨_, _, _, rfl⟩, _, HT2.out.late 7 (spot_mods (by have := HRE.out; omega) _ _ _), fun h => by cases h⟩
 | true =>
  by_cases d1 : n1 = 0
  ·
   have d1i : ((n1 : Int) == 0) = true := by rw [beq_iff_eq]; omega
   have e : E = 80 := by rw [← HE.out, headL, HNP.out]; simp [d1]
   subst e
   have z0 := HR2.out.cell 0 _ rfl
   have z1 := HR2.out.cell 1 _ rfl
   have z2 := HR2.out.cell 2 _ rfl
   have f0 := HR2.out.frozen 0
   have f1 := HR2.out.frozen 1
   have f2 := HR2.out.frozen 2
   go_wp2
   refine bodyPost_ret_by (results_tmp_row rfl _ _ _ _ _ _ _ rfl (spot_set HR2.out) Try.underlying140 rfl (by kernel_rfl)) rfl ?_
   exact ⟨⟨_, _, _, rfl⟩, _, HT2.out.late 7 (spot_mods (by have := HRE.out; omega) _ _ _), fun h => by cases h⟩
  have d1i : ((n1 : Int) == 0) = false := by rw [beq_eq_false_iff_ne]; omega
  by_cases d2 : 32 < n1
  ·
   have d2i : (32 : Int) < n1 := by omega
   have e : E = 81 := by rw [← HE.out, headL, HNP.out]; simp [d1, d2]
   subst e
   have z0 := HR2.out.cell 0 _ rfl
   have z1 := HR2.out.cell 1 _ rfl
   have z2 := HR2.out.cell 2 _ rfl
   have f0 := HR2.out.frozen 0
   have f1 := HR2.out.frozen 1
   have f2 := HR2.out.frozen 2
   go_wp2
   refine bodyPost_ret_by (results_tmp_row rfl _ _ _ _ _ _ _ rfl (spot_set HR2.out) Try.underlying140 rfl (by kernel_rfl)) rfl ?_
   exact ⟨⟨_, _, _, rfl⟩, _, HT2.out.late 7 (spot_mods (by have := HRE.out; omega) _ _ _), fun h => by cases h⟩
  have d2i : ¬ (32 : Int) < n1 := by omega
  by_cases d3 : 96 < n2
  ·
   have d3i : (96 : Int) < n2 := by omega
   have e : E = 81 := by rw [← HE.out, headL, HNP.out]; simp [d1, d2, d3]
   subst e
   have z0 := HR2.out.cell 0 _ rfl
   have z1 := HR2.out.cell 1 _ rfl
   have z2 := HR2.out.cell 2 _ rfl
   have f0 := HR2.out.frozen 0
   have f1 := HR2.out.frozen 1
   have f2 := HR2.out.frozen 2
   go_wp2
   refine bodyPost_ret_by (results_tmp_row rfl _ _ _ _ _ _ _ rfl (spot_set HR2.out) Try.underlying140 rfl (by kernel_rfl)) rfl ?_
   exact ⟨⟨_, _, _, rfl⟩, _, HT2.out.late 7 (spot_mods (by have := HRE.out; omega) _ _ _), fun h => by cases h⟩
  have d3i : ¬ (96 : Int) < n2 := by omega
  by_cases d4 : 16 < n3
  ·
   have d4i : (16 : Int) < n3 := by omega
   have e : E = 81 := by rw [← HE.out, headL, HNP.out]; simp [d1, d2, d3, d4]
   subst e
   have z0 := HR2.out.cell 0 _ rfl
   have z1 := HR2.out.cell 1 _ rfl
   have z2 := HR2.out.cell 2 _ rfl
   have f0 := HR2.out.frozen 0
   have f1 := HR2.out.frozen 1
   have f2 := HR2.out.frozen 2
   go_wp2
   refine bodyPost_ret_by (results_tmp_row rfl _ _ _ _ _ _ _ rfl (spot_set HR2.out) Try.underlying140 rfl (by kernel_rfl)) rfl ?_
   exact ⟨⟨_, _, _, rfl⟩, _, HT2.out.late 7 (spot_mods (by have := HRE.out; omega) _ _ _), fun h => by cases h⟩
  have d4i : ¬ (16 : Int) < n3 := by omega
  by_cases d5 : 16 < n4
  ·
   have d5i : (16 : Int) < n4 := by omega
   have e : E = 81 := by rw [← HE.out, headL, HNP.out]; simp [d1, d2, d3, d4, d5]
   subst e
   have z0 := HR2.out.cell 0 _ rfl
   have z1 := HR2.out.cell 1 _ rfl
   have z2 := HR2.out.cell 2 _ rfl
   have f0 := HR2.out.frozen 0
   have f1 := HR2.out.frozen 1
   have f2 := HR2.out.frozen 2
   go_wp2
   refine bodyPost_ret_by (results_tmp_row rfl _ _ _ _ _ _ _ rfl (spot_set HR2.out) Try.underlying140 rfl (by kernel_rfl)) rfl ?_
   exact ⟨⟨_, _, _, rfl⟩, _, HT2.out.late 7 (spot_mods (by have := HRE.out; omega) _ _ _), fun h => by cases h⟩
  have d5i : ¬ (16 : Int) < n4 := by omega
  have e : E = 0 := by rw [← HE.out, headL, HNP.out]; simp [d1, d2, d3, d4, d5]
  subst e
  have z0 := HR2.out.cell 0 _ rfl
  have z1 := HR2.out.cell 1 _ rfl
  have z2 := HR2.out.cell 2 _ rfl
  have f0 := HR2.out.frozen 0
  have f1 := HR2.out.frozen 1
  have f2 := HR2.out.frozen 2
  go_wp2
  refine bodyPost_ret_by (results_tmp_row rfl _ _ _ _ _ _ _ rfl (spot_set HR2.out) Try.underlying140 rfl (by kernel_rfl)) rfl ?_
  exact ⟨⟨_, _, _, rfl⟩, _, HT2.out.late 7 (spot_mods (by have := HRE.out; omega) _ _ _), fun _ => HC2.out.spot HR2.out _ _ _⟩
end Go.Proofs.Ytbmbfifempkhgaa

/- The checker's edges. -/
namespace Go.Proofs.Ytbmbfifempkhgaa
open Go.RowKit
theorem edgesE_cons {c : Chk} {l : List GEdge} {j : Nat} (h : j < l.length) : edgesE c (l.drop j) = if edgeE c l[j] ≠ 0 then edgeE c l[j] else edgesE (edgeC c l[j]) (l.drop (j + 1)) := by
 rw [List.drop_eq_getElem_cons h, edgesE]
theorem edgesC_snoc {c : Chk} {l : List GEdge} {j : Nat} (h : j < l.length) : edgesC c (l.take (j + 1)) = edgeC (edgesC c (l.take j)) l[j] := by
 rw [List.take_succ_eq_append_getElem h, edgesC, List.foldl_append]; rfl
theorem edge_split {c : Chk} {e : GEdge} {r : Int} : (if edgeE c e ≠ 0 then edgeE c e else r) = if takeE c.outs e.src e.sport ≠ 0 then takeE c.outs e.src e.sport else if takeE c.ins e.dst e.dport ≠ 0 then takeE c.ins e.dst e.dport else if 256 < e.start.length then 88 else r := by
 unfold edgeE
 by_cases h : takeE c.outs e.src e.sport = 0
 ·
  by_cases h2 : takeE c.ins e.dst e.dport = 0
  ·
   by_cases h3 : 256 < e.start.length
   ·
    simp [h, h2, h3]
   ·
    simp [h, h2, h3]
  ·
   simp [h, h2]
 ·
  simp [h]
set_option maxRecDepth 100000 in
set_option maxHeartbeats 2000000 in
theorem gedges_any (w0 w : World) (o : Col) (C B : Nat) (X : ChkV) (k : Chk) (l : List GEdge) (hv : Recs w0 5 EdgeR X.ve l) (K : Kept w0.heap.size o w0 w) (hn : l.length ≤ 1000000) (h : ChkAt w o C B X k) :
  Calls Try.prog 98 #[.pointer (some ⟨C, 0, none⟩)] w (ChkRet w o C B X (edgesE k l) (edgesC k l)) := by
 obtain ⟨ao, cap, hve⟩ := hv.slice
 rw [hve] at hv
 obtain ⟨E, hE⟩ : ∃ E, edgesE k l = E := ⟨_, rfl⟩
 rw [hE]
 have HE := Lib.hid (show edgesE (edgesC k (l.take 0)) (l.drop 0) = E by simpa [edgesC] using hE)
 have HV := Lib.hid hv
 have HVE := Lib.hid hve
 have HN := Lib.hid hn
 have hbR := below_alloc w (.cells #[.int .u8 0, .int .i64 0, .int .i64 0] 140)
 have HT0 := Lib.hid ((Turn.of_below o 7 hbR).mono (D := ChkC) (fun _ h => h.elim))
 have HK0 := Lib.hid (K.of_below 7 hbR)
 have hC0 := h.below 7 hbR
 have q2 := hC0.cells.2.2.1
 rw [hve] at q2
 have HC0 : Hid (ChkAt _ _ C B X (edgesC k (l.take 0))) := Lib.hid (by simpa [edgesC] using hC0)
 have HR0 := Lib.hid (spot_new w o 7)
 clear hE hv hve hn K h hbR hC0
 go_enter Try.func98, Try.ntmps98
 go_wp2_with fail
 clear q2
 obtain ⟨R, hR⟩ : ∃ R, w.heap.size = R := ⟨_, rfl⟩
 have HRE := Lib.hid hR
 rw [hR] at HR0 HT0 HK0 HC0 ⊢
 clear hR
 go_loopw [14] (fun i wr => ∃ (j : Nat) (q : Col), j ≤ l.length ∧ i = .int .i64 j ∧ Kept w0.heap.size q w0 wr ∧ Turn o q ChkC w wr ∧ Blk wr q 7 R 140 #[.int .u8 0, .int .i64 0, .int .i64 0] ∧ ChkAt wr q C B X (edgesC k (l.take j)) ∧ edgesE (edgesC k (l.take j)) (l.drop j) = E) (fun i _ => l.length - (intOf i).toNat)
 case atStart => exact ⟨0, _, Nat.zero_le _, rfl, HK0.out, HT0.out, HR0.out, HC0.out, HE.out⟩
 case round =>
  clear HK0 HT0 HR0 HC0 HE
  obtain ⟨j, q, hj, rfl, hK, hT, hR, hC, hE⟩ := hrel
  have HK := Lib.hid hK
  have HT := Lib.hid hT
  have HR := Lib.hid hR
  have HC := Lib.hid hC
  have HE := Lib.hid hE
  clear hK hT hR hC hE
  by_cases hlt : j < l.length
  ·
   have hlti : (j : Int) < l.length := by omega
   obtain ⟨b0, off, rfl, hcap, hb0, hrec⟩ := (HV.out.below edge_steady HK.out.below).at (by omega)
   obtain ⟨cs, hcs, hPR, hcl⟩ := hrec j hlt
   obtain ⟨xs, rfl, hst⟩ := hPR
   have c0 := hcl 0 (by omega)
   have c1 := hcl 1 (by omega)
   have c2 := hcl 2 (by omega)
   have c3 := hcl 3 (by omega)
   have c4 := hcl 4 (by omega)
   simp at c0 c1 c2 c3 c4
   have hcapi : (l.length : Int) ≤ cap := by omega
   have hEc := HE.out
   rw [edgesE_cons hlt] at hEc
   have HEC := Lib.hid hEc
   have HCn := Lib.hid (edgesC_snoc (c := k) hlt)
   have hst2 : Has wr xs (ivs l[j].start) := hst
   obtain ⟨sa, sc, hxs⟩ := Ints.slice hst2
   subst hxs
   clear hcl hcs hrec hst hst2 hEc HE
   generalize l[j] = p at *
   rw [edge_split] at HEC
   obtain ⟨kk, hkk⟩ : ∃ x, edgesC k (l.take j) = x := ⟨_, rfl⟩
   rw [hkk] at HEC HC HCn
   clear hkk
   have hbX := below_alloc wr (.cells #[.int .i64 p.src, .int .i64 p.sport, .int .i64 p.dst, .int .i64 p.dport, .slice sa p.start.length sc] 63)
   have hX : Blk (wr.alloc (.cells #[.int .i64 p.src, .int .i64 p.sport, .int .i64 p.dst, .int .i64 p.dport, .slice sa p.start.length sc] 63)) (ext q wr.heap.size 8) 8 wr.heap.size 63 #[.int .i64 p.src, .int .i64 p.sport, .int .i64 p.dst, .int .i64 p.dport, .slice sa p.start.length sc] := ⟨heap_alloc_new wr _, ext_new (Nat.le_refl _)⟩
   have hTX := (Turn.of_below q 8 hbX).mono (D := ChkC) (fun _ h => h.elim)
   have HK2 := Lib.hid (HK.out.of_below 8 hbX)
   have HT2 := Lib.hid (HT.out.trans hTX (fun _ h => h))
   have HR2 := Lib.hid (HR.out.turn (Turn.of_below q 8 hbX) (fun h => h))
   have HC2 := Lib.hid (HC.out.below 8 hbX)
   have HX := Lib.hid hX
   have y0 := hX.cell 0 _ rfl
   have y1 := hX.cell 1 _ rfl
   have y7 := HC2.out.cells.2.2.2.2.2.2.2
   obtain ⟨gO, hSO⟩ := HC2.out.outs
   have HSO := Lib.hid hSO
   clear hbX hX hTX HK HT HR HC hSO
   go_wp2_with fail
   refine wp_region_lex (fun w' => w'.cell? ⟨C, 7, none⟩ = some X.vO ∧ w'.cell? ⟨wr.heap.size, 0, none⟩ = some (.int .i64 p.src) ∧ w'.cell? ⟨wr.heap.size, 1, none⟩ = some (.int .i64 p.sport)) [0, 1, 2, 3, 4, 5, 6, 7] [8, 9] (by kernel_rfl) (by kernel_rfl) rfl (fun _ _ hx h => ⟨hx.cell h.1, hx.cell h.2.1, hx.cell h.2.2⟩) ⟨y7, y0, y1⟩ ?_
   intro Q' hQ'
   simp only [pickOps, List.flatMap_cons, List.flatMap_nil, List.drop_succ_cons, List.drop_zero, List.take_succ_cons, List.take_zero, List.cons_append, List.nil_append, List.append_nil]
   repeat (first
    | (refine wpReads_skip (by rfl) ?_; (try simp only [Act.put, List.setIfInBounds_toArray, List.set_cons_zero, List.set_cons_succ]))
    | (refine wpReads_cons ?_ (by rfl) (by rfl) ?_ ?_; rotate_left; (intro wz hz; (try dsimp only at hz); go_simp; try with_reducible rfl); (try simp only [Act.put, List.setIfInBounds_toArray, List.set_cons_zero, List.set_cons_succ]))
    | (refine wpReads_any ?_ (by rfl) ?_ ?_; rotate_left; (intro wz; go_simp; try with_reducible rfl); (try simp only [Act.put, List.setIfInBounds_toArray, List.set_cons_zero, List.set_cons_succ])))
   refine wpReads_nil ?_
   go_wp2_with fail
   refine (gtake_any _ (ext q wr.heap.size 8) 5 6 X.vO kk.outs gO p.src p.sport (by decide) (HSO.out.turn (Turn.of_quiet _ ⟨1, rfl⟩) (fun h => h) (fun h => h))).mono ?_
   rintro e w5 ⟨rfl, T5, hS5⟩
   have T6 := ((Turn.of_quiet (ext q wr.heap.size 8) ⟨1, rfl⟩).mono (D := fun x => x = 6) (fun _ h => h.elim)).trans T5 (fun _ h => h)
   have HK5 := Lib.hid (HK2.out.turn T6 (by decide))
   have HT5 := Lib.hid (HT2.out.trans T6 (fun x e => by subst e; unfold ChkC; omega))
   have HR5 := Lib.hid (HR2.out.turn T6 (by decide))
   have HX5 := Lib.hid (HX.out.turn T6 (by decide))
   have HC5 := Lib.hid (fun (e : takeE kk.outs p.src p.sport = 0) => HC2.out.tookO T6 (hS5 e))
   clear T5 T6 hS5 HK2 HT2 HR2 HX HC2 HSO y0 y1 y7
   generalize ext q wr.heap.size 8 = q5 at *
   obtain ⟨te, hte⟩ : ∃ x, takeE kk.outs p.src p.sport = x := ⟨_, rfl⟩
   rw [hte] at HEC HC5 ⊢
   clear hte
   by_cases h0 : te = 0
   ·
    subst h0
    have hC6 := HC5.out rfl
    have HC6 := Lib.hid hC6
    obtain ⟨gI, hSI⟩ := hC6.ins
    have HSI := Lib.hid hSI
    have y2 := HX5.out.cell 2 _ rfl
    have y3 := HX5.out.cell 3 _ rfl
    have y6 := hC6.cells.2.2.2.2.2.2.1
    rw [if_neg (by simp)] at HEC
    clear hC6 hSI HC5
    go_wp2_with fail
    refine wp_region_lex (fun w' => w'.cell? ⟨C, 6, none⟩ = some X.vI ∧ w'.cell? ⟨wr.heap.size, 2, none⟩ = some (.int .i64 p.dst) ∧ w'.cell? ⟨wr.heap.size, 3, none⟩ = some (.int .i64 p.dport)) [0, 1, 2, 3, 4, 5, 6, 7] [8, 9] (by kernel_rfl) (by kernel_rfl) rfl (fun _ _ hx h => ⟨hx.cell h.1, hx.cell h.2.1, hx.cell h.2.2⟩) ⟨y6, y2, y3⟩ ?_
    intro Q' hQ'
    simp only [pickOps, List.flatMap_cons, List.flatMap_nil, List.drop_succ_cons, List.drop_zero, List.take_succ_cons, List.take_zero, List.cons_append, List.nil_append, List.append_nil]
    repeat (first
     | (refine wpReads_skip (by rfl) ?_; (try simp only [Act.put, List.setIfInBounds_toArray, List.set_cons_zero, List.set_cons_succ]))
     | (refine wpReads_cons ?_ (by rfl) (by rfl) ?_ ?_; rotate_left; (intro wz hz; (try dsimp only at hz); go_simp; try with_reducible rfl); (try simp only [Act.put, List.setIfInBounds_toArray, List.set_cons_zero, List.set_cons_succ]))
     | (refine wpReads_any ?_ (by rfl) ?_ ?_; rotate_left; (intro wz; go_simp; try with_reducible rfl); (try simp only [Act.put, List.setIfInBounds_toArray, List.set_cons_zero, List.set_cons_succ])))
    refine wpReads_nil ?_
    go_wp2_with fail
    refine (gtake_any _ q5 3 4 X.vI kk.ins gI p.dst p.dport (by decide) (HSI.out.turn (Turn.of_quiet _ ⟨1, rfl⟩) (fun h => h) (fun h => h))).mono ?_
    rintro e w7 ⟨rfl, T7, hS7⟩
    have T8 := ((Turn.of_quiet q5 ⟨1, rfl⟩).mono (D := fun x => x = 4) (fun _ h => h.elim)).trans T7 (fun _ h => h)
    have HK7 := Lib.hid (HK5.out.turn T8 (by decide))
    have HT7 := Lib.hid (HT5.out.trans T8 (fun x e => by subst e; unfold ChkC; omega))
    have HR7 := Lib.hid (HR5.out.turn T8 (by decide))
    have HX7 := Lib.hid (HX5.out.turn T8 (by decide))
    have HC7 := Lib.hid (fun (e : takeE kk.ins p.dst p.dport = 0) => HC6.out.tookI T8 (hS7 e))
    clear T7 T8 hS7 HK5 HT5 HR5 HX5 HC6 HSI y2 y3 y6
    obtain ⟨te, hte⟩ : ∃ x, takeE kk.ins p.dst p.dport = x := ⟨_, rfl⟩
    rw [hte] at HEC HC7 ⊢
    clear hte
    by_cases h0 : te = 0
    ·
     subst h0
     have HC8 : Hid (ChkAt w7 q5 C B X (edgeC kk p)) := Lib.hid (HC7.out rfl)
     rw [if_neg (by simp)] at HEC
     have y4 := HX7.out.cell 4 _ rfl
     by_cases h256 : 256 < p.start.length
     ·
      have h2i : (256 : Int) < p.start.length := by omega
      have e : E = 88 := by rw [← HEC.out, if_pos h256]
      subst e
      have z0 := HR7.out.cell 0 _ rfl
      have z1 := HR7.out.cell 1 _ rfl
      have z2 := HR7.out.cell 2 _ rfl
      have f0 := HR7.out.frozen 0
      have f1 := HR7.out.frozen 1
      have f2 := HR7.out.frozen 2
      go_wp2
      refine bodyPost_ret_by (results_tmp_row rfl _ _ _ _ _ _ _ rfl (spot_set HR7.out) Try.underlying140 rfl (by kernel_rfl)) rfl ?_
      exact ⟨⟨_, _, _, rfl⟩, _, HT7.out.late 7 (spot_mods (by have := HRE.out; omega) _ _ _), fun h => by cases h⟩
     ·
      have h2i : ¬ (256 : Int) < p.start.length := by omega
      rw [if_neg h256] at HEC
      have HE2 : Hid (edgesE (edgesC k (l.take (j + 1))) (l.drop (j + 1)) = E) := Lib.hid (by rw [HCn.out]; exact HEC.out)
      have HC9 : Hid (ChkAt w7 q5 C B X (edgesC k (l.take (j + 1)))) := Lib.hid (by rw [HCn.out]; exact HC8.out)
      have hnn := HN.out
      clear HC7 HC8 HEC
      go_wp2
      go_roundw
      case rel => exact ⟨j + 1, q5, hlt, by go_num, HK7.out, HT7.out, HR7.out, HC9.out, HE2.out⟩
      case measure => simp [intOf]; omega
    ·
     have e : E = te := by rw [← HEC.out, if_pos h0]
     subst e
     have z0 := HR7.out.cell 0 _ rfl
     have z1 := HR7.out.cell 1 _ rfl
     have z2 := HR7.out.cell 2 _ rfl
     have f0 := HR7.out.frozen 0
     have f1 := HR7.out.frozen 1
     have f2 := HR7.out.frozen 2
     go_wp2
     refine bodyPost_ret_by (results_tmp_row rfl _ _ _ _ _ _ _ rfl (spot_set HR7.out) Try.underlying140 rfl (by kernel_rfl)) rfl ?_
     exact ⟨⟨_, _, _, rfl⟩, _, HT7.out.late 7 (spot_mods (by have := HRE.out; omega) _ _ _), fun h => absurd h h0⟩
   ·
    have e : E = te := by rw [← HEC.out, if_pos h0]
    subst e
    have z0 := HR5.out.cell 0 _ rfl
    have z1 := HR5.out.cell 1 _ rfl
    have z2 := HR5.out.cell 2 _ rfl
    have f0 := HR5.out.frozen 0
    have f1 := HR5.out.frozen 1
    have f2 := HR5.out.frozen 2
    go_wp2
    refine bodyPost_ret_by (results_tmp_row rfl _ _ _ _ _ _ _ rfl (spot_set HR5.out) Try.underlying140 rfl (by kernel_rfl)) rfl ?_
    exact ⟨⟨_, _, _, rfl⟩, _, HT5.out.late 7 (spot_mods (by have := HRE.out; omega) _ _ _), fun h => absurd h h0⟩
  ·
   obtain rfl : j = l.length := by omega
   have hfin := HE.out
   rw [List.drop_length, List.take_length] at hfin
   obtain rfl : E = 0 := hfin.symm
   have hC9 := HC.out
   rw [List.take_length] at hC9
   have HC9 := Lib.hid hC9
   clear hfin hC9
   have z0 := HR.out.cell 0 _ rfl
   have z1 := HR.out.cell 1 _ rfl
   have z2 := HR.out.cell 2 _ rfl
   have f0 := HR.out.frozen 0
   have f1 := HR.out.frozen 1
   have f2 := HR.out.frozen 2
   go_wp2
   refine bodyPost_ret_by (results_tmp_row rfl _ _ _ _ _ _ _ rfl (spot_set HR.out) Try.underlying140 rfl (by kernel_rfl)) rfl ?_
   exact ⟨⟨_, _, _, rfl⟩, _, HT.out.late 7 (spot_mods (by have := HRE.out; omega) _ _ _), fun _ => HC9.out.spot HR.out _ _ _⟩
end Go.Proofs.Ytbmbfifempkhgaa

/- The checker's ports: outputs. -/
namespace Go.Proofs.Ytbmbfifempkhgaa
open Go.RowKit
set_option maxRecDepth 100000 in
set_option maxHeartbeats 2000000 in
theorem gports_out (w0 w : World) (o : Col) (C B : Nat) (X : ChkV) (k : Chk) (v : Value) (l : List GPort) (kd en : Int) (hv : Recs w0 3 PortR v l) (K : Kept w0.heap.size o w0 w) (hn : k.seen.length + l.length ≤ 1000000) (hs : ∀ p ∈ l, p.name.size ≤ 4611686018427387904) (h : ChkAt w o C B X k) :
  Calls Try.prog 99 #[.pointer (some ⟨C, 0, none⟩), v, X.vO, .int .u8 kd, .int .i64 en] w (ChkRetP w o C B X (portsE k.seen k.outs l) ⟨portsN k.seen l, k.ins, portsS k.outs l⟩) := by
 obtain ⟨ao, cap, rfl⟩ := hv.slice
 obtain ⟨E, hE⟩ : ∃ E, portsE k.seen k.outs l = E := ⟨_, rfl⟩
 rw [hE]
 have HE := Lib.hid (show portsE (portsN k.seen (l.take 0)) (portsS k.outs (l.take 0)) (l.drop 0) = E by simpa [portsN, portsS] using hE)
 have HV := Lib.hid hv
 have HN := Lib.hid hn
 have HSZ := Lib.hid hs
 have hbR := below_alloc w (.cells #[.int .u8 0, .int .i64 0, .int .i64 0] 140)
 have HT0 := Lib.hid ((Turn.of_below o 7 hbR).mono (D := ChkP) (fun _ h => h.elim))
 have HK0 := Lib.hid (K.of_below 7 hbR)
 have HC0 : Hid (ChkAt _ _ C B X ⟨portsN k.seen (l.take 0), k.ins, portsS k.outs (l.take 0)⟩) := Lib.hid (by simpa [portsN, portsS] using h.below 7 hbR)
 have HR0 := Lib.hid (spot_new w o 7)
 clear hE hv hn hs K h hbR
 go_enter Try.func99, Try.ntmps99
 go_wp2_with fail
 obtain ⟨R, hR⟩ : ∃ R, w.heap.size = R := ⟨_, rfl⟩
 have HRE := Lib.hid hR
 rw [hR] at HR0 HT0 HK0 HC0 ⊢
 clear hR
 go_loopw [18] (fun i wr => ∃ (j : Nat) (q : Col), j ≤ l.length ∧ i = .int .i64 j ∧ Kept w0.heap.size q w0 wr ∧ Turn o q ChkP w wr ∧ Blk wr q 7 R 140 #[.int .u8 0, .int .i64 0, .int .i64 0] ∧ ChkAt wr q C B X ⟨portsN k.seen (l.take j), k.ins, portsS k.outs (l.take j)⟩ ∧ portsE (portsN k.seen (l.take j)) (portsS k.outs (l.take j)) (l.drop j) = E) (fun i _ => l.length - (intOf i).toNat)
 case atStart => exact ⟨0, _, Nat.zero_le _, rfl, HK0.out, HT0.out, HR0.out, HC0.out, HE.out⟩
 case round =>
  clear HK0 HT0 HR0 HC0 HE
  obtain ⟨j, q, hj, rfl, hK, hT, hR, hC, hE⟩ := hrel
  have HK := Lib.hid hK
  have HT := Lib.hid hT
  have HR := Lib.hid hR
  have HC := Lib.hid hC
  have HE := Lib.hid hE
  clear hK hT hR hC hE
  by_cases hlt : j < l.length
  ·
   have hlti : (j : Int) < l.length := by omega
   obtain ⟨b0, off, rfl, hcap, hb0, hrec⟩ := (HV.out.below port_steady HK.out.below).at (by omega)
   obtain ⟨cs, hcs, hPR, hcl⟩ := hrec j hlt
   obtain rfl := hPR
   have c0 := hcl 0 (by omega)
   have c1 := hcl 1 (by omega)
   have c2 := hcl 2 (by omega)
   simp at c0 c1 c2
   have hcapi : (l.length : Int) ≤ cap := by omega
   clear hcl hcs hrec
   have hEc := HE.out
   rw [portsE_cons hlt] at hEc
   have HEC := Lib.hid hEc
   have HSn := Lib.hid (portsS_snoc (side := k.outs) hlt)
   have HNn := Lib.hid (portsN_snoc (seen := k.seen) hlt)
   have hpz := HSZ.out l[j] (List.getElem_mem hlt)
   generalize l[j] = p at *
   clear hEc
   rw [port_split] at HEC
   have hsl := portsN_len hj HN.out
   obtain ⟨sn, hsn⟩ : ∃ x, portsN k.seen (l.take j) = x := ⟨_, rfl⟩
   obtain ⟨sd, hsd⟩ : ∃ x, portsS k.outs (l.take j) = x := ⟨_, rfl⟩
   rw [hsn, hsd] at HEC HC
   rw [hsn] at HNn hsl
   rw [hsd] at HSn
   clear hsn hsd HE
   have hbX := below_alloc wr (.cells #[.string p.name, .int .i64 p.actor, .int .i64 p.port] 65)
   have hX : Blk (wr.alloc (.cells #[.string p.name, .int .i64 p.actor, .int .i64 p.port] 65)) (ext q wr.heap.size 8) 8 wr.heap.size 65 #[.string p.name, .int .i64 p.actor, .int .i64 p.port] := ⟨heap_alloc_new wr _, ext_new (Nat.le_refl _)⟩
   have hTX := (Turn.of_below q 8 hbX).mono (D := ChkP) (fun _ h => h.elim)
   have HK2 := Lib.hid (HK.out.of_below 8 hbX)
   have HT2 := Lib.hid (HT.out.trans hTX (fun _ h => h))
   have HR2 := Lib.hid (HR.out.turn (Turn.of_below q 8 hbX) (fun h => h))
   have HC2 := Lib.hid (HC.out.below 8 hbX)
   have HX := Lib.hid hX
   clear hbX hX hTX HK HT HR HC
   go_wp2_with fail
   refine (gname_any _ (ext q wr.heap.size 8) C B X ⟨sn, k.ins, sd⟩ p.name hpz hsl HC2.out).mono ?_
   rintro e w4 ⟨rfl, o4, T40, hC4⟩
   have T4 := T40.mono (D := ChkP) (fun x e => .inl e)
   have HK4 := Lib.hid (HK2.out.turn T4 (by unfold ChkP; omega))
   have HT4 := Lib.hid (HT2.out.trans T4 (fun _ h => h))
   have HR4 := Lib.hid (HR2.out.turn T4 (by unfold ChkP; omega))
   have HX4 := Lib.hid (HX.out.turn T4 (by unfold ChkP; omega))
   have HC4 := Lib.hid hC4
   clear T40 T4 hC4 HK2 HT2 HR2 HC2 HX
   obtain ⟨ne, hne⟩ : ∃ x, nameE sn p.name = x := ⟨_, rfl⟩
   rw [show nameE (Chk.seen ⟨sn, k.ins, sd⟩) p.name = ne from hne] at HC4 ⊢
   rw [hne] at HEC
   clear hne
   by_cases h0 : ne = 0
   ·
    subst h0
    have hC5 := HC4.out rfl
    obtain ⟨gI, hSI⟩ := hC5.outs
    have HC5 := Lib.hid hC5
    have HSI := Lib.hid hSI
    have x1 := HX4.out.cell 1 _ rfl
    have x2 := HX4.out.cell 2 _ rfl
    rw [if_neg (by simp)] at HEC
    clear hC5 hSI HC4
    go_wp2_with fail
    refine (gtake_any _ o4 5 6 X.vO sd gI p.actor p.port (by decide) HSI.out).mono ?_
    rintro e w5 ⟨rfl, T5, hS5⟩
    have HK5 := Lib.hid (HK4.out.turn T5 (by decide))
    have HT5 := Lib.hid (HT4.out.trans T5 (fun x e => by subst e; unfold ChkP; omega))
    have HR5 := Lib.hid (HR4.out.turn T5 (by decide))
    have HC6 := Lib.hid (fun (e : takeE sd p.actor p.port = 0) => HC5.out.tookO T5 (hS5 e))
    clear T5 hS5 HK4 HT4 HR4 HX4 HC5 HSI x1 x2
    obtain ⟨te, hte⟩ : ∃ x, takeE sd p.actor p.port = x := ⟨_, rfl⟩
    rw [hte] at HEC HC6 ⊢
    clear hte
    by_cases h0 : te = 0
    ·
     subst h0
     have HC7 := Lib.hid (HC6.out rfl)
     rw [if_neg (by simp)] at HEC
     have HE2 : Hid (portsE (portsN k.seen (l.take (j + 1))) (portsS k.outs (l.take (j + 1))) (l.drop (j + 1)) = E) := Lib.hid (by rw [HNn.out, HSn.out]; exact HEC.out)
     have HC8 : Hid (ChkAt w5 o4 C B X ⟨portsN k.seen (l.take (j + 1)), k.ins, portsS k.outs (l.take (j + 1))⟩) := Lib.hid (by rw [HNn.out, HSn.out]; exact HC7.out)
     have hnn := HN.out
     clear HC6 HC7 HEC
     go_wp2
     go_roundw
     case rel => exact ⟨j + 1, o4, hlt, by go_num, HK5.out, HT5.out, HR5.out, HC8.out, HE2.out⟩
     case measure => simp [intOf]; omega
    ·
     have e : E = te := by rw [← HEC.out, if_pos h0]
     subst e
     have z0 := HR5.out.cell 0 _ rfl
     have z1 := HR5.out.cell 1 _ rfl
     have z2 := HR5.out.cell 2 _ rfl
     have f0 := HR5.out.frozen 0
     have f1 := HR5.out.frozen 1
     have f2 := HR5.out.frozen 2
     go_wp2
     refine bodyPost_ret_by (results_tmp_row rfl _ _ _ _ _ _ _ rfl (spot_set HR5.out) Try.underlying140 rfl (by kernel_rfl)) rfl ?_
     exact ⟨⟨_, _, _, rfl⟩, _, HT5.out.late 7 (spot_mods (by have := HRE.out; omega) _ _ _), fun h => absurd h h0⟩
   ·
    have e : E = ne := by rw [← HEC.out, if_pos h0]
    subst e
    have z0 := HR4.out.cell 0 _ rfl
    have z1 := HR4.out.cell 1 _ rfl
    have z2 := HR4.out.cell 2 _ rfl
    have f0 := HR4.out.frozen 0
    have f1 := HR4.out.frozen 1
    have f2 := HR4.out.frozen 2
    go_wp2
    refine bodyPost_ret_by (results_tmp_row rfl _ _ _ _ _ _ _ rfl (spot_set HR4.out) Try.underlying140 rfl (by kernel_rfl)) rfl ?_
    exact ⟨⟨_, _, _, rfl⟩, _, HT4.out.late 7 (spot_mods (by have := HRE.out; omega) _ _ _), fun h => absurd h h0⟩
  ·
   obtain rfl : j = l.length := by omega
   have hfin := HE.out
   rw [List.drop_length, List.take_length] at hfin
   obtain rfl : E = 0 := hfin.symm
   have hC9 := HC.out
   rw [List.take_length, ] at hC9
   have HC9 := Lib.hid hC9
   clear hfin hC9
   have z0 := HR.out.cell 0 _ rfl
   have z1 := HR.out.cell 1 _ rfl
   have z2 := HR.out.cell 2 _ rfl
   have f0 := HR.out.frozen 0
   have f1 := HR.out.frozen 1
   have f2 := HR.out.frozen 2
   go_wp2
   refine bodyPost_ret_by (results_tmp_row rfl _ _ _ _ _ _ _ rfl (spot_set HR.out) Try.underlying140 rfl (by kernel_rfl)) rfl ?_
   exact ⟨⟨_, _, _, rfl⟩, _, HT.out.late 7 (spot_mods (by have := HRE.out; omega) _ _ _), fun _ => HC9.out.spot HR.out _ _ _⟩
end Go.Proofs.Ytbmbfifempkhgaa

/- The checker's open. -/
namespace Go.Proofs.Ytbmbfifempkhgaa
open Go.RowKit
def FullTo (ins outs : List (List Bool)) (i : Nat) : Prop := ∀ r, r < i → (ins[r]?.getD []).all id = true ∧ (outs[r]?.getD []).all id = true
theorem full_all {ins outs : List (List Bool)} (hl : outs.length = ins.length) (h : FullTo ins outs ins.length) : openE ins outs = 0 := by
 have h1 : (ins.all fun s => s.all id) = true := by
  rw [List.all_eq_true]
  intro x hx
  obtain ⟨r, hr, rfl⟩ := List.mem_iff_getElem.1 hx
  have := (h r hr).1
  rwa [List.getElem?_eq_getElem hr, Option.getD_some] at this
 have h2 : (outs.all fun s => s.all id) = true := by
  rw [List.all_eq_true]
  intro x hx
  obtain ⟨r, hr, rfl⟩ := List.mem_iff_getElem.1 hx
  have := (h r (by omega)).2
  rwa [List.getElem?_eq_getElem hr, Option.getD_some] at this
 unfold openE
 rw [h1, h2]; rfl
theorem open_ins {ins outs : List (List Bool)} {i m : Nat} (hi : i < ins.length) (hm : m < (ins[i]?.getD []).length) (h : (ins[i]?.getD [])[m]?.getD false = false) : openE ins outs = 87 := by
 have h1 : (ins.all fun s => s.all id) = false := by
  rw [List.all_eq_false]
  rw [List.getElem?_eq_getElem hi, Option.getD_some] at hm h
  refine ⟨ins[i], List.getElem_mem hi, ?_⟩
  rw [List.getElem?_eq_getElem hm, Option.getD_some] at h
  simp only [Bool.not_eq_true, List.all_eq_false]
  exact ⟨_, List.getElem_mem hm, by simp [h]⟩
 unfold openE
 rw [h1]; rfl
theorem open_outs {ins outs : List (List Bool)} {i m : Nat} (hi : i < outs.length) (hm : m < (outs[i]?.getD []).length) (h : (outs[i]?.getD [])[m]?.getD false = false) : openE ins outs = 87 := by
 have h1 : (outs.all fun s => s.all id) = false := by
  rw [List.all_eq_false]
  rw [List.getElem?_eq_getElem hi, Option.getD_some] at hm h
  refine ⟨outs[i], List.getElem_mem hi, ?_⟩
  rw [List.getElem?_eq_getElem hm, Option.getD_some] at h
  simp only [Bool.not_eq_true, List.all_eq_false]
  exact ⟨_, List.getElem_mem hm, by simp [h]⟩
 unfold openE
 rw [h1, Bool.and_false]; rfl
theorem all_to {l : List Bool} (h : ∀ m, m < l.length → l[m]?.getD false = true) : l.all id = true := by
 rw [List.all_eq_true]
 intro x hx
 obtain ⟨r, hr, rfl⟩ := List.mem_iff_getElem.1 hx
 have := h r hr
 rwa [List.getElem?_eq_getElem hr, Option.getD_some] at this
theorem bvs_get' {l : List Bool} {k : Nat} (h : k < l.length) : (bvs l).toArray[k]? = some (.bool (l[k]?.getD false)) := by simp [bvs, h]
set_option maxRecDepth 100000 in
set_option maxHeartbeats 2000000 in
theorem gopen_any (w : World) (o : Col) (C B : Nat) (X : ChkV) (k : Chk) (ao : Option Addr) (n cap : Nat) (hva : X.va = .slice ao n cap) (hi : k.ins.length = n) (ho : k.outs.length = n) (hn : n ≤ 1000000) (hrl : ∀ r : Nat, (k.ins[r]?.getD []).length ≤ 1000000 ∧ (k.outs[r]?.getD []).length ≤ 1000000) (h : ChkAt w o C B X k) :
  Calls Try.prog 100 #[.pointer (some ⟨C, 0, none⟩)] w (ChkRet w o C B X (openE k.ins k.outs) k) := by
 obtain ⟨E, hE⟩ : ∃ E, openE k.ins k.outs = E := ⟨_, rfl⟩
 rw [hE]
 have HE := Lib.hid hE
 have HI := Lib.hid hi
 have HO := Lib.hid ho
 have HN := Lib.hid hn
 have HRL := Lib.hid hrl
 have hbR := below_alloc w (.cells #[.int .u8 0, .int .i64 0, .int .i64 0] 140)
 have HT0 := Lib.hid ((Turn.of_below o 7 hbR).mono (D := ChkC) (fun _ h => h.elim))
 have hC0 := h.below 7 hbR
 have q1 := hC0.cells.2.1
 rw [hva] at q1
 have HC0 := Lib.hid hC0
 have HR0 := Lib.hid (spot_new w o 7)
 clear hE hva hi ho hn hrl h hbR hC0
 go_enter Try.func100, Try.ntmps100
 go_wp2_with fail
 clear q1
 obtain ⟨R, hR⟩ : ∃ R, w.heap.size = R := ⟨_, rfl⟩
 have HRE := Lib.hid hR
 rw [hR] at HR0 HT0 HC0 ⊢
 clear hR
 generalize w.alloc (.cells #[.int .u8 0, .int .i64 0, .int .i64 0] 140) = W at *
 generalize ext o R 7 = q at *
 go_loopw [15] (fun i wr => ∃ j : Nat, j ≤ n ∧ i = .int .i64 j ∧ Below W.heap.size W wr ∧ FullTo k.ins k.outs j) (fun i _ => n - (intOf i).toNat)
 case atStart => exact ⟨0, Nat.zero_le _, rfl, Below.refl _ _, fun r hr => absurd hr (by omega)⟩
 case round =>
  obtain ⟨j, hj, rfl, hb, hfull⟩ := hrel
  have HB := Lib.hid hb
  have HF := Lib.hid hfull
  clear hb hfull
  by_cases hlt : j < n
  ·
   have hlti : (j : Int) < n := by omega
   have hC := HC0.out.below 9 HB.out
   obtain ⟨gI, hSI⟩ := hC.ins
   obtain ⟨gO, hSO⟩ := hC.outs
   obtain ⟨ia, ic, hIv⟩ := hSI.own.slice
   obtain ⟨oa, oc, hOv⟩ := hSO.own.slice
   have y6 := hC.cells.2.2.2.2.2.2.1
   have y7 := hC.cells.2.2.2.2.2.2.2
   rw [hIv] at y6 hSI
   rw [hOv] at y7 hSO
   obtain ⟨_, hci, g1, rfl, r1⟩ := hSI.row (a := j) (by have := HI.out; omega)
   obtain ⟨_, hco, g2, rfl, r2⟩ := hSO.row (a := j) (by have := HO.out; omega)
   have b1 := hSI.rows j (by have := HI.out; omega)
   have b2 := hSO.rows j (by have := HO.out; omega)
   obtain ⟨ri, hri⟩ : ∃ x, k.ins[j]?.getD [] = x := ⟨_, rfl⟩
   obtain ⟨ro, hro⟩ : ∃ x, k.outs[j]?.getD [] = x := ⟨_, rfl⟩
   have hbi : ri.length ≤ 1000000 := hri ▸ (HRL.out j).1
   have hbo : ro.length ≤ 1000000 := hro ▸ (HRL.out j).2
   rw [hri] at r1 b1
   rw [hro] at r2 b2
   generalize gI[j]?.getD 0 = G1 at *
   generalize gO[j]?.getD 0 = G2 at *
   have HRI := Lib.hid hri
   have HRO := Lib.hid hro
   have HB1 := Lib.hid b1
   have HB2 := Lib.hid b2
   have hIl := HI.out
   have hOl := HO.out
   rw [hIl] at y6 hci
   rw [hOl] at y7 hco
   have hcii : (n : Int) ≤ ic := by omega
   have hcoi : (n : Int) ≤ oc := by omega
   clear hC hSI hSO hIv hOv hri hro b1 b2 hIl hOl
   go_wp2_with fail
   refine wp_region_lex (fun w' => w'.cell? ⟨C, 6, none⟩ = some (.slice (some ⟨g1, 0, none⟩) n ic) ∧ w'.cell? ⟨C, 7, none⟩ = some (.slice (some ⟨g2, 0, none⟩) n oc) ∧ w'.cell? ⟨g1, j, none⟩ = some (.slice (some ⟨G1, 0, none⟩) ri.length ri.length) ∧ w'.cell? ⟨g2, j, none⟩ = some (.slice (some ⟨G2, 0, none⟩) ro.length ro.length)) [0, 1, 2, 3, 4, 5, 6, 7, 8, 9, 10, 11, 12, 13, 16] [14, 15] (by kernel_rfl) (by kernel_rfl) rfl (fun _ _ hx h => ⟨hx.cell h.1, hx.cell h.2.1, hx.cell h.2.2.1, hx.cell h.2.2.2⟩) ⟨y6, y7, r1, r2⟩ ?_
   intro Q' hQ'
   simp only [pickOps, List.flatMap_cons, List.flatMap_nil, List.drop_succ_cons, List.drop_zero, List.take_succ_cons, List.take_zero, List.cons_append, List.nil_append, List.append_nil]
   repeat (first
    | (refine wpReads_skip (by rfl) ?_; (try simp only [Act.put, List.setIfInBounds_toArray, List.set_cons_zero, List.set_cons_succ]))
    | (refine wpReads_cons ?_ (by rfl) (by rfl) ?_ ?_; rotate_left; (intro wz hz; (try dsimp only at hz); go_simp; try with_reducible rfl); (try simp only [Act.put, List.setIfInBounds_toArray, List.set_cons_zero, List.set_cons_succ]))
    | (refine wpReads_any ?_ (by rfl) ?_ ?_; rotate_left; (intro wz; go_simp; try with_reducible rfl); (try simp only [Act.put, List.setIfInBounds_toArray, List.set_cons_zero, List.set_cons_succ])))
   refine wpReads_nil ?_
   have hbT := below_alloc wr (.cells #[.slice (some ⟨G1, 0, none⟩) ri.length ri.length, .slice (some ⟨G2, 0, none⟩) ro.length ro.length] 192)
   have hT := heap_alloc_new wr (.cells #[.slice (some ⟨G1, 0, none⟩) ri.length ri.length, .slice (some ⟨G2, 0, none⟩) ro.length ro.length] 192)
   have t0 := cells_row _ _ hT 0 _ rfl
   have t1 := cells_row _ _ hT 1 _ rfl
   have HBT := Lib.hid (HB.out.trans (hbT.mono HB.out.size))
   have HP1 := Lib.hid (HB1.out.turn (Turn.of_below _ 9 hbT) (fun h => h))
   have HP2 := Lib.hid (HB2.out.turn (Turn.of_below _ 9 hbT) (fun h => h))
   clear hbT hT y6 y7 r1 r2 HB1 HB2 HB
   go_wp2_with fail
   obtain ⟨W2, hW2⟩ : ∃ W2, (wr.alloc (.cells #[.slice (some ⟨G1, 0, none⟩) ri.length ri.length, .slice (some ⟨G2, 0, none⟩) ro.length ro.length] 192)).drew = W2 := ⟨_, rfl⟩
   have t0' : W2.cell? ⟨wr.heap.size, 0, none⟩ = some (.slice (some ⟨G1, 0, none⟩) ri.length ri.length) := by rw [← hW2]; exact t0
   have t1' : W2.cell? ⟨wr.heap.size, 1, none⟩ = some (.slice (some ⟨G2, 0, none⟩) ro.length ro.length) := by rw [← hW2]; exact t1
   have HB2' : Hid (Below W.heap.size W W2) := Lib.hid (by rw [← hW2]; exact below_dr (n := 1) HBT.out)
   have HQ1 : Hid (∀ m, m < ri.length → W2.cell? ⟨G1, m, none⟩ = some (.bool (ri[m]?.getD false))) := Lib.hid (fun m hm => by rw [← hW2]; exact HP1.out.cell m _ (bvs_get' hm))
   have HQ2 : Hid (∀ m, m < ro.length → W2.cell? ⟨G2, m, none⟩ = some (.bool (ro[m]?.getD false))) := Lib.hid (fun m hm => by rw [← hW2]; exact HP2.out.cell m _ (bvs_get' hm))
   rw [hW2]
   clear t0 t1 HBT HP1 HP2 hW2
   generalize wr.heap.size = T at *
   go_loopw [34] (fun jv wq => ∃ m : Nat, m ≤ 2 ∧ jv = .int .i64 m ∧ wq = W2 ∧ (1 ≤ m → ri.all id = true) ∧ (2 ≤ m → ro.all id = true)) (fun jv _ => 2 - (intOf jv).toNat)
   case atStart => exact ⟨0, by omega, rfl, rfl, fun h => absurd h (by omega), fun h => absurd h (by omega)⟩
   case round =>
    obtain ⟨m, hm, rfl, hw, hm1, hm2⟩ := hrel
    subst hw
    have HM1 := Lib.hid hm1
    have HM2 := Lib.hid hm2
    clear hm1 hm2
    by_cases h0 : m = 0
    ·
     subst h0
     go_wp2_with fail
     go_loopw [40] (fun pv wq => ∃ p : Nat, p ≤ ri.length ∧ pv = .int .i64 p ∧ wq = wr ∧ ∀ x, x < p → ri[x]?.getD false = true) (fun pv _ => ri.length - (intOf pv).toNat)
     case atStart => exact ⟨0, Nat.zero_le _, rfl, rfl, fun x hx => absurd hx (by omega)⟩
     case round =>
      obtain ⟨p, hp, rfl, hw2, hall⟩ := hrel
      subst hw2
      have HAll := Lib.hid hall
      clear hall
      by_cases hpl : p < ri.length
      ·
       have hpi : (p : Int) < ri.length := by omega
       have hq := HQ1.out p hpl
       obtain ⟨bb, hpf⟩ : ∃ bb, ri[p]?.getD false = bb := ⟨_, rfl⟩
       rw [hpf] at hq
       cases bb with
       | false =>
        have e : E = 87 := by rw [← HE.out]; exact open_ins (i := j) (by have := HI.out; omega) (by rw [HRI.out]; exact hpl) (by rw [HRI.out]; exact hpf)
        subst e
        have hBB := HB2'.out
        have HR := Lib.hid (HR0.out.turn (Turn.of_below q 9 hBB) (fun h => h))
        have HT := Lib.hid (HT0.out.trans ((Turn.of_below q 9 hBB).mono (D := ChkC) (fun _ h => h.elim)) (fun _ h => h))
        clear hBB
        have z0 := HR.out.cell 0 _ rfl
        have z1 := HR.out.cell 1 _ rfl
        have z2 := HR.out.cell 2 _ rfl
        have f0 := HR.out.frozen 0
        have f1 := HR.out.frozen 1
        have f2 := HR.out.frozen 2
        go_wp2
        refine bodyPost_ret_by (results_tmp_row rfl _ _ _ _ _ _ _ rfl (spot_set HR.out) Try.underlying140 rfl (by kernel_rfl)) rfl ?_
        exact ⟨⟨_, _, _, rfl⟩, _, HT.out.late 7 (spot_mods (by have := HRE.out; omega) _ _ _), fun h => by cases h⟩
       | true =>
        have HAll2 : Hid (∀ x, x < p + 1 → ri[x]?.getD false = true) := Lib.hid (fun x hx => by
         by_cases e : x = p
         ·
          rw [e]; exact hpf
         ·
          exact HAll.out x (by omega))
        clear hpf
        go_wp2
        go_roundw
        case rel => exact ⟨p + 1, hpl, by first | rfl | go_num, by first | rfl | trivial, HAll2.out⟩
        case measure => first | (simp [intOf]; omega) | (rw [IntWalk.wrap64_in _ (by omega)]; simp [intOf]; omega)
      ·
       obtain rfl : p = ri.length := by omega
       go_wp2
       go_roundw
       case rel => exact ⟨1, by omega, by first | rfl | go_num, by first | rfl | trivial, fun _ => all_to (HAll.out), fun h => absurd h (by omega)⟩
       case measure => simp [intOf]
    ·
     by_cases h1 : m = 1
     ·
      subst h1
      go_wp2_with fail
      go_loopw [40] (fun pv wq => ∃ p : Nat, p ≤ ro.length ∧ pv = .int .i64 p ∧ wq = wr ∧ ∀ x, x < p → ro[x]?.getD false = true) (fun pv _ => ro.length - (intOf pv).toNat)
      case atStart => exact ⟨0, Nat.zero_le _, rfl, rfl, fun x hx => absurd hx (by omega)⟩
      case round =>
       obtain ⟨p, hp, rfl, hw2, hall⟩ := hrel
       subst hw2
       have HAll := Lib.hid hall
       clear hall
       by_cases hpl : p < ro.length
       ·
        have hpi : (p : Int) < ro.length := by omega
        have hq := HQ2.out p hpl
        obtain ⟨bb, hpf⟩ : ∃ bb, ro[p]?.getD false = bb := ⟨_, rfl⟩
        rw [hpf] at hq
        cases bb with
        | false =>
         have e : E = 87 := by rw [← HE.out]; exact open_outs (i := j) (by have := HO.out; omega) (by rw [HRO.out]; exact hpl) (by rw [HRO.out]; exact hpf)
         subst e
         have hBB := HB2'.out
         have HR := Lib.hid (HR0.out.turn (Turn.of_below q 9 hBB) (fun h => h))
         have HT := Lib.hid (HT0.out.trans ((Turn.of_below q 9 hBB).mono (D := ChkC) (fun _ h => h.elim)) (fun _ h => h))
         clear hBB
         have z0 := HR.out.cell 0 _ rfl
         have z1 := HR.out.cell 1 _ rfl
         have z2 := HR.out.cell 2 _ rfl
         have f0 := HR.out.frozen 0
         have f1 := HR.out.frozen 1
         have f2 := HR.out.frozen 2
         go_wp2
         refine bodyPost_ret_by (results_tmp_row rfl _ _ _ _ _ _ _ rfl (spot_set HR.out) Try.underlying140 rfl (by kernel_rfl)) rfl ?_
         exact ⟨⟨_, _, _, rfl⟩, _, HT.out.late 7 (spot_mods (by have := HRE.out; omega) _ _ _), fun h => by cases h⟩
        | true =>
         have HAll2 : Hid (∀ x, x < p + 1 → ro[x]?.getD false = true) := Lib.hid (fun x hx => by
          by_cases e : x = p
          ·
           rw [e]; exact hpf
          ·
           exact HAll.out x (by omega))
         clear hpf
         go_wp2
         go_roundw
         case rel => exact ⟨p + 1, hpl, by first | rfl | go_num, by first | rfl | trivial, HAll2.out⟩
         case measure => first | (simp [intOf]; omega) | (rw [IntWalk.wrap64_in _ (by omega)]; simp [intOf]; omega)
       ·
        obtain rfl : p = ro.length := by omega
        go_wp2
        go_roundw
        case rel => exact ⟨2, by omega, by first | rfl | go_num, by first | rfl | trivial, fun _ => HM1.out (Nat.le_refl _), fun _ => all_to (HAll.out)⟩
        case measure => simp [intOf]
     ·
      obtain rfl : m = 2 := by omega
      have HFn : Hid (FullTo k.ins k.outs (j + 1)) := Lib.hid (fun r hr => by
       by_cases e : r = j
       ·
        subst e; rw [HRI.out, HRO.out]; exact ⟨HM1.out (by omega), HM2.out (by omega)⟩
       ·
        exact HF.out r (by omega))
      have hnn := HN.out
      go_wp2
      go_roundw
      case rel => exact ⟨j + 1, hlt, by go_num, HB2'.out, HFn.out⟩
      case measure => simp [intOf]; omega
  ·
   obtain rfl : j = n := by omega
   have e : E = 0 := by rw [← HE.out]; exact full_all (HO.out.trans HI.out.symm) (HI.out.symm ▸ HF.out)
   subst e
   have HR := Lib.hid (HR0.out.turn (Turn.of_below q 9 HB.out) (fun h => h))
   have HT := Lib.hid (HT0.out.trans ((Turn.of_below q 9 HB.out).mono (D := ChkC) (fun _ h => h.elim)) (fun _ h => h))
   have HC9 := Lib.hid (HC0.out.below 9 HB.out)
   have z0 := HR.out.cell 0 _ rfl
   have z1 := HR.out.cell 1 _ rfl
   have z2 := HR.out.cell 2 _ rfl
   have f0 := HR.out.frozen 0
   have f1 := HR.out.frozen 1
   have f2 := HR.out.frozen 2
   go_wp2
   refine bodyPost_ret_by (results_tmp_row rfl _ _ _ _ _ _ _ rfl (spot_set HR.out) Try.underlying140 rfl (by kernel_rfl)) rfl ?_
   exact ⟨⟨_, _, _, rfl⟩, _, HT.out.late 7 (spot_mods (by have := HRE.out; omega) _ _ _), fun _ => HC9.out.spot HR.out _ _ _⟩
end Go.Proofs.Ytbmbfifempkhgaa

/- The graph's find: what it is before its calls. -/
namespace Go.Proofs.Ytbmbfifempkhgaa
open Go.RowKit
def findO (N : Nat) : Col := fun k => if k < N then 0 else if k = N + 2 then 2 else if k = N + 3 then 1 else 7
def findW (w : World) (s : ByteArray) (va ve vi vo : Value) : World :=
 (((w.alloc (.cells #[.string s, va, ve, vi, vo] 26)).alloc (.cells #[.int .u8 0, .int .i64 0, .int .i64 0] 140)).alloc (.map #[] 0)).alloc (.cells #[.string s, va, ve, vi, vo, .map (some (w.heap.size + 2)), .slice none 0 0, .slice none 0 0] 179)
theorem find_start (w : World) (s : ByteArray) (va ve vi vo : Value) :
  Kept w.heap.size (findO w.heap.size) w (findW w s va ve vi vo) ∧ ChkAt (findW w s va ve vi vo) (findO w.heap.size) (w.heap.size + 3) (w.heap.size + 2) ⟨s, va, ve, vi, vo, .slice none 0 0, .slice none 0 0⟩ chk0 ∧
  Blk (findW w s va ve vi vo) (findO w.heap.size) 7 w.heap.size 26 #[.string s, va, ve, vi, vo] ∧ Blk (findW w s va ve vi vo) (findO w.heap.size) 7 (w.heap.size + 1) 140 #[.int .u8 0, .int .i64 0, .int .i64 0] := by
 have h0 := heap_alloc_new w (.cells #[.string s, va, ve, vi, vo] 26)
 have h1 := heap_alloc_new (w.alloc (.cells #[.string s, va, ve, vi, vo] 26)) (.cells #[.int .u8 0, .int .i64 0, .int .i64 0] 140)
 have hm := World.ownsMap_made (H := Unit) ((w.alloc (.cells #[.string s, va, ve, vi, vo] 26)).alloc (.cells #[.int .u8 0, .int .i64 0, .int .i64 0] 140)) Try.prog 9 (plainElem Try.prog 3)
 have h3 := heap_alloc_new (((w.alloc (.cells #[.string s, va, ve, vi, vo] 26)).alloc (.cells #[.int .u8 0, .int .i64 0, .int .i64 0] 140)).alloc (.map #[] 0)) (.cells #[.string s, va, ve, vi, vo, .map (some (w.heap.size + 2)), .slice none 0 0, .slice none 0 0] 179)
 simp only [World.size_alloc] at h1 hm h3
 have hb : Below w.heap.size w (findW w s va ve vi vo) := (((below_alloc w _).alloc (by simp) _).alloc (by simp; omega) _).alloc (by simp; omega) _
 refine ⟨⟨hb, fun k hk => by simp [findO, hk], hb.size⟩, ⟨_, 0, [], [], ⟨h3, by simp [findO]⟩, hm.alloc _, by simp [findO], seen_start, Nat.zero_le _, Side.nil _ _ _ _, Side.nil _ _ _ _⟩, ⟨block_alloc (block_alloc (block_alloc h0 _) _) _, by simp [findO]⟩, ⟨block_alloc (block_alloc h1 _) _, by simp [findO]⟩⟩
end Go.Proofs.Ytbmbfifempkhgaa

/- A region that draws its order: what only reads, one call, what only looks at its answer, the rest in whatever order. No program in sight. -/
namespace Go.Proofs.Ytbmbfifempkhgaa
section
variable {P : Program} {md : Region.Mode} {ops : Array Oper} {Q : Exit → Go.Act → World → Prop} {S : World → Prop}
theorem closedL_setAll : ∀ (r : List Nat) (listed : Array Bool), closedL md ops listed → stageHead md ops (fun _ => true) r listed = true → closedL md ops (setAll listed r)
 | [], _, h, _ => h
 | i :: r, listed, h, hB => by
  simp only [stageHead, Bool.and_eq_true] at hB
  obtain ⟨⟨hrdy, _⟩, hB'⟩ := hB
  have hrdy' : i ∈ Region.ready md ops listed := by simpa using hrdy
  exact closedL_setAll r _ (closedL_set h hrdy') hB'
theorem wpReads_mono {Q' : Go.Act → Prop} {Q : Go.Act → Prop} (hq : ∀ a, Q a → Q' a) : ∀ (l : List Oper) (a : Go.Act), wpReads P ops S Q l a → wpReads P ops S Q' l a
 | [], a, h => hq a h
 | _ :: r, _, ⟨v, hy, hk⟩ => ⟨v, hy, wpReads_mono hq r _ hk⟩
theorem wpOp_of_listK {i : Nat} {K K0 : Go.Act → World → Prop} {a : Go.Act} {w : World} (hi : i < ops.size) (hK : ∀ a w, K0 a w → K a w) (h : wpList P ops (EndK Q K0) (pickOps ops [i]) a w) : wpOp P ops Q i K a w := by
 have ho : ops[i]? = some ops[i] := Array.getElem?_eq_getElem hi
 rw [pick_one ho []] at h
 have hw : wpOp P ops (EndK Q K0) i (wpList P ops (EndK Q K0) (pickOps ops [])) a w := by unfold wpOp; simp only [ho]; exact h
 exact wpOp_endK (fun a' w' h' => hK a' w' h') hw
def midOK (md : Region.Mode) (ops : Array Oper) (r1 : List Nat) (k : Nat) (r2 M : List Nat) : Bool :=
 Region.noSelect ops && ((r1 ++ r2).all fun i => anyAt ops i || (List.range ops.size).all fun j => madeB ops j || (r1 ++ r2).contains j || M.contains j || behindB md ops ops.size j i) &&
 stageHead md ops (fun _ => true) r1 (Array.replicate ops.size false) && decide (Region.ready md ops (setAll (Array.replicate ops.size false) r1) = [k]) &&
 stageHead md ops (fun _ => true) r2 ((setAll (Array.replicate ops.size false) r1).setIfInBounds k true)
theorem wp_region_mid {id : Nat} {l : List Oper} {a : Go.Act} {w : World} (S : World → Prop) (r1 : List Nat) (k : Nat) (r2 M : List Nat) (n : Nat) (hm : P.follows .mixedOrders = true)
  (hB : midOK .any l.toArray r1 k r2 M = true) (hlen : r1.length + ((r2.length + n) + 1) = l.length) (hS : S w.drew)
  (h : ∀ Q' : Exit → Go.Act → World → Prop, (∀ a w, Q .normal a w → Q' .normal a w) → wpReads P l.toArray S (fun a' => wpList P l.toArray (EndK Q' fun a1 w1 => S w1 ∧ wpReads P l.toArray S (fun a2 => wpAnyT P .any l.toArray Q' S (bsOf l.toArray (r1 ++ r2) M) n (setAll ((setAll (Array.replicate l.length false) r1).setIfInBounds k true) r2) a2 w1) (pickOps l.toArray r2) a1) (pickOps l.toArray [k]) a' w.drew) (pickOps l.toArray r1) a) :
  (Code.region id l.toArray true).wp P Q a w := by
 refine wp_region_noPanic ?_
 refine wp_region_any hm ?_
 simp only [midOK, Bool.and_eq_true, List.all_eq_true, List.mem_range, Bool.or_eq_true, decide_eq_true_eq] at hB
 obtain ⟨⟨⟨⟨hsel, hbe⟩, h1⟩, hk⟩, h2⟩ := hB
 refine wpAny_of_T (S := S) (B := bsOf l.toArray (r1 ++ r2) M) _ _ _ _ ?_
 have hbe' : ∀ i ∈ (r1 ++ r2), anyAt l.toArray i = false → ∀ j, j < l.toArray.size → madeB l.toArray j = true ∨ (r1 ++ r2).contains j = true ∨ M.contains j = true ∨ behindB .any l.toArray l.toArray.size j i = true := fun i hi hany j hj => by
  rcases hbe i hi with h0 | h0
  ·
   rw [hany] at h0; cases h0
  rcases h0 j hj with ((h1 | h1) | h1) | h1
  ·
   exact .inl h1
  ·
   exact .inr (.inl h1)
  ·
   exact .inr (.inr (.inl h1))
  ·
   exact .inr (.inr (.inr h1))
 have hcl0 : closedL .any l.toArray (Array.replicate l.toArray.size false) := fun j oj _ hl => by rw [getD_replicate_false] at hl; cases hl
 have hcl1 := closedL_setAll r1 _ hcl0 h1
 have hkr : k ∈ Region.ready .any l.toArray (setAll (Array.replicate l.toArray.size false) r1) := by rw [hk]; simp
 have hcl2 := closedL_set hcl1 hkr
 have hh := h (NoPanic Q) (fun _ _ h => NoPanic.normal h)
 have key := wpAnyT_reads (P := P) (md := .any) (Q := NoPanic Q) (S := S) (reads := r1 ++ r2) (M := M) (n := (r2.length + n) + 1) hsel (fun c a a' w h => h) hbe' r1 (Array.replicate l.toArray.size false) a { w with drawn := w.drawn + 1 } (fun i hi => by simp [hi]) hcl0 h1 hS
 rw [hlen] at key
 have hk' : Region.ready .any l.toArray (setAll (Array.replicate l.toArray.size false) r1) = [k] := hk
 have go : wpReads P l.toArray S (fun a' => wpAnyT P .any l.toArray (NoPanic Q) S (bsOf l.toArray (r1 ++ r2) M) (r2.length + n + 1) (setAll (Array.replicate l.toArray.size false) r1) a' { w with drawn := w.drawn + 1 }) (pickOps l.toArray r1) a := by
  refine wpReads_mono (fun a' ha' => ?_) _ _ hh
  refine ⟨fun h0 => (by rw [h0] at hk'; cases hk'), fun j hj => ?_⟩
  rw [hk'] at hj
  obtain rfl : j = k := by simpa using hj
  refine wpOp_of_listK (ready_lt hkr) (fun a1 w1 h1' => ?_) ha'
  obtain ⟨hS1, hr2⟩ := h1'
  refine ⟨fun _ _ => hS1, ?_⟩
  exact wpAnyT_reads (P := P) (md := .any) (Q := NoPanic Q) (S := S) (reads := r1 ++ r2) (M := M) (n := n) hsel (fun c a a' w h => h) hbe' r2 _ a1 w1 (fun i hi => by simp [hi]) hcl2 h2 hS1 (by simpa using hr2)
 have := key go
 simpa using this
end
end Go.Proofs.Ytbmbfifempkhgaa

/- A region that draws its order: reads, one call, looks at its answer; beside it a new block, at whatever moment. No program in sight. -/
namespace Go.Proofs.Ytbmbfifempkhgaa
section
variable {P : Program} {md : Region.Mode} {ops : Array Oper} {Q : Exit → Go.Act → World → Prop} {S : World → Prop}
def mid2OK (md : Region.Mode) (ops : Array Oper) (r1 : List Nat) (k m : Nat) (r2 M : List Nat) : Bool :=
 Region.noSelect ops && ((r1 ++ r2).all fun i => anyAt ops i || (List.range ops.size).all fun j => madeB ops j || (r1 ++ r2).contains j || M.contains j || behindB md ops ops.size j i) &&
 stageHead md ops (fun _ => true) r1 (Array.replicate ops.size false) && decide (Region.ready md ops (setAll (Array.replicate ops.size false) r1) = [k, m]) &&
 stageHead md ops (fun _ => true) r2 ((setAll (Array.replicate ops.size false) r1).setIfInBounds k true) &&
 decide (Region.ready md ops ((setAll (Array.replicate ops.size false) r1).setIfInBounds m true) = [k]) &&
 stageHead md ops (fun _ => true) r2 (((setAll (Array.replicate ops.size false) r1).setIfInBounds m true).setIfInBounds k true)
theorem wp_region_mid2 {id : Nat} {l : List Oper} {a : Go.Act} {w : World} (S : World → Prop) (r1 : List Nat) (k m : Nat) (r2 M : List Nat) (n : Nat) (hm : P.follows .mixedOrders = true)
  (hB : mid2OK .any l.toArray r1 k m r2 M = true) (hlen : r1.length + ((r2.length + n) + 1 + 1) = l.length) (hS : S w.drew)
  (h : ∀ Q' : Exit → Go.Act → World → Prop, (∀ a w, Q .normal a w → Q' .normal a w) → wpReads P l.toArray S (fun a' =>
   wpList P l.toArray (EndK Q' fun a1 w1 => S w1 ∧ wpReads P l.toArray S (fun a2 => wpAnyT P .any l.toArray Q' S (bsOf l.toArray (r1 ++ r2) M) (n + 1) (setAll ((setAll (Array.replicate l.length false) r1).setIfInBounds k true) r2) a2 w1) (pickOps l.toArray r2) a1) (pickOps l.toArray [k]) a' w.drew ∧
   wpList P l.toArray (EndK Q' fun a0 w0 => S w0 ∧ wpList P l.toArray (EndK Q' fun a1 w1 => S w1 ∧ wpReads P l.toArray S (fun a2 => wpAnyT P .any l.toArray Q' S (bsOf l.toArray (r1 ++ r2) M) n (setAll (((setAll (Array.replicate l.length false) r1).setIfInBounds m true).setIfInBounds k true) r2) a2 w1) (pickOps l.toArray r2) a1) (pickOps l.toArray [k]) a0 w0) (pickOps l.toArray [m]) a' w.drew) (pickOps l.toArray r1) a) :
  (Code.region id l.toArray true).wp P Q a w := by
 refine wp_region_noPanic ?_
 refine wp_region_any hm ?_
 simp only [mid2OK, Bool.and_eq_true, List.all_eq_true, List.mem_range, Bool.or_eq_true, decide_eq_true_eq] at hB
 obtain ⟨⟨⟨⟨⟨⟨hsel, hbe⟩, h1⟩, hk⟩, h2⟩, hkm⟩, h3⟩ := hB
 refine wpAny_of_T (S := S) (B := bsOf l.toArray (r1 ++ r2) M) _ _ _ _ ?_
 have hbe' : ∀ i ∈ (r1 ++ r2), anyAt l.toArray i = false → ∀ j, j < l.toArray.size → madeB l.toArray j = true ∨ (r1 ++ r2).contains j = true ∨ M.contains j = true ∨ behindB .any l.toArray l.toArray.size j i = true := fun i hi hany j hj => by
  rcases hbe i hi with h0 | h0
  ·
   rw [hany] at h0; cases h0
  rcases h0 j hj with ((h1 | h1) | h1) | h1
  ·
   exact .inl h1
  ·
   exact .inr (.inl h1)
  ·
   exact .inr (.inr (.inl h1))
  ·
   exact .inr (.inr (.inr h1))
 have hcl0 : closedL .any l.toArray (Array.replicate l.toArray.size false) := fun j oj _ hl => by rw [getD_replicate_false] at hl; cases hl
 have hcl1 := closedL_setAll r1 _ hcl0 h1
 have hkr : k ∈ Region.ready .any l.toArray (setAll (Array.replicate l.toArray.size false) r1) := by rw [hk]; simp
 have hmr : m ∈ Region.ready .any l.toArray (setAll (Array.replicate l.toArray.size false) r1) := by rw [hk]; simp
 have hcl2 := closedL_set hcl1 hkr
 have hcl3 := closedL_set hcl1 hmr
 have hkr3 : k ∈ Region.ready .any l.toArray ((setAll (Array.replicate l.toArray.size false) r1).setIfInBounds m true) := by rw [hkm]; simp
 have hcl4 := closedL_set hcl3 hkr3
 have hh := h (NoPanic Q) (fun _ _ h => NoPanic.normal h)
 have key := wpAnyT_reads (P := P) (md := .any) (Q := NoPanic Q) (S := S) (reads := r1 ++ r2) (M := M) (n := (r2.length + n) + 1 + 1) hsel (fun c a a' w h => h) hbe' r1 (Array.replicate l.toArray.size false) a { w with drawn := w.drawn + 1 } (fun i hi => by simp [hi]) hcl0 h1 hS
 rw [hlen] at key
 have hk' : Region.ready .any l.toArray (setAll (Array.replicate l.toArray.size false) r1) = [k, m] := hk
 have go : wpReads P l.toArray S (fun a' => wpAnyT P .any l.toArray (NoPanic Q) S (bsOf l.toArray (r1 ++ r2) M) (r2.length + n + 1 + 1) (setAll (Array.replicate l.toArray.size false) r1) a' { w with drawn := w.drawn + 1 }) (pickOps l.toArray r1) a := by
  refine wpReads_mono (fun a' ha' => ?_) _ _ hh
  refine ⟨fun h0 => (by rw [h0] at hk'; cases hk'), fun j hj => ?_⟩
  rw [hk'] at hj
  rcases List.mem_cons.1 hj with rfl | hj
  ·
   refine wpOp_of_listK (ready_lt hkr) (fun a1 w1 h1' => ?_) ha'.1
   obtain ⟨hS1, hr2⟩ := h1'
   refine ⟨fun _ _ => hS1, ?_⟩
   have e : r2.length + n + 1 = r2.length + (n + 1) := by omega
   rw [e]
   exact wpAnyT_reads (P := P) (md := .any) (Q := NoPanic Q) (S := S) (reads := r1 ++ r2) (M := M) (n := n + 1) hsel (fun c a a' w h => h) hbe' r2 _ a1 w1 (fun i hi => by simp [hi]) hcl2 h2 hS1 (by simpa using hr2)
  ·
   obtain rfl : j = m := by simpa using hj
   refine wpOp_of_listK (ready_lt hmr) (fun a0 w0 h0' => ?_) ha'.2
   obtain ⟨hS0, hkk⟩ := h0'
   refine ⟨fun _ _ => hS0, ?_⟩
   have hkm' : Region.ready .any l.toArray ((setAll (Array.replicate l.toArray.size false) r1).setIfInBounds j true) = [k] := hkm
   refine ⟨fun h0 => (by rw [h0] at hkm'; cases hkm'), fun i hi => ?_⟩
   rw [hkm'] at hi
   obtain rfl : i = k := by simpa using hi
   refine wpOp_of_listK (ready_lt hkr3) (fun a1 w1 h1' => ?_) hkk
   obtain ⟨hS1, hr2⟩ := h1'
   refine ⟨fun _ _ => hS1, ?_⟩
   exact wpAnyT_reads (P := P) (md := .any) (Q := NoPanic Q) (S := S) (reads := r1 ++ r2) (M := M) (n := n) hsel (fun c a a' w h => h) hbe' r2 _ a1 w1 (fun i hi => by simp [hi]) hcl4 h3 hS1 (by simpa using hr2)
 have := key go
 simpa using this
end
end Go.Proofs.Ytbmbfifempkhgaa

/- The graph's find. -/
namespace Go.Proofs.Ytbmbfifempkhgaa
open Go.RowKit
def FindRet (w : World) (E : Int) (e : Ending) (w' : World) : Prop := SpotRet E e ∧ Below w.heap.size w w'
structure FindAt (w wr : World) (q : Col) (s : ByteArray) (va ve vi vo : Value) : Prop where
 kept : Kept w.heap.size q w wr
 gr : Blk wr q 7 w.heap.size 26 #[.string s, va, ve, vi, vo]
 sp : Blk wr q 7 (w.heap.size + 1) 140 #[.int .u8 0, .int .i64 0, .int .i64 0]
theorem FindAt.turn {w wr wr' : World} {q q' : Col} {s : ByteArray} {va ve vi vo : Value} (h : FindAt w wr q s va ve vi vo) (T : Turn q q' ChkC wr wr') : FindAt w wr' q' s va ve vi vo :=
 ⟨h.kept.turn T (by unfold ChkC; omega), h.gr.turn T (by unfold ChkC; omega), h.sp.turn T (by unfold ChkC; omega)⟩
theorem FindAt.below {w wr wr' : World} {q : Col} {s : ByteArray} {va ve vi vo : Value} (h : FindAt w wr q s va ve vi vo) (c : Nat) (hb : Below wr.heap.size wr wr') : FindAt w wr' (ext q wr.heap.size c) s va ve vi vo :=
 h.turn ((Turn.of_below q c hb).mono (fun _ h => h.elim))
theorem FindAt.ret {w wr : World} {q : Col} {s : ByteArray} {va ve vi vo : Value} (h : FindAt w wr q s va ve vi vo) (a b c : Value) : Below w.heap.size w (((wr.setCell ⟨w.heap.size + 1, 0, none⟩ a).setCell ⟨w.heap.size + 1, 1, none⟩ b).setCell ⟨w.heap.size + 1, 2, none⟩ c) :=
 ((h.kept.below.setCell (by simp) _).setCell (by simp) _).setCell (by simp) _
theorem spot_setd {w : World} {o : Col} {R : Nat} {a b c : Int} (h : Blk w o 7 R 140 #[.int .u8 0, .int .i64 0, .int .i64 0]) :
 (((w.setCell ⟨R, 0, none⟩ (.int .u8 a)).setCell ⟨R, 1, none⟩ (.int .i64 b)).setCell ⟨R, 2, none⟩ (.int .i64 c)).drew.heap[R]? = some (.cells #[.int .u8 a, .int .i64 b, .int .i64 c] 140 (0, 0)) := spot_set h
theorem chkP_C (x : Nat) (h : ChkP x) : ChkC x := by unfold ChkP at h; unfold ChkC; omega
theorem FindAt.turnC {w wr wr' : World} {q q' : Col} {Cs : Nat → Prop} {s : ByteArray} {va ve vi vo : Value} (h : FindAt w wr q s va ve vi vo) (T : Turn q q' Cs wr wr') (h0 : ¬ Cs 0) (h7 : ¬ Cs 7) : FindAt w wr' q' s va ve vi vo :=
 ⟨h.kept.turn T h0, h.gr.turn T h7, h.sp.turn T h7⟩
theorem ChkAt.kept67 {w w' : World} {o o' : Col} {Cs : Nat → Prop} {C B : Nat} {X : ChkV} {k : Chk} (h : ChkAt w o C B X k) (T : Turn o o' Cs w w') (h1 : ¬ Cs 1) : w'.cell? ⟨C, 6, none⟩ = some X.vI ∧ w'.cell? ⟨C, 7, none⟩ = some X.vO := by
 obtain ⟨D, n, gI, gO, b, _⟩ := h.st
 have b2 := b.turn T h1
 exact ⟨b2.cell 6 _ rfl, b2.cell 7 _ rfl⟩
theorem spot_turn {w : World} {o : Col} {L : Nat} {t : TypeId} {cs : Array Value} (h : Blk w o 8 L t cs) (a b c : Value) : Turn o (ext o w.heap.size 8) (fun x => x = 8) w (((w.setCell ⟨L, 0, none⟩ a).setCell ⟨L, 1, none⟩ b).setCell ⟨L, 2, none⟩ c) :=
 Turn.of_mods o 8 (spot_only w L a b c) (fun b _ e => by subst e; exact h.2)
theorem spot8_set {w : World} {o : Col} {R : Nat} {a b c : Int} (h : Blk w o 8 R 140 #[.int .u8 0, .int .i64 0, .int .i64 0]) :
  (((w.setCell ⟨R, 0, none⟩ (.int .u8 a)).setCell ⟨R, 1, none⟩ (.int .i64 b)).setCell ⟨R, 2, none⟩ (.int .i64 c)).heap[R]? = some (.cells #[.int .u8 a, .int .i64 b, .int .i64 c] 140 (0, 0)) :=
 block_setCell (block_setCell (block_setCell h.1 0 (.int .u8 a)) 1 (.int .i64 b)) 2 (.int .i64 c)
theorem check_tail {g : GGraph} (h1 : headE g = 0) (h2 : actorsE chk0 g.actors = 0) (h3 : edgesE (chk1 g) g.edges = 0) : checkE g = if portsE (chk2 g).seen (chk2 g).ins g.ins ≠ 0 then portsE (chk2 g).seen (chk2 g).ins g.ins
  else if portsE (portsN (chk2 g).seen g.ins) (chk2 g).outs g.outs ≠ 0 then portsE (portsN (chk2 g).seen g.ins) (chk2 g).outs g.outs else openE (portsS (chk2 g).ins g.ins) (portsS (chk2 g).outs g.outs) := by
 unfold checkE
 rw [h1, h2, h3]
 simp
theorem head_ok {g : GGraph} (h : headE g = 0) : g.actors.length ≤ 32 ∧ g.edges.length ≤ 96 ∧ g.ins.length ≤ 16 ∧ g.outs.length ≤ 16 := by
 unfold headE at h
 split at h
 ·
  cases h
 split at h
 ·
  cases h
 split at h
 ·
  cases h
 split at h
 ·
  cases h
 split at h
 ·
  cases h
 split at h
 ·
  cases h
 omega
theorem seen2 (g : GGraph) : (chk2 g).seen.length = g.actors.length := by
 rw [chk2, (edgesC_len _ _).2.2, chk1, actorsC_seen]; simp [chk0]
set_option maxRecDepth 100000 in
set_option maxHeartbeats 4000000 in
theorem gfind_any (w : World) (v : Value) (g : GGraph) (h : HasGraph w v g) (hs : g.name.size ≤ 4611686018427387904) (hsa : ∀ p ∈ g.actors, p.name.size ≤ 4611686018427387904 ∧ p.params.length ≤ 17600000000000) (hsi : ∀ p ∈ g.ins, p.name.size ≤ 4611686018427387904) (hso : ∀ p ∈ g.outs, p.name.size ≤ 4611686018427387904) :
  Calls Try.prog 76 #[v] w (FindRet w (checkE g)) := by
 obtain ⟨va, ve, vi, vo, rfl, ra, re, ri, ro⟩ := h.shape
 obtain ⟨a1, c1, rfl⟩ := ra.slice
 obtain ⟨a2, c2, rfl⟩ := re.slice
 obtain ⟨a3, c3, rfl⟩ := ri.slice
 obtain ⟨a4, c4, rfl⟩ := ro.slice
 obtain ⟨E, hE⟩ : ∃ E, checkE g = E := ⟨_, rfl⟩
 rw [hE]
 have HE := Lib.hid hE
 have RA := Lib.hid ra
 have RE := Lib.hid re
 have RI := Lib.hid ri
 have RO := Lib.hid ro
 have HS := Lib.hid hs
 have HSA := Lib.hid hsa
 have HSI := Lib.hid hsi
 have HSO := Lib.hid hso
 have hmm := @run_makeMap Try.prog
 obtain ⟨k0, kc, kg, ks⟩ := find_start w g.name (.slice a1 g.actors.length c1) (.slice a2 g.edges.length c2) (.slice a3 g.ins.length c3) (.slice a4 g.outs.length c4)
 have HF0 := Lib.hid (⟨k0, kg, ks⟩ : FindAt _ _ _ _ _ _ _ _)
 have HC0 := Lib.hid kc
 clear hE ra re ri ro hs hsa hsi hso k0 kc kg ks h
 go_enter Try.func76, Try.ntmps76
 go_wp2_with fail
 clear hmm
 unfold findW at HF0 HC0
 refine (ghead_any _ _ (w.heap.size + 3) (w.heap.size + 2) _ chk0 a1 a2 a3 a4 _ _ _ _ c1 c2 c3 c4 rfl rfl rfl rfl HS.out HC0.out).mono ?_
 rintro e w1 ⟨⟨xa, xb, xc, rfl⟩, o1, T, hC1⟩
 rw [show headL (ChkV.name ⟨g.name, .slice a1 g.actors.length c1, .slice a2 g.edges.length c2, .slice a3 g.ins.length c3, .slice a4 g.outs.length c4, .slice none 0 0, .slice none 0 0⟩) g.actors.length g.edges.length g.ins.length g.outs.length = headE g from rfl] at hC1 ⊢
 have HC1 := Lib.hid hC1
 have HF1 := Lib.hid (HF0.out.turn T)
 have HF2 := Lib.hid (HF1.out.below 7 (below_alloc _ (.cells #[.int .u8 xa, .int .i64 xb, .int .i64 xc] 140)))
 have hL := heap_alloc_new w1 (.cells #[.int .u8 xa, .int .i64 xb, .int .i64 xc] 140)
 have l0 := cells_row _ _ hL 0 _ rfl
 have l1 := cells_row _ _ hL 1 _ rfl
 have l2 := cells_row _ _ hL 2 _ rfl
 clear T hC1 hL HF0 HC0 HF1
 obtain ⟨ne, hne⟩ : ∃ x, headE g = x := ⟨_, rfl⟩
 rw [hne] at HC1 ⊢
 have HNE := Lib.hid hne
 clear hne
 by_cases h0 : ne = 0
 ·
  subst h0
  have hok := head_ok HNE.out
  have HC2 := Lib.hid ((HC1.out rfl).below 7 (below_alloc _ (.cells #[.int .u8 xa, .int .i64 xb, .int .i64 xc] 140)))
  clear HC1 l0 l1 l2
  go_wp2_with fail
  refine (gactors_any w _ _ (w.heap.size + 3) (w.heap.size + 2) _ chk0 g.actors RA.out HF2.out.kept (by simp [chk0]; omega) (by simp [chk0]; omega) (by simp [chk0]; omega) HSA.out HC2.out).mono ?_
  rintro e w3 ⟨⟨xa, xb, xc, rfl⟩, o3, vI, vO, T, hC3⟩
  have HC3 := Lib.hid hC3
  have HF3 := Lib.hid (HF2.out.turn T)
  have HF4 := Lib.hid (HF3.out.below 7 (below_alloc _ (.cells #[.int .u8 xa, .int .i64 xb, .int .i64 xc] 140)))
  have hL := heap_alloc_new w3 (.cells #[.int .u8 xa, .int .i64 xb, .int .i64 xc] 140)
  have l0 := cells_row _ _ hL 0 _ rfl
  have l1 := cells_row _ _ hL 1 _ rfl
  have l2 := cells_row _ _ hL 2 _ rfl
  clear T hC3 hL HF2 HC2 HF3
  obtain ⟨ne, hne⟩ : ∃ x, actorsE chk0 g.actors = x := ⟨_, rfl⟩
  rw [hne] at HC3 ⊢
  have HNA := Lib.hid hne
  clear hne
  by_cases h0 : ne = 0
  ·
   subst h0
   have HC4 : Hid (ChkAt _ _ (w.heap.size + 3) (w.heap.size + 2) _ (chk1 g)) := Lib.hid ((HC3.out rfl).below 7 (below_alloc _ (.cells #[.int .u8 xa, .int .i64 xb, .int .i64 xc] 140)))
   clear HC3 l0 l1 l2
   go_wp2_with fail
   refine (gedges_any w _ _ (w.heap.size + 3) (w.heap.size + 2) _ (chk1 g) g.edges RE.out HF4.out.kept (by omega) HC4.out).mono ?_
   rintro e w5 ⟨⟨xa, xb, xc, rfl⟩, o5, T, hC5⟩
   have HC5 := Lib.hid hC5
   have HF5 := Lib.hid (HF4.out.turn T)
   have HF6 := Lib.hid (HF5.out.below 7 (below_alloc _ (.cells #[.int .u8 xa, .int .i64 xb, .int .i64 xc] 140)))
   have hL := heap_alloc_new w5 (.cells #[.int .u8 xa, .int .i64 xb, .int .i64 xc] 140)
   have l0 := cells_row _ _ hL 0 _ rfl
   have l1 := cells_row _ _ hL 1 _ rfl
   have l2 := cells_row _ _ hL 2 _ rfl
   clear T hC5 hL HF4 HC4 HF5
   obtain ⟨ne, hne⟩ : ∃ x, edgesE (chk1 g) g.edges = x := ⟨_, rfl⟩
   rw [hne] at HC5 ⊢
   have HND := Lib.hid hne
   clear hne
   by_cases h0 : ne = 0
   ·
    subst h0
    have HC6 : Hid (ChkAt _ _ (w.heap.size + 3) (w.heap.size + 2) ⟨g.name, .slice a1 g.actors.length c1, .slice a2 g.edges.length c2, .slice a3 g.ins.length c3, .slice a4 g.outs.length c4, vI, vO⟩ (chk2 g)) := Lib.hid ((HC5.out rfl).below 7 (below_alloc _ (.cells #[.int .u8 xa, .int .i64 xb, .int .i64 xc] 140)))
    have y3 := HF6.out.gr.cell 3 _ rfl
    have y6 := HC6.out.cells.2.2.2.2.2.2.1
    clear HC5 l0 l1 l2
    go_wp2_with fail
    generalize w5.alloc (.cells #[.int .u8 xa, .int .i64 xb, .int .i64 xc] 140) = V at *
    generalize ext o5 w5.heap.size 7 = q6 at *
    have hlp : (chk2 g).seen.length + g.ins.length ≤ 1000000 := by have := seen2 g; omega
    refine wp_region_mid2 (fun w' => w'.cell? ⟨w.heap.size, 3, none⟩ = some (.slice a3 g.ins.length c3) ∧ w'.cell? ⟨w.heap.size + 3, 6, none⟩ = some vI) [0, 1, 2, 3, 4, 5, 6] 7 11 [8, 9, 10] [7] 2 (by kernel_rfl) (by kernel_rfl) rfl ⟨y3, y6⟩ ?_
    intro Q' hQ'
    simp only [pickOps, List.flatMap_cons, List.flatMap_nil, List.drop_succ_cons, List.drop_zero, List.take_succ_cons, List.take_zero, List.cons_append, List.nil_append, List.append_nil]
    repeat (first
     | (refine wpReads_skip (by rfl) ?_; (try simp only [Act.put, List.setIfInBounds_toArray, List.set_cons_zero, List.set_cons_succ]))
     | (refine wpReads_cons ?_ (by rfl) (by rfl) ?_ ?_; rotate_left; (intro wz hz; (try dsimp only at hz); go_simp; try with_reducible rfl); (try simp only [Act.put, List.setIfInBounds_toArray, List.set_cons_zero, List.set_cons_succ]))
     | (refine wpReads_any ?_ (by rfl) ?_ ?_; rotate_left; (intro wz; go_simp; try with_reducible rfl); (try simp only [Act.put, List.setIfInBounds_toArray, List.set_cons_zero, List.set_cons_succ])))
    refine wpReads_nil ?_
    refine ⟨?_, ?_⟩
    ·
     go_wp2_with fail
     refine (gports_in w _ _ (w.heap.size + 3) (w.heap.size + 2) ⟨g.name, .slice a1 g.actors.length c1, .slice a2 g.edges.length c2, .slice a3 g.ins.length c3, .slice a4 g.outs.length c4, vI, vO⟩ (chk2 g) _ g.ins 3 2 RI.out (HF6.out.kept.drewN 1) hlp HSI.out (HC6.out.drewN 1)).mono ?_
     rintro e w7 ⟨⟨xa, xb, xc, rfl⟩, o7, T, hC7⟩
     have T7 := ((Turn.refl _ ChkP _).drewN 1).trans T (fun _ h => h)
     have HF7 := Lib.hid (HF6.out.turn (T7.mono chkP_C))
     have HC7 := Lib.hid hC7
     have s3 := HF7.out.gr.cell 3 _ rfl
     have s6 := (HC6.out.kept67 T7 (by unfold ChkP; omega)).1
     clear T T7 hC7 HF6 HC6 y3 y6
     go_wp2
     refine ⟨⟨s3, s6⟩, ?_⟩
     repeat (first
      | (refine wpReads_skip (by rfl) ?_; (try simp only [Act.put, List.setIfInBounds_toArray, List.set_cons_zero, List.set_cons_succ]))
      | (refine wpReads_cons ?_ (by rfl) (by rfl) ?_ ?_; rotate_left; (intro wz hz; (try dsimp only at hz); go_simp; try with_reducible rfl); (try simp only [Act.put, List.setIfInBounds_toArray, List.set_cons_zero, List.set_cons_succ]))
      | (refine wpReads_any ?_ (by rfl) ?_ ?_; rotate_left; (intro wz; go_simp; try with_reducible rfl); (try simp only [Act.put, List.setIfInBounds_toArray, List.set_cons_zero, List.set_cons_succ])))
     refine wpReads_nil ?_
     refine wpAnyT_list (ks := [11, 12, 13]) (fun _ _ hx h => ⟨hx.cell h.1, hx.cell h.2⟩) (by kernel_rfl) ?_
     simp only [pickOps, List.flatMap_cons, List.flatMap_nil, List.drop_succ_cons, List.drop_zero, List.take_succ_cons, List.take_zero, List.cons_append, List.nil_append, List.append_nil]
     have HF8 := Lib.hid (HF7.out.below 8 (below_alloc _ (.cells #[.int .u8 xa, .int .i64 xb, .int .i64 xc] 140)))
     have hL := heap_alloc_new w7 (.cells #[.int .u8 xa, .int .i64 xb, .int .i64 xc] 140)
     have l0 := cells_row _ _ hL 0 _ rfl
     have l1 := cells_row _ _ hL 1 _ rfl
     have l2 := cells_row _ _ hL 2 _ rfl
     clear hL HF7 s3 s6
     obtain ⟨ne, hne⟩ : ∃ x, portsE (chk2 g).seen (chk2 g).ins g.ins = x := ⟨_, rfl⟩
     rw [hne] at HC7 ⊢
     have HEX := Lib.hid (HE.out.symm.trans (check_tail HNE.out HNA.out HND.out)).symm
     rw [hne] at HEX
     clear hne
     by_cases h0 : ne = 0
     ·
      subst h0
      rw [if_neg (by simp)] at HEX
      have HC8 := Lib.hid ((HC7.out rfl).below 8 (below_alloc _ (.cells #[.int .u8 xa, .int .i64 xb, .int .i64 xc] 140)))
      clear HC7 l0 l1 l2
      go_wp2_with fail
      generalize w7.alloc (.cells #[.int .u8 xa, .int .i64 xb, .int .i64 xc] 140) = W8 at *
      generalize ext o7 w7.heap.size 8 = q8 at *
      have y4 := HF8.out.gr.cell 4 _ rfl
      have y7 := HC8.out.cells.2.2.2.2.2.2.2
      have hlq : (portsN (chk2 g).seen g.ins).length + g.outs.length ≤ 1000000 := by have := seen2 g; simp [portsN]; omega
      refine wp_region_mid2 (fun w' => w'.cell? ⟨w.heap.size, 4, none⟩ = some (.slice a4 g.outs.length c4) ∧ w'.cell? ⟨w.heap.size + 3, 7, none⟩ = some vO) [0, 1, 2, 3, 4, 5, 6] 7 11 [8, 9, 10] [7] 2 (by kernel_rfl) (by kernel_rfl) rfl ⟨y4, y7⟩ ?_
      intro Q' hQ'
      simp only [pickOps, List.flatMap_cons, List.flatMap_nil, List.drop_succ_cons, List.drop_zero, List.take_succ_cons, List.take_zero, List.cons_append, List.nil_append, List.append_nil]
      repeat (first
       | (refine wpReads_skip (by rfl) ?_; (try simp only [Act.put, List.setIfInBounds_toArray, List.set_cons_zero, List.set_cons_succ]))
       | (refine wpReads_cons ?_ (by rfl) (by rfl) ?_ ?_; rotate_left; (intro wz hz; (try dsimp only at hz); go_simp; try with_reducible rfl); (try simp only [Act.put, List.setIfInBounds_toArray, List.set_cons_zero, List.set_cons_succ]))
       | (refine wpReads_any ?_ (by rfl) ?_ ?_; rotate_left; (intro wz; go_simp; try with_reducible rfl); (try simp only [Act.put, List.setIfInBounds_toArray, List.set_cons_zero, List.set_cons_succ])))
      refine wpReads_nil ?_
      refine ⟨?_, ?_⟩
      ·
       go_wp2_with fail
       refine (gports_out w _ _ (w.heap.size + 3) (w.heap.size + 2) ⟨g.name, .slice a1 g.actors.length c1, .slice a2 g.edges.length c2, .slice a3 g.ins.length c3, .slice a4 g.outs.length c4, vI, vO⟩ ⟨portsN (chk2 g).seen g.ins, portsS (chk2 g).ins g.ins, (chk2 g).outs⟩ _ g.outs 4 1 RO.out (HF8.out.kept.drewN 1) hlq HSO.out (HC8.out.drewN 1)).mono ?_
       rintro e w7 ⟨⟨xa, xb, xc, rfl⟩, o7, T, hC7⟩
       have T7 := ((Turn.refl _ ChkP _).drewN 1).trans T (fun _ h => h)
       have HF7 := Lib.hid (HF8.out.turn (T7.mono chkP_C))
       have HC7 := Lib.hid hC7
       have s3 := HF7.out.gr.cell 4 _ rfl
       have s6 := (HC8.out.kept67 T7 (by unfold ChkP; omega)).2
       clear T T7 hC7 HF8 HC8 y4 y7
       go_wp2
       refine ⟨⟨s3, s6⟩, ?_⟩
       repeat (first
        | (refine wpReads_skip (by rfl) ?_; (try simp only [Act.put, List.setIfInBounds_toArray, List.set_cons_zero, List.set_cons_succ]))
        | (refine wpReads_cons ?_ (by rfl) (by rfl) ?_ ?_; rotate_left; (intro wz hz; (try dsimp only at hz); go_simp; try with_reducible rfl); (try simp only [Act.put, List.setIfInBounds_toArray, List.set_cons_zero, List.set_cons_succ]))
        | (refine wpReads_any ?_ (by rfl) ?_ ?_; rotate_left; (intro wz; go_simp; try with_reducible rfl); (try simp only [Act.put, List.setIfInBounds_toArray, List.set_cons_zero, List.set_cons_succ])))
       refine wpReads_nil ?_
       refine wpAnyT_list (ks := [11, 12, 13]) (fun _ _ hx h => ⟨hx.cell h.1, hx.cell h.2⟩) (by kernel_rfl) ?_
       simp only [pickOps, List.flatMap_cons, List.flatMap_nil, List.drop_succ_cons, List.drop_zero, List.take_succ_cons, List.take_zero, List.cons_append, List.nil_append, List.append_nil]
       have HF8 := Lib.hid (HF7.out.below 8 (below_alloc _ (.cells #[.int .u8 xa, .int .i64 xb, .int .i64 xc] 140)))
       have hL := heap_alloc_new w7 (.cells #[.int .u8 xa, .int .i64 xb, .int .i64 xc] 140)
       have l0 := cells_row _ _ hL 0 _ rfl
       have l1 := cells_row _ _ hL 1 _ rfl
       have l2 := cells_row _ _ hL 2 _ rfl
       clear hL HF7 s3 s6
       obtain ⟨ne, hne⟩ : ∃ x, portsE (portsN (chk2 g).seen g.ins) (chk2 g).outs g.outs = x := ⟨_, rfl⟩
       rw [show portsE (Chk.seen ⟨portsN (chk2 g).seen g.ins, portsS (chk2 g).ins g.ins, (chk2 g).outs⟩) (Chk.outs ⟨portsN (chk2 g).seen g.ins, portsS (chk2 g).ins g.ins, (chk2 g).outs⟩) g.outs = ne from hne] at HC7 ⊢
       rw [hne] at HEX
       clear hne
       by_cases h0 : ne = 0
       ·
        subst h0
        have HC8 := Lib.hid ((HC7.out rfl).below 8 (below_alloc _ (.cells #[.int .u8 xa, .int .i64 xb, .int .i64 xc] 140)))
        clear HC7 l0 l1 l2
        go_wp2_with fail
        generalize w7.alloc (.cells #[.int .u8 xa, .int .i64 xb, .int .i64 xc] 140) = W8 at *
        generalize ext o7 w7.heap.size 8 = q8 at *
        rw [if_neg (by simp)] at HEX
        have hRI := actorsE_rows g.actors chk0 HNA.out (rowsLe_nil 16) (rowsLe_nil 16)
        have hRE := edgesC_rows g.edges (m := 16) (chk1 g) hRI.1 hRI.2
        have hR1 : RowsLe (portsS (chk2 g).ins g.ins) 16 := portsS_rows _ _ hRE.1
        have hR2 : RowsLe (portsS (chk2 g).outs g.outs) 16 := portsS_rows _ _ hRE.2
        have hl1 : (portsS (chk2 g).ins g.ins).length = g.actors.length := by rw [portsS_len, chk2, (edgesC_len _ _).1, chk1, (actorsC_rows _ _).1]; simp [chk0]
        have hl2 : (portsS (chk2 g).outs g.outs).length = g.actors.length := by rw [portsS_len, chk2, (edgesC_len _ _).2.1, chk1, (actorsC_rows _ _).2]; simp [chk0]
        refine (gopen_any _ _ (w.heap.size + 3) (w.heap.size + 2) _ _ a1 g.actors.length c1 rfl hl1 hl2 (by omega) (fun r => ⟨Nat.le_trans (hR1 r) (by omega), Nat.le_trans (hR2 r) (by omega)⟩) HC8.out).mono ?_
        rintro e w11 ⟨⟨xa, xb, xc, rfl⟩, o11, T, _⟩
        have HF11 := Lib.hid (HF8.out.turn T)
        have HSPR := Lib.hid HF11.out.sp
        have e : E = openE (portsS (chk2 g).ins g.ins) (portsS (chk2 g).outs g.outs) := HEX.out.symm
        clear T hRI hRE hR1 hR2 hl1 hl2
        subst e
        have z0 := HSPR.out.cell 0 _ rfl
        have z1 := HSPR.out.cell 1 _ rfl
        have z2 := HSPR.out.cell 2 _ rfl
        have f0 := HSPR.out.frozen 0
        have f1 := HSPR.out.frozen 1
        have f2 := HSPR.out.frozen 2
        go_wp2
        refine bodyPost_ret_by (results_tmp_row rfl _ _ _ _ _ _ _ rfl (spot_set HSPR.out) Try.underlying140 rfl (by kernel_rfl)) rfl ?_
        exact ⟨⟨_, _, _, rfl⟩, HF11.out.ret _ _ _⟩
       ·
        have e : E = ne := by rw [← HEX.out, if_pos h0]
        subst e
        go_wp2_with fail
        refine wp_region_lex (fun w' => w'.cell? ⟨w7.heap.size, 0, none⟩ = some (.int .u8 xa) ∧ w'.cell? ⟨w7.heap.size, 1, none⟩ = some (.int .i64 xb) ∧ w'.cell? ⟨w7.heap.size, 2, none⟩ = some (.int .i64 xc)) [0, 1, 2] [3] (by kernel_rfl) (by kernel_rfl) rfl (fun _ _ hx h => ⟨hx.cell h.1, hx.cell h.2.1, hx.cell h.2.2⟩) ⟨l0, l1, l2⟩ ?_
        intro Q' hQ'
        simp only [pickOps, List.flatMap_cons, List.flatMap_nil, List.drop_succ_cons, List.drop_zero, List.take_succ_cons, List.take_zero, List.cons_append, List.nil_append, List.append_nil]
        repeat (first
         | (refine wpReads_skip (by rfl) ?_; (try simp only [Act.put, List.setIfInBounds_toArray, List.set_cons_zero, List.set_cons_succ]))
         | (refine wpReads_cons ?_ (by rfl) (by rfl) ?_ ?_; rotate_left; (intro wz hz; (try dsimp only at hz); go_simp; try with_reducible rfl); (try simp only [Act.put, List.setIfInBounds_toArray, List.set_cons_zero, List.set_cons_succ]))
         | (refine wpReads_any ?_ (by rfl) ?_ ?_; rotate_left; (intro wz; go_simp; try with_reducible rfl); (try simp only [Act.put, List.setIfInBounds_toArray, List.set_cons_zero, List.set_cons_succ])))
        refine wpReads_nil ?_
        have HSPR := Lib.hid HF8.out.sp
        have z0 := HSPR.out.cell 0 _ rfl
        have z1 := HSPR.out.cell 1 _ rfl
        have z2 := HSPR.out.cell 2 _ rfl
        have f0 := HSPR.out.frozen 0
        have f1 := HSPR.out.frozen 1
        have f2 := HSPR.out.frozen 2
        go_wp2
        refine bodyPost_ret_by (results_tmp_row rfl _ _ _ _ _ _ _ rfl (spot_setd HSPR.out) Try.underlying140 rfl (by kernel_rfl)) rfl ?_
        exact ⟨⟨_, _, _, rfl⟩, below_dr (n := 1) (HF8.out.ret _ _ _)⟩
      ·
       go_wp2
       have hbL := below_alloc W8 (.cells #[.int .u8 0, .int .i64 0, .int .i64 0] 140)
       have HFb := Lib.hid (HF8.out.below 8 hbL)
       have HCb := Lib.hid (HC8.out.below 8 hbL)
       have HLb : Hid (Blk (W8.alloc (.cells #[.int .u8 0, .int .i64 0, .int .i64 0] 140)) (ext q8 W8.heap.size 8) 8 W8.heap.size 140 #[.int .u8 0, .int .i64 0, .int .i64 0]) := Lib.hid ⟨heap_alloc_new _ _, ext_new (Nat.le_refl _)⟩
       refine ⟨⟨ca y4, ca y7⟩, ?_⟩
       clear hbL HF8 HC8 y4 y7
       go_wp2_with fail
       refine (gports_out w _ _ (w.heap.size + 3) (w.heap.size + 2) ⟨g.name, .slice a1 g.actors.length c1, .slice a2 g.edges.length c2, .slice a3 g.ins.length c3, .slice a4 g.outs.length c4, vI, vO⟩ ⟨portsN (chk2 g).seen g.ins, portsS (chk2 g).ins g.ins, (chk2 g).outs⟩ _ g.outs 4 1 RO.out (HFb.out.kept.drewN 1) hlq HSO.out (HCb.out.drewN 1)).mono ?_
       rintro e w7 ⟨⟨xa, xb, xc, rfl⟩, o7, T, hC7⟩
       have T7 := ((Turn.refl _ ChkP _).drewN 1).trans T (fun _ h => h)
       have HF7 := Lib.hid (HFb.out.turn (T7.mono chkP_C))
       have HC7 := Lib.hid hC7
       have HL7 := Lib.hid (HLb.out.turn T7 (by unfold ChkP; omega))
       have s3 := HF7.out.gr.cell 4 _ rfl
       have s6 := (HCb.out.kept67 T7 (by unfold ChkP; omega)).2
       clear T T7 hC7 HFb HCb HLb
       go_wp2
       refine ⟨⟨s3, s6⟩, ?_⟩
       repeat (first
        | (refine wpReads_skip (by rfl) ?_; (try simp only [Act.put, List.setIfInBounds_toArray, List.set_cons_zero, List.set_cons_succ]))
        | (refine wpReads_cons ?_ (by rfl) (by rfl) ?_ ?_; rotate_left; (intro wz hz; (try dsimp only at hz); go_simp; try with_reducible rfl); (try simp only [Act.put, List.setIfInBounds_toArray, List.set_cons_zero, List.set_cons_succ]))
        | (refine wpReads_any ?_ (by rfl) ?_ ?_; rotate_left; (intro wz; go_simp; try with_reducible rfl); (try simp only [Act.put, List.setIfInBounds_toArray, List.set_cons_zero, List.set_cons_succ])))
       refine wpReads_nil ?_
       refine wpAnyT_list (ks := [12, 13]) (fun _ _ hx h => ⟨hx.cell h.1, hx.cell h.2⟩) (by kernel_rfl) ?_
       simp only [pickOps, List.flatMap_cons, List.flatMap_nil, List.drop_succ_cons, List.drop_zero, List.take_succ_cons, List.take_zero, List.cons_append, List.nil_append, List.append_nil]
       generalize W8.heap.size = L at *
       have TS := spot_turn HL7.out (.int .u8 xa) (.int .i64 xb) (.int .i64 xc)
       have HF8 := Lib.hid (HF7.out.turnC TS (by decide) (by decide))
       have hL := spot8_set (a := xa) (b := xb) (c := xc) HL7.out
       have l0 := cells_row _ _ hL 0 _ rfl
       have l1 := cells_row _ _ hL 1 _ rfl
       have l2 := cells_row _ _ hL 2 _ rfl
       have k0 := HL7.out.cell 0 _ rfl
       have k1 := HL7.out.cell 1 _ rfl
       have k2 := HL7.out.cell 2 _ rfl
       have kf0 := HL7.out.frozen 0
       have kf1 := HL7.out.frozen 1
       have kf2 := HL7.out.frozen 2
       have HTS := Lib.hid TS
       clear hL HF7 s3 s6 TS
       obtain ⟨ne, hne⟩ : ∃ x, portsE (portsN (chk2 g).seen g.ins) (chk2 g).outs g.outs = x := ⟨_, rfl⟩
       rw [show portsE (Chk.seen ⟨portsN (chk2 g).seen g.ins, portsS (chk2 g).ins g.ins, (chk2 g).outs⟩) (Chk.outs ⟨portsN (chk2 g).seen g.ins, portsS (chk2 g).ins g.ins, (chk2 g).outs⟩) g.outs = ne from hne] at HC7 ⊢
       rw [hne] at HEX
       clear hne
       by_cases h0 : ne = 0
       ·
        subst h0
        have HC8 := Lib.hid ((HC7.out rfl).turn HTS.out (fun x hx e => by subst e; unfold ChkC at hx; omega))
        clear HC7 l0 l1 l2 HTS HL7
        go_wp2_with fail
        clear k0 k1 k2 kf0 kf1 kf2
        generalize ((w7.setCell ⟨L, 0, none⟩ (.int .u8 xa)).setCell ⟨L, 1, none⟩ (.int .i64 xb)).setCell ⟨L, 2, none⟩ (.int .i64 xc) = W8 at *
        generalize ext o7 w7.heap.size 8 = q8 at *
        rw [if_neg (by simp)] at HEX
        have hRI := actorsE_rows g.actors chk0 HNA.out (rowsLe_nil 16) (rowsLe_nil 16)
        have hRE := edgesC_rows g.edges (m := 16) (chk1 g) hRI.1 hRI.2
        have hR1 : RowsLe (portsS (chk2 g).ins g.ins) 16 := portsS_rows _ _ hRE.1
        have hR2 : RowsLe (portsS (chk2 g).outs g.outs) 16 := portsS_rows _ _ hRE.2
        have hl1 : (portsS (chk2 g).ins g.ins).length = g.actors.length := by rw [portsS_len, chk2, (edgesC_len _ _).1, chk1, (actorsC_rows _ _).1]; simp [chk0]
        have hl2 : (portsS (chk2 g).outs g.outs).length = g.actors.length := by rw [portsS_len, chk2, (edgesC_len _ _).2.1, chk1, (actorsC_rows _ _).2]; simp [chk0]
        refine (gopen_any _ _ (w.heap.size + 3) (w.heap.size + 2) _ _ a1 g.actors.length c1 rfl hl1 hl2 (by omega) (fun r => ⟨Nat.le_trans (hR1 r) (by omega), Nat.le_trans (hR2 r) (by omega)⟩) HC8.out).mono ?_
        rintro e w11 ⟨⟨xa, xb, xc, rfl⟩, o11, T, _⟩
        have HF11 := Lib.hid (HF8.out.turn T)
        have HSPR := Lib.hid HF11.out.sp
        have e : E = openE (portsS (chk2 g).ins g.ins) (portsS (chk2 g).outs g.outs) := HEX.out.symm
        clear T hRI hRE hR1 hR2 hl1 hl2
        subst e
        have z0 := HSPR.out.cell 0 _ rfl
        have z1 := HSPR.out.cell 1 _ rfl
        have z2 := HSPR.out.cell 2 _ rfl
        have f0 := HSPR.out.frozen 0
        have f1 := HSPR.out.frozen 1
        have f2 := HSPR.out.frozen 2
        go_wp2
        refine bodyPost_ret_by (results_tmp_row rfl _ _ _ _ _ _ _ rfl (spot_set HSPR.out) Try.underlying140 rfl (by kernel_rfl)) rfl ?_
        exact ⟨⟨_, _, _, rfl⟩, HF11.out.ret _ _ _⟩
       ·
        have e : E = ne := by rw [← HEX.out, if_pos h0]
        subst e
        go_wp2_with fail
        refine wp_region_lex (fun w' => w'.cell? ⟨L, 0, none⟩ = some (.int .u8 xa) ∧ w'.cell? ⟨L, 1, none⟩ = some (.int .i64 xb) ∧ w'.cell? ⟨L, 2, none⟩ = some (.int .i64 xc)) [0, 1, 2] [3] (by kernel_rfl) (by kernel_rfl) rfl (fun _ _ hx h => ⟨hx.cell h.1, hx.cell h.2.1, hx.cell h.2.2⟩) ⟨l0, l1, l2⟩ ?_
        intro Q' hQ'
        simp only [pickOps, List.flatMap_cons, List.flatMap_nil, List.drop_succ_cons, List.drop_zero, List.take_succ_cons, List.take_zero, List.cons_append, List.nil_append, List.append_nil]
        repeat (first
         | (refine wpReads_skip (by rfl) ?_; (try simp only [Act.put, List.setIfInBounds_toArray, List.set_cons_zero, List.set_cons_succ]))
         | (refine wpReads_cons ?_ (by rfl) (by rfl) ?_ ?_; rotate_left; (intro wz hz; (try dsimp only at hz); go_simp; try with_reducible rfl); (try simp only [Act.put, List.setIfInBounds_toArray, List.set_cons_zero, List.set_cons_succ]))
         | (refine wpReads_any ?_ (by rfl) ?_ ?_; rotate_left; (intro wz; go_simp; try with_reducible rfl); (try simp only [Act.put, List.setIfInBounds_toArray, List.set_cons_zero, List.set_cons_succ])))
        refine wpReads_nil ?_
        have HSPR := Lib.hid HF8.out.sp
        have z0 := HSPR.out.cell 0 _ rfl
        have z1 := HSPR.out.cell 1 _ rfl
        have z2 := HSPR.out.cell 2 _ rfl
        have f0 := HSPR.out.frozen 0
        have f1 := HSPR.out.frozen 1
        have f2 := HSPR.out.frozen 2
        go_wp2
        refine bodyPost_ret_by (results_tmp_row rfl _ _ _ _ _ _ _ rfl (spot_setd HSPR.out) Try.underlying140 rfl (by kernel_rfl)) rfl ?_
        exact ⟨⟨_, _, _, rfl⟩, below_dr (n := 1) (HF8.out.ret _ _ _)⟩
     ·
      have e : E = ne := by rw [← HEX.out, if_pos h0]
      subst e
      go_wp2_with fail
      refine wp_region_lex (fun w' => w'.cell? ⟨w7.heap.size, 0, none⟩ = some (.int .u8 xa) ∧ w'.cell? ⟨w7.heap.size, 1, none⟩ = some (.int .i64 xb) ∧ w'.cell? ⟨w7.heap.size, 2, none⟩ = some (.int .i64 xc)) [0, 1, 2] [3] (by kernel_rfl) (by kernel_rfl) rfl (fun _ _ hx h => ⟨hx.cell h.1, hx.cell h.2.1, hx.cell h.2.2⟩) ⟨l0, l1, l2⟩ ?_
      intro Q' hQ'
      simp only [pickOps, List.flatMap_cons, List.flatMap_nil, List.drop_succ_cons, List.drop_zero, List.take_succ_cons, List.take_zero, List.cons_append, List.nil_append, List.append_nil]
      repeat (first
       | (refine wpReads_skip (by rfl) ?_; (try simp only [Act.put, List.setIfInBounds_toArray, List.set_cons_zero, List.set_cons_succ]))
       | (refine wpReads_cons ?_ (by rfl) (by rfl) ?_ ?_; rotate_left; (intro wz hz; (try dsimp only at hz); go_simp; try with_reducible rfl); (try simp only [Act.put, List.setIfInBounds_toArray, List.set_cons_zero, List.set_cons_succ]))
       | (refine wpReads_any ?_ (by rfl) ?_ ?_; rotate_left; (intro wz; go_simp; try with_reducible rfl); (try simp only [Act.put, List.setIfInBounds_toArray, List.set_cons_zero, List.set_cons_succ])))
      refine wpReads_nil ?_
      have HSPR := Lib.hid HF8.out.sp
      have z0 := HSPR.out.cell 0 _ rfl
      have z1 := HSPR.out.cell 1 _ rfl
      have z2 := HSPR.out.cell 2 _ rfl
      have f0 := HSPR.out.frozen 0
      have f1 := HSPR.out.frozen 1
      have f2 := HSPR.out.frozen 2
      go_wp2
      refine bodyPost_ret_by (results_tmp_row rfl _ _ _ _ _ _ _ rfl (spot_setd HSPR.out) Try.underlying140 rfl (by kernel_rfl)) rfl ?_
      exact ⟨⟨_, _, _, rfl⟩, below_dr (n := 1) (HF8.out.ret _ _ _)⟩
    ·
     go_wp2
     have hbL := below_alloc V (.cells #[.int .u8 0, .int .i64 0, .int .i64 0] 140)
     have HFb := Lib.hid (HF6.out.below 8 hbL)
     have HCb := Lib.hid (HC6.out.below 8 hbL)
     have HLb : Hid (Blk (V.alloc (.cells #[.int .u8 0, .int .i64 0, .int .i64 0] 140)) (ext q6 V.heap.size 8) 8 V.heap.size 140 #[.int .u8 0, .int .i64 0, .int .i64 0]) := Lib.hid ⟨heap_alloc_new _ _, ext_new (Nat.le_refl _)⟩
     refine ⟨⟨ca y3, ca y6⟩, ?_⟩
     clear hbL HF6 HC6 y3 y6
     go_wp2_with fail
     refine (gports_in w _ _ (w.heap.size + 3) (w.heap.size + 2) ⟨g.name, .slice a1 g.actors.length c1, .slice a2 g.edges.length c2, .slice a3 g.ins.length c3, .slice a4 g.outs.length c4, vI, vO⟩ (chk2 g) _ g.ins 3 2 RI.out (HFb.out.kept.drewN 1) hlp HSI.out (HCb.out.drewN 1)).mono ?_
     rintro e w7 ⟨⟨xa, xb, xc, rfl⟩, o7, T, hC7⟩
     have T7 := ((Turn.refl _ ChkP _).drewN 1).trans T (fun _ h => h)
     have HF7 := Lib.hid (HFb.out.turn (T7.mono chkP_C))
     have HC7 := Lib.hid hC7
     have HL7 := Lib.hid (HLb.out.turn T7 (by unfold ChkP; omega))
     have s3 := HF7.out.gr.cell 3 _ rfl
     have s6 := (HCb.out.kept67 T7 (by unfold ChkP; omega)).1
     clear T T7 hC7 HFb HCb HLb
     go_wp2
     refine ⟨⟨s3, s6⟩, ?_⟩
     repeat (first
      | (refine wpReads_skip (by rfl) ?_; (try simp only [Act.put, List.setIfInBounds_toArray, List.set_cons_zero, List.set_cons_succ]))
      | (refine wpReads_cons ?_ (by rfl) (by rfl) ?_ ?_; rotate_left; (intro wz hz; (try dsimp only at hz); go_simp; try with_reducible rfl); (try simp only [Act.put, List.setIfInBounds_toArray, List.set_cons_zero, List.set_cons_succ]))
      | (refine wpReads_any ?_ (by rfl) ?_ ?_; rotate_left; (intro wz; go_simp; try with_reducible rfl); (try simp only [Act.put, List.setIfInBounds_toArray, List.set_cons_zero, List.set_cons_succ])))
     refine wpReads_nil ?_
     refine wpAnyT_list (ks := [12, 13]) (fun _ _ hx h => ⟨hx.cell h.1, hx.cell h.2⟩) (by kernel_rfl) ?_
     simp only [pickOps, List.flatMap_cons, List.flatMap_nil, List.drop_succ_cons, List.drop_zero, List.take_succ_cons, List.take_zero, List.cons_append, List.nil_append, List.append_nil]
     generalize V.heap.size = L at *
     have TS := spot_turn HL7.out (.int .u8 xa) (.int .i64 xb) (.int .i64 xc)
     have HF8 := Lib.hid (HF7.out.turnC TS (by decide) (by decide))
     have hL := spot8_set (a := xa) (b := xb) (c := xc) HL7.out
     have l0 := cells_row _ _ hL 0 _ rfl
     have l1 := cells_row _ _ hL 1 _ rfl
     have l2 := cells_row _ _ hL 2 _ rfl
     have k0 := HL7.out.cell 0 _ rfl
     have k1 := HL7.out.cell 1 _ rfl
     have k2 := HL7.out.cell 2 _ rfl
     have kf0 := HL7.out.frozen 0
     have kf1 := HL7.out.frozen 1
     have kf2 := HL7.out.frozen 2
     have HTS := Lib.hid TS
     clear hL HF7 s3 s6 TS
     obtain ⟨ne, hne⟩ : ∃ x, portsE (chk2 g).seen (chk2 g).ins g.ins = x := ⟨_, rfl⟩
     rw [hne] at HC7 ⊢
     have HEX := Lib.hid (HE.out.symm.trans (check_tail HNE.out HNA.out HND.out)).symm
     rw [hne] at HEX
     clear hne
     by_cases h0 : ne = 0
     ·
      subst h0
      rw [if_neg (by simp)] at HEX
      have HC8 := Lib.hid ((HC7.out rfl).turn HTS.out (fun x hx e => by subst e; unfold ChkC at hx; omega))
      clear HC7 l0 l1 l2 HTS HL7
      go_wp2_with fail
      clear k0 k1 k2 kf0 kf1 kf2
      generalize ((w7.setCell ⟨L, 0, none⟩ (.int .u8 xa)).setCell ⟨L, 1, none⟩ (.int .i64 xb)).setCell ⟨L, 2, none⟩ (.int .i64 xc) = W8 at *
      generalize ext o7 w7.heap.size 8 = q8 at *
      have y4 := HF8.out.gr.cell 4 _ rfl
      have y7 := HC8.out.cells.2.2.2.2.2.2.2
      have hlq : (portsN (chk2 g).seen g.ins).length + g.outs.length ≤ 1000000 := by have := seen2 g; simp [portsN]; omega
      refine wp_region_mid2 (fun w' => w'.cell? ⟨w.heap.size, 4, none⟩ = some (.slice a4 g.outs.length c4) ∧ w'.cell? ⟨w.heap.size + 3, 7, none⟩ = some vO) [0, 1, 2, 3, 4, 5, 6] 7 11 [8, 9, 10] [7] 2 (by kernel_rfl) (by kernel_rfl) rfl ⟨y4, y7⟩ ?_
      intro Q' hQ'
      simp only [pickOps, List.flatMap_cons, List.flatMap_nil, List.drop_succ_cons, List.drop_zero, List.take_succ_cons, List.take_zero, List.cons_append, List.nil_append, List.append_nil]
      repeat (first
       | (refine wpReads_skip (by rfl) ?_; (try simp only [Act.put, List.setIfInBounds_toArray, List.set_cons_zero, List.set_cons_succ]))
       | (refine wpReads_cons ?_ (by rfl) (by rfl) ?_ ?_; rotate_left; (intro wz hz; (try dsimp only at hz); go_simp; try with_reducible rfl); (try simp only [Act.put, List.setIfInBounds_toArray, List.set_cons_zero, List.set_cons_succ]))
       | (refine wpReads_any ?_ (by rfl) ?_ ?_; rotate_left; (intro wz; go_simp; try with_reducible rfl); (try simp only [Act.put, List.setIfInBounds_toArray, List.set_cons_zero, List.set_cons_succ])))
      refine wpReads_nil ?_
      refine ⟨?_, ?_⟩
      ·
       go_wp2_with fail
       refine (gports_out w _ _ (w.heap.size + 3) (w.heap.size + 2) ⟨g.name, .slice a1 g.actors.length c1, .slice a2 g.edges.length c2, .slice a3 g.ins.length c3, .slice a4 g.outs.length c4, vI, vO⟩ ⟨portsN (chk2 g).seen g.ins, portsS (chk2 g).ins g.ins, (chk2 g).outs⟩ _ g.outs 4 1 RO.out (HF8.out.kept.drewN 1) hlq HSO.out (HC8.out.drewN 1)).mono ?_
       rintro e w7 ⟨⟨xa, xb, xc, rfl⟩, o7, T, hC7⟩
       have T7 := ((Turn.refl _ ChkP _).drewN 1).trans T (fun _ h => h)
       have HF7 := Lib.hid (HF8.out.turn (T7.mono chkP_C))
       have HC7 := Lib.hid hC7
       have s3 := HF7.out.gr.cell 4 _ rfl
       have s6 := (HC8.out.kept67 T7 (by unfold ChkP; omega)).2
       clear T T7 hC7 HF8 HC8 y4 y7
       go_wp2
       refine ⟨⟨s3, s6⟩, ?_⟩
       repeat (first
        | (refine wpReads_skip (by rfl) ?_; (try simp only [Act.put, List.setIfInBounds_toArray, List.set_cons_zero, List.set_cons_succ]))
        | (refine wpReads_cons ?_ (by rfl) (by rfl) ?_ ?_; rotate_left; (intro wz hz; (try dsimp only at hz); go_simp; try with_reducible rfl); (try simp only [Act.put, List.setIfInBounds_toArray, List.set_cons_zero, List.set_cons_succ]))
        | (refine wpReads_any ?_ (by rfl) ?_ ?_; rotate_left; (intro wz; go_simp; try with_reducible rfl); (try simp only [Act.put, List.setIfInBounds_toArray, List.set_cons_zero, List.set_cons_succ])))
       refine wpReads_nil ?_
       refine wpAnyT_list (ks := [11, 12, 13]) (fun _ _ hx h => ⟨hx.cell h.1, hx.cell h.2⟩) (by kernel_rfl) ?_
       simp only [pickOps, List.flatMap_cons, List.flatMap_nil, List.drop_succ_cons, List.drop_zero, List.take_succ_cons, List.take_zero, List.cons_append, List.nil_append, List.append_nil]
       have HF8 := Lib.hid (HF7.out.below 8 (below_alloc _ (.cells #[.int .u8 xa, .int .i64 xb, .int .i64 xc] 140)))
       have hL := heap_alloc_new w7 (.cells #[.int .u8 xa, .int .i64 xb, .int .i64 xc] 140)
       have l0 := cells_row _ _ hL 0 _ rfl
       have l1 := cells_row _ _ hL 1 _ rfl
       have l2 := cells_row _ _ hL 2 _ rfl
       clear hL HF7 s3 s6
       obtain ⟨ne, hne⟩ : ∃ x, portsE (portsN (chk2 g).seen g.ins) (chk2 g).outs g.outs = x := ⟨_, rfl⟩
       rw [show portsE (Chk.seen ⟨portsN (chk2 g).seen g.ins, portsS (chk2 g).ins g.ins, (chk2 g).outs⟩) (Chk.outs ⟨portsN (chk2 g).seen g.ins, portsS (chk2 g).ins g.ins, (chk2 g).outs⟩) g.outs = ne from hne] at HC7 ⊢
       rw [hne] at HEX
       clear hne
       by_cases h0 : ne = 0
       ·
        subst h0
        have HC8 := Lib.hid ((HC7.out rfl).below 8 (below_alloc _ (.cells #[.int .u8 xa, .int .i64 xb, .int .i64 xc] 140)))
        clear HC7 l0 l1 l2
        go_wp2_with fail
        generalize w7.alloc (.cells #[.int .u8 xa, .int .i64 xb, .int .i64 xc] 140) = W8 at *
        generalize ext o7 w7.heap.size 8 = q8 at *
        rw [if_neg (by simp)] at HEX
        have hRI := actorsE_rows g.actors chk0 HNA.out (rowsLe_nil 16) (rowsLe_nil 16)
        have hRE := edgesC_rows g.edges (m := 16) (chk1 g) hRI.1 hRI.2
        have hR1 : RowsLe (portsS (chk2 g).ins g.ins) 16 := portsS_rows _ _ hRE.1
        have hR2 : RowsLe (portsS (chk2 g).outs g.outs) 16 := portsS_rows _ _ hRE.2
        have hl1 : (portsS (chk2 g).ins g.ins).length = g.actors.length := by rw [portsS_len, chk2, (edgesC_len _ _).1, chk1, (actorsC_rows _ _).1]; simp [chk0]
        have hl2 : (portsS (chk2 g).outs g.outs).length = g.actors.length := by rw [portsS_len, chk2, (edgesC_len _ _).2.1, chk1, (actorsC_rows _ _).2]; simp [chk0]
        refine (gopen_any _ _ (w.heap.size + 3) (w.heap.size + 2) _ _ a1 g.actors.length c1 rfl hl1 hl2 (by omega) (fun r => ⟨Nat.le_trans (hR1 r) (by omega), Nat.le_trans (hR2 r) (by omega)⟩) HC8.out).mono ?_
        rintro e w11 ⟨⟨xa, xb, xc, rfl⟩, o11, T, _⟩
        have HF11 := Lib.hid (HF8.out.turn T)
        have HSPR := Lib.hid HF11.out.sp
        have e : E = openE (portsS (chk2 g).ins g.ins) (portsS (chk2 g).outs g.outs) := HEX.out.symm
        clear T hRI hRE hR1 hR2 hl1 hl2
        subst e
        have z0 := HSPR.out.cell 0 _ rfl
        have z1 := HSPR.out.cell 1 _ rfl
        have z2 := HSPR.out.cell 2 _ rfl
        have f0 := HSPR.out.frozen 0
        have f1 := HSPR.out.frozen 1
        have f2 := HSPR.out.frozen 2
        go_wp2
        refine bodyPost_ret_by (results_tmp_row rfl _ _ _ _ _ _ _ rfl (spot_set HSPR.out) Try.underlying140 rfl (by kernel_rfl)) rfl ?_
        exact ⟨⟨_, _, _, rfl⟩, HF11.out.ret _ _ _⟩
       ·
        have e : E = ne := by rw [← HEX.out, if_pos h0]
        subst e
        go_wp2_with fail
        refine wp_region_lex (fun w' => w'.cell? ⟨w7.heap.size, 0, none⟩ = some (.int .u8 xa) ∧ w'.cell? ⟨w7.heap.size, 1, none⟩ = some (.int .i64 xb) ∧ w'.cell? ⟨w7.heap.size, 2, none⟩ = some (.int .i64 xc)) [0, 1, 2] [3] (by kernel_rfl) (by kernel_rfl) rfl (fun _ _ hx h => ⟨hx.cell h.1, hx.cell h.2.1, hx.cell h.2.2⟩) ⟨l0, l1, l2⟩ ?_
        intro Q' hQ'
        simp only [pickOps, List.flatMap_cons, List.flatMap_nil, List.drop_succ_cons, List.drop_zero, List.take_succ_cons, List.take_zero, List.cons_append, List.nil_append, List.append_nil]
        repeat (first
         | (refine wpReads_skip (by rfl) ?_; (try simp only [Act.put, List.setIfInBounds_toArray, List.set_cons_zero, List.set_cons_succ]))
         | (refine wpReads_cons ?_ (by rfl) (by rfl) ?_ ?_; rotate_left; (intro wz hz; (try dsimp only at hz); go_simp; try with_reducible rfl); (try simp only [Act.put, List.setIfInBounds_toArray, List.set_cons_zero, List.set_cons_succ]))
         | (refine wpReads_any ?_ (by rfl) ?_ ?_; rotate_left; (intro wz; go_simp; try with_reducible rfl); (try simp only [Act.put, List.setIfInBounds_toArray, List.set_cons_zero, List.set_cons_succ])))
        refine wpReads_nil ?_
        have HSPR := Lib.hid HF8.out.sp
        have z0 := HSPR.out.cell 0 _ rfl
        have z1 := HSPR.out.cell 1 _ rfl
        have z2 := HSPR.out.cell 2 _ rfl
        have f0 := HSPR.out.frozen 0
        have f1 := HSPR.out.frozen 1
        have f2 := HSPR.out.frozen 2
        go_wp2
        refine bodyPost_ret_by (results_tmp_row rfl _ _ _ _ _ _ _ rfl (spot_setd HSPR.out) Try.underlying140 rfl (by kernel_rfl)) rfl ?_
        exact ⟨⟨_, _, _, rfl⟩, below_dr (n := 1) (HF8.out.ret _ _ _)⟩
      ·
       go_wp2
       have hbL := below_alloc W8 (.cells #[.int .u8 0, .int .i64 0, .int .i64 0] 140)
       have HFb := Lib.hid (HF8.out.below 8 hbL)
       have HCb := Lib.hid (HC8.out.below 8 hbL)
       have HLb : Hid (Blk (W8.alloc (.cells #[.int .u8 0, .int .i64 0, .int .i64 0] 140)) (ext q8 W8.heap.size 8) 8 W8.heap.size 140 #[.int .u8 0, .int .i64 0, .int .i64 0]) := Lib.hid ⟨heap_alloc_new _ _, ext_new (Nat.le_refl _)⟩
       refine ⟨⟨ca y4, ca y7⟩, ?_⟩
       clear hbL HF8 HC8 y4 y7
       go_wp2_with fail
       refine (gports_out w _ _ (w.heap.size + 3) (w.heap.size + 2) ⟨g.name, .slice a1 g.actors.length c1, .slice a2 g.edges.length c2, .slice a3 g.ins.length c3, .slice a4 g.outs.length c4, vI, vO⟩ ⟨portsN (chk2 g).seen g.ins, portsS (chk2 g).ins g.ins, (chk2 g).outs⟩ _ g.outs 4 1 RO.out (HFb.out.kept.drewN 1) hlq HSO.out (HCb.out.drewN 1)).mono ?_
       rintro e w7 ⟨⟨xa, xb, xc, rfl⟩, o7, T, hC7⟩
       have T7 := ((Turn.refl _ ChkP _).drewN 1).trans T (fun _ h => h)
       have HF7 := Lib.hid (HFb.out.turn (T7.mono chkP_C))
       have HC7 := Lib.hid hC7
       have HL7 := Lib.hid (HLb.out.turn T7 (by unfold ChkP; omega))
       have s3 := HF7.out.gr.cell 4 _ rfl
       have s6 := (HCb.out.kept67 T7 (by unfold ChkP; omega)).2
       clear T T7 hC7 HFb HCb HLb
       go_wp2
       refine ⟨⟨s3, s6⟩, ?_⟩
       repeat (first
        | (refine wpReads_skip (by rfl) ?_; (try simp only [Act.put, List.setIfInBounds_toArray, List.set_cons_zero, List.set_cons_succ]))
        | (refine wpReads_cons ?_ (by rfl) (by rfl) ?_ ?_; rotate_left; (intro wz hz; (try dsimp only at hz); go_simp; try with_reducible rfl); (try simp only [Act.put, List.setIfInBounds_toArray, List.set_cons_zero, List.set_cons_succ]))
        | (refine wpReads_any ?_ (by rfl) ?_ ?_; rotate_left; (intro wz; go_simp; try with_reducible rfl); (try simp only [Act.put, List.setIfInBounds_toArray, List.set_cons_zero, List.set_cons_succ])))
       refine wpReads_nil ?_
       refine wpAnyT_list (ks := [12, 13]) (fun _ _ hx h => ⟨hx.cell h.1, hx.cell h.2⟩) (by kernel_rfl) ?_
       simp only [pickOps, List.flatMap_cons, List.flatMap_nil, List.drop_succ_cons, List.drop_zero, List.take_succ_cons, List.take_zero, List.cons_append, List.nil_append, List.append_nil]
       generalize W8.heap.size = L at *
       have TS := spot_turn HL7.out (.int .u8 xa) (.int .i64 xb) (.int .i64 xc)
       have HF8 := Lib.hid (HF7.out.turnC TS (by decide) (by decide))
       have hL := spot8_set (a := xa) (b := xb) (c := xc) HL7.out
       have l0 := cells_row _ _ hL 0 _ rfl
       have l1 := cells_row _ _ hL 1 _ rfl
       have l2 := cells_row _ _ hL 2 _ rfl
       have k0 := HL7.out.cell 0 _ rfl
       have k1 := HL7.out.cell 1 _ rfl
       have k2 := HL7.out.cell 2 _ rfl
       have kf0 := HL7.out.frozen 0
       have kf1 := HL7.out.frozen 1
       have kf2 := HL7.out.frozen 2
       have HTS := Lib.hid TS
       clear hL HF7 s3 s6 TS
       obtain ⟨ne, hne⟩ : ∃ x, portsE (portsN (chk2 g).seen g.ins) (chk2 g).outs g.outs = x := ⟨_, rfl⟩
       rw [show portsE (Chk.seen ⟨portsN (chk2 g).seen g.ins, portsS (chk2 g).ins g.ins, (chk2 g).outs⟩) (Chk.outs ⟨portsN (chk2 g).seen g.ins, portsS (chk2 g).ins g.ins, (chk2 g).outs⟩) g.outs = ne from hne] at HC7 ⊢
       rw [hne] at HEX
       clear hne
       by_cases h0 : ne = 0
       ·
        subst h0
        have HC8 := Lib.hid ((HC7.out rfl).turn HTS.out (fun x hx e => by subst e; unfold ChkC at hx; omega))
        clear HC7 l0 l1 l2 HTS HL7
        go_wp2_with fail
        clear k0 k1 k2 kf0 kf1 kf2
        generalize ((w7.setCell ⟨L, 0, none⟩ (.int .u8 xa)).setCell ⟨L, 1, none⟩ (.int .i64 xb)).setCell ⟨L, 2, none⟩ (.int .i64 xc) = W8 at *
        generalize ext o7 w7.heap.size 8 = q8 at *
        rw [if_neg (by simp)] at HEX
        have hRI := actorsE_rows g.actors chk0 HNA.out (rowsLe_nil 16) (rowsLe_nil 16)
        have hRE := edgesC_rows g.edges (m := 16) (chk1 g) hRI.1 hRI.2
        have hR1 : RowsLe (portsS (chk2 g).ins g.ins) 16 := portsS_rows _ _ hRE.1
        have hR2 : RowsLe (portsS (chk2 g).outs g.outs) 16 := portsS_rows _ _ hRE.2
        have hl1 : (portsS (chk2 g).ins g.ins).length = g.actors.length := by rw [portsS_len, chk2, (edgesC_len _ _).1, chk1, (actorsC_rows _ _).1]; simp [chk0]
        have hl2 : (portsS (chk2 g).outs g.outs).length = g.actors.length := by rw [portsS_len, chk2, (edgesC_len _ _).2.1, chk1, (actorsC_rows _ _).2]; simp [chk0]
        refine (gopen_any _ _ (w.heap.size + 3) (w.heap.size + 2) _ _ a1 g.actors.length c1 rfl hl1 hl2 (by omega) (fun r => ⟨Nat.le_trans (hR1 r) (by omega), Nat.le_trans (hR2 r) (by omega)⟩) HC8.out).mono ?_
        rintro e w11 ⟨⟨xa, xb, xc, rfl⟩, o11, T, _⟩
        have HF11 := Lib.hid (HF8.out.turn T)
        have HSPR := Lib.hid HF11.out.sp
        have e : E = openE (portsS (chk2 g).ins g.ins) (portsS (chk2 g).outs g.outs) := HEX.out.symm
        clear T hRI hRE hR1 hR2 hl1 hl2
        subst e
        have z0 := HSPR.out.cell 0 _ rfl
        have z1 := HSPR.out.cell 1 _ rfl
        have z2 := HSPR.out.cell 2 _ rfl
        have f0 := HSPR.out.frozen 0
        have f1 := HSPR.out.frozen 1
        have f2 := HSPR.out.frozen 2
        go_wp2
        refine bodyPost_ret_by (results_tmp_row rfl _ _ _ _ _ _ _ rfl (spot_set HSPR.out) Try.underlying140 rfl (by kernel_rfl)) rfl ?_
        exact ⟨⟨_, _, _, rfl⟩, HF11.out.ret _ _ _⟩
       ·
        have e : E = ne := by rw [← HEX.out, if_pos h0]
        subst e
        go_wp2_with fail
        refine wp_region_lex (fun w' => w'.cell? ⟨L, 0, none⟩ = some (.int .u8 xa) ∧ w'.cell? ⟨L, 1, none⟩ = some (.int .i64 xb) ∧ w'.cell? ⟨L, 2, none⟩ = some (.int .i64 xc)) [0, 1, 2] [3] (by kernel_rfl) (by kernel_rfl) rfl (fun _ _ hx h => ⟨hx.cell h.1, hx.cell h.2.1, hx.cell h.2.2⟩) ⟨l0, l1, l2⟩ ?_
        intro Q' hQ'
        simp only [pickOps, List.flatMap_cons, List.flatMap_nil, List.drop_succ_cons, List.drop_zero, List.take_succ_cons, List.take_zero, List.cons_append, List.nil_append, List.append_nil]
        repeat (first
         | (refine wpReads_skip (by rfl) ?_; (try simp only [Act.put, List.setIfInBounds_toArray, List.set_cons_zero, List.set_cons_succ]))
         | (refine wpReads_cons ?_ (by rfl) (by rfl) ?_ ?_; rotate_left; (intro wz hz; (try dsimp only at hz); go_simp; try with_reducible rfl); (try simp only [Act.put, List.setIfInBounds_toArray, List.set_cons_zero, List.set_cons_succ]))
         | (refine wpReads_any ?_ (by rfl) ?_ ?_; rotate_left; (intro wz; go_simp; try with_reducible rfl); (try simp only [Act.put, List.setIfInBounds_toArray, List.set_cons_zero, List.set_cons_succ])))
        refine wpReads_nil ?_
        have HSPR := Lib.hid HF8.out.sp
        have z0 := HSPR.out.cell 0 _ rfl
        have z1 := HSPR.out.cell 1 _ rfl
        have z2 := HSPR.out.cell 2 _ rfl
        have f0 := HSPR.out.frozen 0
        have f1 := HSPR.out.frozen 1
        have f2 := HSPR.out.frozen 2
        go_wp2
        refine bodyPost_ret_by (results_tmp_row rfl _ _ _ _ _ _ _ rfl (spot_setd HSPR.out) Try.underlying140 rfl (by kernel_rfl)) rfl ?_
        exact ⟨⟨_, _, _, rfl⟩, below_dr (n := 1) (HF8.out.ret _ _ _)⟩
     ·
      have e : E = ne := by rw [← HEX.out, if_pos h0]
      subst e
      go_wp2_with fail
      refine wp_region_lex (fun w' => w'.cell? ⟨L, 0, none⟩ = some (.int .u8 xa) ∧ w'.cell? ⟨L, 1, none⟩ = some (.int .i64 xb) ∧ w'.cell? ⟨L, 2, none⟩ = some (.int .i64 xc)) [0, 1, 2] [3] (by kernel_rfl) (by kernel_rfl) rfl (fun _ _ hx h => ⟨hx.cell h.1, hx.cell h.2.1, hx.cell h.2.2⟩) ⟨l0, l1, l2⟩ ?_
      intro Q' hQ'
      simp only [pickOps, List.flatMap_cons, List.flatMap_nil, List.drop_succ_cons, List.drop_zero, List.take_succ_cons, List.take_zero, List.cons_append, List.nil_append, List.append_nil]
      repeat (first
       | (refine wpReads_skip (by rfl) ?_; (try simp only [Act.put, List.setIfInBounds_toArray, List.set_cons_zero, List.set_cons_succ]))
       | (refine wpReads_cons ?_ (by rfl) (by rfl) ?_ ?_; rotate_left; (intro wz hz; (try dsimp only at hz); go_simp; try with_reducible rfl); (try simp only [Act.put, List.setIfInBounds_toArray, List.set_cons_zero, List.set_cons_succ]))
       | (refine wpReads_any ?_ (by rfl) ?_ ?_; rotate_left; (intro wz; go_simp; try with_reducible rfl); (try simp only [Act.put, List.setIfInBounds_toArray, List.set_cons_zero, List.set_cons_succ])))
      refine wpReads_nil ?_
      have HSPR := Lib.hid HF8.out.sp
      have z0 := HSPR.out.cell 0 _ rfl
      have z1 := HSPR.out.cell 1 _ rfl
      have z2 := HSPR.out.cell 2 _ rfl
      have f0 := HSPR.out.frozen 0
      have f1 := HSPR.out.frozen 1
      have f2 := HSPR.out.frozen 2
      go_wp2
      refine bodyPost_ret_by (results_tmp_row rfl _ _ _ _ _ _ _ rfl (spot_setd HSPR.out) Try.underlying140 rfl (by kernel_rfl)) rfl ?_
      exact ⟨⟨_, _, _, rfl⟩, below_dr (n := 1) (HF8.out.ret _ _ _)⟩
   ·
    have e : E = ne := by rw [← HE.out, checkE, HNE.out, if_neg (by simp), HNA.out, if_neg (by simp), HND.out, if_pos h0]
    subst e
    go_wp2_with fail
    refine wp_region_lex (fun w' => w'.cell? ⟨w5.heap.size, 0, none⟩ = some (.int .u8 xa) ∧ w'.cell? ⟨w5.heap.size, 1, none⟩ = some (.int .i64 xb) ∧ w'.cell? ⟨w5.heap.size, 2, none⟩ = some (.int .i64 xc)) [0, 1, 2] [3] (by kernel_rfl) (by kernel_rfl) rfl (fun _ _ hx h => ⟨hx.cell h.1, hx.cell h.2.1, hx.cell h.2.2⟩) ⟨l0, l1, l2⟩ ?_
    intro Q' hQ'
    simp only [pickOps, List.flatMap_cons, List.flatMap_nil, List.drop_succ_cons, List.drop_zero, List.take_succ_cons, List.take_zero, List.cons_append, List.nil_append, List.append_nil]
    repeat (first
     | (refine wpReads_skip (by rfl) ?_; (try simp only [Act.put, List.setIfInBounds_toArray, List.set_cons_zero, List.set_cons_succ]))
     | (refine wpReads_cons ?_ (by rfl) (by rfl) ?_ ?_; rotate_left; (intro wz hz; (try dsimp only at hz); go_simp; try with_reducible rfl); (try simp only [Act.put, List.setIfInBounds_toArray, List.set_cons_zero, List.set_cons_succ]))
     | (refine wpReads_any ?_ (by rfl) ?_ ?_; rotate_left; (intro wz; go_simp; try with_reducible rfl); (try simp only [Act.put, List.setIfInBounds_toArray, List.set_cons_zero, List.set_cons_succ])))
    refine wpReads_nil ?_
    have HSPR := Lib.hid HF6.out.sp
    have z0 := HSPR.out.cell 0 _ rfl
    have z1 := HSPR.out.cell 1 _ rfl
    have z2 := HSPR.out.cell 2 _ rfl
    have f0 := HSPR.out.frozen 0
    have f1 := HSPR.out.frozen 1
    have f2 := HSPR.out.frozen 2
    go_wp2
    refine bodyPost_ret_by (results_tmp_row rfl _ _ _ _ _ _ _ rfl (spot_setd HSPR.out) Try.underlying140 rfl (by kernel_rfl)) rfl ?_
    exact ⟨⟨_, _, _, rfl⟩, below_dr (n := 1) (HF6.out.ret _ _ _)⟩
  ·
   have e : E = ne := by rw [← HE.out, checkE, HNE.out, if_neg (by simp), HNA.out, if_pos h0]
   subst e
   go_wp2_with fail
   refine wp_region_lex (fun w' => w'.cell? ⟨w3.heap.size, 0, none⟩ = some (.int .u8 xa) ∧ w'.cell? ⟨w3.heap.size, 1, none⟩ = some (.int .i64 xb) ∧ w'.cell? ⟨w3.heap.size, 2, none⟩ = some (.int .i64 xc)) [0, 1, 2] [3] (by kernel_rfl) (by kernel_rfl) rfl (fun _ _ hx h => ⟨hx.cell h.1, hx.cell h.2.1, hx.cell h.2.2⟩) ⟨l0, l1, l2⟩ ?_
   intro Q' hQ'
   simp only [pickOps, List.flatMap_cons, List.flatMap_nil, List.drop_succ_cons, List.drop_zero, List.take_succ_cons, List.take_zero, List.cons_append, List.nil_append, List.append_nil]
   repeat (first
    | (refine wpReads_skip (by rfl) ?_; (try simp only [Act.put, List.setIfInBounds_toArray, List.set_cons_zero, List.set_cons_succ]))
    | (refine wpReads_cons ?_ (by rfl) (by rfl) ?_ ?_; rotate_left; (intro wz hz; (try dsimp only at hz); go_simp; try with_reducible rfl); (try simp only [Act.put, List.setIfInBounds_toArray, List.set_cons_zero, List.set_cons_succ]))
    | (refine wpReads_any ?_ (by rfl) ?_ ?_; rotate_left; (intro wz; go_simp; try with_reducible rfl); (try simp only [Act.put, List.setIfInBounds_toArray, List.set_cons_zero, List.set_cons_succ])))
   refine wpReads_nil ?_
   have HSPR := Lib.hid HF4.out.sp
   have z0 := HSPR.out.cell 0 _ rfl
   have z1 := HSPR.out.cell 1 _ rfl
   have z2 := HSPR.out.cell 2 _ rfl
   have f0 := HSPR.out.frozen 0
   have f1 := HSPR.out.frozen 1
   have f2 := HSPR.out.frozen 2
   go_wp2
   refine bodyPost_ret_by (results_tmp_row rfl _ _ _ _ _ _ _ rfl (spot_setd HSPR.out) Try.underlying140 rfl (by kernel_rfl)) rfl ?_
   exact ⟨⟨_, _, _, rfl⟩, below_dr (n := 1) (HF4.out.ret _ _ _)⟩
 ·
  have e : E = ne := by rw [← HE.out, checkE, HNE.out, if_pos h0]
  subst e
  go_wp2_with fail
  refine wp_region_lex (fun w' => w'.cell? ⟨w1.heap.size, 0, none⟩ = some (.int .u8 xa) ∧ w'.cell? ⟨w1.heap.size, 1, none⟩ = some (.int .i64 xb) ∧ w'.cell? ⟨w1.heap.size, 2, none⟩ = some (.int .i64 xc)) [0, 1, 2] [3] (by kernel_rfl) (by kernel_rfl) rfl (fun _ _ hx h => ⟨hx.cell h.1, hx.cell h.2.1, hx.cell h.2.2⟩) ⟨l0, l1, l2⟩ ?_
  intro Q' hQ'
  simp only [pickOps, List.flatMap_cons, List.flatMap_nil, List.drop_succ_cons, List.drop_zero, List.take_succ_cons, List.take_zero, List.cons_append, List.nil_append, List.append_nil]
  repeat (first
   | (refine wpReads_skip (by rfl) ?_; (try simp only [Act.put, List.setIfInBounds_toArray, List.set_cons_zero, List.set_cons_succ]))
   | (refine wpReads_cons ?_ (by rfl) (by rfl) ?_ ?_; rotate_left; (intro wz hz; (try dsimp only at hz); go_simp; try with_reducible rfl); (try simp only [Act.put, List.setIfInBounds_toArray, List.set_cons_zero, List.set_cons_succ]))
   | (refine wpReads_any ?_ (by rfl) ?_ ?_; rotate_left; (intro wz; go_simp; try with_reducible rfl); (try simp only [Act.put, List.setIfInBounds_toArray, List.set_cons_zero, List.set_cons_succ])))
  refine wpReads_nil ?_
  have HSPR := Lib.hid HF2.out.sp
  have z0 := HSPR.out.cell 0 _ rfl
  have z1 := HSPR.out.cell 1 _ rfl
  have z2 := HSPR.out.cell 2 _ rfl
  have f0 := HSPR.out.frozen 0
  have f1 := HSPR.out.frozen 1
  have f2 := HSPR.out.frozen 2
  go_wp2
  refine bodyPost_ret_by (results_tmp_row rfl _ _ _ _ _ _ _ rfl (spot_setd HSPR.out) Try.underlying140 rfl (by kernel_rfl)) rfl ?_
  exact ⟨⟨_, _, _, rfl⟩, below_dr (n := 1) (HF2.out.ret _ _ _)⟩
end Go.Proofs.Ytbmbfifempkhgaa

/- graph.Check. -/
namespace Go.Proofs.Ytbmbfifempkhgaa
open Go.RowKit
def GSized (g : GGraph) : Prop := g.name.size ≤ 4611686018427387904 ∧ (∀ p ∈ g.actors, p.name.size ≤ 4611686018427387904 ∧ p.params.length ≤ 17600000000000) ∧ (∀ p ∈ g.ins, p.name.size ≤ 4611686018427387904) ∧ ∀ p ∈ g.outs, p.name.size ≤ 4611686018427387904
set_option maxRecDepth 100000 in
theorem gcheck_any (w : World) (v : Value) (g : GGraph) (h : HasGraph w v g) (hs : GSized g) : Calls Try.prog 39 #[v] w (Tells (.int .i64 (checkE g)) w) := by
 obtain ⟨va, ve, vi, vo, rfl, _⟩ := h.shape
 have hbG := below_alloc w (.cells #[.string g.name, va, ve, vi, vo] 26)
 have hG := heap_alloc_new w (.cells #[.string g.name, va, ve, vi, vo] 26)
 have q0 := cells_row _ _ hG 0 _ rfl
 have q1 := cells_row _ _ hG 1 _ rfl
 have q2 := cells_row _ _ hG 2 _ rfl
 have q3 := cells_row _ _ hG 3 _ rfl
 have q4 := cells_row _ _ hG 4 _ rfl
 have HG := Lib.hid (h.below hbG)
 have HB := Lib.hid hbG
 have HS := Lib.hid hs
 obtain ⟨E, hE⟩ : ∃ E, checkE g = E := ⟨_, rfl⟩
 rw [hE]
 have HE := Lib.hid hE
 clear h hs hbG hG hE
 go_enter Try.func39, Try.ntmps39
 go_wp2_with fail
 refine (gfind_any _ _ g HG.out HS.out.1 HS.out.2.1 HS.out.2.2.1 HS.out.2.2.2).mono ?_
 rintro e w1 ⟨⟨a, b, c, rfl⟩, hb1⟩
 rw [HE.out]
 have hb : Below w.heap.size w w1 := HB.out.trans (hb1.mono HB.out.size)
 have HBB := Lib.hid (hb.alloc hb.size (.cells #[.int .u8 a, .int .i64 b, .int .i64 c] 140))
 clear hb hb1 q0 q1 q2 q3 q4
 go_wp2
 go_ret
 exact ⟨rfl, HBB.out⟩
end Go.Proofs.Ytbmbfifempkhgaa

/- The program that emit makes, plainly; what a graph without an error is. No function in sight. -/
namespace Go.Proofs.Ytbmbfifempkhgaa
open Go.RowKit
def AtL (ls : List Nat) (a p : Int) : Prop := 0 ≤ a ∧ a < ls.length ∧ 0 ≤ p ∧ p < ((ls[a.toNat]?.getD 0 : Nat) : Int)
def lensB (side : List (List Bool)) : List Nat := side.map List.length
theorem side1_len (side : List (List Bool)) (a : Int) : (side1 side a).length = (lensB side)[a.toNat]?.getD 0 := by
 unfold side1 lensB
 rw [List.getElem?_map]
 cases side[a.toNat]? <;> rfl
theorem takeE_at {side : List (List Bool)} {a p : Int} (h : takeE side a p = 0) : AtL (lensB side) a p := by
 unfold takeE at h
 split at h
 ·
  cases h
 ·
  split at h
  ·
   cases h
  ·
   rename_i h1 h2
   rw [side1_len] at h2
   refine ⟨by omega, ?_, by omega, by omega⟩
   rw [lensB, List.length_map]
   omega
theorem takeS_lens (side : List (List Bool)) (a p : Int) : lensB (takeS side a p) = lensB side := by
 unfold takeS lensB
 rw [List.map_set, List.length_set, side1_len]
 unfold lensB
 by_cases h : a.toNat < side.length
 ·
  rw [List.getElem?_eq_getElem (by simpa using h), Option.getD_some]
  exact List.set_getElem_self (by simpa using h)
 ·
  rw [List.set_eq_of_length_le (by simpa using Nat.le_of_not_lt h)]
theorem edgesE_at : ∀ (l : List GEdge) (c : Chk), edgesE c l = 0 → ∀ e ∈ l, AtL (lensB c.outs) e.src e.sport ∧ AtL (lensB c.ins) e.dst e.dport ∧ e.start.length ≤ 256
 | [], _, _, _, h => by cases h
 | x :: l, c, h, e, he => by
  rw [edgesE] at h
  by_cases h0 : edgeE c x = 0
  ·
   rw [if_neg (by simpa using h0)] at h
   rcases List.mem_cons.1 he with rfl | he
   ·
    unfold edgeE at h0
    split at h0
    ·
     rename_i h1; exact absurd h0 h1
    ·
     split at h0
     ·
      rename_i h1; exact absurd h0 h1
     ·
      split at h0
      ·
       cases h0
      ·
       rename_i h1 h2 h3
       exact ⟨takeE_at (Decidable.not_not.1 h1), takeE_at (Decidable.not_not.1 h2), by omega⟩
   ·
    have := edgesE_at l _ h e he
    simp only [edgeC, takeS_lens] at this
    exact this
  ·
   rw [if_pos (by simpa using h0)] at h
   exact absurd h h0
theorem edgesC_lens : ∀ (l : List GEdge) (c : Chk), lensB (edgesC c l).ins = lensB c.ins ∧ lensB (edgesC c l).outs = lensB c.outs
 | [], _ => ⟨rfl, rfl⟩
 | x :: l, c => by
  have := edgesC_lens l (edgeC c x)
  simp only [edgesC, List.foldl_cons] at this ⊢
  simpa only [edgeC, takeS_lens] using this
theorem portsE_at : ∀ (l : List GPort) (seen : List ByteArray) (side : List (List Bool)), portsE seen side l = 0 → ∀ p ∈ l, AtL (lensB side) p.actor p.port
 | [], _, _, _, _, h => by cases h
 | x :: l, seen, side, h, p, hp => by
  rw [portsE] at h
  by_cases h0 : portE seen side x = 0
  ·
   rw [if_neg (by simpa using h0)] at h
   rcases List.mem_cons.1 hp with rfl | hp
   ·
    unfold portE at h0
    split at h0
    ·
     rename_i h1; exact absurd h0 h1
    ·
     exact takeE_at h0
   ·
    have := portsE_at l _ _ h p hp
    rwa [takeS_lens] at this
  ·
   rw [if_pos (by simpa using h0)] at h
   exact absurd h h0
theorem actorsE_good : ∀ (l : List GActor) (c : Chk), actorsE c l = 0 → ∀ a ∈ l, goodP a.tag a.params
 | [], _, _, _, h => by cases h
 | x :: l, c, h, a, ha => by
  rw [actorsE] at h
  by_cases h0 : actorE c.seen x = 0
  ·
   rw [if_neg (by simpa using h0)] at h
   rcases List.mem_cons.1 ha with rfl | ha
   ·
    unfold actorE at h0
    split at h0
    ·
     rename_i h1; exact absurd h0 h1
    ·
     split at h0
     ·
      assumption
     ·
      rcases errP_some a.tag with e | e <;> rw [e] at h0 <;> cases h0
   ·
    exact actorsE_good l _ h a ha
  ·
   rw [if_pos (by simpa using h0)] at h
   exact absurd h h0
theorem actorsC_lens : ∀ (l : List GActor) (c : Chk), lensB (actorsC c l).ins = lensB c.ins ++ l.map (fun a => (insP a.tag a.params).length) ∧ lensB (actorsC c l).outs = lensB c.outs ++ l.map (fun a => (outsP a.tag a.params).length)
 | [], _ => by simp [actorsC]
 | x :: l, c => by
  have := actorsC_lens l (actorC c x)
  simp only [actorsC, List.foldl_cons] at this ⊢
  rw [this.1, this.2]
  simp [actorC, lensB]
theorem insF_len2 (g : GGraph) (j : Nat) : (insF g j).length = (g.actors.map (fun a => (insP a.tag a.params).length))[j]?.getD 0 := by
 unfold insF
 rw [List.getElem?_map]
 cases g.actors[j]? <;> simp [rateL]
theorem outsF_len2 (g : GGraph) (j : Nat) : (outsF g j).length = (g.actors.map (fun a => (outsP a.tag a.params).length))[j]?.getD 0 := by
 unfold outsF
 rw [List.getElem?_map]
 cases g.actors[j]? <;> simp [rateL]
theorem checkE_parts {g : GGraph} (h : checkE g = 0) : headE g = 0 ∧ actorsE chk0 g.actors = 0 ∧ edgesE (chk1 g) g.edges = 0 ∧ portsE (chk2 g).seen (chk2 g).ins g.ins = 0 ∧ portsE (portsN (chk2 g).seen g.ins) (chk2 g).outs g.outs = 0 ∧ openE (portsS (chk2 g).ins g.ins) (portsS (chk2 g).outs g.outs) = 0 := by
 unfold checkE at h
 split at h
 ·
  rename_i h1; exact absurd h h1
 split at h
 ·
  rename_i h1; exact absurd h h1
 split at h
 ·
  rename_i h1; exact absurd h h1
 split at h
 ·
  rename_i h1; exact absurd h h1
 split at h
 ·
  rename_i h1; exact absurd h h1
 rename_i h1 h2 h3 h4 h5
 exact ⟨Decidable.not_not.1 h1, Decidable.not_not.1 h2, Decidable.not_not.1 h3, Decidable.not_not.1 h4, Decidable.not_not.1 h5, h⟩
theorem headE_parts {g : GGraph} (h : headE g = 0) : 0 < g.actors.length ∧ g.actors.length ≤ 32 ∧ g.edges.length ≤ 96 ∧ g.ins.length ≤ 16 ∧ g.outs.length ≤ 16 := by
 unfold headE at h
 split at h
 ·
  cases h
 split at h
 ·
  cases h
 split at h
 ·
  cases h
 split at h
 ·
  cases h
 split at h
 ·
  cases h
 split at h
 ·
  cases h
 omega
theorem inAt_of {g : GGraph} {a p : Int} (h : AtL (g.actors.map (fun a => (insP a.tag a.params).length)) a p) : InAt g a p := by
 obtain ⟨h1, h2, h3, h4⟩ := h
 rw [List.length_map] at h2
 exact ⟨h1, h2, h3, by rw [insF_len2]; exact h4⟩
theorem outAt_of {g : GGraph} {a p : Int} (h : AtL (g.actors.map (fun a => (outsP a.tag a.params).length)) a p) : OutAt g a p := by
 obtain ⟨h1, h2, h3, h4⟩ := h
 rw [List.length_map] at h2
 exact ⟨h1, h2, h3, by rw [outsF_len2]; exact h4⟩
theorem firOk_of {g : GGraph} (h : checkE g = 0) (hs : GSized g) : FirOk g := by
 obtain ⟨h1, h2, h3, h4, h5, -⟩ := checkE_parts h
 obtain ⟨-, a1, a2, a3, a4⟩ := headE_parts h1
 obtain ⟨l1, l2⟩ := actorsC_lens g.actors chk0
 obtain ⟨k1, k2⟩ := edgesC_lens g.edges (chk1 g)
 have l1 : lensB (chk1 g).ins = g.actors.map (fun a => (insP a.tag a.params).length) := by simpa [chk1, chk0, lensB] using l1
 have l2 : lensB (chk1 g).outs = g.actors.map (fun a => (outsP a.tag a.params).length) := by simpa [chk1, chk0, lensB] using l2
 rw [l1] at k1
 rw [l2] at k2
 refine ⟨a1, a2, a3, a4, fun a ha => ⟨actorsE_good _ _ h2 a ha, (hs.2.1 a ha).2⟩, fun e he => ?_, fun e he => ?_, fun p hp => ?_, fun p hp => ?_⟩
 ·
  have := (edgesE_at _ _ h3 e he).1
  rw [l2] at this
  exact outAt_of this
 ·
  have := (edgesE_at _ _ h3 e he).2.1
  rw [l1] at this
  exact inAt_of this
 ·
  have := portsE_at _ _ _ h4 p hp
  rw [chk2, k1] at this
  exact inAt_of this
 ·
  have := portsE_at _ _ _ h5 p hp
  rw [chk2, k2] at this
  exact outAt_of this
theorem starts_of {g : GGraph} (h : checkE g = 0) : ∀ e ∈ g.edges, e.start.length ≤ 256 := fun e he => (edgesE_at _ _ (checkE_parts h).2.2.1 e he).2.2
theorem firP_row {g : GGraph} (h : FirOk g) (k : Nat) : (rowM (firP g) k).length ≤ 33 := by
 by_cases hk : k < g.actors.length
 ·
  rw [firP, finM_row _ _ _ (by rw [matI2_len]; exact hk), if_pos hk, finR]
  simp only [List.length_append, List.length_cons, List.length_nil]
  rw [matI2_row g hk, matO2_row g hk]
  have := insF_len h k
  have := outsF_len h k
  omega
 ·
  unfold rowM
  rw [List.getElem?_eq_none (by rw [firP_len]; omega)]
  simp
def partsP (l : List GActor) : List GPart := l.map fun a => ⟨a.tag, a.params⟩
def linesP (r : List GRegion) (l : List GEdge) : List GLine := (r.zip l).map fun x => ⟨x.1.base, x.1.size, x.2.start⟩
def makeE (g : GGraph) (p : GPlan) (l : Nest) : Int := if checkE g ≠ 0 then checkE g else if nestCheckE l ≠ 0 then nestCheckE l else if strangeP l g.actors.length then 100 else if fitsP g p then 0 else 210
def makeG (g : GGraph) (p : GPlan) (l : Nest) : GProg := ⟨p.total, (rowP (firP g) l 0 ([], 0)).2, g.ins.length, g.outs.length, partsP g.actors, linesP p.regions g.edges, (rowP (firP g) l 0 ([], 0)).1 ++ [⟨0, 0, 0⟩]⟩
def makeP (g : GGraph) (p : GPlan) (l : Nest) : GProg := if makeE g p l = 0 then makeG g p l else .zero
theorem leafOk_strange : ∀ (l : Nest) (n : Nat), LeafOk 32 l → strangeP l n = false → LeafOk n l
 | .nil, _, _, _ => trivial
 | .cons t nd b r, n, h, hs => by
  rw [strangeP] at hs
  simp only [Bool.or_eq_false_iff, Bool.and_eq_false_iff, decide_eq_false_iff_not] at hs
  refine ⟨fun hb => ⟨(h.1 hb).1, ?_⟩, leafOk_strange b n h.2.1 hs.1.2, leafOk_strange r n h.2.2 hs.2⟩
  rcases hs.1.1 with e | e
  ·
   rw [e] at hb; cases hb
  ·
   omega
theorem nest_facts {l : Nest} (h : nestCheckE l = 0) : costN l ≤ 1300000 ∧ depthN l ≤ 17 ∧ LeafOk 32 l := by
 unfold nestCheckE at h
 split at h
 ·
  rename_i h1; exact absurd h h1
 ·
  rename_i h1
  have h0 : (nestE l 0 0).1 = 0 := Decidable.not_not.1 h1
  obtain ⟨c1, c2, c3, c4⟩ := nestE_count l 0 0 (by omega) h0
  have := nestE_le l 0 0 (by omega)
  refine ⟨?_, by omega, c4⟩
  rw [c1] at this
  have : leafN l * 17 ≤ 2048 * 17 := Nat.mul_le_mul_right _ (by omega)
  simp only [Nat.sub_zero] at c2
  omega
theorem fits_len {g : GGraph} {p : GPlan} (h : fitsP g p = true) : p.regions.length = g.edges.length := by
 unfold fitsP at h
 simp only [Bool.and_eq_true, decide_eq_true_eq] at h
 exact h.1.1.1
theorem linesP_succ {r : List GRegion} {l : List GEdge} {j : Nat} (h : j < r.length) (h2 : j < l.length) : (linesP r l).take (j + 1) = (linesP r l).take j ++ [⟨r[j].base, r[j].size, l[j].start⟩] := by
 rw [List.take_succ_eq_append_getElem (by simp [linesP]; omega)]
 simp [linesP]
end Go.Proofs.Ytbmbfifempkhgaa
