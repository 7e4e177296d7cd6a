/- The law 'pianola EmitMakes' (said): for every input it returns true, and what it was handed reads as before. The frame: arguments opened, the walk called, arguments shut. -/
import Derived.Test.YtbmbfifempkhgaaEmitMakesZ4
import Derived.Test.YtbmbfifempkhgaaEmitMakesZ8
import Derived.Test.YtbmbfifempkhgaaEmitMakesZ5
import Derived.Test.YtbmbfifempkhgaaEmitMakesZ9
import Derived.Test.YtbmbfifempkhgaaEmitMakesZ6
import Derived.Test.YtbmbfifempkhgaaEmitMakesZ7
import Derived.Test.YtbmbfifempkhgaaEmitMakesZ1
import Derived.Deep.Slices
import Derived.SizedLaws
import Derived.WalkKit
import Derived.ProofKit
import Derived.OpenShut
import Derived.ChangeOld
import Derived.Below
import Derived.Test.YtbmbfifempkhgaaEmitMakesZ2
import Derived.Test.YtbmbfifempkhgaaRows
import Derived.ShutString
/- The reference's Fits. -/
namespace Go.Proofs.Ytbmbfifempkhgaa
open Go.RowKit
set_option maxRecDepth 100000 in
set_option maxHeartbeats 2000000 in
theorem rfits_any (w : World) (vg vp : Value) (g : GGraph) (p : GPlan) (hg : HasGraph w vg g) (hp : HasPlan w vp p) (hle : g.edges.length ≤ 1000000) (hst : ∀ e ∈ g.edges, e.start.length ≤ 17600000000000) : Calls Try.prog 50 #[vg, vp] w (Tells (.bool (fitsP g p)) w) := by
 obtain ⟨va, ve, vi, vo, rfl, ra, re, ri, ro⟩ := hg.shape
 obtain ⟨vr, rfl, rr⟩ := hp
 obtain ⟨ae, ce, rfl⟩ := re.slice
 obtain ⟨ar, cr, rfl⟩ := rr.slice
 obtain ⟨F, hF⟩ : ∃ F, fitsP g p = F := ⟨_, rfl⟩
 rw [hF]
 have HF := Lib.hid hF
 have RE := Lib.hid re
 have RR := Lib.hid rr
 have HST := Lib.hid hst
 have HLE := Lib.hid hle
 have hb1 := below_alloc w (.cells #[.string g.name, va, .slice ae g.edges.length ce, vi, vo] 26)
 have hG := heap_alloc_new w (.cells #[.string g.name, va, .slice ae g.edges.length ce, vi, vo] 26)
 have hb2 := below_alloc (w.alloc (.cells #[.string g.name, va, .slice ae g.edges.length ce, vi, vo] 26)) (.cells #[.slice ar p.regions.length cr, .int .i64 p.total] 29)
 have hP := heap_alloc_new (w.alloc (.cells #[.string g.name, va, .slice ae g.edges.length ce, vi, vo] 26)) (.cells #[.slice ar p.regions.length cr, .int .i64 p.total] 29)
 rw [World.size_alloc] at hP
 have hG2 := block_alloc hG (.cells #[.slice ar p.regions.length cr, .int .i64 p.total] 29)
 have HB0 := Lib.hid (hb1.trans (hb2.mono hb1.size))
 have HSZ := Lib.hid (show w.heap.size + 2 ≤ ((w.alloc (.cells #[.string g.name, va, .slice ae g.edges.length ce, vi, vo] 26)).alloc (.cells #[.slice ar p.regions.length cr, .int .i64 p.total] 29)).heap.size by simp)
 generalize hW : (w.alloc (.cells #[.string g.name, va, .slice ae g.edges.length ce, vi, vo] 26)).alloc (.cells #[.slice ar p.regions.length cr, .int .i64 p.total] 29) = W at *
 have HG2 := Lib.hid hG2
 have HP := Lib.hid hP
 have e2 := cells_row _ _ hG2 2 _ rfl
 have t1 := cells_row _ _ hP 1 _ rfl
 have r0 := cells_row _ _ hP 0 _ rfl
 clear hF ra re ri ro rr hst hle hb1 hb2 hG hP hG2 hg
 by_cases hl : p.regions.length = g.edges.length
 ·
  have hli : ((p.regions.length : Int) != g.edges.length) = false := by simp [hl]
  by_cases h1 : 0 ≤ p.total
  ·
   have h1i : ¬ p.total < 0 := by omega
   by_cases h2 : p.total ≤ 1024
   ·
    have h2i : ¬ (1024 : Int) < p.total := by omega
    have HE := Lib.hid (show regionsP p.total (p.regions.drop 0) (g.edges.drop 0) = F by rw [← HF.out, fitsP, decide_eq_true hl, decide_eq_true h1, decide_eq_true h2]; simp)
    rw [hl] at r0 ⊢
    rw [hl] at hli hW
    go_enter Try.func50, Try.ntmps50
    go_wp2_with fail
    clear hW
    go_loopw [5] (fun i wr => ∃ (j : Nat), j ≤ g.edges.length ∧ i = .int .i64 j ∧ Below W.heap.size W wr ∧ regionsP p.total (p.regions.drop j) (g.edges.drop j) = F) (fun i _ => g.edges.length - (intOf i).toNat)
    case atStart => exact ⟨0, Nat.zero_le _, rfl, Below.refl _ _, HE.out⟩
    case round =>
     clear HE
     obtain ⟨j, hj, rfl, hb, hE⟩ := hrel
     have HB := Lib.hid hb
     have HE := Lib.hid hE
     clear hb hE
     by_cases hlt : j < g.edges.length
     ·
      have hlti : (j : Int) < g.edges.length := by omega
      have hlt2 : j < p.regions.length := by omega
      obtain ⟨br, orr, rfl, hcr, hbr, hrec⟩ := RR.out.at (by omega)
      obtain ⟨cs, hcs, hPR, hcl⟩ := hrec j hlt2
      obtain rfl := hPR
      have hbW := HB0.out.trans (HB.out.mono HB0.out.size)
      have c0 := cell_later hbW (hcl 0 (by omega))
      have c1 := cell_later hbW (hcl 1 (by omega))
      obtain ⟨be, oe, rfl, hce, hbe, hrece⟩ := RE.out.at (by omega)
      obtain ⟨cse, hcse, hPE, hcle⟩ := hrece j hlt
      obtain ⟨xs, rfl, hst⟩ := hPE
      have e4 := cell_later hbW (hcle 4 (by omega))
      simp at c0 c1 e4
      obtain ⟨sa, sc, hxs⟩ := Ints.slice hst
      subst hxs
      have hcri : (g.edges.length : Int) ≤ cr := by omega
      have hcei : (g.edges.length : Int) ≤ ce := by omega
      have hnn := HST.out _ (List.getElem_mem hlt)
      have hEc := HE.out
      rw [regionsP_cons hlt2 hlt, regionP] at hEc
      have HEC := Lib.hid hEc
      have t1' := cell_later HB.out t1
      have r0' := cell_later HB.out r0
      have e2' := cell_later HB.out e2
      clear hcl hcs hrec hcle hcse hrece hst hEc HE
      generalize (g.edges[j]).start.length = n at *
      generalize (p.regions[j]).base = base at *
      generalize (p.regions[j]).size = size at *
      have hbX := below_alloc wr (.cells #[.int .i64 base, .int .i64 size] 70)
      have hX := heap_alloc_new wr (.cells #[.int .i64 base, .int .i64 size] 70)
      have x0 := cells_row _ _ hX 0 _ rfl
      have x1 := cells_row _ _ hX 1 _ rfl
      have t1 := cell_later hbX t1'
      have e2 := cell_later hbX e2'
      have e4 := cell_later hbX e4
      have HBX := Lib.hid (hbW.trans (hbX.mono hbW.size))
      have HBY := Lib.hid (HB.out.trans (hbX.mono HB.out.size))
      clear hbX hX hbW t1' hli
      have hwr0 : 0 ≤ base → base ≤ p.total → IntKind.i64.wrap (p.total - base) = p.total - base := fun h3 h4 => wrapP (by omega) (by omega)
      by_cases d1 : base < 0
      ·
       skip
       have e : F = false := by rw [← HEC.out, decide_eq_false (by omega : ¬ 0 ≤ base)]; simp
       subst e
       go_wp2_with fail
       refine wp_region_lex (fun w' => w'.cell? ⟨wr.heap.size, 0, none⟩ = some (.int .i64 base) ∧ w'.cell? ⟨wr.heap.size, 1, none⟩ = some (.int .i64 size) ∧ w'.cell? ⟨w.heap.size + 1, 1, none⟩ = some (.int .i64 p.total) ∧ w'.cell? ⟨w.heap.size, 2, none⟩ = some (.slice (some ⟨be, oe, none⟩) g.edges.length ce) ∧ w'.cell? ⟨be, oe + j * 5 + 4, none⟩ = some (.slice sa n sc)) [0, 1, 2, 3, 4, 5, 6, 7, 8, 9, 10, 11, 12, 13, 14, 15, 16, 17, 18, 19, 20, 21, 22, 23, 24, 25, 26, 27, 28, 29, 30, 31, 32, 33, 34, 35, 36] [] (by kernel_rfl) (by kernel_rfl) rfl (fun _ _ hx h => ⟨hx.cell h.1, hx.cell h.2.1, hx.cell h.2.2.1, hx.cell h.2.2.2.1, hx.cell h.2.2.2.2⟩) ⟨x0, x1, t1, e2, e4⟩ ?_
       intro Q' hQ'
       simp only [pickOps, List.flatMap_cons, List.flatMap_nil, List.drop_succ_cons, List.drop_zero, List.take_succ_cons, List.take_zero, List.cons_append, List.nil_append, List.append_nil]
       have b1 : decide (base < 0) = true := decide_eq_true (by omega)
       (try obtain ⟨b1, b2⟩ := b1)
       (try obtain ⟨b2, b3⟩ := b2)
       (try obtain ⟨b3, b4⟩ := b3)
       (try obtain ⟨b4, b5⟩ := b4)
       repeat (first
        | (refine wpReads_skip (by rfl) ?_; (try simp only [Act.put, List.setIfInBounds_toArray, List.set_cons_zero, List.set_cons_succ]))
        | (refine wpReads_cons ?_ (by rfl) (by rfl) ?_ ?_; rotate_left; (intro wz hz; (try dsimp only at hz); go_simp; try with_reducible rfl); (try simp only [Act.put, List.setIfInBounds_toArray, List.set_cons_zero, List.set_cons_succ]))
        | (refine wpReads_any ?_ (by rfl) ?_ ?_; rotate_left; (intro wz; go_simp; try with_reducible rfl); (try simp only [Act.put, List.setIfInBounds_toArray, List.set_cons_zero, List.set_cons_succ])))
       refine wpReads_nil ?_
       go_wp2
       go_ret
       exact ⟨rfl, below_dr (n := 1) HBX.out⟩
      have HF1 : Hid (decide (base < 0) = false) := Lib.hid (decide_eq_false d1)
      by_cases d5 : size < 0
      ·
       skip
       have e : F = false := by rw [← HEC.out, decide_eq_false (by omega : ¬ (n : Int) ≤ size)]; simp
       subst e
       go_wp2_with fail
       refine wp_region_lex (fun w' => w'.cell? ⟨wr.heap.size, 0, none⟩ = some (.int .i64 base) ∧ w'.cell? ⟨wr.heap.size, 1, none⟩ = some (.int .i64 size) ∧ w'.cell? ⟨w.heap.size + 1, 1, none⟩ = some (.int .i64 p.total) ∧ w'.cell? ⟨w.heap.size, 2, none⟩ = some (.slice (some ⟨be, oe, none⟩) g.edges.length ce) ∧ w'.cell? ⟨be, oe + j * 5 + 4, none⟩ = some (.slice sa n sc)) [0, 1, 2, 3, 4, 5, 6, 7, 8, 9, 10, 11, 12, 13, 14, 15, 16, 17, 18, 19, 20, 21, 22, 23, 24, 25, 26, 27, 28, 29, 30, 31, 32, 33, 34, 35, 36] [] (by kernel_rfl) (by kernel_rfl) rfl (fun _ _ hx h => ⟨hx.cell h.1, hx.cell h.2.1, hx.cell h.2.2.1, hx.cell h.2.2.2.1, hx.cell h.2.2.2.2⟩) ⟨x0, x1, t1, e2, e4⟩ ?_
       intro Q' hQ'
       simp only [pickOps, List.flatMap_cons, List.flatMap_nil, List.drop_succ_cons, List.drop_zero, List.take_succ_cons, List.take_zero, List.cons_append, List.nil_append, List.append_nil]
       have b1 := And.intro HF1.out (decide_eq_true (show size < 0 by omega))
       (try obtain ⟨b1, b2⟩ := b1)
       (try obtain ⟨b2, b3⟩ := b2)
       (try obtain ⟨b3, b4⟩ := b3)
       (try obtain ⟨b4, b5⟩ := b4)
       repeat (first
        | (refine wpReads_skip (by rfl) ?_; (try simp only [Act.put, List.setIfInBounds_toArray, List.set_cons_zero, List.set_cons_succ]))
        | (refine wpReads_cons ?_ (by rfl) (by rfl) ?_ ?_; rotate_left; (intro wz hz; (try dsimp only at hz); go_simp; try with_reducible rfl); (try simp only [Act.put, List.setIfInBounds_toArray, List.set_cons_zero, List.set_cons_succ]))
        | (refine wpReads_any ?_ (by rfl) ?_ ?_; rotate_left; (intro wz; go_simp; try with_reducible rfl); (try simp only [Act.put, List.setIfInBounds_toArray, List.set_cons_zero, List.set_cons_succ])))
       refine wpReads_nil ?_
       go_wp2
       go_ret
       exact ⟨rfl, below_dr (n := 1) HBX.out⟩
      have HF2 : Hid (decide (size < 0) = false) := Lib.hid (decide_eq_false d5)
      by_cases d2 : p.total < base
      ·
       skip
       have e : F = false := by rw [← HEC.out, decide_eq_false (by omega : ¬ base ≤ p.total)]; simp
       subst e
       go_wp2_with fail
       refine wp_region_lex (fun w' => w'.cell? ⟨wr.heap.size, 0, none⟩ = some (.int .i64 base) ∧ w'.cell? ⟨wr.heap.size, 1, none⟩ = some (.int .i64 size) ∧ w'.cell? ⟨w.heap.size + 1, 1, none⟩ = some (.int .i64 p.total) ∧ w'.cell? ⟨w.heap.size, 2, none⟩ = some (.slice (some ⟨be, oe, none⟩) g.edges.length ce) ∧ w'.cell? ⟨be, oe + j * 5 + 4, none⟩ = some (.slice sa n sc)) [0, 1, 2, 3, 4, 5, 6, 7, 8, 9, 10, 11, 12, 13, 14, 15, 16, 17, 18, 19, 20, 21, 22, 23, 24, 25, 26, 27, 28, 29, 30, 31, 32, 33, 34, 35, 36] [] (by kernel_rfl) (by kernel_rfl) rfl (fun _ _ hx h => ⟨hx.cell h.1, hx.cell h.2.1, hx.cell h.2.2.1, hx.cell h.2.2.2.1, hx.cell h.2.2.2.2⟩) ⟨x0, x1, t1, e2, e4⟩ ?_
       intro Q' hQ'
       simp only [pickOps, List.flatMap_cons, List.flatMap_nil, List.drop_succ_cons, List.drop_zero, List.take_succ_cons, List.take_zero, List.cons_append, List.nil_append, List.append_nil]
       have b1 := And.intro HF1.out (And.intro HF2.out (decide_eq_true (show p.total < base by omega)))
       (try obtain ⟨b1, b2⟩ := b1)
       (try obtain ⟨b2, b3⟩ := b2)
       (try obtain ⟨b3, b4⟩ := b3)
       (try obtain ⟨b4, b5⟩ := b4)
       repeat (first
        | (refine wpReads_skip (by rfl) ?_; (try simp only [Act.put, List.setIfInBounds_toArray, List.set_cons_zero, List.set_cons_succ]))
        | (refine wpReads_cons ?_ (by rfl) (by rfl) ?_ ?_; rotate_left; (intro wz hz; (try dsimp only at hz); go_simp; try with_reducible rfl); (try simp only [Act.put, List.setIfInBounds_toArray, List.set_cons_zero, List.set_cons_succ]))
        | (refine wpReads_any ?_ (by rfl) ?_ ?_; rotate_left; (intro wz; go_simp; try with_reducible rfl); (try simp only [Act.put, List.setIfInBounds_toArray, List.set_cons_zero, List.set_cons_succ])))
       refine wpReads_nil ?_
       go_wp2
       go_ret
       exact ⟨rfl, below_dr (n := 1) HBX.out⟩
      have HF3 : Hid (decide (p.total < base) = false) := Lib.hid (decide_eq_false d2)
      have hwr : IntKind.i64.wrap (p.total - base) = p.total - base := hwr0 (by omega) (by omega)
      by_cases d4 : p.total - base < size
      ·
       skip
       have e : F = false := by rw [← HEC.out, decide_eq_false (by omega : ¬ size ≤ p.total - base)]; simp
       subst e
       go_wp2_with fail
       refine wp_region_lex (fun w' => w'.cell? ⟨wr.heap.size, 0, none⟩ = some (.int .i64 base) ∧ w'.cell? ⟨wr.heap.size, 1, none⟩ = some (.int .i64 size) ∧ w'.cell? ⟨w.heap.size + 1, 1, none⟩ = some (.int .i64 p.total) ∧ w'.cell? ⟨w.heap.size, 2, none⟩ = some (.slice (some ⟨be, oe, none⟩) g.edges.length ce) ∧ w'.cell? ⟨be, oe + j * 5 + 4, none⟩ = some (.slice sa n sc)) [0, 1, 2, 3, 4, 5, 6, 7, 8, 9, 10, 11, 12, 13, 14, 15, 16, 17, 18, 19, 20, 21, 22, 23, 24, 25, 26, 27, 28, 29, 30, 31, 32, 33, 34, 35, 36] [] (by kernel_rfl) (by kernel_rfl) rfl (fun _ _ hx h => ⟨hx.cell h.1, hx.cell h.2.1, hx.cell h.2.2.1, hx.cell h.2.2.2.1, hx.cell h.2.2.2.2⟩) ⟨x0, x1, t1, e2, e4⟩ ?_
       intro Q' hQ'
       simp only [pickOps, List.flatMap_cons, List.flatMap_nil, List.drop_succ_cons, List.drop_zero, List.take_succ_cons, List.take_zero, List.cons_append, List.nil_append, List.append_nil]
       have b1 := And.intro HF1.out (And.intro HF2.out (And.intro HF3.out (decide_eq_true (show p.total - base < size by omega))))
       (try obtain ⟨b1, b2⟩ := b1)
       (try obtain ⟨b2, b3⟩ := b2)
       (try obtain ⟨b3, b4⟩ := b3)
       (try obtain ⟨b4, b5⟩ := b4)
       repeat (first
        | (refine wpReads_skip (by rfl) ?_; (try simp only [Act.put, List.setIfInBounds_toArray, List.set_cons_zero, List.set_cons_succ]))
        | (refine wpReads_cons ?_ (by rfl) (by rfl) ?_ ?_; rotate_left; (intro wz hz; (try dsimp only at hz); go_simp; try with_reducible rfl); (try simp only [Act.put, List.setIfInBounds_toArray, List.set_cons_zero, List.set_cons_succ]))
        | (refine wpReads_any ?_ (by rfl) ?_ ?_; rotate_left; (intro wz; go_simp; try with_reducible rfl); (try simp only [Act.put, List.setIfInBounds_toArray, List.set_cons_zero, List.set_cons_succ])))
       refine wpReads_nil ?_
       go_wp2
       go_ret
       exact ⟨rfl, below_dr (n := 1) HBX.out⟩
      have HF4 : Hid (decide (p.total - base < size) = false) := Lib.hid (decide_eq_false d4)
      by_cases d3 : size < (n : Int)
      ·
       skip
       have e : F = false := by rw [← HEC.out, decide_eq_false (by omega : ¬ (n : Int) ≤ size)]; simp
       subst e
       go_wp2_with fail
       refine wp_region_lex (fun w' => w'.cell? ⟨wr.heap.size, 0, none⟩ = some (.int .i64 base) ∧ w'.cell? ⟨wr.heap.size, 1, none⟩ = some (.int .i64 size) ∧ w'.cell? ⟨w.heap.size + 1, 1, none⟩ = some (.int .i64 p.total) ∧ w'.cell? ⟨w.heap.size, 2, none⟩ = some (.slice (some ⟨be, oe, none⟩) g.edges.length ce) ∧ w'.cell? ⟨be, oe + j * 5 + 4, none⟩ = some (.slice sa n sc)) [0, 1, 2, 3, 4, 5, 6, 7, 8, 9, 10, 11, 12, 13, 14, 15, 16, 17, 18, 19, 20, 21, 22, 23, 24, 25, 26, 27, 28, 29, 30, 31, 32, 33, 34, 35, 36] [] (by kernel_rfl) (by kernel_rfl) rfl (fun _ _ hx h => ⟨hx.cell h.1, hx.cell h.2.1, hx.cell h.2.2.1, hx.cell h.2.2.2.1, hx.cell h.2.2.2.2⟩) ⟨x0, x1, t1, e2, e4⟩ ?_
       intro Q' hQ'
       simp only [pickOps, List.flatMap_cons, List.flatMap_nil, List.drop_succ_cons, List.drop_zero, List.take_succ_cons, List.take_zero, List.cons_append, List.nil_append, List.append_nil]
       have b1 := And.intro HF1.out (And.intro HF2.out (And.intro HF3.out (And.intro HF4.out (decide_eq_true (show size < (n : Int) by omega)))))
       (try obtain ⟨b1, b2⟩ := b1)
       (try obtain ⟨b2, b3⟩ := b2)
       (try obtain ⟨b3, b4⟩ := b3)
       (try obtain ⟨b4, b5⟩ := b4)
       repeat (first
        | (refine wpReads_skip (by rfl) ?_; (try simp only [Act.put, List.setIfInBounds_toArray, List.set_cons_zero, List.set_cons_succ]))
        | (refine wpReads_cons ?_ (by rfl) (by rfl) ?_ ?_; rotate_left; (intro wz hz; (try dsimp only at hz); go_simp; try with_reducible rfl); (try simp only [Act.put, List.setIfInBounds_toArray, List.set_cons_zero, List.set_cons_succ]))
        | (refine wpReads_any ?_ (by rfl) ?_ ?_; rotate_left; (intro wz; go_simp; try with_reducible rfl); (try simp only [Act.put, List.setIfInBounds_toArray, List.set_cons_zero, List.set_cons_succ])))
       refine wpReads_nil ?_
       go_wp2
       go_ret
       exact ⟨rfl, below_dr (n := 1) HBX.out⟩
      have HF5 : Hid (decide (size < (n : Int)) = false) := Lib.hid (decide_eq_false d3)
      have HR1 := Lib.hid (show regionsP p.total (p.regions.drop (j + 1)) (g.edges.drop (j + 1)) = F by rw [← HEC.out, decide_eq_true (by omega : 0 ≤ base), decide_eq_true (by omega : base ≤ p.total), decide_eq_true (by omega : (n : Int) ≤ size), decide_eq_true (by omega : size ≤ p.total - base)]; simp)
      have hll := HLE.out
      go_wp2_with fail
      refine wp_region_lex (fun w' => w'.cell? ⟨wr.heap.size, 0, none⟩ = some (.int .i64 base) ∧ w'.cell? ⟨wr.heap.size, 1, none⟩ = some (.int .i64 size) ∧ w'.cell? ⟨w.heap.size + 1, 1, none⟩ = some (.int .i64 p.total) ∧ w'.cell? ⟨w.heap.size, 2, none⟩ = some (.slice (some ⟨be, oe, none⟩) g.edges.length ce) ∧ w'.cell? ⟨be, oe + j * 5 + 4, none⟩ = some (.slice sa n sc)) [0, 1, 2, 3, 4, 5, 6, 7, 8, 9, 10, 11, 12, 13, 14, 15, 16, 17, 18, 19, 20, 21, 22, 23, 24, 25, 26, 27, 28, 29, 30, 31, 32, 33, 34, 35, 36] [] (by kernel_rfl) (by kernel_rfl) rfl (fun _ _ hx h => ⟨hx.cell h.1, hx.cell h.2.1, hx.cell h.2.2.1, hx.cell h.2.2.2.1, hx.cell h.2.2.2.2⟩) ⟨x0, x1, t1, e2, e4⟩ ?_
      intro Q' hQ'
      simp only [pickOps, List.flatMap_cons, List.flatMap_nil, List.drop_succ_cons, List.drop_zero, List.take_succ_cons, List.take_zero, List.cons_append, List.nil_append, List.append_nil]
      have b1 := And.intro HF1.out (And.intro HF2.out (And.intro HF3.out (And.intro HF4.out HF5.out)))
      (try obtain ⟨b1, b2⟩ := b1)
      (try obtain ⟨b2, b3⟩ := b2)
      (try obtain ⟨b3, b4⟩ := b3)
      (try obtain ⟨b4, b5⟩ := b4)
      repeat (first
       | (refine wpReads_skip (by rfl) ?_; (try simp only [Act.put, List.setIfInBounds_toArray, List.set_cons_zero, List.set_cons_succ]))
       | (refine wpReads_cons ?_ (by rfl) (by rfl) ?_ ?_; rotate_left; (intro wz hz; (try dsimp only at hz); go_simp; try with_reducible rfl); (try simp only [Act.put, List.setIfInBounds_toArray, List.set_cons_zero, List.set_cons_succ]))
       | (refine wpReads_any ?_ (by rfl) ?_ ?_; rotate_left; (intro wz; go_simp; try with_reducible rfl); (try simp only [Act.put, List.setIfInBounds_toArray, List.set_cons_zero, List.set_cons_succ])))
      refine wpReads_nil ?_
      go_wp2
      go_roundw
      case rel => exact ⟨j + 1, hlt, by go_num, below_dr (n := 1) HBY.out, HR1.out⟩
      case measure => simp [intOf]; omega
     ·
      obtain rfl : j = g.edges.length := by omega
      have e2' := cell_later HB.out e2
      have e := HE.out
      rw [List.drop_of_length_le (by omega), regionsP_nil] at e
      subst e
      go_wp2
      go_ret
      exact ⟨rfl, HB0.out.trans (HB.out.mono HB0.out.size)⟩
   ·
    obtain rfl : false = F := by rw [← HF.out, fitsP, decide_eq_false h2]; simp
    have h2i : (1024 : Int) < p.total := by omega
    rw [hl] at r0 ⊢
    rw [hl] at hli hW
    go_enter Try.func50, Try.ntmps50
    go_wp2
    go_ret
    exact ⟨rfl, HB0.out⟩
  ·
   obtain rfl : false = F := by rw [← HF.out, fitsP, decide_eq_false h1]; simp
   have h1i : p.total < 0 := by omega
   rw [hl] at r0 ⊢
   rw [hl] at hli hW
   go_enter Try.func50, Try.ntmps50
   go_wp2
   go_ret
   exact ⟨rfl, HB0.out⟩
 ·
  obtain rfl : false = F := by rw [← HF.out, fitsP, decide_eq_false hl]; simp
  have hli : ((p.regions.length : Int) != g.edges.length) = true := by simp; omega
  go_enter Try.func50, Try.ntmps50
  go_wp2
  go_ret
  exact ⟨rfl, HB0.out⟩
end Go.Proofs.Ytbmbfifempkhgaa

/- The reference's Make: what it answers is makeP. -/
namespace Go.Proofs.Ytbmbfifempkhgaa
open Go.RowKit
theorem rowP_deep {F : List (List GOp)} : ∀ (l : Nest) (op : Nat) (s : List GOp × Nat), (rowP F l op s).2 = if deepestP l = 0 then s.2 else max s.2 (op + deepestP l)
 | .nil, op, s => by simp [rowP, deepestP]
 | .cons t nd b r, op, s => by
  have hr := rowP_deep (F := F) r op (stepP F t nd b op s)
  have hb1 := rowP_deep (F := F) b (op + 1) (openP op t s)
  have hb2 := rowP_deep (F := F) b op s
  have hn : b.isNil = true → deepestP b = 0 := fun h => by
   cases b with
   | nil => rfl
   | cons _ _ _ _ => cases h
  rw [rowP_cons, hr]
  have hst : (stepP F t nd b op s).2 = if 1 < t then max (max s.2 (op + 1)) (op + 1 + deepestP b) else if deepestP b = 0 then s.2 else max s.2 (op + deepestP b) := by
   rw [stepP]
   by_cases h1 : 1 < t
   ·
    rw [if_pos h1, if_pos h1]
    by_cases h2 : b.isNil = true
    ·
     rw [if_pos h2, hn h2]; simp only [closeP, leafP, openP]; omega
    ·
     rw [if_neg h2]
     show (rowP F b (op + 1) (openP op t s)).2 = _
     rw [hb1]
     have : (openP op t s).2 = max s.2 (op + 1) := rfl
     rw [this]
     split <;> omega
   ·
    rw [if_neg h1, if_neg h1]
    by_cases h2 : b.isNil = true
    ·
     rw [if_pos h2, hn h2]; simp [leafP]
    ·
     rw [if_neg h2, hb2]
  rw [hst]
  obtain ⟨X, hX⟩ : ∃ x, deepestP (.cons t nd b r) = x := ⟨_, rfl⟩
  have hX' : max (deepestP b + if 1 < t then 1 else 0) (deepestP r) = X := hX
  rw [hX]
  clear hX hst hr hb1 hb2 hn
  by_cases h1 : 1 < t
  ·
   rw [if_pos h1] at hX' ⊢
   rw [if_neg (by omega : ¬ X = 0)]
   split <;> omega
  ·
   rw [if_neg h1] at hX' ⊢
   repeat' split
   all_goals omega
theorem rowP_top (F : List (List GOp)) (l : Nest) : (rowP F l 0 ([], 0)).2 = deepestP l := by
 rw [rowP_deep]
 split <;> simp <;> omega
structure MAt (w wz : World) (q : Col) (gv pv : List Value) (PB : Nat) (cs : List Value) : Prop where
 kept : Kept w.heap.size q w wz
 gb : Blk wz q 9 w.heap.size 26 gv.toArray
 pb : Blk wz q 9 (w.heap.size + 1) 29 pv.toArray
 rb : Blk wz q 9 (w.heap.size + 2) 39 progZ
 pr : Blk wz q 3 PB 39 cs.toArray
theorem MAt.turn {w wz wz' : World} {q q' : Col} {C : Nat → Prop} {gv pv cs : List Value} {PB : Nat} (h : MAt w wz q gv pv PB cs) (T : Turn q q' C wz wz') (h0 : ¬ C 0) (h3 : ¬ C 3) (h9 : ¬ C 9) : MAt w wz' q' gv pv PB cs :=
 ⟨h.kept.turn T h0, h.gb.turn T h9, h.pb.turn T h9, h.rb.turn T h9, h.pr.turn T h3⟩
theorem MAt.put {w wz wz' : World} {q q' : Col} {C : Nat → Prop} {gv pv cs cs' : List Value} {PB : Nat} (h : MAt w wz q gv pv PB cs) (T : Turn q q' C wz wz') (h0 : ¬ C 0) (h9 : ¬ C 9) (hb : Blk wz' q' 3 PB 39 cs'.toArray) : MAt w wz' q' gv pv PB cs' :=
 ⟨h.kept.turn T h0, h.gb.turn T h9, h.pb.turn T h9, h.rb.turn T h9, hb⟩
def MFirst (w : World) (gv pv cs : List Value) (p : Value) (wx : World) : Prop := ∃ (q : Col) (PB : Nat), p = .pointer (some ⟨PB, 0, none⟩) ∧ MAt w wx q gv pv PB cs
set_option maxRecDepth 100000 in
set_option maxHeartbeats 4000000 in
theorem rmake_any (D : Nat) (w : World) (vg vp v : Value) (g : GGraph) (p : GPlan) (l : Nest) (hg : HasGraph w vg g) (hp : HasPlan w vp p) (hv : HasNestD D w v l) (hgs : GSized g) (hns : NSized l) : Calls Try.prog 14 #[vg, vp, v] w (MakeRet w g p l) := by
 obtain ⟨va, ve, vi, vo, rfl, ra, re, ri, ro⟩ := hg.shape
 obtain ⟨vr, rfl, rr⟩ := hp
 obtain ⟨aa, ac, rfl⟩ := ra.slice
 obtain ⟨ae, ec, rfl⟩ := re.slice
 obtain ⟨ai, ic, rfl⟩ := ri.slice
 obtain ⟨ao, oc, rfl⟩ := ro.slice
 obtain ⟨ar, rc, rfl⟩ := rr.slice
 obtain ⟨la, lc, rfl⟩ := nestD_slice D hv
 have RA := Lib.hid ra
 have RE := Lib.hid re
 have RR := Lib.hid rr
 have HG := Lib.hid hg
 have HP : Hid (HasPlan w (.agg #[.slice ar p.regions.length rc, .int .i64 p.total]) p) := Lib.hid ⟨_, rfl, rr⟩
 have HV := Lib.hid hv
 have HGS := Lib.hid hgs
 have HNS := Lib.hid hns
 clear ra re ri ro rr hg hv hgs hns
 have hb1 := below_alloc w (.cells #[.string g.name, .slice aa g.actors.length ac, .slice ae g.edges.length ec, .slice ai g.ins.length ic, .slice ao g.outs.length oc] 26)
 have T1 := Turn.of_below (fun _ => 0) 9 hb1
 have hG : Blk _ (ext (fun _ => 0) w.heap.size 9) 9 _ _ _ := ⟨heap_alloc_new w (.cells #[.string g.name, .slice aa g.actors.length ac, .slice ae g.edges.length ec, .slice ai g.ins.length ic, .slice ao g.outs.length oc] 26), ext_new (Nat.le_refl _)⟩
 have K1 := (Kept.start w).turn T1 (fun h => h)
 generalize hW1 : w.alloc (.cells #[.string g.name, .slice aa g.actors.length ac, .slice ae g.edges.length ec, .slice ai g.ins.length ic, .slice ao g.outs.length oc] 26) = W1 at *
 have hs1 : W1.heap.size = w.heap.size + 1 := by rw [← hW1]; simp
 have T2 := Turn.of_below (ext (fun _ => 0) w.heap.size 9) 9 (below_alloc W1 (.cells #[.slice ar p.regions.length rc, .int .i64 p.total] 29))
 have hP : Blk _ (ext (ext (fun _ => 0) w.heap.size 9) W1.heap.size 9) 9 _ _ _ := ⟨heap_alloc_new W1 (.cells #[.slice ar p.regions.length rc, .int .i64 p.total] 29), ext_new (Nat.le_refl _)⟩
 generalize ext (fun _ => 0) w.heap.size 9 = q0 at *
 have K2 := K1.turn T2 (fun h => h)
 have hG2 := hG.turn T2 (fun h => h)
 generalize hW2 : W1.alloc (.cells #[.slice ar p.regions.length rc, .int .i64 p.total] 29) = W2 at *
 have hs2 : W2.heap.size = w.heap.size + 2 := by rw [← hW2, World.size_alloc, hs1]
 generalize ext q0 W1.heap.size 9 = q1 at *
 rw [hs1] at hP
 have T3 := Turn.of_below q1 9 (below_alloc W2 (.cells progZ 39))
 have hR : Blk _ (ext q1 W2.heap.size 9) 9 _ _ _ := ⟨heap_alloc_new W2 (.cells progZ 39), ext_new (Nat.le_refl _)⟩
 have HK := Lib.hid (K2.turn T3 (fun h => h))
 have HGB := Lib.hid (hG2.turn T3 (fun h => h))
 have HPB := Lib.hid (hP.turn T3 (fun h => h))
 rw [hs2] at hR HK HGB HPB
 have HR := Lib.hid hR
 generalize ext q1 (w.heap.size + 2) 9 = q at *
 have y0 := HGB.out.cell 0 _ rfl
 have y1 := HGB.out.cell 1 _ rfl
 have y2 := HGB.out.cell 2 _ rfl
 have y3 := HGB.out.cell 3 _ rfl
 have y4 := HGB.out.cell 4 _ rfl
 clear hb1 T1 hG K1 T2 hP K2 hG2 T3 hR
 go_enter Try.func14, Try.ntmps14
 go_wp2_with fail
 clear hW1 hs1 hW2 hs2 y0 y1 y2 y3 y4
 refine (xcheck_any _ _ g (HG.out.below HK.out.below) HGS.out).mono ?_
 rintro e w4 ⟨rfl, hb4⟩
 have T9 := fun q => Turn.of_below q 10 hb4
 replace HK := Lib.hid (HK.out.turn (T9 _) (fun h => h))
 replace HGB := Lib.hid (HGB.out.turn (T9 _) (fun h => h))
 replace HPB := Lib.hid (HPB.out.turn (T9 _) (fun h => h))
 replace HR := Lib.hid (HR.out.turn (T9 _) (fun h => h))
 clear T9 hb4
 by_cases h1 : checkE g = 0
 ·
  rw [h1]
  have HC1 := Lib.hid h1
  clear h1
  go_wp2_with fail
  refine (r16check_any D _ _ l (nestD_below D HV.out HK.out.below) HNS.out).mono ?_
  rintro e w5 ⟨rfl, hb5⟩
  have T9 := fun q => Turn.of_below q 10 hb5
  replace HK := Lib.hid (HK.out.turn (T9 _) (fun h => h))
  replace HGB := Lib.hid (HGB.out.turn (T9 _) (fun h => h))
  replace HPB := Lib.hid (HPB.out.turn (T9 _) (fun h => h))
  replace HR := Lib.hid (HR.out.turn (T9 _) (fun h => h))
  clear T9 hb5
  by_cases h2 : nestCheckE l = 0
  ·
   rw [h2]
   have HC2 := Lib.hid h2
   clear h2
   have y0 := HGB.out.cell 0 _ rfl
   have y1 := HGB.out.cell 1 _ rfl
   have y2 := HGB.out.cell 2 _ rfl
   have y3 := HGB.out.cell 3 _ rfl
   have y4 := HGB.out.cell 4 _ rfl
   have y5 := HPB.out.cell 0 _ rfl
   have y6 := HPB.out.cell 1 _ rfl
   go_wp2_with fail
   refine (rstr_any D _ _ l g.actors.length (nestD_below D HV.out HK.out.below) HNS.out).mono ?_
   rintro e w6 ⟨rfl, hb6⟩
   clear y0 y1 y2 y3 y4 y5 y6
   have T9 := fun q => Turn.of_below q 10 hb6
   replace HK := Lib.hid (HK.out.turn (T9 _) (fun h => h))
   replace HGB := Lib.hid (HGB.out.turn (T9 _) (fun h => h))
   replace HPB := Lib.hid (HPB.out.turn (T9 _) (fun h => h))
   replace HR := Lib.hid (HR.out.turn (T9 _) (fun h => h))
   clear T9 hb6
   by_cases h3 : strangeP l g.actors.length = false
   ·
    rw [h3]
    have HC3 := Lib.hid h3
    clear h3
    have y0 := HGB.out.cell 0 _ rfl
    have y1 := HGB.out.cell 1 _ rfl
    have y2 := HGB.out.cell 2 _ rfl
    have y3 := HGB.out.cell 3 _ rfl
    have y4 := HGB.out.cell 4 _ rfl
    have y5 := HPB.out.cell 0 _ rfl
    have y6 := HPB.out.cell 1 _ rfl
    go_wp2_with fail
    refine (rfits_any _ _ _ g p (HG.out.below HK.out.below) (HP.out.below HK.out.below) (by have := (headE_parts (checkE_parts HC1.out).1).2.2.1; omega) (fun e he => by have := starts_of HC1.out e he; omega)).mono ?_
    rintro e w7 ⟨rfl, hb7⟩
    clear y0 y1 y2 y3 y4 y5 y6
    have T9 := fun q => Turn.of_below q 10 hb7
    replace HK := Lib.hid (HK.out.turn (T9 _) (fun h => h))
    replace HGB := Lib.hid (HGB.out.turn (T9 _) (fun h => h))
    replace HPB := Lib.hid (HPB.out.turn (T9 _) (fun h => h))
    replace HR := Lib.hid (HR.out.turn (T9 _) (fun h => h))
    clear T9 hb7
    by_cases h4 : fitsP g p = true
    ·
     rw [h4]
     have HC4 := Lib.hid h4
     clear h4
     have HFO := Lib.hid (firOk_of HC1.out HGS.out)
     obtain ⟨q8, hq8⟩ : ∃ x : Col, x = ext (ext (ext (ext q (W2.alloc (Obj.cells progZ 39)).heap.size 10) w4.heap.size 10) w5.heap.size 10) w6.heap.size 10 := ⟨_, rfl⟩
     rw [← hq8] at HK HGB HPB HR
     clear hq8
     obtain ⟨nc1, nc2, nc3⟩ := nest_facts HC2.out
     have HN1 := Lib.hid nc1
     have HN2 := Lib.hid nc2
     have HLF : Hid (LeafOk g.actors.length l) := Lib.hid (leafOk_strange l _ nc3 HC3.out)
     have HRL := Lib.hid (rowP_len (firP_row HFO.out) l 0 ([], 0))
     have HDP : Hid (deepestP l ≤ 17) := Lib.hid (by have h1 := rowP_cnt (F := firP g) l 0 ([], 0); rw [rowP_top] at h1; simp only [Nat.zero_max] at h1; omega)
     clear nc1 nc2 nc3
     have y0 := HGB.out.cell 0 _ rfl
     have y1 := HGB.out.cell 1 _ rfl
     have y2 := HGB.out.cell 2 _ rfl
     have y3 := HGB.out.cell 3 _ rfl
     have y4 := HGB.out.cell 4 _ rfl
     have y5 := HPB.out.cell 0 _ rfl
     have y6 := HPB.out.cell 1 _ rfl
     go_wp2_with fail
     go_cut [9] from 35 to 45 (fun pp wx => MFirst w [.string g.name, .slice aa g.actors.length ac, .slice ae g.edges.length ec, .slice ai g.ins.length ic, .slice ao g.outs.length oc] [.slice ar p.regions.length rc, .int .i64 p.total] [.int .i64 p.total, .int .i64 (deepestP l : Nat), .int .i64 g.ins.length, .int .i64 g.outs.length, .slice none 0 0, .slice none 0 0, .slice none 0 0] pp wx)
     case first =>
      refine wp_region_rest (fun w' => w'.cell? ⟨w.heap.size + 1, 1, none⟩ = some (.int .i64 p.total) ∧ w'.cell? ⟨w.heap.size, 3, none⟩ = some (.slice ai g.ins.length ic) ∧ w'.cell? ⟨w.heap.size, 4, none⟩ = some (.slice ao g.outs.length oc)) [0, 1, 2, 4, 5, 6, 7, 8, 9] [3] 4 (by kernel_rfl) (by kernel_rfl) rfl ⟨y6, y3, y4⟩ ?_
      intro Q' hQ'
      simp only [pickOps, List.flatMap_cons, List.flatMap_nil, List.drop_succ_cons, List.drop_zero, List.take_succ_cons, List.take_zero, List.cons_append, List.nil_append, List.append_nil]
      repeat (first
       | (refine wpReads_skip (by rfl) ?_; (try simp only [Act.put, List.setIfInBounds_toArray, List.set_cons_zero, List.set_cons_succ]))
       | (refine wpReads_cons ?_ (by rfl) (by rfl) ?_ ?_; rotate_left; (intro wz hz; (try dsimp only at hz); go_simp; try with_reducible rfl); (try simp only [Act.put, List.setIfInBounds_toArray, List.set_cons_zero, List.set_cons_succ]))
       | (refine wpReads_any ?_ (by rfl) ?_ ?_; rotate_left; (intro wz; go_simp; try with_reducible rfl); (try simp only [Act.put, List.setIfInBounds_toArray, List.set_cons_zero, List.set_cons_succ])))
      refine wpReads_nil ?_
      obtain ⟨wd, hwd⟩ : ∃ x, w7.drew = x := ⟨_, rfl⟩
      have T0 : Turn q8 q8 (fun _ => False) w7 wd := by rw [← hwd]; exact (Turn.refl q8 _ w7).drew
      replace HK := Lib.hid (HK.out.turn T0 (fun h => h))
      replace HGB := Lib.hid (HGB.out.turn T0 (fun h => h))
      replace HPB := Lib.hid (HPB.out.turn T0 (fun h => h))
      replace HR := Lib.hid (HR.out.turn T0 (fun h => h))
      rw [hwd]
      clear T0 hwd y0 y1 y2 y3 y4 y5 y6
      refine wpAnyT_two (i := 3) (k := 11) (by kernel_rfl) ?_ ?_
      ·
       simp only [pickOps, List.flatMap_cons, List.flatMap_nil, List.drop_succ_cons, List.drop_zero, List.take_succ_cons, List.take_zero, List.cons_append, List.nil_append, List.append_nil]
       go_wp2_with fail
       refine (deep_any D _ _ l (nestD_below D HV.out HK.out.below) HNS.out (by have := HDP.out; omega)).mono ?_
       rintro e w8 ⟨rfl, hb8⟩
       have T9 := fun q => Turn.of_below q 10 hb8
       replace HK := Lib.hid (HK.out.turn (T9 _) (fun h => h))
       replace HGB := Lib.hid (HGB.out.turn (T9 _) (fun h => h))
       replace HPB := Lib.hid (HPB.out.turn (T9 _) (fun h => h))
       replace HR := Lib.hid (HR.out.turn (T9 _) (fun h => h))
       clear T9 hb8
       go_wp2_with fail
       refine ⟨by intros; exact ⟨HPB.out.cell 1 _ rfl, HGB.out.cell 3 _ rfl, HGB.out.cell 4 _ rfl⟩, ?_⟩
       refine wpAnyT_two (i := 10) (k := 11) (by kernel_rfl) ?_ ?_
       ·
        simp only [pickOps, List.flatMap_cons, List.flatMap_nil, List.drop_succ_cons, List.drop_zero, List.take_succ_cons, List.take_zero, List.cons_append, List.nil_append, List.append_nil]
        go_wp2
        refine ⟨fun _ h => h, ?_⟩
        refine wpAnyT_list (ks := [11, 12]) (fun _ _ hx h => ⟨hx.cell h.1, hx.cell h.2.1, hx.cell h.2.2⟩) (by kernel_rfl) ?_
        simp only [pickOps, List.flatMap_cons, List.flatMap_nil, List.drop_succ_cons, List.drop_zero, List.take_succ_cons, List.take_zero, List.cons_append, List.nil_append, List.append_nil]
        go_wp2
        go_meet
        case rel =>
         have TN := Turn.of_below (ext q8 wd.heap.size 10) 3 (below_alloc w8 (.cells #[.int .i64 p.total, .int .i64 (deepestP l : Nat), .int .i64 g.ins.length, .int .i64 g.outs.length, .slice none 0 0, .slice none 0 0, .slice none 0 0] 39))
         exact ⟨_, _, rfl, HK.out.turn TN (fun h => h), HGB.out.turn TN (fun h => h), HPB.out.turn TN (fun h => h), HR.out.turn TN (fun h => h), blk_new _ _ _ _⟩
       ·
        simp only [pickOps, List.flatMap_cons, List.flatMap_nil, List.drop_succ_cons, List.drop_zero, List.take_succ_cons, List.take_zero, List.cons_append, List.nil_append, List.append_nil]
        have hbN := below_alloc (w8) (.cells progZ 39)
        have TN := Turn.of_below (ext q8 wd.heap.size 10) 3 hbN
        have HPZ := Lib.hid (blk_new (w := w8) (ext q8 wd.heap.size 10) 3 progZ 39)
        replace HK := Lib.hid (HK.out.turn TN (fun h => h))
        replace HGB := Lib.hid (HGB.out.turn TN (fun h => h))
        replace HPB := Lib.hid (HPB.out.turn TN (fun h => h))
        replace HR := Lib.hid (HR.out.turn TN (fun h => h))
        generalize ext (ext q8 wd.heap.size 10) (w8).heap.size 3 = qz at *
        clear hbN TN
        go_wp2
        obtain ⟨wz, hwz⟩ : ∃ x, (w8).alloc (.cells progZ 39) = x := ⟨_, rfl⟩
        obtain ⟨PB, hPB⟩ : ∃ x, (w8).heap.size = x := ⟨_, rfl⟩
        rw [hwz] at HK HGB HPB HR HPZ ⊢
        rw [hPB] at HPZ ⊢
        clear hwz hPB
        refine ⟨by intros; exact ⟨HPB.out.cell 1 _ rfl, HGB.out.cell 3 _ rfl, HGB.out.cell 4 _ rfl⟩, ?_⟩
        refine wpAnyT_list (ks := [10, 12]) (fun _ _ hx h => ⟨hx.cell h.1, hx.cell h.2.1, hx.cell h.2.2⟩) (by kernel_rfl) ?_
        simp only [pickOps, List.flatMap_cons, List.flatMap_nil, List.drop_succ_cons, List.drop_zero, List.take_succ_cons, List.take_zero, List.cons_append, List.nil_append, List.append_nil]
        have hpz := HPZ.out
        have z0 := hpz.cell 0 _ rfl
        have z1 := hpz.cell 1 _ rfl
        have z2 := hpz.cell 2 _ rfl
        have z3 := hpz.cell 3 _ rfl
        have z4 := hpz.cell 4 _ rfl
        have z5 := hpz.cell 5 _ rfl
        have z6 := hpz.cell 6 _ rfl
        have f0 := hpz.frozen 0
        have f1 := hpz.frozen 1
        have f2 := hpz.frozen 2
        have f3 := hpz.frozen 3
        have f4 := hpz.frozen 4
        have f5 := hpz.frozen 5
        have f6 := hpz.frozen 6
        clear hpz
        go_wp2
        go_meet
        case rel =>
         have T := (⟨(prog_mods wz PB (.int .i64 p.total) (.int .i64 (deepestP l : Nat)) (.int .i64 g.ins.length) (.int .i64 g.outs.length) (.slice none 0 0) (.slice none 0 0) (.slice none 0 0)).mono (fun k _ e => by subst e; exact HPZ.out.2), fun _ _ => rfl⟩ : Turn (qz) (qz) (fun x => x = 3) wz _)
         exact ⟨_, PB, rfl, HK.out.turn T (by decide), HGB.out.turn T (by decide), HPB.out.turn T (by decide), HR.out.turn T (by decide), prog_set HPZ.out.1 _ _ _ _ _ _ _, HPZ.out.2⟩
      ·
       simp only [pickOps, List.flatMap_cons, List.flatMap_nil, List.drop_succ_cons, List.drop_zero, List.take_succ_cons, List.take_zero, List.cons_append, List.nil_append, List.append_nil]
       have hbN := below_alloc (wd) (.cells progZ 39)
       have TN := Turn.of_below (q8) 3 hbN
       have HPZ := Lib.hid (blk_new (w := wd) (q8) 3 progZ 39)
       replace HK := Lib.hid (HK.out.turn TN (fun h => h))
       replace HGB := Lib.hid (HGB.out.turn TN (fun h => h))
       replace HPB := Lib.hid (HPB.out.turn TN (fun h => h))
       replace HR := Lib.hid (HR.out.turn TN (fun h => h))
       generalize ext (q8) (wd).heap.size 3 = qz at *
       clear hbN TN
       go_wp2
       obtain ⟨wz, hwz⟩ : ∃ x, (wd).alloc (.cells progZ 39) = x := ⟨_, rfl⟩
       obtain ⟨PB, hPB⟩ : ∃ x, (wd).heap.size = x := ⟨_, rfl⟩
       rw [hwz] at HK HGB HPB HR HPZ ⊢
       rw [hPB] at HPZ ⊢
       clear hwz hPB
       refine ⟨by intros; exact ⟨HPB.out.cell 1 _ rfl, HGB.out.cell 3 _ rfl, HGB.out.cell 4 _ rfl⟩, ?_⟩
       refine wpAnyT_one (i := 3) (by kernel_rfl) ?_
       simp only [pickOps, List.flatMap_cons, List.flatMap_nil, List.drop_succ_cons, List.drop_zero, List.take_succ_cons, List.take_zero, List.cons_append, List.nil_append, List.append_nil]
       go_wp2_with fail
       refine (deep_any D _ _ l (nestD_below D HV.out HK.out.below) HNS.out (by have := HDP.out; omega)).mono ?_
       rintro e w8 ⟨rfl, hb8⟩
       replace HPZ := Lib.hid (HPZ.out.turn (Turn.of_below qz 10 hb8) (fun h => h))
       have T9 := fun q => Turn.of_below q 10 hb8
       replace HK := Lib.hid (HK.out.turn (T9 _) (fun h => h))
       replace HGB := Lib.hid (HGB.out.turn (T9 _) (fun h => h))
       replace HPB := Lib.hid (HPB.out.turn (T9 _) (fun h => h))
       replace HR := Lib.hid (HR.out.turn (T9 _) (fun h => h))
       clear T9 hb8
       go_wp2_with fail
       refine ⟨by intros; exact ⟨HPB.out.cell 1 _ rfl, HGB.out.cell 3 _ rfl, HGB.out.cell 4 _ rfl⟩, ?_⟩
       refine wpAnyT_list (ks := [10, 12]) (fun _ _ hx h => ⟨hx.cell h.1, hx.cell h.2.1, hx.cell h.2.2⟩) (by kernel_rfl) ?_
       simp only [pickOps, List.flatMap_cons, List.flatMap_nil, List.drop_succ_cons, List.drop_zero, List.take_succ_cons, List.take_zero, List.cons_append, List.nil_append, List.append_nil]
       have hpz := HPZ.out
       have z0 := hpz.cell 0 _ rfl
       have z1 := hpz.cell 1 _ rfl
       have z2 := hpz.cell 2 _ rfl
       have z3 := hpz.cell 3 _ rfl
       have z4 := hpz.cell 4 _ rfl
       have z5 := hpz.cell 5 _ rfl
       have z6 := hpz.cell 6 _ rfl
       have f0 := hpz.frozen 0
       have f1 := hpz.frozen 1
       have f2 := hpz.frozen 2
       have f3 := hpz.frozen 3
       have f4 := hpz.frozen 4
       have f5 := hpz.frozen 5
       have f6 := hpz.frozen 6
       clear hpz
       go_wp2
       go_meet
       case rel =>
        have T := (⟨(prog_mods w8 PB (.int .i64 p.total) (.int .i64 (deepestP l : Nat)) (.int .i64 g.ins.length) (.int .i64 g.outs.length) (.slice none 0 0) (.slice none 0 0) (.slice none 0 0)).mono (fun k _ e => by subst e; exact HPZ.out.2), fun _ _ => rfl⟩ : Turn (ext qz wz.heap.size 10) (ext qz wz.heap.size 10) (fun x => x = 3) w8 _)
        exact ⟨_, PB, rfl, HK.out.turn T (by decide), HGB.out.turn T (by decide), HPB.out.turn T (by decide), HR.out.turn T (by decide), prog_set HPZ.out.1 _ _ _ _ _ _ _, HPZ.out.2⟩
     case rest =>
      obtain ⟨q, PB, rfl, hM⟩ := hcut
      have HM := Lib.hid hM
      clear hM HK HGB HPB HR y0 y1 y2 y3 y4 y5 y6
      obtain ⟨n, hn⟩ : ∃ n, g.actors.length = n := ⟨_, rfl⟩
      have HN := Lib.hid hn
      have hn32 := HFO.out.actors
      rw [hn] at hn32 HM
      clear hn
      have y1 := HM.out.gb.cell 1 _ rfl
      go_wp2_with fail
      clear y1
      go_loopw [10] (fun i wl => ∃ (j : Nat) (q : Col) (vp : Value) (ps : List (GPart × Value)), j ≤ n ∧ i = .int .i64 j ∧ MAt w wl q [.string g.name, .slice aa n ac, .slice ae g.edges.length ec, .slice ai g.ins.length ic, .slice ao g.outs.length oc] [.slice ar p.regions.length rc, .int .i64 p.total] PB [.int .i64 p.total, .int .i64 (deepestP l : Nat), .int .i64 g.ins.length, .int .i64 g.outs.length, vp, .slice none 0 0, .slice none 0 0] ∧ TailAt partHd GPart.params wl q 4 5 108 2 vp ps ∧ ps.map Prod.fst = (partsP g.actors).take j) (fun i _ => n - (intOf i).toNat)
      case atStart => exact ⟨0, _, _, [], Nat.zero_le _, rfl, HM.out, TailAt.nil, rfl⟩
      case round =>
       clear HM
       obtain ⟨j, q, vp, ps, hj, rfl, hM, hT, hps⟩ := hrel
       have HM := Lib.hid hM
       have HTA := Lib.hid hT
       have HPS := Lib.hid hps
       clear hM hT hps
       have y1 := HM.out.gb.cell 1 _ rfl
       by_cases hlt : j < n
       ·
        have hlti : (j : Int) < n := by omega
        have hlt2 : j < g.actors.length := by have := HN.out; omega
        obtain ⟨b0, off, rfl, hcap, hb0, hrec⟩ := RA.out.at (by omega)
        obtain ⟨cs, hcs, hPR, hcl⟩ := hrec j hlt2
        obtain ⟨xs, rfl, hst⟩ := hPR
        have c1 := cell_later HM.out.kept.below (hcl 1 (by omega))
        have c2 := cell_later HM.out.kept.below (hcl 2 (by omega))
        simp at c1 c2
        have hcapi : (n : Int) ≤ ac := by have := HN.out; omega
        have hst2 : Has w xs (ivs g.actors[j].params) := hst
        obtain ⟨sa, sc, hxs⟩ := Ints.slice hst2
        subst hxs
        have HST := Lib.hid hst2
        have hplen := (HFO.out.good _ (List.getElem_mem hlt2)).2
        have HPJ : Hid ((partsP g.actors).take (j + 1) = (partsP g.actors).take j ++ [⟨g.actors[j].tag, g.actors[j].params⟩]) := Lib.hid (by rw [List.take_succ_eq_append_getElem (by simpa [partsP] using hlt2)]; simp [partsP])
        clear hcl hcs hrec hst hst2
        generalize g.actors[j] = a at *
        obtain ⟨pa, pc, rfl⟩ := HTA.out.own.slice
        have z4 := HM.out.pr.cell 4 _ rfl
        go_wp2_with fail
        refine wp_region_rest (fun w' => w'.cell? ⟨PB, 4, none⟩ = some (.slice pa ps.length pc) ∧ w'.cell? ⟨w.heap.size, 1, none⟩ = some (.slice (some ⟨b0, off, none⟩) n ac) ∧ w'.cell? ⟨b0, off + j * 3 + 1, none⟩ = some (.int .u8 a.tag) ∧ w'.cell? ⟨b0, off + j * 3 + 2, none⟩ = some (.slice sa a.params.length sc)) [0, 1, 2, 3, 4, 5, 6, 7, 8, 9, 10, 11, 12, 13] [14, 15] 6 (by kernel_rfl) (by kernel_rfl) rfl ⟨z4, y1, c1, c2⟩ ?_
        intro Q' hQ'
        simp only [pickOps, List.flatMap_cons, List.flatMap_nil, List.drop_succ_cons, List.drop_zero, List.take_succ_cons, List.take_zero, List.cons_append, List.nil_append, List.append_nil]
        repeat (first
         | (refine wpReads_skip (by rfl) ?_; (try simp only [Act.put, List.setIfInBounds_toArray, List.set_cons_zero, List.set_cons_succ]))
         | (refine wpReads_cons ?_ (by rfl) (by rfl) ?_ ?_; rotate_left; (intro wz hz; (try dsimp only at hz); go_simp; try with_reducible rfl); (try simp only [Act.put, List.setIfInBounds_toArray, List.set_cons_zero, List.set_cons_succ]))
         | (refine wpReads_any ?_ (by rfl) ?_ ?_; rotate_left; (intro wz; go_simp; try with_reducible rfl); (try simp only [Act.put, List.setIfInBounds_toArray, List.set_cons_zero, List.set_cons_succ])))
        refine wpReads_nil ?_
        refine wpAnyT_one (i := 14) (by kernel_rfl) ?_
        simp only [pickOps, List.flatMap_cons, List.flatMap_nil, List.drop_succ_cons, List.drop_zero, List.take_succ_cons, List.take_zero, List.cons_append, List.nil_append, List.append_nil]
        go_wp2_with fail
        refine (rints_any (o := fun _ => 0) (c := 0) _ sa _ sc a.params (HST.out.below (HM.out.kept.turn (Turn.of_quiet q ⟨1, rfl⟩) (fun h => h)).below) hplen).mono ?_
        rintro e w5 ⟨y, rfl, k5, hb5⟩
        have T5 := (Turn.of_quiet q (w := wr) ⟨1, rfl⟩).trans (Turn.of_below q 5 hb5) (fun _ h => h)
        have HM5 := Lib.hid (HM.out.turn T5 (fun h => h) (fun h => h) (fun h => h))
        have HT5 := Lib.hid (HTA.out.turn T5 (fun h => h) (fun h => h))
        have HY5 : Hid (Ints w5 _ 5 _ a.params) := Lib.hid (Own.made q 5 k5).vals
        obtain ⟨ya, yc, rfl⟩ := owns_slice k5
        have v4 := HM5.out.pr.cell 4 _ rfl
        have v0 := HM5.out.gb.cell 1 _ rfl
        have v1 := cell_later hb5 (show (World.drewN _ 1).cell? _ = _ from c1)
        have v2 := cell_later hb5 (show (World.drewN _ 1).cell? _ = _ from c2)
        clear T5 k5 hb5 HM HTA c1 c2 z4 y1
        go_wp2_with fail
        refine ⟨fun _ _ => ⟨v4, v0, v1, v2⟩, ?_⟩
        refine wpAnyT_one (i := 15) (by kernel_rfl) ?_
        simp only [pickOps, List.flatMap_cons, List.flatMap_nil, List.drop_succ_cons, List.drop_zero, List.take_succ_cons, List.take_zero, List.cons_append, List.nil_append, List.append_nil]
        go_wp2
        refine ⟨fun _ h => h, ?_⟩
        refine wpAnyT_one (i := 16) (by kernel_rfl) ?_
        simp only [pickOps, List.flatMap_cons, List.flatMap_nil, List.drop_succ_cons, List.drop_zero, List.take_succ_cons, List.take_zero, List.cons_append, List.nil_append, List.append_nil]
        go_wp2
        refine ⟨fun _ h => ⟨ca h.1, ca h.2.1, ca h.2.2.1, ca h.2.2.2⟩, ?_⟩
        refine wpAnyT_one (i := 17) (by kernel_rfl) ?_
        simp only [pickOps, List.flatMap_cons, List.flatMap_nil, List.drop_succ_cons, List.drop_zero, List.take_succ_cons, List.take_zero, List.cons_append, List.nil_append, List.append_nil]
        go_wp2_with (at_builtin; refine stop_here ?_)
        refine go_on ?_
        obtain ⟨i0, hi, hz0, hz1, hz2⟩ := info_parts info_Part
        have hpsl : ps.length = j := by have := congrArg List.length HPS.out; rw [List.length_map, List.length_take] at this; simp [partsP] at this; omega
        refine wpList_app rfl _ _ 35 rfl 0 108 i0 _ 2 32 Try.underlying35 hi hz0 hz1 hz2 rfl (.slice pa ps.length pc) ps.length _ rfl (HT5.out.own.1.alloc (.cells #[.int .u8 a.tag, .slice ya a.params.length yc] 108)) (some ⟨w5.heap.size, 0, none⟩) 1 1 [.int .u8 a.tag, .slice ya a.params.length yc] rfl rfl (fun h => by cases h) (news_alloc w5 [.int .u8 a.tag, .slice ya a.params.length yc] 108) (by simp [Value.oneCell']) (by unfold maxLen; omega) (grow_ok (by omega)) (Nat.zero_le _) ?_
        intro v6 w6 k1 k20 _ k4
        have hm : Mods (fun b => (Value.slice pa ps.length pc).ownBlock = some b) w5 w6 := ((Mods.refl _ w5).alloc _).grown k20 (fun b hb _ => hb)
        obtain ⟨z4, zf, T6, N6, B6⟩ := HT5.out.grow (a := (⟨a.tag, a.params⟩ : GPart)) (y := .slice ya a.params.length yc) (v' := v6) (w2 := w6) HM5.out.pr (i := 4) (by decide) (by decide) (by decide) (by show 4 < 7; decide) HY5.out k1 hm (k4.imp id (fun k4 b hb => by rw [k4] at hb; have := Option.some.inj hb; simp at this; omega))
        obtain ⟨sp6, cp6, rfl⟩ := owns_slice k1
        have HM6 := Lib.hid (HM5.out.put T6 (by decide) (by decide) B6)
        have HT6 := Lib.hid N6
        have HPS6 : Hid ((ps ++ [((⟨a.tag, a.params⟩ : GPart), Value.slice ya a.params.length yc)]).map Prod.fst = (partsP g.actors).take (j + 1)) := Lib.hid (by rw [HPJ.out, ← HPS.out]; simp)
        clear hpsl T6 N6 B6 k1 k20 k4 hm HT5 HM5 HY5 v0 v1 v2 v4
        refine ⟨(fun h => by cases h), ?_⟩
        refine wpAnyT_list (ks := [18, 19]) (fun _ _ hx h => ⟨hx.cell h.1, hx.cell h.2.1, hx.cell h.2.2.1, hx.cell h.2.2.2⟩) (by kernel_rfl) ?_
        simp only [pickOps, List.flatMap_cons, List.flatMap_nil, List.drop_succ_cons, List.drop_zero, List.take_succ_cons, List.take_zero, List.cons_append, List.nil_append, List.append_nil]
        go_wp2
        go_roundw
        case rel => exact ⟨j + 1, _, _, _, hlt, by go_num, HM6.out, HT6.out, HPS6.out⟩
        case measure => simp [intOf]; omega
       ·
        obtain rfl : n = j := by omega
        clear hj hlt
        have hPS := HPS.out
        rw [List.take_of_length_le (by rw [partsP, List.length_map, HN.out]; exact Nat.le_refl _)] at hPS
        have HPA := Lib.hid hPS
        clear hPS HPS
        have hlti : ¬ (n : Int) < n := by omega
        obtain ⟨E, hE⟩ : ∃ x, g.edges.length = x := ⟨_, rfl⟩
        have HE := Lib.hid hE
        have HRE := Lib.hid (fits_len HC4.out)
        have hE96 := HFO.out.edges
        rw [hE] at hE96 HM
        clear hE
        have y2 := HM.out.gb.cell 2 _ rfl
        go_wp2_with fail
        clear y1 y2
        go_loopw [11] (fun i wl => ∃ (j : Nat) (q : Col) (vl : Value) (ls : List (GLine × Value)), j ≤ E ∧ i = .int .i64 j ∧ MAt w wl q [.string g.name, .slice aa n ac, .slice ae E ec, .slice ai g.ins.length ic, .slice ao g.outs.length oc] [.slice ar p.regions.length rc, .int .i64 p.total] PB [.int .i64 p.total, .int .i64 (deepestP l : Nat), .int .i64 g.ins.length, .int .i64 g.outs.length, vp, vl, .slice none 0 0] ∧ TailAt partHd GPart.params wl q 4 5 108 2 vp ps ∧ TailAt lineHd GLine.start wl q 6 7 87 3 vl ls ∧ ls.map Prod.fst = (linesP p.regions g.edges).take j) (fun i _ => E - (intOf i).toNat)
        case atStart => exact ⟨0, _, _, [], Nat.zero_le _, rfl, HM.out, HTA.out, TailAt.nil, rfl⟩
        case round =>
         clear HM HTA
         obtain ⟨j, q, vl, ls, hj, rfl, hM, hT, hL, hls⟩ := hrel
         have HM := Lib.hid hM
         have HTA := Lib.hid hT
         have HLA := Lib.hid hL
         have HLS := Lib.hid hls
         clear hM hT hL hls
         have y2 := HM.out.gb.cell 2 _ rfl
         by_cases hlt : j < E
         ·
          have hlti : (j : Int) < E := by omega
          have hlt2 : j < g.edges.length := by have := HE.out; omega
          have hlt3 : j < p.regions.length := by have := HRE.out; omega
          obtain ⟨b0, off, rfl, hcap, hb0, hrec⟩ := RE.out.at (by omega)
          obtain ⟨cs, hcs, hPR, hcl⟩ := hrec j hlt2
          obtain ⟨xs, rfl, hst⟩ := hPR
          have c4 := cell_later HM.out.kept.below (hcl 4 (by omega))
          simp at c4
          have hcapi : (E : Int) ≤ ec := by have := HE.out; omega
          have hst2 : Has w xs (ivs g.edges[j].start) := hst
          obtain ⟨sa, sc, hxs⟩ := Ints.slice hst2
          subst hxs
          have HST := Lib.hid hst2
          have hplen := starts_of HC1.out _ (List.getElem_mem hlt2)
          have HPJ := Lib.hid (linesP_succ hlt3 hlt2)
          obtain ⟨br, orr, rfl, hcr, hbr, hrecr⟩ := RR.out.at (by omega)
          obtain ⟨csr, hcsr, hPRr, hclr⟩ := hrecr j hlt3
          obtain rfl := hPRr
          have d0 := cell_later HM.out.kept.below (hclr 0 (by omega))
          have d1 := cell_later HM.out.kept.below (hclr 1 (by omega))
          simp at d0 d1
          have hcri : (p.regions.length : Int) ≤ rc := by omega
          have hlt3i : (j : Int) < p.regions.length := by omega
          have p0 := HM.out.pb.cell 0 _ rfl
          clear hcl hcs hrec hst hst2 hclr hcsr hrecr
          generalize g.edges[j] = a at *
          generalize p.regions[j] = rg at *
          obtain ⟨pa, pc, rfl⟩ := HLA.out.own.slice
          have z4 := HM.out.pr.cell 5 _ rfl
          go_wp2_with fail
          refine wp_region_rest (fun w' => w'.cell? ⟨PB, 5, none⟩ = some (.slice pa ls.length pc) ∧ w'.cell? ⟨w.heap.size + 1, 0, none⟩ = some (.slice (some ⟨br, orr, none⟩) p.regions.length rc) ∧ w'.cell? ⟨br, orr + j * 2, none⟩ = some (.int .i64 rg.base) ∧ w'.cell? ⟨br, orr + j * 2 + 1, none⟩ = some (.int .i64 rg.size) ∧ w'.cell? ⟨w.heap.size, 2, none⟩ = some (.slice (some ⟨b0, off, none⟩) E ec) ∧ w'.cell? ⟨b0, off + j * 5 + 4, none⟩ = some (.slice sa a.start.length sc)) [0, 1, 2, 3, 4, 5, 6, 7, 8, 9, 10, 11, 12] [13, 14] 6 (by kernel_rfl) (by kernel_rfl) rfl ⟨z4, p0, d0, d1, y2, c4⟩ ?_
          intro Q' hQ'
          simp only [pickOps, List.flatMap_cons, List.flatMap_nil, List.drop_succ_cons, List.drop_zero, List.take_succ_cons, List.take_zero, List.cons_append, List.nil_append, List.append_nil]
          repeat (first
           | (refine wpReads_skip (by rfl) ?_; (try simp only [Act.put, List.setIfInBounds_toArray, List.set_cons_zero, List.set_cons_succ]))
           | (refine wpReads_cons ?_ (by rfl) (by rfl) ?_ ?_; rotate_left; (intro wz hz; (try dsimp only at hz); go_simp; try with_reducible rfl); (try simp only [Act.put, List.setIfInBounds_toArray, List.set_cons_zero, List.set_cons_succ]))
           | (refine wpReads_any ?_ (by rfl) ?_ ?_; rotate_left; (intro wz; go_simp; try with_reducible rfl); (try simp only [Act.put, List.setIfInBounds_toArray, List.set_cons_zero, List.set_cons_succ])))
          refine wpReads_nil ?_
          refine wpAnyT_one (i := 13) (by kernel_rfl) ?_
          simp only [pickOps, List.flatMap_cons, List.flatMap_nil, List.drop_succ_cons, List.drop_zero, List.take_succ_cons, List.take_zero, List.cons_append, List.nil_append, List.append_nil]
          go_wp2_with fail
          refine (rints_any (o := fun _ => 0) (c := 0) _ sa _ sc a.start (HST.out.below (HM.out.kept.turn (Turn.of_quiet q ⟨1, rfl⟩) (fun h => h)).below) (by omega)).mono ?_
          rintro e w5 ⟨y, rfl, k5, hb5⟩
          have T5 := (Turn.of_quiet q (w := wr) ⟨1, rfl⟩).trans (Turn.of_below q 7 hb5) (fun _ h => h)
          have HM5 := Lib.hid (HM.out.turn T5 (fun h => h) (fun h => h) (fun h => h))
          have HT5 := Lib.hid (HTA.out.turn T5 (fun h => h) (fun h => h))
          have HL5 := Lib.hid (HLA.out.turn T5 (fun h => h) (fun h => h))
          have HY5 : Hid (Ints w5 _ 7 _ a.start) := Lib.hid (Own.made q 7 k5).vals
          obtain ⟨ya, yc, rfl⟩ := owns_slice k5
          have v4 := HM5.out.pr.cell 5 _ rfl
          have v0 := HM5.out.pb.cell 0 _ rfl
          have v1 := cell_later hb5 (show (World.drewN _ 1).cell? _ = _ from d0)
          have v2 := cell_later hb5 (show (World.drewN _ 1).cell? _ = _ from d1)
          have v3 := HM5.out.gb.cell 2 _ rfl
          have v5 := cell_later hb5 (show (World.drewN _ 1).cell? _ = _ from c4)
          clear T5 k5 hb5 HM HTA HLA p0 d0 d1 c4 z4 y2
          go_wp2_with fail
          refine ⟨fun _ _ => ⟨v4, v0, v1, v2, v3, v5⟩, ?_⟩
          refine wpAnyT_one (i := 14) (by kernel_rfl) ?_
          simp only [pickOps, List.flatMap_cons, List.flatMap_nil, List.drop_succ_cons, List.drop_zero, List.take_succ_cons, List.take_zero, List.cons_append, List.nil_append, List.append_nil]
          go_wp2
          refine ⟨fun _ h => h, ?_⟩
          refine wpAnyT_one (i := 15) (by kernel_rfl) ?_
          simp only [pickOps, List.flatMap_cons, List.flatMap_nil, List.drop_succ_cons, List.drop_zero, List.take_succ_cons, List.take_zero, List.cons_append, List.nil_append, List.append_nil]
          go_wp2
          refine ⟨fun _ h => ⟨ca h.1, ca h.2.1, ca h.2.2.1, ca h.2.2.2.1, ca h.2.2.2.2.1, ca h.2.2.2.2.2⟩, ?_⟩
          refine wpAnyT_one (i := 16) (by kernel_rfl) ?_
          simp only [pickOps, List.flatMap_cons, List.flatMap_nil, List.drop_succ_cons, List.drop_zero, List.take_succ_cons, List.take_zero, List.cons_append, List.nil_append, List.append_nil]
          go_wp2_with (at_builtin; refine stop_here ?_)
          refine go_on ?_
          obtain ⟨i0, hi, hz0, hz1, hz2⟩ := info_parts info_Line
          have hlsl : ls.length = j := by have := congrArg List.length HLS.out; rw [List.length_map, List.length_take] at this; simp [linesP] at this; omega
          refine wpList_app rfl _ _ 36 rfl 0 87 i0 _ 3 40 Try.underlying36 hi hz0 hz1 hz2 rfl (.slice pa ls.length pc) ls.length _ rfl (HL5.out.own.1.alloc (.cells #[.int .i64 rg.base, .int .i64 rg.size, .slice ya a.start.length yc] 87)) (some ⟨w5.heap.size, 0, none⟩) 1 1 [.int .i64 rg.base, .int .i64 rg.size, .slice ya a.start.length yc] rfl rfl (fun h => by cases h) (news_alloc w5 [.int .i64 rg.base, .int .i64 rg.size, .slice ya a.start.length yc] 87) (by simp [Value.oneCell']) (by unfold maxLen; omega) (grow_ok (by omega)) (Nat.zero_le _) ?_
          intro v6 w6 k1 k20 _ k4
          have hm : Mods (fun b => (Value.slice pa ls.length pc).ownBlock = some b) w5 w6 := ((Mods.refl _ w5).alloc _).grown k20 (fun b hb _ => hb)
          obtain ⟨z4, zf, T6, N6, B6⟩ := HL5.out.grow (a := (⟨rg.base, rg.size, a.start⟩ : GLine)) (y := .slice ya a.start.length yc) (v' := v6) (w2 := w6) HM5.out.pr (i := 5) (by decide) (by decide) (by decide) (by show 5 < 7; decide) HY5.out k1 hm (k4.imp id (fun k4 b hb => by rw [k4] at hb; have := Option.some.inj hb; simp at this; omega))
          obtain ⟨sp6, cp6, rfl⟩ := owns_slice k1
          have HM6 := Lib.hid (HM5.out.put T6 (by decide) (by decide) B6)
          have HT6 := Lib.hid (HT5.out.turn T6 (by decide) (by decide))
          have HL6 := Lib.hid N6
          have HLS6 : Hid ((ls ++ [((⟨rg.base, rg.size, a.start⟩ : GLine), Value.slice ya a.start.length yc)]).map Prod.fst = (linesP p.regions g.edges).take (j + 1)) := Lib.hid (by rw [HPJ.out, ← HLS.out]; simp)
          clear hlsl T6 N6 B6 k1 k20 k4 hm HT5 HL5 HM5 HY5 v0 v1 v2 v3 v4 v5
          refine ⟨(fun h => by cases h), ?_⟩
          refine wpAnyT_list (ks := [17, 18]) (fun _ _ hx h => ⟨hx.cell h.1, hx.cell h.2.1, hx.cell h.2.2.1, hx.cell h.2.2.2.1, hx.cell h.2.2.2.2.1, hx.cell h.2.2.2.2.2⟩) (by kernel_rfl) ?_
          simp only [pickOps, List.flatMap_cons, List.flatMap_nil, List.drop_succ_cons, List.drop_zero, List.take_succ_cons, List.take_zero, List.cons_append, List.nil_append, List.append_nil]
          go_wp2
          go_roundw
          case rel => exact ⟨j + 1, _, _, _, hlt, by go_num, HM6.out, HT6.out, HL6.out, HLS6.out⟩
          case measure => simp [intOf]; omega
         ·
          obtain rfl : E = j := by omega
          clear hj hlt
          have hLS := HLS.out
          rw [List.take_of_length_le (by have := HE.out; simp [linesP]; omega)] at hLS
          have HLB := Lib.hid hLS
          clear hLS HLS
          have hlti : ¬ (E : Int) < E := by omega
          obtain ⟨pa, pc, rfl⟩ := HTA.out.own.slice
          obtain ⟨la', lc', rfl⟩ := HLA.out.own.slice
          have y0 := HM.out.gb.cell 0 _ rfl
          have y1 := HM.out.gb.cell 1 _ rfl
          have y3 := HM.out.gb.cell 3 _ rfl
          have y4 := HM.out.gb.cell 4 _ rfl
          have s6 := HM.out.pr.cell 6 _ rfl
          go_wp2_with fail
          clear y0 y1 y2 y3 y4 s6
          refine (rlay_any HC1.out HFO.out D w _ q _ _ _ l 0 ([], 0) (by rw [← HN.out, ← HE.out]; exact HG.out) HV.out HNS.out HLF.out HM.out.kept (Own.nil _ _ _ _ _) (by have := HN1.out; simp only [List.length_nil]; omega) (by have := HN2.out; omega)).mono ?_
          rintro e w8 ⟨v8, q8', rfl, T8, O8⟩
          obtain ⟨rw9, hrw9⟩ : ∃ x, rowP (firP g) l 0 ([], 0) = x := ⟨_, rfl⟩
          rw [hrw9] at O8 HRL
          have hrl : rw9.1.length ≤ 10000000 := by have := HRL.out; have := HN1.out; simp only [List.length_nil] at *; omega
          have hcnt : rw9.2 = deepestP l := by rw [← hrw9]; exact rowP_top _ _
          have HRW := Lib.hid hrw9
          have HCN := Lib.hid hcnt
          obtain ⟨sp8, cp8, rfl⟩ := O8.slice
          have M8 := HM.out.turn T8 (by omega) (by omega) (by omega)
          have HT8 := HTA.out.turn T8 (by omega) (by omega)
          have HL8 := HLA.out.turn T8 (by omega) (by omega)
          have y6 := M8.pr.cell 6 _ rfl
          have f6 := M8.pr.frozen 6
          obtain ⟨b9, T9⟩ := M8.pr.set 6 (.slice sp8 rw9.1.length cp8)
          have M9 := M8.put T9 (by decide) (by decide) b9
          have HT9 := HT8.turn T9 (by decide) (by decide)
          have HL9 := HL8.turn T9 (by decide) (by decide)
          have O9 := O8.turn T9 (by decide)
          have s6 := M9.pr.cell 6 _ rfl
          have hbA := below_alloc (w8.setCell ⟨PB, 6, none⟩ (.slice sp8 rw9.1.length cp8)) (.cells #[.int .u8 0, .int .i64 0, .int .i64 0] 61)
          have TA := Turn.of_below q8' 42009 hbA
          have HMA := Lib.hid (M9.turn TA (fun h => h) (fun h => h) (fun h => h))
          have HTA2 := Lib.hid (HT9.turn TA (fun h => h) (fun h => h))
          have HLA2 := Lib.hid (HL9.turn TA (fun h => h) (fun h => h))
          have HOA := Lib.hid (O9.turn TA (fun h => h))
          generalize ext q8' (w8.setCell ⟨PB, 6, none⟩ (.slice sp8 rw9.1.length cp8)).heap.size 42009 = qa at *
          clear T8 O8 M8 HT8 HL8 b9 T9 M9 HT9 HL9 O9 hbA TA HM HTA HLA hrw9 hcnt
          obtain ⟨i0, hi, hz0, hz1, hz2⟩ := info_parts info_Op
          go_wp2_with (at_builtin; refine stop_here ?_)
          refine go_on ?_
          clear y6 f6 s6
          have hadr : (w8.setCell ⟨PB, 6, none⟩ (.slice sp8 rw9.1.length cp8)).heap.size = w8.heap.size := size_setCell' _ _ _
          obtain ⟨w9, hw9⟩ : ∃ x, w8.setCell ⟨PB, 6, none⟩ (.slice sp8 rw9.1.length cp8) = x := ⟨_, rfl⟩
          rw [hw9] at hadr HMA HTA2 HLA2 HOA ⊢
          rw [← hadr]
          clear hw9 hadr
          refine wpList_app rfl _ _ 37 rfl 0 61 i0 _ 3 24 Try.underlying37 hi hz0 hz1 hz2 rfl (.slice sp8 rw9.1.length cp8) rw9.1.length (opsV rw9.1) rfl HOA.out.1 (some ⟨w9.heap.size, 0, none⟩) 1 1 [.int .u8 0, .int .i64 0, .int .i64 0] rfl rfl (fun h => by cases h) (news_alloc w9 [.int .u8 0, .int .i64 0, .int .i64 0] 61) (by simp [Value.oneCell']) (by unfold maxLen; omega) (grow_ok (by omega)) (Nat.zero_le _) ?_
          intro vb wb k1 k20 _ k4
          obtain ⟨spv, cpv, rfl⟩ := owns_slice k1
          obtain ⟨TB, OB⟩ := own_app HOA.out k1 k20 k4
          have MB := HMA.out.turn TB (by omega) (by omega) (by omega)
          have HTB := HTA2.out.turn TB (by omega) (by omega)
          have HLB2 := HLA2.out.turn TB (by omega) (by omega)
          have y6 := MB.pr.cell 6 _ rfl
          have g6 := MB.pr.frozen 6
          obtain ⟨bC, TC⟩ := MB.pr.set 6 (.slice spv (rw9.1.length + 1) cpv)
          have MC := MB.put TC (by decide) (by decide) bC
          have HTC := Lib.hid (HTB.turn TC (by decide) (by decide))
          have HLC := Lib.hid (HLB2.turn TC (by decide) (by decide))
          have HOC := Lib.hid (show Own (wb.setCell ⟨PB, 6, none⟩ (.slice spv (rw9.1.length + 1) cpv)) _ 42003 61 3 (.slice spv (rw9.1.length + 1) cpv) (rw9.1 ++ [(⟨0, 0, 0⟩ : GOp)]).length (opsV (rw9.1 ++ [(⟨0, 0, 0⟩ : GOp)])) by rw [show opsV (rw9.1 ++ [(⟨0, 0, 0⟩ : GOp)]) = opsV rw9.1 ++ opV ⟨0, 0, 0⟩ by simp [opsV], List.length_append]; exact OB.turn TC (by decide))
          have HMC := Lib.hid MC
          have s0 := MC.pr.cell 0 _ rfl
          have s1 := MC.pr.cell 1 _ rfl
          have s2 := MC.pr.cell 2 _ rfl
          have s3 := MC.pr.cell 3 _ rfl
          have s4 := MC.pr.cell 4 _ rfl
          have s5 := MC.pr.cell 5 _ rfl
          have s6 := MC.pr.cell 6 _ rfl
          have z0 := MC.rb.cell 0 _ rfl
          have z1 := MC.rb.cell 1 _ rfl
          have z2 := MC.rb.cell 2 _ rfl
          have z3 := MC.rb.cell 3 _ rfl
          have z4 := MC.rb.cell 4 _ rfl
          have z5 := MC.rb.cell 5 _ rfl
          have z6 := MC.rb.cell 6 _ rfl
          have f0 := MC.rb.frozen 0
          have f1 := MC.rb.frozen 1
          have f2 := MC.rb.frozen 2
          have f3 := MC.rb.frozen 3
          have f4 := MC.rb.frozen 4
          have f5 := MC.rb.frozen 5
          have f6 := MC.rb.frozen 6
          have e0 : makeE g p l = 0 := by rw [makeE, if_neg (by simp [HC1.out]), if_neg (by simp [HC2.out]), HC3.out, if_neg (by simp), HC4.out, if_pos rfl]
          have HE0 := Lib.hid e0
          clear e0 MC bC TC MB HTB HLB2 OB TB k1 k20 k4 HMA HTA2 HLA2 HOA
          generalize ext qa (w9.alloc (.cells #[.int .u8 0, .int .i64 0, .int .i64 0] 61)).heap.size 42003 = qb at *
          go_wp2
          refine bodyPost_ret_by (results_row_tmp rfl _ _ _ _ _ _ _ rfl (prog_set HMC.out.rb.1 _ _ _ _ _ _ _) Try.underlying39 rfl (by kernel_rfl)) rfl ?_
          generalize wb.setCell ⟨PB, 6, none⟩ (.slice spv (rw9.1.length + 1) cpv) = wC at *
          have T : Turn qb qb (fun x => x = 9) wC (setProg wC (w.heap.size + 2) (.int .i64 p.total) (.int .i64 (deepestP l : Nat)) (.int .i64 g.ins.length) (.int .i64 g.outs.length) (.slice pa ps.length pc) (.slice la' ls.length lc') (.slice spv (rw9.1.length + 1) cpv)) := ⟨(prog_mods wC _ _ _ _ _ _ _ _).mono (fun k _ e => by subst e; exact HMC.out.rb.2), fun _ _ => rfl⟩
          refine ⟨_, by rw [HE0.out]; rfl, ?_, prog_below HMC.out.kept.below HMC.out.kept.size (by omega) _ _ _ _ _ _ _⟩
          rw [makeP, if_pos HE0.out]
          refine ⟨_, _, _, by rw [makeG, HRW.out, HCN.out], ?_, ?_, ?_⟩
          ·
           have := TailAt.recs (show ∀ a, (partHd a).length + 1 = 2 from fun _ => rfl) (HTC.out.turn T (by decide) (by decide))
           rw [HPA.out] at this
           exact this
          ·
           have := TailAt.recs (show ∀ a, (lineHd a).length + 1 = 3 from fun _ => rfl) (HLC.out.turn T (by decide) (by decide))
           rw [HLB.out] at this
           exact this
          ·
           have := Own.row (HOC.out.turn T (by omega))
           rw [makeG, HRW.out]
           exact this
    ·
     have e4 : fitsP g p = false := by simpa using h4
     have e : makeE g p l = 210 := by rw [makeE, if_neg (by simp [HC1.out]), if_neg (by simp [HC2.out]), HC3.out, if_neg (by simp), e4, if_neg (by simp)]
     rw [e4]
     clear h4
     have z0 := HR.out.cell 0 _ rfl
     have z1 := HR.out.cell 1 _ rfl
     have z2 := HR.out.cell 2 _ rfl
     have z3 := HR.out.cell 3 _ rfl
     have z4 := HR.out.cell 4 _ rfl
     have z5 := HR.out.cell 5 _ rfl
     have z6 := HR.out.cell 6 _ rfl
     have f0 := HR.out.frozen 0
     have f1 := HR.out.frozen 1
     have f2 := HR.out.frozen 2
     have f3 := HR.out.frozen 3
     have f4 := HR.out.frozen 4
     have f5 := HR.out.frozen 5
     have f6 := HR.out.frozen 6
     go_wp2
     refine bodyPost_ret_by (results_row_tmp rfl _ _ _ _ _ _ _ rfl (prog_set HR.out.1 _ _ _ _ _ _ _) Try.underlying39 rfl (by kernel_rfl)) rfl ?_
     refine ⟨_, by first | rfl | (rw [← e]; rfl), ?_, prog_below HK.out.below HK.out.size (by omega) _ _ _ _ _ _ _⟩
     rw [makeP, if_neg (by rw [e]; decide)]
     exact hasProg_zero _
   ·
    have e3 : strangeP l g.actors.length = true := by simpa using h3
    have e : makeE g p l = 100 := by rw [makeE, if_neg (by simp [HC1.out]), if_neg (by simp [HC2.out]), if_pos e3]
    rw [e3]
    clear h3
    have z0 := HR.out.cell 0 _ rfl
    have z1 := HR.out.cell 1 _ rfl
    have z2 := HR.out.cell 2 _ rfl
    have z3 := HR.out.cell 3 _ rfl
    have z4 := HR.out.cell 4 _ rfl
    have z5 := HR.out.cell 5 _ rfl
    have z6 := HR.out.cell 6 _ rfl
    have f0 := HR.out.frozen 0
    have f1 := HR.out.frozen 1
    have f2 := HR.out.frozen 2
    have f3 := HR.out.frozen 3
    have f4 := HR.out.frozen 4
    have f5 := HR.out.frozen 5
    have f6 := HR.out.frozen 6
    go_wp2
    refine bodyPost_ret_by (results_row_tmp rfl _ _ _ _ _ _ _ rfl (prog_set HR.out.1 _ _ _ _ _ _ _) Try.underlying39 rfl (by kernel_rfl)) rfl ?_
    refine ⟨_, by first | rfl | (rw [← e]; rfl), ?_, prog_below HK.out.below HK.out.size (by omega) _ _ _ _ _ _ _⟩
    rw [makeP, if_neg (by rw [e]; decide)]
    exact hasProg_zero _
  ·
   have e : makeE g p l = nestCheckE l := by rw [makeE, if_neg (by simp [HC1.out]), if_pos h2]
   obtain ⟨E, hE⟩ : ∃ x, nestCheckE l = x := ⟨_, rfl⟩
   rw [hE] at h2 e ⊢
   clear hE
   have z0 := HR.out.cell 0 _ rfl
   have z1 := HR.out.cell 1 _ rfl
   have z2 := HR.out.cell 2 _ rfl
   have z3 := HR.out.cell 3 _ rfl
   have z4 := HR.out.cell 4 _ rfl
   have z5 := HR.out.cell 5 _ rfl
   have z6 := HR.out.cell 6 _ rfl
   have f0 := HR.out.frozen 0
   have f1 := HR.out.frozen 1
   have f2 := HR.out.frozen 2
   have f3 := HR.out.frozen 3
   have f4 := HR.out.frozen 4
   have f5 := HR.out.frozen 5
   have f6 := HR.out.frozen 6
   go_wp2
   refine bodyPost_ret_by (results_row_tmp rfl _ _ _ _ _ _ _ rfl (prog_set HR.out.1 _ _ _ _ _ _ _) Try.underlying39 rfl (by kernel_rfl)) rfl ?_
   refine ⟨_, by first | rfl | (rw [← e]; rfl), ?_, prog_below HK.out.below HK.out.size (by omega) _ _ _ _ _ _ _⟩
   rw [makeP, if_neg (by rw [e]; exact h2)]
   exact hasProg_zero _
 ·
  have e : makeE g p l = checkE g := by rw [makeE, if_pos h1]
  obtain ⟨E, hE⟩ : ∃ x, checkE g = x := ⟨_, rfl⟩
  rw [hE] at h1 e ⊢
  clear hE
  have z0 := HR.out.cell 0 _ rfl
  have z1 := HR.out.cell 1 _ rfl
  have z2 := HR.out.cell 2 _ rfl
  have z3 := HR.out.cell 3 _ rfl
  have z4 := HR.out.cell 4 _ rfl
  have z5 := HR.out.cell 5 _ rfl
  have z6 := HR.out.cell 6 _ rfl
  have f0 := HR.out.frozen 0
  have f1 := HR.out.frozen 1
  have f2 := HR.out.frozen 2
  have f3 := HR.out.frozen 3
  have f4 := HR.out.frozen 4
  have f5 := HR.out.frozen 5
  have f6 := HR.out.frozen 6
  go_wp2
  refine bodyPost_ret_by (results_row_tmp rfl _ _ _ _ _ _ _ rfl (prog_set HR.out.1 _ _ _ _ _ _ _) Try.underlying39 rfl (by kernel_rfl)) rfl ?_
  refine ⟨_, by first | rfl | (rw [← e]; rfl), ?_, prog_below HK.out.below HK.out.size (by omega) _ _ _ _ _ _ _⟩
  rw [makeP, if_neg (by rw [e]; exact h1)]
  exact hasProg_zero _
end Go.Proofs.Ytbmbfifempkhgaa

/- EmitMakes, walked (printed by tools/gen_kmakes.py). -/
namespace Go.Proofs.Ytbmbfifempkhgaa
open Go.RowKit
set_option maxRecDepth 100000 in
set_option maxHeartbeats 8000000 in
theorem makes_all (D : Nat) (w : World) (vg vp v : Value) (g : GGraph) (p : GPlan) (l : Nest) (hg : HasGraph w vg g) (hp : HasPlan w vp p) (hv : HasNestD D w v l) (hgs : GSized g) (hgr : Great g) (hns : NSized l) (hrl : p.regions.length ≤ 17600000000000) : Calls Try.prog 3 #[vg, vp, v] w (Tells (.bool true) w) := by
 obtain ⟨va, ve, vi, vo, rfl, ra, re, ri, ro⟩ := hg.shape
 obtain ⟨vr, rfl, rr⟩ := hp
 obtain ⟨aa, ac, rfl⟩ := ra.slice
 obtain ⟨ae, ec, rfl⟩ := re.slice
 obtain ⟨ai, ic, rfl⟩ := ri.slice
 obtain ⟨ao, oc, rfl⟩ := ro.slice
 obtain ⟨ar, rc, rfl⟩ := rr.slice
 obtain ⟨an, nc, rfl⟩ := nestD_slice D hv
 have HGS := Lib.hid hgs
 have HGR := Lib.hid hgr
 have HNS := Lib.hid hns
 have HRL := Lib.hid hrl
 have hb1 := below_alloc w (.cells #[.string g.name, .slice aa g.actors.length ac, .slice ae g.edges.length ec, .slice ai g.ins.length ic, .slice ao g.outs.length oc] 26)
 have h1 := heap_alloc_new w (.cells #[.string g.name, .slice aa g.actors.length ac, .slice ae g.edges.length ec, .slice ai g.ins.length ic, .slice ao g.outs.length oc] 26)
 have hs1 : (w.alloc (.cells #[.string g.name, .slice aa g.actors.length ac, .slice ae g.edges.length ec, .slice ai g.ins.length ic, .slice ao g.outs.length oc] 26)).heap.size = w.heap.size + 1 := by simp
 have hb2 := below_alloc (w.alloc (.cells #[.string g.name, .slice aa g.actors.length ac, .slice ae g.edges.length ec, .slice ai g.ins.length ic, .slice ao g.outs.length oc] 26)) (.cells #[.slice ar p.regions.length rc, .int .i64 p.total] 29)
 have h2 := heap_alloc_new (w.alloc (.cells #[.string g.name, .slice aa g.actors.length ac, .slice ae g.edges.length ec, .slice ai g.ins.length ic, .slice ao g.outs.length oc] 26)) (.cells #[.slice ar p.regions.length rc, .int .i64 p.total] 29)
 have h3 := block_alloc h1 (.cells #[.slice ar p.regions.length rc, .int .i64 p.total] 29)
 have HT0 := Lib.hid (((Then.refl w).step hb1).step hb2)
 rw [hs1] at h2
 obtain ⟨W, hW⟩ : ∃ x, (w.alloc (.cells #[.string g.name, .slice aa g.actors.length ac, .slice ae g.edges.length ec, .slice ai g.ins.length ic, .slice ao g.outs.length oc] 26)).alloc (.cells #[.slice ar p.regions.length rc, .int .i64 p.total] 29) = x := ⟨_, rfl⟩
 rw [hW] at h2 h3 HT0
 have RG := Lib.hid (hg.below HT0.out.below)
 have RP : Hid (HasPlan W (.agg #[.slice ar p.regions.length rc, .int .i64 p.total]) p) := Lib.hid (HasPlan.below ⟨_, rfl, rr⟩ HT0.out.below)
 have RN := Lib.hid (nestD_below D hv HT0.out.below)
 have HGB := Lib.hid h3
 have HPB := Lib.hid h2
 have y0 := cell_later (Below.refl W.heap.size W) (cells_row _ _ HGB.out 0 _ rfl)
 have y1 := cell_later (Below.refl W.heap.size W) (cells_row _ _ HGB.out 1 _ rfl)
 have y2 := cell_later (Below.refl W.heap.size W) (cells_row _ _ HGB.out 2 _ rfl)
 have y3 := cell_later (Below.refl W.heap.size W) (cells_row _ _ HGB.out 3 _ rfl)
 have y4 := cell_later (Below.refl W.heap.size W) (cells_row _ _ HGB.out 4 _ rfl)
 simp only [List.getElem_toArray, List.getElem_cons_succ, List.getElem_cons_zero] at y0 y1 y2 y3 y4
 have z0 := cell_later (Below.refl W.heap.size W) (cells_row _ _ HPB.out 0 _ rfl)
 have z1 := cell_later (Below.refl W.heap.size W) (cells_row _ _ HPB.out 1 _ rfl)
 simp only [List.getElem_toArray, List.getElem_cons_succ, List.getElem_cons_zero] at z0 z1
 clear ra re ri ro rr hg hgs hgr hns hrl hv hb1 hb2 h1 h2 h3 hs1
 go_enter Try.func3, Try.ntmps3
 go_wp2_with fail
 clear hW y0 y1 y2 y3 y4 z0 z1
 refine (heavyl_any D _ _ _ _ g p l RG.out RP.out RN.out HGR.out HNS.out HRL.out).mono ?_
 rintro e wc ⟨b, rfl, hbl, hb⟩
 have HT := Lib.hid ((Then.refl W).step hb)
 clear hb
 cases b with
 | true =>
  go_wp2
  go_ret
  exact ⟨rfl, (HT0.out.step HT.out.below).below⟩
 | false =>
  have HH := Lib.hid (hbl rfl)
  clear hbl
  have HPS := Lib.hid HGR.out.params
  have HES := Lib.hid HGR.out.starts
  have y0 := cell_later HT.out.below (cells_row _ _ HGB.out 0 _ rfl)
  have y1 := cell_later HT.out.below (cells_row _ _ HGB.out 1 _ rfl)
  have y2 := cell_later HT.out.below (cells_row _ _ HGB.out 2 _ rfl)
  have y3 := cell_later HT.out.below (cells_row _ _ HGB.out 3 _ rfl)
  have y4 := cell_later HT.out.below (cells_row _ _ HGB.out 4 _ rfl)
  simp only [List.getElem_toArray, List.getElem_cons_succ, List.getElem_cons_zero] at y0 y1 y2 y3 y4
  go_wp2_with fail
  refine (lentgraphK_any _ _ g (RG.out.below HT.out.below) HH.out.1 HPS.out HES.out).mono ?_
  rintro e wd ⟨vh, rfl, hk, hb⟩
  have hk' := hk
  obtain ⟨ha, hca, he, hce, hi, hci, ho, hco, e0, -⟩ := hk'
  subst e0
  have hbA := below_alloc wd (.cells #[.string g.name, .slice ha g.actors.length hca, .slice he g.edges.length hce, .slice hi g.ins.length hci, .slice ho g.outs.length hco] 26)
  have HKG := Lib.hid (hk.below hbA)
  have HHB := Lib.hid (heap_alloc_new wd (.cells #[.string g.name, .slice ha g.actors.length hca, .slice he g.edges.length hce, .slice hi g.ins.length hci, .slice ho g.outs.length hco] 26))
  replace HT := Lib.hid ((HT.out.step hb).step hbA)
  clear hk hb hbA y0 y1 y2 y3 y4
  have z0 := cell_later HT.out.below (cells_row _ _ HPB.out 0 _ rfl)
  have z1 := cell_later HT.out.below (cells_row _ _ HPB.out 1 _ rfl)
  simp only [List.getElem_toArray, List.getElem_cons_succ, List.getElem_cons_zero] at z0 z1
  go_wp2_with fail
  obtain ⟨we, hwe⟩ : ∃ x, wd.alloc (.cells #[.string g.name, .slice ha g.actors.length hca, .slice he g.edges.length hce, .slice hi g.ins.length hci, .slice ho g.outs.length hco] 26) = x := ⟨_, rfl⟩
  obtain ⟨H, hH⟩ : ∃ x, wd.heap.size = x := ⟨_, rfl⟩
  rw [hwe] at HKG HHB HT
  rw [hwe]
  rw [hH] at HHB
  rw [hH]
  clear hwe hH z0 z1
  refine (lentplanK_any _ _ p (RP.out.below HT.out.below) (by have := HH.out.2.1; omega)).mono ?_
  rintro e wf ⟨vq, rfl, hk, hb⟩
  have hk' := hk
  obtain ⟨qa, qc, e0, -⟩ := hk'
  subst e0
  have hbA := below_alloc wf (.cells #[.slice qa p.regions.length qc, .int .i64 p.total] 29)
  have HKP := Lib.hid (hk.below hbA)
  have HQB := Lib.hid (heap_alloc_new wf (.cells #[.slice qa p.regions.length qc, .int .i64 p.total] 29))
  replace HKG := Lib.hid ((HKG.out.below hb).below hbA)
  replace HHB := Lib.hid (block_alloc ((hb.block _ (block_lt HHB.out)).trans HHB.out) (.cells #[.slice qa p.regions.length qc, .int .i64 p.total] 29))
  replace HT := Lib.hid ((HT.out.step hb).step hbA)
  clear hk hb hbA
  go_wp2_with fail
  obtain ⟨wg, hwg⟩ : ∃ x, wf.alloc (.cells #[.slice qa p.regions.length qc, .int .i64 p.total] 29) = x := ⟨_, rfl⟩
  obtain ⟨Q, hQ⟩ : ∃ x, wf.heap.size = x := ⟨_, rfl⟩
  rw [hwg] at HKG HKP HHB HQB HT
  rw [hwg]
  rw [hQ] at HQB
  rw [hQ]
  clear hwg hQ
  refine (lentN_anyK D wg _ l (nestD_below D RN.out HT.out.below) HH.out.2.2).mono ?_
  rintro e B0 ⟨vm, rfl, hm, hb⟩
  have hm := hm B0 (Mods.refl _ _)
  obtain ⟨ma, mc, e0⟩ := nestM_slice D hm
  subst e0
  have HNM := Lib.hid hm
  replace HKG := Lib.hid (HKG.out.below hb)
  replace HKP := Lib.hid (HKP.out.below hb)
  replace HHB := Lib.hid ((hb.block _ (block_lt HHB.out)).trans HHB.out)
  replace HQB := Lib.hid ((hb.block _ (block_lt HQB.out)).trans HQB.out)
  replace HT := Lib.hid (HT.out.step hb)
  replace HGB := Lib.hid ((HT.out.below.block _ (block_lt HGB.out)).trans HGB.out)
  replace HPB := Lib.hid ((HT.out.below.block _ (block_lt HPB.out)).trans HPB.out)
  replace RG := Lib.hid (RG.out.below HT.out.below)
  replace RP := Lib.hid (RP.out.below HT.out.below)
  replace RN := Lib.hid (nestD_below D RN.out HT.out.below)
  have HT0B := Lib.hid (HT0.out.step HT.out.below)
  have HSP := Lib.hid (made_small (p := p) (l := l) HGS.out (by have := HH.out.1; omega) HPS.out HES.out)
  obtain ⟨P, hP⟩ : ∃ x, makeP g p l = x := ⟨_, rfl⟩
  obtain ⟨E, hE⟩ : ∃ x, makeE g p l = x := ⟨_, rfl⟩
  have HP := Lib.hid hP
  have HE := Lib.hid hE
  rw [hP] at HSP
  clear hm hb hP hE HT HT0
  have x0 := cell_later (Below.refl B0.heap.size B0) (cells_row _ _ HHB.out 0 _ rfl)
  have x1 := cell_later (Below.refl B0.heap.size B0) (cells_row _ _ HHB.out 1 _ rfl)
  have x2 := cell_later (Below.refl B0.heap.size B0) (cells_row _ _ HHB.out 2 _ rfl)
  have x3 := cell_later (Below.refl B0.heap.size B0) (cells_row _ _ HHB.out 3 _ rfl)
  have x4 := cell_later (Below.refl B0.heap.size B0) (cells_row _ _ HHB.out 4 _ rfl)
  simp only [List.getElem_toArray, List.getElem_cons_succ, List.getElem_cons_zero] at x0 x1 x2 x3 x4
  have y0 := cell_later (Below.refl B0.heap.size B0) (cells_row _ _ HQB.out 0 _ rfl)
  have y1 := cell_later (Below.refl B0.heap.size B0) (cells_row _ _ HQB.out 1 _ rfl)
  simp only [List.getElem_toArray, List.getElem_cons_succ, List.getElem_cons_zero] at y0 y1
  go_wp2_with fail
  refine (make_own D B0 _ _ _ g p l HKG.out.has HKP.out.has (nestM_has D HNM.out) HGS.out HNS.out).mono ?_
  rintro e w1 ⟨vA, rfl, hA, hb⟩
  rw [HP.out] at hA
  rw [HE.out]
  obtain ⟨ap, apc, al, alc, ao', aoc, e0⟩ := hA.shape
  subst e0
  have HA := Lib.hid hA
  have hbA := below_alloc w1 (.cells #[.int .i64 P.memory, .int .i64 P.counters, .int .i64 P.ins, .int .i64 P.outs, .slice ap P.parts.length apc, .slice al P.lines.length alc, .slice ao' P.ops.length aoc] 39)
  have HAB := Lib.hid (heap_alloc_new w1 (.cells #[.int .i64 P.memory, .int .i64 P.counters, .int .i64 P.ins, .int .i64 P.outs, .slice ap P.parts.length apc, .slice al P.lines.length alc, .slice ao' P.ops.length aoc] 39))
  have HT := Lib.hid (((Then.refl B0).step hb).step hbA)
  have HTA := Lib.hid ((Then.refl w1).step hbA)
  have HSA : Hid (B0.heap.size ≤ w1.heap.size) := Lib.hid hb.size
  clear hA hb hbA x0 x1 x2 x3 x4 y0 y1
  have x0 := cell_later HT.out.below (cells_row _ _ HHB.out 0 _ rfl)
  have x1 := cell_later HT.out.below (cells_row _ _ HHB.out 1 _ rfl)
  have x2 := cell_later HT.out.below (cells_row _ _ HHB.out 2 _ rfl)
  have x3 := cell_later HT.out.below (cells_row _ _ HHB.out 3 _ rfl)
  have x4 := cell_later HT.out.below (cells_row _ _ HHB.out 4 _ rfl)
  simp only [List.getElem_toArray, List.getElem_cons_succ, List.getElem_cons_zero] at x0 x1 x2 x3 x4
  have y0 := cell_later HT.out.below (cells_row _ _ HQB.out 0 _ rfl)
  have y1 := cell_later HT.out.below (cells_row _ _ HQB.out 1 _ rfl)
  simp only [List.getElem_toArray, List.getElem_cons_succ, List.getElem_cons_zero] at y0 y1
  go_wp2_with fail
  obtain ⟨wj, hwj⟩ : ∃ x, w1.alloc (.cells #[.int .i64 P.memory, .int .i64 P.counters, .int .i64 P.ins, .int .i64 P.outs, .slice ap P.parts.length apc, .slice al P.lines.length alc, .slice ao' P.ops.length aoc] 39) = x := ⟨_, rfl⟩
  obtain ⟨A, hAe⟩ : ∃ x, w1.heap.size = x := ⟨_, rfl⟩
  rw [hwj] at HT HTA HAB
  rw [hwj]
  have HAe := Lib.hid hAe
  rw [hAe] at HAB
  rw [hAe]
  clear hwj hAe x0 x1 x2 x3 x4 y0 y1
  refine (make_own D wj _ _ _ g p l (HKG.out.has.below HT.out.below) (HKP.out.has.below HT.out.below) (nestD_below D (nestM_has D HNM.out) HT.out.below) HGS.out HNS.out).mono ?_
  rintro e w2 ⟨vB, rfl, hB, hb⟩
  rw [HP.out] at hB
  rw [HE.out]
  obtain ⟨bp, bpc, bl, blc, bo, boc, e0⟩ := hB.shape
  subst e0
  have HB := Lib.hid (hB.mono HTA.out.size)
  have hbA := below_alloc w2 (.cells #[.int .i64 P.memory, .int .i64 P.counters, .int .i64 P.ins, .int .i64 P.outs, .slice bp P.parts.length bpc, .slice bl P.lines.length blc, .slice bo P.ops.length boc] 39)
  have HBB := Lib.hid (heap_alloc_new w2 (.cells #[.int .i64 P.memory, .int .i64 P.counters, .int .i64 P.ins, .int .i64 P.outs, .slice bp P.parts.length bpc, .slice bl P.lines.length blc, .slice bo P.ops.length boc] 39))
  replace HT := Lib.hid ((HT.out.step hb).step hbA)
  have HT12 := Lib.hid (HTA.out.step hb)
  replace HTA := Lib.hid ((HTA.out.step hb).step hbA)
  replace HAB := Lib.hid (block_alloc ((hb.block _ (block_lt HAB.out)).trans HAB.out) (.cells #[.int .i64 P.memory, .int .i64 P.counters, .int .i64 P.ins, .int .i64 P.outs, .slice bp P.parts.length bpc, .slice bl P.lines.length blc, .slice bo P.ops.length boc] 39))
  have HTB := Lib.hid ((Then.refl w2).step hbA)
  clear hB hb hbA
  have x0 := cell_later HT.out.below (cells_row _ _ HGB.out 0 _ rfl)
  have x1 := cell_later HT.out.below (cells_row _ _ HGB.out 1 _ rfl)
  have x2 := cell_later HT.out.below (cells_row _ _ HGB.out 2 _ rfl)
  have x3 := cell_later HT.out.below (cells_row _ _ HGB.out 3 _ rfl)
  have x4 := cell_later HT.out.below (cells_row _ _ HGB.out 4 _ rfl)
  simp only [List.getElem_toArray, List.getElem_cons_succ, List.getElem_cons_zero] at x0 x1 x2 x3 x4
  have y0 := cell_later HT.out.below (cells_row _ _ HPB.out 0 _ rfl)
  have y1 := cell_later HT.out.below (cells_row _ _ HPB.out 1 _ rfl)
  simp only [List.getElem_toArray, List.getElem_cons_succ, List.getElem_cons_zero] at y0 y1
  go_wp2_with fail
  obtain ⟨wl, hwl⟩ : ∃ x, w2.alloc (.cells #[.int .i64 P.memory, .int .i64 P.counters, .int .i64 P.ins, .int .i64 P.outs, .slice bp P.parts.length bpc, .slice bl P.lines.length blc, .slice bo P.ops.length boc] 39) = x := ⟨_, rfl⟩
  obtain ⟨BB, hBe⟩ : ∃ x, w2.heap.size = x := ⟨_, rfl⟩
  rw [hwl] at HT HTA HAB HBB HTB
  rw [hwl]
  rw [hBe] at HBB
  rw [hBe]
  clear hwl hBe x0 x1 x2 x3 x4 y0 y1
  refine (rmake_any D wl _ _ _ g p l (RG.out.below HT.out.below) (RP.out.below HT.out.below) (nestD_below D RN.out HT.out.below) HGS.out HNS.out).mono ?_
  rintro e w3 ⟨vC, rfl, hC, hb⟩
  rw [HP.out] at hC
  rw [HE.out]
  obtain ⟨cp, cpc, cl, clc, co, coc, e0⟩ := hC.shape
  subst e0
  have hbA := below_alloc w3 (.cells #[.int .i64 P.memory, .int .i64 P.counters, .int .i64 P.ins, .int .i64 P.outs, .slice cp P.parts.length cpc, .slice cl P.lines.length clc, .slice co P.ops.length coc] 39)
  have HC := Lib.hid (hC.below hbA)
  have HCB := Lib.hid (heap_alloc_new w3 (.cells #[.int .i64 P.memory, .int .i64 P.counters, .int .i64 P.ins, .int .i64 P.outs, .slice cp P.parts.length cpc, .slice cl P.lines.length clc, .slice co P.ops.length coc] 39))
  replace HT := Lib.hid ((HT.out.step hb).step hbA)
  replace HTA := Lib.hid ((HTA.out.step hb).step hbA)
  replace HAB := Lib.hid (block_alloc ((hb.block _ (block_lt HAB.out)).trans HAB.out) (.cells #[.int .i64 P.memory, .int .i64 P.counters, .int .i64 P.ins, .int .i64 P.outs, .slice cp P.parts.length cpc, .slice cl P.lines.length clc, .slice co P.ops.length coc] 39))
  replace HBB := Lib.hid (block_alloc ((hb.block _ (block_lt HBB.out)).trans HBB.out) (.cells #[.int .i64 P.memory, .int .i64 P.counters, .int .i64 P.ins, .int .i64 P.outs, .slice cp P.parts.length cpc, .slice cl P.lines.length clc, .slice co P.ops.length coc] 39))
  replace HTB := Lib.hid ((HTB.out.step hb).step hbA)
  clear hC hb hbA
  have x0 := cell_later (Below.refl _ _) (cells_row _ _ HAB.out 0 _ rfl)
  have x1 := cell_later (Below.refl _ _) (cells_row _ _ HAB.out 1 _ rfl)
  have x2 := cell_later (Below.refl _ _) (cells_row _ _ HAB.out 2 _ rfl)
  have x3 := cell_later (Below.refl _ _) (cells_row _ _ HAB.out 3 _ rfl)
  have x4 := cell_later (Below.refl _ _) (cells_row _ _ HAB.out 4 _ rfl)
  have x5 := cell_later (Below.refl _ _) (cells_row _ _ HAB.out 5 _ rfl)
  have x6 := cell_later (Below.refl _ _) (cells_row _ _ HAB.out 6 _ rfl)
  simp only [List.getElem_toArray, List.getElem_cons_succ, List.getElem_cons_zero] at x0 x1 x2 x3 x4 x5 x6
  have y0 := cell_later (Below.refl _ _) (cells_row _ _ HCB.out 0 _ rfl)
  have y1 := cell_later (Below.refl _ _) (cells_row _ _ HCB.out 1 _ rfl)
  have y2 := cell_later (Below.refl _ _) (cells_row _ _ HCB.out 2 _ rfl)
  have y3 := cell_later (Below.refl _ _) (cells_row _ _ HCB.out 3 _ rfl)
  have y4 := cell_later (Below.refl _ _) (cells_row _ _ HCB.out 4 _ rfl)
  have y5 := cell_later (Below.refl _ _) (cells_row _ _ HCB.out 5 _ rfl)
  have y6 := cell_later (Below.refl _ _) (cells_row _ _ HCB.out 6 _ rfl)
  simp only [List.getElem_toArray, List.getElem_cons_succ, List.getElem_cons_zero] at y0 y1 y2 y3 y4 y5 y6
  have hee : decide (E = E) = true := decide_eq_true rfl
  go_wp2_with fail
  obtain ⟨wn, hwn⟩ : ∃ x, w3.alloc (.cells #[.int .i64 P.memory, .int .i64 P.counters, .int .i64 P.ins, .int .i64 P.outs, .slice cp P.parts.length cpc, .slice cl P.lines.length clc, .slice co P.ops.length coc] 39) = x := ⟨_, rfl⟩
  obtain ⟨C, hCe⟩ : ∃ x, w3.heap.size = x := ⟨_, rfl⟩
  rw [hwn] at HT HTA HAB HBB HTB HC HCB
  rw [hwn]
  rw [hCe] at HCB
  try rw [hCe]
  clear hwn hCe hee x0 x1 x2 x3 x4 x5 x6 y0 y1 y2 y3 y4 y5 y6
  have h62 : (17600000000000 : Nat) ≤ 4611686018427387904 := by decide
  have h61 : (1048576 : Nat) ≤ 4611686018427387904 := by decide
  refine (sameprog_yes _ _ _ P (HA.out.has (Mods.of_below HTA.out.below _)) HC.out (fun x hx => Nat.le_trans (HSP.out.params x hx) h62) (fun x hx => Nat.le_trans (HSP.out.starts x hx) h62) (Nat.le_trans HSP.out.parts h61) (Nat.le_trans HSP.out.lines h61) (Nat.le_trans HSP.out.ops h61)).mono ?_
  rintro e wo ⟨rfl, hb⟩
  have HTN := Lib.hid ((Then.refl wn).step hb)
  replace HT := Lib.hid (HT.out.step hb)
  replace HTA := Lib.hid (HTA.out.step hb)
  replace HTB := Lib.hid (HTB.out.step hb)
  clear hb
  have x0 := cell_later HTN.out.below (cells_row _ _ HBB.out 0 _ rfl)
  have x1 := cell_later HTN.out.below (cells_row _ _ HBB.out 1 _ rfl)
  have x2 := cell_later HTN.out.below (cells_row _ _ HBB.out 2 _ rfl)
  have x3 := cell_later HTN.out.below (cells_row _ _ HBB.out 3 _ rfl)
  have x4 := cell_later HTN.out.below (cells_row _ _ HBB.out 4 _ rfl)
  have x5 := cell_later HTN.out.below (cells_row _ _ HBB.out 5 _ rfl)
  have x6 := cell_later HTN.out.below (cells_row _ _ HBB.out 6 _ rfl)
  simp only [List.getElem_toArray, List.getElem_cons_succ, List.getElem_cons_zero] at x0 x1 x2 x3 x4 x5 x6
  have y0 := cell_later HTN.out.below (cells_row _ _ HCB.out 0 _ rfl)
  have y1 := cell_later HTN.out.below (cells_row _ _ HCB.out 1 _ rfl)
  have y2 := cell_later HTN.out.below (cells_row _ _ HCB.out 2 _ rfl)
  have y3 := cell_later HTN.out.below (cells_row _ _ HCB.out 3 _ rfl)
  have y4 := cell_later HTN.out.below (cells_row _ _ HCB.out 4 _ rfl)
  have y5 := cell_later HTN.out.below (cells_row _ _ HCB.out 5 _ rfl)
  have y6 := cell_later HTN.out.below (cells_row _ _ HCB.out 6 _ rfl)
  simp only [List.getElem_toArray, List.getElem_cons_succ, List.getElem_cons_zero] at y0 y1 y2 y3 y4 y5 y6
  go_wp2_with fail
  clear x0 x1 x2 x3 x4 x5 x6 y0 y1 y2 y3 y4 y5 y6
  refine (sameprog_yes _ _ _ P (HB.out.has (Mods.of_below HTB.out.below _)) (HC.out.below HTN.out.below) (fun x hx => Nat.le_trans (HSP.out.params x hx) h62) (fun x hx => Nat.le_trans (HSP.out.starts x hx) h62) (Nat.le_trans HSP.out.parts h61) (Nat.le_trans HSP.out.lines h61) (Nat.le_trans HSP.out.ops h61)).mono ?_
  rintro e wp ⟨rfl, hb⟩
  replace HTN := Lib.hid (HTN.out.step hb)
  replace HT := Lib.hid (HT.out.step hb)
  replace HTA := Lib.hid (HTA.out.step hb)
  replace HTB := Lib.hid (HTB.out.step hb)
  clear hb
  have hA1 : g.actors.length ≤ 1100000 := by have := HH.out.1; unfold headN at this; omega
  have hE1 : g.edges.length ≤ 1100000 := by have := HH.out.1; unfold headN at this; omega
  have hI1 : g.ins.length ≤ 1100000 := by have := HH.out.1; unfold headN at this; omega
  have hO1 : g.outs.length ≤ 1100000 := by have := HH.out.1; unfold headN at this; omega
  have hR1 : p.regions.length ≤ 1100000 := by have := HH.out.2.1; omega
  have HKEPT := Lib.hid (fun (wx : World) (hb : Below B0.heap.size B0 wx) => keptgraph_yes wx _ _ g (HKG.out.below hb) (RG.out.below hb) HPS.out HES.out hA1 hE1 hI1 hO1)
  have HKPLN := Lib.hid (fun (wx : World) (hb : Below B0.heap.size B0 wx) => keptplan_yes wx _ _ p (HKP.out.below hb) (RP.out.below hb) hR1)
  have HKNST := Lib.hid (fun (wx : World) (hb : Below B0.heap.size B0 wx) => keptN_any D wx _ _ l (nestM_below D HNM.out hb) (nestD_below D RN.out hb) HH.out.2.2)
  clear hA1 hE1 hI1 hO1 hR1 h61 h62
  have x0 := cell_later HT.out.below (cells_row _ _ HHB.out 0 _ rfl)
  have x1 := cell_later HT.out.below (cells_row _ _ HHB.out 1 _ rfl)
  have x2 := cell_later HT.out.below (cells_row _ _ HHB.out 2 _ rfl)
  have x3 := cell_later HT.out.below (cells_row _ _ HHB.out 3 _ rfl)
  have x4 := cell_later HT.out.below (cells_row _ _ HHB.out 4 _ rfl)
  simp only [List.getElem_toArray, List.getElem_cons_succ, List.getElem_cons_zero] at x0 x1 x2 x3 x4
  have y0 := cell_later HT.out.below (cells_row _ _ HGB.out 0 _ rfl)
  have y1 := cell_later HT.out.below (cells_row _ _ HGB.out 1 _ rfl)
  have y2 := cell_later HT.out.below (cells_row _ _ HGB.out 2 _ rfl)
  have y3 := cell_later HT.out.below (cells_row _ _ HGB.out 3 _ rfl)
  have y4 := cell_later HT.out.below (cells_row _ _ HGB.out 4 _ rfl)
  simp only [List.getElem_toArray, List.getElem_cons_succ, List.getElem_cons_zero] at y0 y1 y2 y3 y4
  go_wp2_with fail
  clear x0 x1 x2 x3 x4 y0 y1 y2 y3 y4
  refine (HKEPT.out _ HT.out.below).mono ?_
  rintro e wq1 ⟨rfl, hb⟩
  replace HTN := Lib.hid (HTN.out.step hb)
  replace HT := Lib.hid (HT.out.step hb)
  replace HTA := Lib.hid (HTA.out.step hb)
  replace HTB := Lib.hid (HTB.out.step hb)
  clear hb
  have x0 := cell_later HT.out.below (cells_row _ _ HQB.out 0 _ rfl)
  have x1 := cell_later HT.out.below (cells_row _ _ HQB.out 1 _ rfl)
  simp only [List.getElem_toArray, List.getElem_cons_succ, List.getElem_cons_zero] at x0 x1
  have y0 := cell_later HT.out.below (cells_row _ _ HPB.out 0 _ rfl)
  have y1 := cell_later HT.out.below (cells_row _ _ HPB.out 1 _ rfl)
  simp only [List.getElem_toArray, List.getElem_cons_succ, List.getElem_cons_zero] at y0 y1
  go_wp2_with fail
  clear x0 x1 y0 y1
  refine (HKPLN.out _ HT.out.below).mono ?_
  rintro e wq2 ⟨rfl, hb⟩
  replace HTN := Lib.hid (HTN.out.step hb)
  replace HT := Lib.hid (HT.out.step hb)
  replace HTA := Lib.hid (HTA.out.step hb)
  replace HTB := Lib.hid (HTB.out.step hb)
  clear hb
  go_wp2_with fail
  refine (HKNST.out _ HT.out.below).mono ?_
  rintro e wq3 ⟨rfl, mm, rfl⟩
  have hb : Below wq2.heap.size wq2 (wq2.drewN mm) := below_dr (Below.refl _ _)
  replace HTN := Lib.hid (HTN.out.step hb)
  replace HT := Lib.hid (HT.out.step hb)
  replace HTA := Lib.hid (HTA.out.step hb)
  replace HTB := Lib.hid (HTB.out.step hb)
  clear hb
  go_wp2_with fail
  refine (awake_yes _).mono ?_
  rintro e wr ⟨rfl, hb⟩
  replace HTN := Lib.hid (HTN.out.step hb)
  replace HT := Lib.hid (HT.out.step hb)
  replace HTA := Lib.hid (HTA.out.step hb)
  replace HTB := Lib.hid (HTB.out.step hb)
  clear hb
  have x0 := cell_later HTN.out.below (cells_row _ _ HAB.out 0 _ rfl)
  have x1 := cell_later HTN.out.below (cells_row _ _ HAB.out 1 _ rfl)
  have x2 := cell_later HTN.out.below (cells_row _ _ HAB.out 2 _ rfl)
  have x3 := cell_later HTN.out.below (cells_row _ _ HAB.out 3 _ rfl)
  have x4 := cell_later HTN.out.below (cells_row _ _ HAB.out 4 _ rfl)
  have x5 := cell_later HTN.out.below (cells_row _ _ HAB.out 5 _ rfl)
  have x6 := cell_later HTN.out.below (cells_row _ _ HAB.out 6 _ rfl)
  simp only [List.getElem_toArray, List.getElem_cons_succ, List.getElem_cons_zero] at x0 x1 x2 x3 x4 x5 x6
  have y0 := cell_later HTN.out.below (cells_row _ _ HBB.out 0 _ rfl)
  have y1 := cell_later HTN.out.below (cells_row _ _ HBB.out 1 _ rfl)
  have y2 := cell_later HTN.out.below (cells_row _ _ HBB.out 2 _ rfl)
  have y3 := cell_later HTN.out.below (cells_row _ _ HBB.out 3 _ rfl)
  have y4 := cell_later HTN.out.below (cells_row _ _ HBB.out 4 _ rfl)
  have y5 := cell_later HTN.out.below (cells_row _ _ HBB.out 5 _ rfl)
  have y6 := cell_later HTN.out.below (cells_row _ _ HBB.out 6 _ rfl)
  simp only [List.getElem_toArray, List.getElem_cons_succ, List.getElem_cons_zero] at y0 y1 y2 y3 y4 y5 y6
  go_wp2_with fail
  clear x0 x1 x2 x3 x4 x5 x6 y0 y1 y2 y3 y4 y5 y6
  refine (apart_two HA.out HSA.out HB.out HT12.out.below HTB.out.below HSP.out HSP.out).mono ?_
  rintro e ws ⟨rfl, hb⟩
  replace HT : Hid (Then B0 ws) := Lib.hid ⟨HT.out.below.trans hb, Nat.le_trans HT.out.size hb.size⟩
  clear hb HTN HTA HTB HAB HBB HA HB HC HT12
  have x0 := cell_later HT.out.below (cells_row _ _ HHB.out 0 _ rfl)
  have x1 := cell_later HT.out.below (cells_row _ _ HHB.out 1 _ rfl)
  have x2 := cell_later HT.out.below (cells_row _ _ HHB.out 2 _ rfl)
  have x3 := cell_later HT.out.below (cells_row _ _ HHB.out 3 _ rfl)
  have x4 := cell_later HT.out.below (cells_row _ _ HHB.out 4 _ rfl)
  simp only [List.getElem_toArray, List.getElem_cons_succ, List.getElem_cons_zero] at x0 x1 x2 x3 x4
  have y0 := cell_later HT.out.below (cells_row _ _ HGB.out 0 _ rfl)
  have y1 := cell_later HT.out.below (cells_row _ _ HGB.out 1 _ rfl)
  have y2 := cell_later HT.out.below (cells_row _ _ HGB.out 2 _ rfl)
  have y3 := cell_later HT.out.below (cells_row _ _ HGB.out 3 _ rfl)
  have y4 := cell_later HT.out.below (cells_row _ _ HGB.out 4 _ rfl)
  simp only [List.getElem_toArray, List.getElem_cons_succ, List.getElem_cons_zero] at y0 y1 y2 y3 y4
  go_wp2_with fail
  clear x0 x1 x2 x3 x4 y0 y1 y2 y3 y4
  refine (HKEPT.out _ HT.out.below).mono ?_
  rintro e wt1 ⟨rfl, hb⟩
  replace HT := Lib.hid (HT.out.step hb)
  clear hb
  have x0 := cell_later HT.out.below (cells_row _ _ HQB.out 0 _ rfl)
  have x1 := cell_later HT.out.below (cells_row _ _ HQB.out 1 _ rfl)
  simp only [List.getElem_toArray, List.getElem_cons_succ, List.getElem_cons_zero] at x0 x1
  have y0 := cell_later HT.out.below (cells_row _ _ HPB.out 0 _ rfl)
  have y1 := cell_later HT.out.below (cells_row _ _ HPB.out 1 _ rfl)
  simp only [List.getElem_toArray, List.getElem_cons_succ, List.getElem_cons_zero] at y0 y1
  go_wp2_with fail
  clear x0 x1 y0 y1
  refine (HKPLN.out _ HT.out.below).mono ?_
  rintro e wt2 ⟨rfl, hb⟩
  replace HT := Lib.hid (HT.out.step hb)
  clear hb
  go_wp2_with fail
  refine (HKNST.out _ HT.out.below).mono ?_
  rintro e wt3 ⟨rfl, mm, rfl⟩
  have hb : Below wt2.heap.size wt2 (wt2.drewN mm) := below_dr (Below.refl _ _)
  replace HT := Lib.hid (HT.out.step hb)
  clear hb
  go_wp2
  go_ret
  exact ⟨rfl, (HT0B.out.step HT.out.below).below⟩
end Go.Proofs.Ytbmbfifempkhgaa

/- What came in, said plainly for a walk: a slice of ints. No program in sight. -/
namespace Go.Proofs.Ytbmbfifempkhgaa
open Go.ChangeShapes Go.WideShapes Go.ChangeAt Go.RowKit Go.Deep
def InInts (w : World) (v : Value) (zs : List Int) : Prop :=
 ∃ ao cap, v = .slice ao zs.length cap ∧ zs.length ≤ cap ∧ cap ≤ maxLen ∧ (ao = none → zs.length = 0) ∧ (∀ n ∈ zs, -9223372036854775808 ≤ n ∧ n ≤ 9223372036854775807) ∧
  ∀ ad, ao = some ad → ∀ j u, (zs.map (Value.int .i64))[j]? = some u → w.cell? (ad.add j) = some u
theorem wf_i64 {n : Int} (h : (Lit.int .i64 n).wf = true) : -9223372036854775808 ≤ n ∧ n ≤ 9223372036854775807 := by
 simp [Lit.wf] at h
 have h1 : IntKind.i64.min = -9223372036854775808 := rfl
 have h2 : IntKind.i64.max = 9223372036854775807 := rfl
 omega
def DLen {H : Type} (d : DataW H) (n : Nat) : Prop := (d = .nil ∧ n = 0) ∨ ∃ el sp, d = .slice el sp ∧ el.length = n
theorem DLen.reach {H : Type} {P : Program} {ts : List TypeId} {ds : List (DataW H)} {d : DataW H} {n j : Nat} {t e : TypeId} (h : DLen d n) (hs : (DataW.weightsEach P ts ds).all (· ≤ reachBytes) = true) (ht : ts[j]? = some t) (hd : ds[j]? = some d) (hu : P.underlying t = some (.slice e)) : n * P.bytesOf e ≤ 140737488351232 := by
 rcases h with ⟨rfl, rfl⟩ | ⟨el, sp, rfl, rfl⟩
 ·
  omega
 ·
  have := sized_slice hs ht hd hu
  have h1 : el.length * P.bytesOf e ≤ (el.length + sp.length) * P.bytesOf e := Nat.mul_le_mul_right _ (by omega)
  have h2 : reachBytes = 140737488351232 := rfl
  omega
theorem open_in_ints {P : Program} {H : Type} {enc : TypeId × Value → H} {W : World} {t e : TypeId} {v : Value} {d : DataW H} {p : List MemPlace} (ht : P.underlying t = some (.slice e)) (he : P.underlying e = some (.int .i64)) (hc : P.cellsOf e = 1)
  (hv : ∃ a len cap, v = .slice a len cap) (h : DataW.Trod enc P W 0 (fun _ => true) true t v d p) : ∃ zs, InInts W v zs ∧ DLen d zs.length := by
 obtain ⟨a1, len1, cap1, rfl⟩ := hv
 obtain ⟨fuel, hf⟩ := h
 rcases open_ints ht he hc hf with ⟨hcs, hx⟩ | ⟨x, l, c, zs, hcs, _, hl, hm, hz, hx, hcell, hwz⟩
 ·
  simp [Value.cells] at hcs
  obtain ⟨rfl, rfl, rfl⟩ := hcs
  obtain rfl : d = .nil := congrArg Prod.fst hx
  exact ⟨[], ⟨none, 0, rfl, Nat.le_refl _, Nat.zero_le _, fun _ => rfl, by simp, fun _ h => by cases h⟩, .inl ⟨rfl, rfl⟩⟩
 ·
  simp [Value.cells] at hcs
  obtain ⟨rfl, rfl, rfl⟩ := hcs
  simp at hz
  obtain rfl : d = _ := congrArg Prod.fst hx
  have hlen : (zs.take len1).length = len1 := by rw [List.length_take]; omega
  refine ⟨zs.take len1, ⟨some x, cap1, by rw [hlen], by omega, hm, (fun h => by cases h), fun n hn => ?_, ?_⟩, .inr ⟨_, _, rfl, by simp [lits]⟩⟩
  ·
   exact wf_i64 (hwz n (List.mem_of_mem_take hn))
  ·
   intro ad had j u hu
   obtain rfl := Option.some.inj had
   have hj : j < len1 := by have := (List.getElem?_eq_some_iff.1 hu).1; simp at this; omega
   have hcz := hcell j (by omega)
   rw [hcz]
   have : ((zs.take len1).map (Value.int .i64))[j]? = some (.int .i64 (zs.getD j 0)) := by
    simp [hj, show j < zs.length by omega]
   rw [this] at hu
   exact hu
theorem InInts.has {W : World} {v : Value} {zs : List Int} (h : InInts W v zs) : Has W v (ivs zs) := by
 obtain ⟨ao, cap, rfl, h1, h2, h3, h4, h5⟩ := h
 by_cases hp : 0 < zs.length
 ·
  cases ao with
  | none => have := h3 rfl; omega
  | some a =>
   have hc : ∀ i, i < zs.length → W.cell? (a.add i) = some (.int .i64 (zs.getD i 0)) := fun i hi => h5 a rfl i _ (by simp [hi])
   obtain ⟨b, off, rfl, hcell⟩ := ints_at hc hp
   refine .inr ⟨by simpa using hp, b, off, cap, by simp, by simpa using h1, World.block_lt_of_cell? _ _ (hcell 0 hp), rfl, fun k hk => ?_⟩
   have hk' : k < zs.length := by simpa using hk
   have := hcell k hk'
   simpa [hk'] using this
 ·
  obtain rfl : zs = [] := List.eq_nil_of_length_eq_zero (by omega)
  exact .inl ⟨rfl, ao, cap, rfl⟩
theorem InInts.fits {W : World} {v : Value} {zs : List Int} (h : InInts W v zs) : ∀ n ∈ zs, -9223372036854775808 ≤ n ∧ n ≤ 9223372036854775807 := h.choose_spec.choose_spec.2.2.2.2.1
end Go.Proofs.Ytbmbfifempkhgaa

/- What came in, said plainly for a walk: a slice of slices of ints. No program in sight. -/
namespace Go.Proofs.Ytbmbfifempkhgaa
open Go.ChangeShapes Go.WideShapes Go.ChangeAt Go.RowKit Go.Deep
theorem open_in_ints_cells {P : Program} {H : Type} {enc : TypeId × Value → H} {W : World} {t e : TypeId} {x : Value} {fuel : Nat} {y : DataW H × List MemPlace} (ht : P.underlying t = some (.slice e)) (he : P.underlying e = some (.int .i64)) (hc : P.cellsOf e = 1)
  (h : DataW.trod enc P W 0 (fun _ => true) true fuel t [x] = some y) : ∃ zs, InInts W x zs ∧ DLen y.1 zs.length := by
 have hx : ∃ a len cap, x = .slice a len cap := by
  rcases open_ints ht he hc h with ⟨hcs, _⟩ | ⟨a, len, cap, zs, hcs, _⟩
  ·
   exact ⟨_, _, _, List.head_eq_of_cons_eq hcs⟩
  ·
   exact ⟨_, _, _, List.head_eq_of_cons_eq hcs⟩
 obtain ⟨a, len, cap, rfl⟩ := hx
 exact open_in_ints (d := y.1) (p := y.2) ht he hc ⟨_, _, _, rfl⟩ ⟨fuel, by simpa [Value.cells] using h⟩
end Go.Proofs.Ytbmbfifempkhgaa

/- What came in, said plainly for a walk: slices of slices of ints and their sizes; two of them in a struct. No program in sight. -/
namespace Go.Proofs.Ytbmbfifempkhgaa
open Go.ChangeShapes Go.WideShapes Go.ChangeAt Go.RowKit Go.Deep
theorem weights_mem_all {H : Type} {P : Program} {e : TypeId} {d : DataW H} {x : Nat} : ∀ {l : List (DataW H)}, d ∈ l → x ∈ d.weights P e → x ∈ DataW.weightsAll P e l
 | [], h, _ => by cases h
 | a :: l, h, hx => by
  simp only [DataW.weightsAll, List.mem_append]
  rcases List.mem_cons.1 h with rfl | h
  ·
   exact .inl hx
  ·
   exact .inr (weights_mem_all h hx)
def Light {H : Type} (P : Program) (t : TypeId) (d : DataW H) : Prop := ∀ x ∈ d.weights P t, x ≤ reachBytes
theorem weigh_len {H : Type} {P : Program} {t e : TypeId} {d : DataW H} {n B : Nat} (h : ∀ x ∈ d.weights P t, x ≤ B) (hd : DLen d n) (hu : P.underlying t = some (.slice e)) : n * P.bytesOf e ≤ B := by
 rcases hd with ⟨rfl, rfl⟩ | ⟨el, sp, rfl, rfl⟩
 ·
  simp
 ·
  have := h ((el.length + sp.length) * P.bytesOf e) (by simp [DataW.weights, hu])
  exact Nat.le_trans (Nat.mul_le_mul_right _ (by omega)) this
theorem Light.len {H : Type} {P : Program} {t e : TypeId} {d : DataW H} {n : Nat} (h : Light P t d) (hd : DLen d n) (hu : P.underlying t = some (.slice e)) : n * P.bytesOf e ≤ reachBytes := weigh_len h hd hu
end Go.Proofs.Ytbmbfifempkhgaa

/- What came in, said plainly for a walk: a slice of records. No function in sight. -/
namespace Go.Proofs.Ytbmbfifempkhgaa
open Go.ChangeShapes Go.WideShapes Go.ChangeAt Go.RowKit Go.Deep
section
variable {H : Type} {enc : TypeId × Value → H} {W : World}
abbrev Trods (enc : TypeId × Value → H) (W : World) (fuel : Nat) (t : TypeId) (cs : List Value) (y : DataW H × List MemPlace) : Prop := DataW.trod enc Try.prog W 0 (fun _ => true) true fuel t cs = some y
theorem cell_int : Try.prog.cellsOf 3 = 1 := by kernel_rfl
theorem cell_ints : Try.prog.cellsOf 52 = 1 := by kernel_rfl
theorem byte_int : Try.prog.bytesOf 3 = 8 := by kernel_rfl
theorem reach_val : reachBytes = 140737488351232 := rfl
theorem part_by {B : Nat} {t : TypeId} {fs : Array Field} {xs : List (DataW H × List MemPlace)} (ht : Try.prog.underlying t = some (.struct fs)) (hL : ∀ x ∈ (DataW.agg (xs.map (·.1))).weights Try.prog t, x ≤ B) {i : Nat} {f : Field} {y : DataW H × List MemPlace} (hf : fs[i]? = some f) (hy : xs[i]? = some y) : ∀ x ∈ y.1.weights Try.prog f.type, x ≤ B := fun x hx => hL x (by
 simp only [DataW.weights, ht]
 have h1 : (fs.toList.map (·.type))[i]? = some f.type := by simp [hf]
 have h2 : (xs.map (·.1))[i]? = some y.1 := by simp [hy]
 exact DataW.weights_mem_each h1 h2 x hx)
theorem light_part {t : TypeId} {fs : Array Field} {xs : List (DataW H × List MemPlace)} (ht : Try.prog.underlying t = some (.struct fs)) (hL : Light Try.prog t (.agg (xs.map (·.1)))) {i : Nat} {f : Field} {y : DataW H × List MemPlace} (hf : fs[i]? = some f) (hy : xs[i]? = some y) : Light Try.prog f.type y.1 := part_by ht hL hf hy
theorem int_at {fuel : Nat} {x : Value} {y : DataW H × List MemPlace} (h : Trods enc W fuel 3 [x] y) : ∃ n, x = .int .i64 n := by
 obtain ⟨n, h1, _⟩ := DataW.trod_int Try.underlying3 h
 exact ⟨n, by simpa using h1⟩
theorem ints_at' {fuel : Nat} {x : Value} {y : DataW H × List MemPlace} (h : Trods enc W fuel 52 [x] y) : ∃ l, Has W x (ivs l) ∧ (Light Try.prog 52 y.1 → l.length ≤ 17600000000000) := by
 obtain ⟨l, h1, h2⟩ := open_in_ints_cells Try.underlying52 Try.underlying3 cell_int h
 refine ⟨l, h1.has, fun hL => ?_⟩
 have := hL.len h2 Try.underlying52
 rw [byte_int] at this
 have h3 := reach_val
 omega
theorem list_get {cs : List Value} {n i : Nat} (hl : cs.length = n) (hi : i < n) : cs[i]? = some (cs[i]?.getD undef) := by
 rw [List.getElem?_eq_getElem (by omega)]; rfl
theorem open_recs {α : Type} {R : World → α → List Value → Prop} {Z : α → Prop} {t e : TypeId} {sz : Nat} {fuel : Nat} {x : Value} {y : DataW H × List MemPlace} (ht : Try.prog.underlying t = some (.slice e)) (hc : Try.prog.cellsOf e = sz) (hsz : 0 < sz)
  (el : ∀ (fuel : Nat) (cs : List Value) (y : DataW H × List MemPlace), cs.length = sz → Trods enc W fuel e cs y → ∃ a : α, R W a cs ∧ (Light Try.prog e y.1 → Z a)) (h : Trods enc W fuel t [x] y) :
  ∃ l : List α, Recs W sz R x l ∧ (Light Try.prog t y.1 → l.length * Try.prog.bytesOf e ≤ reachBytes ∧ ∀ a ∈ l, Z a) := by
 rcases open_slice ht h with ⟨hcs', hx⟩ | ⟨a, len, cap, m, n, D, Pl, hcs', _, hl, hm, hmm, hx, hel⟩
 ·
  obtain rfl : x = .slice none 0 0 := List.head_eq_of_cons_eq hcs'
  exact ⟨[], .inl ⟨rfl, _, _, rfl⟩, fun _ => ⟨by simp, by simp⟩⟩
 ·
  obtain rfl := List.head_eq_of_cons_eq hcs'
  simp at hmm
  have each : ∀ j, j < len → ∃ q : α × List Value, q.2.length = sz ∧ R W q.1 q.2 ∧ (Light Try.prog e (D j) → Z q.1) ∧ ∀ i, i < sz → W.cell? ((a.add (j * sz)).add i) = some (q.2[i]?.getD undef) := by
   intro j hj
   obtain ⟨cs', hcells, htr⟩ := hel j (by omega)
   rw [hc] at hcells
   obtain ⟨_, hll, hev⟩ := World.cells?_some hcells
   obtain ⟨q, h1, h2⟩ := el _ _ _ hll htr
   exact ⟨(q, cs'), hll, h1, h2, fun i hi => (hev i hi).trans (list_get hll hi)⟩
  by_cases hp : 0 < len
  ·
   haveI : Inhabited (α × List Value) := ⟨(each 0 hp).choose⟩
   obtain ⟨Q, hQ⟩ := choose_lt (α := α × List Value) (p := fun j q => q.2.length = sz ∧ R W q.1 q.2 ∧ (Light Try.prog e (D j) → Z q.1) ∧ ∀ i, i < sz → W.cell? ((a.add (j * sz)).add i) = some (q.2[i]?.getD undef)) each
   have hd : y.1 = _ := congrArg Prod.fst hx
   refine ⟨(List.range len).map fun j => (Q j).1, .inr ?_, fun hL => ⟨hL.len (n := ((List.range len).map fun j => (Q j).1).length) (.inr ⟨_, _, hd, by simp⟩) ht, fun z hz => ?_⟩⟩
   rotate_left
   ·
    simp only [List.mem_map, List.mem_range] at hz
    obtain ⟨j, hj, rfl⟩ := hz
    exact (hQ j hj).2.2.1 fun x hx => hL x (by
     rw [hd]
     simp only [DataW.weights, ht]
     exact List.mem_cons_of_mem _ (List.mem_append_left _ (weights_mem_all (List.mem_map.2 ⟨j, List.mem_range.2 hj, rfl⟩) hx)))
   have hsp : a.spot = none := by
    have := World.cell?_spot ((hQ 0 hp).2.2.2 0 hsz)
    simpa [Addr.add] using this
   obtain ⟨b, off, spot⟩ := a
   simp at hsp
   subst hsp
   refine ⟨by simpa using hp, b, off, cap, by simp, by simp; omega, ?_, fun k hk => ?_⟩
   ·
    have := World.block_lt_of_cell? _ _ ((hQ 0 hp).2.2.2 0 hsz)
    simpa [Addr.add] using this
   ·
    have hk' : k < len := by simpa using hk
    obtain ⟨e1, e2, _, e4⟩ := hQ k hk'
    refine ⟨(Q k).2, e1, by simpa [hk'] using e2, fun i hi => ?_⟩
    have := e4 i hi
    simp only [Addr.add_lit] at this
    exact this
  ·
   obtain rfl : len = 0 := by omega
   exact ⟨[], .inl ⟨rfl, some a, cap, rfl⟩, fun _ => ⟨by simp, by simp⟩⟩
end
end Go.Proofs.Ytbmbfifempkhgaa

/- What came in, said plainly for a walk: graphs and plans. No function in sight. -/
namespace Go.Proofs.Ytbmbfifempkhgaa
open Go.ChangeShapes Go.WideShapes Go.ChangeAt Go.RowKit Go.Deep
section
variable {H : Type} {enc : TypeId × Value → H} {W : World}
theorem cell_string : Try.prog.cellsOf 9 = 1 := by kernel_rfl
theorem cell_tag : Try.prog.cellsOf 55 = 1 := by kernel_rfl
theorem string_at {fuel : Nat} {x : Value} {y : DataW H × List MemPlace} (h : Trods enc W fuel 9 [x] y) : ∃ s : ByteArray, x = .string s ∧ (Light Try.prog 9 y.1 → s.size ≤ 4611686018427387904) := by
 obtain ⟨s, h1, h2, _⟩ := DataW.trod_string Try.underlying9 h
 refine ⟨s, by simpa using h1, fun hL => ?_⟩
 have := hL s.data.toList.length (by rw [h2]; simp [DataW.weights])
 have h3 := reach_val
 have h4 : s.data.toList.length = s.size := by simp
 omega
set_option maxRecDepth 100000 in
theorem el_actor {fuel : Nat} {cs : List Value} {y : DataW H × List MemPlace} (hl : cs.length = 3) (h : Trods enc W fuel 57 cs y) : ∃ a : GActor, ActorR W a cs ∧ (Light Try.prog 57 y.1 → a.name.size ≤ 4611686018427387904 ∧ a.params.length ≤ 17600000000000) := by
 obtain ⟨xs, n, _, rfl, _, hlen, hf⟩ := DataW.trod_struct Try.underlying57 h
 match cs, hl, xs, hlen with
 | [x0, x1, x2], _, [y0, y1, y2], _ =>
  have h0 : Trods enc W n 9 [x0] y0 := by simpa [cell_string] using hf 0 _ rfl
  have h1 : Trods enc W n 55 [x1] y1 := by simpa [cell_tag] using hf 1 _ rfl
  have h2 : Trods enc W n 52 [x2] y2 := by simpa [cell_ints] using hf 2 _ rfl
  obtain ⟨s, rfl, s2⟩ := string_at h0
  obtain ⟨tg, t1, _⟩ := DataW.trod_int Try.underlying55 h1
  obtain rfl : x1 = .int .u8 tg := by simpa using t1
  obtain ⟨l, l1, l2⟩ := ints_at' h2
  exact ⟨⟨s, tg, l⟩, ⟨x2, rfl, l1⟩, fun hL => ⟨s2 (light_part Try.underlying57 (xs := [y0, y1, y2]) hL (i := 0) rfl rfl), l2 (light_part Try.underlying57 (xs := [y0, y1, y2]) hL (i := 2) rfl rfl)⟩⟩
set_option maxRecDepth 100000 in
theorem el_edge {fuel : Nat} {cs : List Value} {y : DataW H × List MemPlace} (hl : cs.length = 5) (h : Trods enc W fuel 63 cs y) : ∃ a : GEdge, EdgeR W a cs ∧ (Light Try.prog 63 y.1 → a.start.length ≤ 17600000000000) := by
 obtain ⟨xs, n, _, rfl, _, hlen, hf⟩ := DataW.trod_struct Try.underlying63 h
 match cs, hl, xs, hlen with
 | [x0, x1, x2, x3, x4], _, [y0, y1, y2, y3, y4], _ =>
  have h0 : Trods enc W n 3 [x0] y0 := by simpa [cell_int] using hf 0 _ rfl
  have h1 : Trods enc W n 3 [x1] y1 := by simpa [cell_int] using hf 1 _ rfl
  have h2 : Trods enc W n 3 [x2] y2 := by simpa [cell_int] using hf 2 _ rfl
  have h3 : Trods enc W n 3 [x3] y3 := by simpa [cell_int] using hf 3 _ rfl
  have h4 : Trods enc W n 52 [x4] y4 := by simpa [cell_ints] using hf 4 _ rfl
  obtain ⟨n0, rfl⟩ := int_at h0
  obtain ⟨n1, rfl⟩ := int_at h1
  obtain ⟨n2, rfl⟩ := int_at h2
  obtain ⟨n3, rfl⟩ := int_at h3
  obtain ⟨l, l1, l2⟩ := ints_at' h4
  exact ⟨⟨n0, n1, n2, n3, l⟩, ⟨x4, rfl, l1⟩, fun hL => l2 (light_part Try.underlying63 (xs := [y0, y1, y2, y3, y4]) hL (i := 4) rfl rfl)⟩
set_option maxRecDepth 100000 in
theorem el_port {fuel : Nat} {cs : List Value} {y : DataW H × List MemPlace} (hl : cs.length = 3) (h : Trods enc W fuel 65 cs y) : ∃ a : GPort, PortR W a cs ∧ (Light Try.prog 65 y.1 → a.name.size ≤ 4611686018427387904) := by
 obtain ⟨xs, n, _, rfl, _, hlen, hf⟩ := DataW.trod_struct Try.underlying65 h
 match cs, hl, xs, hlen with
 | [x0, x1, x2], _, [y0, y1, y2], _ =>
  have h0 : Trods enc W n 9 [x0] y0 := by simpa [cell_string] using hf 0 _ rfl
  have h1 : Trods enc W n 3 [x1] y1 := by simpa [cell_int] using hf 1 _ rfl
  have h2 : Trods enc W n 3 [x2] y2 := by simpa [cell_int] using hf 2 _ rfl
  obtain ⟨s, rfl, s2⟩ := string_at h0
  obtain ⟨n1, rfl⟩ := int_at h1
  obtain ⟨n2, rfl⟩ := int_at h2
  exact ⟨⟨s, n1, n2⟩, rfl, fun hL => s2 (light_part Try.underlying65 (xs := [y0, y1, y2]) hL (i := 0) rfl rfl)⟩
set_option maxRecDepth 100000 in
theorem el_region {fuel : Nat} {cs : List Value} {y : DataW H × List MemPlace} (hl : cs.length = 2) (h : Trods enc W fuel 70 cs y) : ∃ a : GRegion, RegionR W a cs ∧ (Light Try.prog 70 y.1 → True) := by
 obtain ⟨xs, n, _, rfl, _, hlen, hf⟩ := DataW.trod_struct Try.underlying70 h
 match cs, hl, xs, hlen with
 | [x0, x1], _, [y0, y1], _ =>
  have h0 : Trods enc W n 3 [x0] y0 := by simpa [cell_int] using hf 0 _ rfl
  have h1 : Trods enc W n 3 [x1] y1 := by simpa [cell_int] using hf 1 _ rfl
  obtain ⟨n0, rfl⟩ := int_at h0
  obtain ⟨n1, rfl⟩ := int_at h1
  exact ⟨⟨n0, n1⟩, rfl, fun _ => trivial⟩
theorem byte_actor : Try.prog.bytesOf 57 = 48 := by kernel_rfl
theorem byte_edge : Try.prog.bytesOf 63 = 56 := by kernel_rfl
theorem byte_port : Try.prog.bytesOf 65 = 32 := by kernel_rfl
theorem byte_region : Try.prog.bytesOf 70 = 16 := by kernel_rfl
theorem cell_rows : Try.prog.cellsOf 22 = 1 ∧ Try.prog.cellsOf 23 = 1 ∧ Try.prog.cellsOf 24 = 1 ∧ Try.prog.cellsOf 27 = 1 := ⟨by kernel_rfl, by kernel_rfl, by kernel_rfl, by kernel_rfl⟩
set_option maxRecDepth 100000 in
theorem open_graph {v : Value} {d : DataW H} {p : List MemPlace} (hv : ∃ cs, v = .agg cs ∧ cs.size = Try.prog.cellsOf 26) (h : DataW.Trod enc Try.prog W 0 (fun _ => true) true 26 v d p) : ∃ g, HasGraph W v g ∧ (Light Try.prog 26 d → GSized g ∧ Great g) := by
 obtain ⟨cs, rfl, hsz⟩ := hv
 obtain ⟨fuel, hf0⟩ := h
 rw [show Try.prog.cellsOf 26 = 5 by kernel_rfl] at hsz
 obtain ⟨xs, n, _, hx, _, hlen, hf⟩ := DataW.trod_struct Try.underlying26 hf0
 obtain ⟨l⟩ := cs
 match l, hsz, xs, hlen with
 | [x0, x1, x2, x3, x4], _, [y0, y1, y2, y3, y4], _ =>
  have h0 : Trods enc W n 9 [x0] y0 := by simpa [cell_string, Value.cells] using hf 0 _ rfl
  have h1 : Trods enc W n 22 [x1] y1 := by simpa [cell_rows.1, Value.cells] using hf 1 _ rfl
  have h2 : Trods enc W n 23 [x2] y2 := by simpa [cell_rows.2.1, Value.cells] using hf 2 _ rfl
  have h3 : Trods enc W n 24 [x3] y3 := by simpa [cell_rows.2.2.1, Value.cells] using hf 3 _ rfl
  have h4 : Trods enc W n 24 [x4] y4 := by simpa [cell_rows.2.2.1, Value.cells] using hf 4 _ rfl
  have hd : d = .agg ([y0, y1, y2, y3, y4].map (·.1)) := congrArg Prod.fst hx
  obtain ⟨s, rfl, s2⟩ := string_at h0
  obtain ⟨la, a1, a2⟩ := open_recs (sz := 3) Try.underlying22 (by kernel_rfl) (by decide) (fun fuel cs y => el_actor) h1
  obtain ⟨le, e1, e2⟩ := open_recs (sz := 5) Try.underlying23 (by kernel_rfl) (by decide) (fun fuel cs y => el_edge) h2
  obtain ⟨li, i1, i2⟩ := open_recs (sz := 3) Try.underlying24 (by kernel_rfl) (by decide) (fun fuel cs y => el_port) h3
  obtain ⟨lo, o1, o2⟩ := open_recs (sz := 3) Try.underlying24 (by kernel_rfl) (by decide) (fun fuel cs y => el_port) h4
  refine ⟨⟨s, la, le, li, lo⟩, ⟨_, _, _, _, rfl, a1, e1, i1, o1⟩, fun hL => ?_⟩
  rw [hd] at hL
  have s3 := s2 (light_part Try.underlying26 hL (i := 0) rfl rfl)
  have a3 := a2 (light_part Try.underlying26 hL (i := 1) rfl rfl)
  have e3 := e2 (light_part Try.underlying26 hL (i := 2) rfl rfl)
  have i3 := i2 (light_part Try.underlying26 hL (i := 3) rfl rfl)
  have o3 := o2 (light_part Try.underlying26 hL (i := 4) rfl rfl)
  rw [byte_actor, reach_val] at a3
  rw [byte_edge, reach_val] at e3
  rw [byte_port, reach_val] at i3 o3
  exact ⟨⟨s3, a3.2, i3.2, o3.2⟩, ⟨by have := a3.1; show la.length ≤ _; omega, by have := e3.1; show le.length ≤ _; omega, by have := i3.1; show li.length ≤ _; omega, by have := o3.1; show lo.length ≤ _; omega, fun a ha => (a3.2 a ha).2, e3.2⟩⟩
set_option maxRecDepth 100000 in
theorem open_plan {v : Value} {d : DataW H} {p : List MemPlace} (hv : ∃ cs, v = .agg cs ∧ cs.size = Try.prog.cellsOf 29) (h : DataW.Trod enc Try.prog W 0 (fun _ => true) true 29 v d p) : ∃ q, HasPlan W v q ∧ (Light Try.prog 29 d → q.regions.length ≤ 17600000000000) := by
 obtain ⟨cs, rfl, hsz⟩ := hv
 obtain ⟨fuel, hf0⟩ := h
 rw [show Try.prog.cellsOf 29 = 2 by kernel_rfl] at hsz
 obtain ⟨xs, n, _, hx, _, hlen, hf⟩ := DataW.trod_struct Try.underlying29 hf0
 obtain ⟨l⟩ := cs
 match l, hsz, xs, hlen with
 | [x0, x1], _, [y0, y1], _ =>
  have h0 : Trods enc W n 27 [x0] y0 := by simpa [cell_rows.2.2.2, Value.cells] using hf 0 _ rfl
  have h1 : Trods enc W n 3 [x1] y1 := by simpa [cell_int, Value.cells] using hf 1 _ rfl
  have hd : d = .agg ([y0, y1].map (·.1)) := congrArg Prod.fst hx
  obtain ⟨lr, r1, r2⟩ := open_recs (sz := 2) Try.underlying27 (by kernel_rfl) (by decide) (fun fuel cs y => el_region) h0
  obtain ⟨tot, rfl⟩ := int_at h1
  refine ⟨⟨lr, tot⟩, ⟨_, rfl, r1⟩, fun hL => ?_⟩
  rw [hd] at hL
  have r3 := r2 (light_part Try.underlying29 hL (i := 0) rfl rfl)
  rw [byte_region, reach_val] at r3
  have := r3.1
  show lr.length ≤ _
  omega
end
end Go.Proofs.Ytbmbfifempkhgaa

/- What came in, said plainly for a walk: nests. No function in sight. -/
namespace Go.Proofs.Ytbmbfifempkhgaa
open Go.ChangeShapes Go.WideShapes Go.ChangeAt Go.RowKit Go.Deep
section
variable {H : Type} {enc : TypeId × Value → H} {W : World}
theorem open_recs_in {α : Type} {R : World → α → List Value → Prop} {Z : α → Prop} {t e : TypeId} {sz : Nat} {fuel : Nat} {x : Value} {y : DataW H × List MemPlace} (ht : Try.prog.underlying t = some (.slice e)) (hc : Try.prog.cellsOf e = sz) (hsz : 0 < sz)
  (el : ∀ (fuel : Nat) (cs : List Value) (z : DataW H × List MemPlace), cs.length = sz → SizeOf.sizeOf z.1 < SizeOf.sizeOf y.1 → Trods enc W fuel e cs z → ∃ a : α, R W a cs ∧ (Light Try.prog e z.1 → Z a)) (h : Trods enc W fuel t [x] y) :
  ∃ l : List α, Recs W sz R x l ∧ (Light Try.prog t y.1 → l.length * Try.prog.bytesOf e ≤ reachBytes ∧ ∀ a ∈ l, Z a) := by
 rcases open_slice ht h with ⟨hcs', hx⟩ | ⟨a, len, cap, m, n, D, Pl, hcs', _, hl, hm, hmm, hx, hel⟩
 ·
  obtain rfl : x = .slice none 0 0 := List.head_eq_of_cons_eq hcs'
  exact ⟨[], .inl ⟨rfl, _, _, rfl⟩, fun _ => ⟨by simp, by simp⟩⟩
 ·
  obtain rfl := List.head_eq_of_cons_eq hcs'
  simp at hmm
  have hd : y.1 = _ := congrArg Prod.fst hx
  have each : ∀ j, j < len → ∃ q : α × List Value, q.2.length = sz ∧ R W q.1 q.2 ∧ (Light Try.prog e (D j) → Z q.1) ∧ ∀ i, i < sz → W.cell? ((a.add (j * sz)).add i) = some (q.2[i]?.getD undef) := by
   intro j hj
   obtain ⟨cs', hcells, htr⟩ := hel j (by omega)
   rw [hc] at hcells
   obtain ⟨_, hll, hev⟩ := World.cells?_some hcells
   have hsd : SizeOf.sizeOf (D j) < SizeOf.sizeOf y.1 := by
    rw [hd]
    have : D j ∈ (List.range len).map D := List.mem_map.2 ⟨j, List.mem_range.2 hj, rfl⟩
    have := List.sizeOf_lt_of_mem this
    simp only [DataW.slice.sizeOf_spec]
    omega
   obtain ⟨q, h1, h2⟩ := el _ _ _ hll hsd htr
   exact ⟨(q, cs'), hll, h1, h2, fun i hi => (hev i hi).trans (list_get hll hi)⟩
  by_cases hp : 0 < len
  ·
   haveI : Inhabited (α × List Value) := ⟨(each 0 hp).choose⟩
   obtain ⟨Q, hQ⟩ := choose_lt (α := α × List Value) (p := fun j q => q.2.length = sz ∧ R W q.1 q.2 ∧ (Light Try.prog e (D j) → Z q.1) ∧ ∀ i, i < sz → W.cell? ((a.add (j * sz)).add i) = some (q.2[i]?.getD undef)) each
   refine ⟨(List.range len).map fun j => (Q j).1, .inr ?_, fun hL => ⟨hL.len (n := ((List.range len).map fun j => (Q j).1).length) (.inr ⟨_, _, hd, by simp⟩) ht, fun z hz => ?_⟩⟩
   rotate_left
   ·
    simp only [List.mem_map, List.mem_range] at hz
    obtain ⟨j, hj, rfl⟩ := hz
    exact (hQ j hj).2.2.1 fun x hx => hL x (by
     rw [hd]
     simp only [DataW.weights, ht]
     exact List.mem_cons_of_mem _ (List.mem_append_left _ (weights_mem_all (List.mem_map.2 ⟨j, List.mem_range.2 hj, rfl⟩) hx)))
   have hsp : a.spot = none := by
    have := World.cell?_spot ((hQ 0 hp).2.2.2 0 hsz)
    simpa [Addr.add] using this
   obtain ⟨b, off, spot⟩ := a
   simp at hsp
   subst hsp
   refine ⟨by simpa using hp, b, off, cap, by simp, by simp; omega, ?_, fun k hk => ?_⟩
   ·
    have := World.block_lt_of_cell? _ _ ((hQ 0 hp).2.2.2 0 hsz)
    simpa [Addr.add] using this
   ·
    have hk' : k < len := by simpa using hk
    obtain ⟨e1, e2, _, e4⟩ := hQ k hk'
    refine ⟨(Q k).2, e1, by simpa [hk'] using e2, fun i hi => ?_⟩
    have := e4 i hi
    simp only [Addr.add_lit] at this
    exact this
  ·
   obtain rfl : len = 0 := by omega
   exact ⟨[], .inl ⟨rfl, some a, cap, rfl⟩, fun _ => ⟨by simp, by simp⟩⟩
def Nest.of : List (Int × Int × Nest) → Nest
 | [] => .nil
 | (t, n, b) :: r => .cons t n b (Nest.of r)
theorem nest_of_items : ∀ l, (Nest.of l).items = l
 | [] => rfl
 | (t, n, b) :: r => by simp [Nest.of, Nest.items, nest_of_items r]
theorem nsized_of : ∀ (l : List (Int × Int × Nest)), l.length ≤ 17600000000000 → (∀ x ∈ l, NSized x.2.2) → NSized (Nest.of l)
 | [], _, _ => trivial
 | (t, n, b) :: r, h, hs => by
  simp only [List.length_cons] at h
  exact ⟨hs _ List.mem_cons_self, nsized_of r (by omega) (fun x hx => hs x (List.mem_cons_of_mem _ hx)), by rw [nest_of_items]; exact h⟩
theorem byte_loop : Try.prog.bytesOf 51 = 40 := by kernel_rfl
theorem cell_loops : Try.prog.cellsOf 30 = 1 := by kernel_rfl
set_option maxRecDepth 100000 in
theorem open_nest_in : ∀ (N fuel : Nat) (x : Value) (y : DataW H × List MemPlace), SizeOf.sizeOf y.1 < N → Trods enc W fuel 30 [x] y → ∃ l, HasNestD N W x l ∧ (Light Try.prog 30 y.1 → NSized l)
 | 0, _, _, _, h, _ => by omega
 | N + 1, fuel, x, y, hN, h => by
  obtain ⟨l, h1, h2⟩ := open_recs_in (α := Int × Int × Nest) (sz := 3) (R := fun w x cs => ∃ y, cs = [.int .i64 x.1, .int .i64 x.2.1, y] ∧ HasNestD N w y x.2.2) (Z := fun x => NSized x.2.2) Try.underlying30 (by kernel_rfl) (by decide) (fun fuel cs z hl hz hf => by
   obtain ⟨xs, n, _, rfl, _, hlen, hf⟩ := DataW.trod_struct Try.underlying51 hf
   match cs, hl, xs, hlen with
   | [x0, x1, x2], _, [y0, y1, y2], _ =>
    have g0 : Trods enc W n 3 [x0] y0 := by simpa [cell_int] using hf 0 _ rfl
    have g1 : Trods enc W n 3 [x1] y1 := by simpa [cell_int] using hf 1 _ rfl
    have g2 : Trods enc W n 30 [x2] y2 := by simpa [cell_loops] using hf 2 _ rfl
    obtain ⟨n0, rfl⟩ := int_at g0
    obtain ⟨n1, rfl⟩ := int_at g1
    have hs : SizeOf.sizeOf y2.1 < N := by
     have hm : y2.1 ∈ [y0, y1, y2].map (·.1) := by simp
     have := List.sizeOf_lt_of_mem hm
     simp only [DataW.agg.sizeOf_spec] at hz
     omega
    obtain ⟨b, b1, b2⟩ := open_nest_in N n x2 y2 hs g2
    exact ⟨(n0, n1, b), ⟨x2, rfl, b1⟩, fun hL => b2 (light_part Try.underlying51 (xs := [y0, y1, y2]) hL (i := 2) rfl rfl)⟩) h
  refine ⟨Nest.of l, ?_, fun hL => ?_⟩
  ·
   show Recs W 3 _ x (Nest.of l).items
   rw [nest_of_items]
   exact h1
  ·
   have h3 := h2 hL
   rw [byte_loop, reach_val] at h3
   exact nsized_of l (by omega) h3.2
theorem open_nest {v : Value} {d : DataW H} {p : List MemPlace} (hv : ∃ a len cap, v = .slice a len cap) (h : DataW.Trod enc Try.prog W 0 (fun _ => true) true 30 v d p) : ∃ D l, HasNestD D W v l ∧ (Light Try.prog 30 d → NSized l) := by
 obtain ⟨a, len, cap, rfl⟩ := hv
 obtain ⟨fuel, hf⟩ := h
 have hf' : Trods enc W fuel 30 [.slice a len cap] (d, p) := by simpa [Value.cells] using hf
 obtain ⟨l, h1, h2⟩ := open_nest_in (SizeOf.sizeOf d + 1) fuel _ (d, p) (by simp) hf'
 exact ⟨_, l, h1, h2⟩
end
end Go.Proofs.Ytbmbfifempkhgaa

namespace Go.Proofs.Ytbmbfifempkhgaa.emitMakes
open Go.ChangeShapes Go.WideShapes Go.ChangeAt Go.RowKit
open Go.ChangeMaps (open_string shut_string)

theorem own : ownKnob Try.prog.godebug = none := by kernel_rfl
theorem laidOut : laidOutB Try.prog = true := by kernel_rfl

set_option maxRecDepth 100000 in
theorem contract (H : Type) (enc : TypeId × Value → H) (W : World) (base : Nat) (args : Array Value) (ds gs : List (DataW H)) (before : List MemPlace)
  (hval : ∀ (j : Nat) t v, Try.f3.params[j]? = some t → args[j]? = some v → Value.okWide Try.prog W .any base t v)
  (hW : DataW.Whole enc Try.prog Try.f3.params.toList Rows.emitMakesSpec.vars false W args.toList ds gs before) (hsz0 : (DataW.weightsEach Try.prog (Try.f3.params.toList ++ Rows.emitMakesSpec.plain.varTypes Try.prog) (ds ++ gs)).all (· ≤ reachBytes) = true) :
  Calls Try.prog 3 args W fun e W' => ∃ v, e = .returned v ∧ Rows.emitMakesSpec.post enc Try.prog Try.f3 false true false false W args v W' := by
 have hW' := hW
 obtain ⟨p, q, hA0, hV, rfl, hfz, hnd⟩ := hW
 have hA : DataW.TrodAll enc Try.prog W 0 (fun _ => true) true Try.f3.params.toList args.toList ds p := hA0
 rw [Try.params3] at hA hval
 obtain ⟨v0, vs0, d0, ds0, p0, q0, hargs, rfl, rfl, h0, r0⟩ := trodAll_cons hA
 obtain ⟨v1, vs1, d1, ds1, p1, q1, rfl, rfl, rfl, h1, r1⟩ := trodAll_cons r0
 obtain ⟨v2, vs2, d2, ds2, p2, q2, rfl, rfl, rfl, h2, r2⟩ := trodAll_cons r1
 obtain ⟨rfl, rfl, rfl⟩ := trodAll_nil r2
 obtain rfl : args = #[v0, v1, v2] := by cases args; simp_all
 obtain ⟨rfl, rfl⟩ := trodVars_none hV
 have hS : (DataW.weightsEach Try.prog [26, 29, 30] [d0, d1, d2]).all (· ≤ reachBytes) = true := hsz0
 have k0 := h0
 have lt0 : ∀ x ∈ p0, x.block < W.heap.size := by obtain ⟨m, hm⟩ := k0; exact DataW.trod_lt m _ _ _ hm
 have k1 := h1
 have lt1 : ∀ x ∈ p1, x.block < W.heap.size := by obtain ⟨m, hm⟩ := k1; exact DataW.trod_lt m _ _ _ hm
 have k2 := h2
 have lt2 : ∀ x ∈ p2, x.block < W.heap.size := by obtain ⟨m, hm⟩ := k2; exact DataW.trod_lt m _ _ _ hm
 have L0 : Light Try.prog 26 d0 := fun x hx => of_decide_eq_true (List.all_eq_true.1 hS _ (DataW.weights_mem_each (j := 0) rfl rfl x hx))
 obtain ⟨g0, i0, z0⟩ := open_graph (okWide_struct Try.underlying26 (hval 0 26 v0 rfl rfl)) h0
 have z0 := z0 L0
 have L1 : Light Try.prog 29 d1 := fun x hx => of_decide_eq_true (List.all_eq_true.1 hS _ (DataW.weights_mem_each (j := 1) rfl rfl x hx))
 obtain ⟨g1, i1, z1⟩ := open_plan (okWide_struct Try.underlying29 (hval 1 29 v1 rfl rfl)) h1
 have z1 := z1 L1
 have L2 : Light Try.prog 30 d2 := fun x hx => of_decide_eq_true (List.all_eq_true.1 hS _ (DataW.weights_mem_each (j := 2) rfl rfl x hx))
 obtain ⟨D2, l2, i2, z2⟩ := open_nest (okWide_slice Try.underlying30 (hval 2 30 v2 rfl rfl)) h2
 have z2 := z2 L2
 clear hA0
 refine (makes_all D2 W v0 v1 v2 g0 g1 l2 i0 i1 i2 z0.1 z0.2 z2 z1).mono fun e W' ⟨he, bel⟩ => ?_
 subst he
 exact ⟨_, rfl, _, _, _, [], _, [], hW', trodAll_mk1 (shut_bool Try.underlying4 _), (trodAll_cons_mk (Below.trod laidOut (by kernel_rfl) (of_decide_eq_true (by kernel_rfl)) k0 bel lt0) (trodAll_cons_mk (Below.trod laidOut (by kernel_rfl) (of_decide_eq_true (by kernel_rfl)) k1 bel lt1) (trodAll_cons_mk (Below.trod laidOut (by kernel_rfl) (of_decide_eq_true (by kernel_rfl)) k2 bel lt2) trodAll_mk0))), rfl, bel.frame _, fun h => by cases h⟩

set_option maxRecDepth 100000 in
theorem lifted (os : Os) (started : os.Started) (H : Type) (enc : TypeId × Value → H) :
  ReturnsInHanded {} Try.checked os 3 .any (Rows.emitMakesSpec.pre6 enc Try.prog Try.f3 Rows.emitMakesRow.domain false) (Rows.emitMakesSpec.post enc Try.prog Try.f3 false true false false) := by
 refine returnsInHanded_of_change_sized (C := Try.checked) own started (by kernel_rfl) Try.func3
  (ChangeSpec.witness6 (enc := enc) (C := Try.checked) false ⟨#[], #[.agg #[.string ByteArray.empty, .slice none 0 0, .slice none 0 0, .slice none 0 0, .slice none 0 0], .agg #[.slice none 0 0, .int .i64 0], .slice none 0 0], []⟩ 8 (by kernel_rfl) (by kernel_rfl) (by kernel_rfl) (by kernel_rfl)) ?_
 intro W base args ds gs before hval hW _ hsz0 _
 exact contract H enc W base args ds gs before hval hW hsz0

theorem proved : Rows.EmitMakesSaid :=
 OpenClaim.holds_of_wide 3 Try.f3 rfl rfl rfl rfl rfl rfl rfl ⟨rfl, rfl, rfl, rfl, rfl⟩ rfl rfl rfl rfl rfl (by kernel_rfl) Try.func3 (by kernel_rfl)
  (of_decide_eq_true (by kernel_rfl)) (by unfold Func.isWrapper; first | (rw [if_pos (by decide +kernel)]; kernel_rfl) | (rw [if_neg (by decide +kernel)]; exact ⟨rfl, rfl⟩))
  (fun os started H enc _ => lifted os started H enc)
end Go.Proofs.Ytbmbfifempkhgaa.emitMakes
