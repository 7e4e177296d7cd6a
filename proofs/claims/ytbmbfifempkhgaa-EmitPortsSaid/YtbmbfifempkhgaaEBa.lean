/- emit's strange. -/
import Derived.Test.YtbmbfifempkhgaaNA
import Derived.Test.YtbmbfifempkhgaaReg
namespace Go.Proofs.Ytbmbfifempkhgaa
open Go.RowKit

def strangeP : Nest → Int → Bool
  | .nil, _ => false
  | .cons _ nd b r, a => (b.isNil && decide (a ≤ nd)) || strangeP b a || strangeP r a

def StrangeOk (D : Nat) : Prop := ∀ (w : World) (v : Value) (l : Nest) (a : Int), HasNestD D w v l → NSized l → Calls Try.prog 41 #[v, .int .i64 a] w (Tells (.bool (strangeP l a)) w)

set_option maxRecDepth 100000 in
theorem strange_zero : StrangeOk 0 := by
  intro w v l a hv hs
  obtain ⟨rfl, ao, cap, rfl⟩ := hv
  clear hs
  go_enter Try.func41, Try.ntmps41
  go_wp2_with fail
  go_loopw [9] (fun i wr => i = .int .i64 0 ∧ wr = w) (fun _ _ => 0)
  case atStart => exact ⟨rfl, rfl⟩
  case round =>
    obtain ⟨rfl, rfl⟩ := hrel
    go_wp2
    go_ret
    exact ⟨rfl, Below.refl _ _⟩


set_option maxRecDepth 100000 in
set_option maxHeartbeats 1000000 in
theorem strange_succ {D : Nat} (hstr : StrangeOk D) : StrangeOk (D + 1) := by
  intro w v l a hv hs
  have hv' : Recs w 3 (fun w x cs => ∃ y, cs = [.int .i64 x.1, .int .i64 x.2.1, y] ∧ HasNestD D w y x.2.2) v l.items := hv
  obtain ⟨ao, cap, rfl⟩ := hv'.slice
  obtain ⟨r, hr⟩ : ∃ r, strangeP l a = r := ⟨_, rfl⟩
  rw [hr]
  have HE := Lib.hid (show strangeP (l.drop 0) a = r by rw [drop_zero]; exact hr)
  have HV := Lib.hid hv'
  have HS := Lib.hid hs
  have HL := Lib.hid (nsized_len hs)
  have HSTR := Lib.hid hstr
  clear hv hv' hs hstr hr
  go_enter Try.func41, Try.ntmps41
  go_wp2_with fail
  go_loopw [9] (fun i wr => ∃ (j : Nat), j ≤ l.items.length ∧ i = .int .i64 j ∧ Below w.heap.size w wr ∧ strangeP (l.drop j) a = r) (fun i _ => l.items.length - (intOf i).toNat)
  case atStart => exact ⟨0, Nat.zero_le _, rfl, Below.refl _ _, HE.out⟩
  case round =>
    clear HE
    obtain ⟨j, hj, rfl, hb, hE⟩ := hrel
    have HB := Lib.hid hb
    have HE := Lib.hid hE
    clear hb hE
    by_cases hlt : j < l.items.length
    · have hlti : (j : Int) < l.items.length := by omega
      obtain ⟨b0, off, rfl, hcap, hb0, hrec⟩ := HV.out.at (by omega)
      obtain ⟨cs, hcs, hPR, hcl⟩ := hrec j hlt
      obtain ⟨y, rfl, hy⟩ := hPR
      have c0 := cell_later HB.out (hcl 0 (by omega))
      have c1 := cell_later HB.out (hcl 1 (by omega))
      have c2 := cell_later HB.out (hcl 2 (by omega))
      simp at c0 c1 c2
      have hcapi : (l.items.length : Int) ≤ cap := by omega
      have hEc := HE.out
      rw [drop_items l j hlt] at hEc
      have HEC := Lib.hid hEc
      have HY := Lib.hid hy
      have HSb := Lib.hid (nsized_at HS.out _ (List.getElem_mem hlt))
      obtain ⟨ya, yc, hys⟩ := nestD_slice D hy
      subst hys
      clear hcl hcs hrec hEc hy HE
      generalize (l.items[j]).1 = t at *
      generalize (l.items[j]).2.1 = nd at *
      generalize (l.items[j]).2.2 = b at *
      have hbX := below_alloc wr (.cells #[.int .i64 t, .int .i64 nd, .slice ya b.items.length yc] 51)
      have HBX := Lib.hid (HB.out.trans (hbX.mono HB.out.size))
      have hX := heap_alloc_new wr (.cells #[.int .i64 t, .int .i64 nd, .slice ya b.items.length yc] 51)
      have x1 := cells_row _ _ hX 1 _ rfl
      have x2 := cells_row _ _ hX 2 _ rfl
      have hnil := isNil_len b
      generalize hm : b.items.length = m at *
      clear hbX hX
      by_cases hz : m = 0
      · subst hz
        have HNL := Lib.hid (show b.isNil = true by rw [hnil]; rfl)
        clear hnil
        by_cases h1 : a ≤ nd
        · have e : r = true := by rw [← HEC.out, strangeP]; simp [HNL.out, h1]
          subst e
          go_wp2
          go_ret
          exact ⟨rfl, HBX.out⟩
        · have HN1 := Lib.hid (decide_eq_false h1)
          go_wp2_with fail
          refine (HSTR.out _ _ b a (nestD_below D HY.out HBX.out) HSb.out).mono ?_
          rintro e w4 ⟨rfl, hb4⟩
          have HB4 := Lib.hid (HBX.out.trans (hb4.mono HBX.out.size))
          clear hb4
          obtain ⟨sb, hsb⟩ : ∃ x, strangeP b a = x := ⟨_, rfl⟩
          rw [hsb]
          have HSB := Lib.hid hsb
          clear hsb
          cases sb with
          | true =>
            have e : r = true := by rw [← HEC.out, strangeP]; simp [HSB.out]
            subst e
            go_wp2
            go_ret
            exact ⟨rfl, HB4.out⟩
          | false =>
            have HR3 := Lib.hid (show strangeP (l.drop (j + 1)) a = r by rw [← HEC.out, strangeP, HSB.out]; simp only [HNL.out, HN1.out, Bool.and_false, Bool.false_or, Bool.or_false])
            have hll := HL.out
            go_wp2
            go_roundw
            case rel => exact ⟨j + 1, hlt, by go_num, HB4.out, HR3.out⟩
            case measure => simp [intOf]; omega
      · have hzi : ((m : Int) == 0) = false := by rw [beq_eq_false_iff_ne]; omega
        have HNL := Lib.hid (show b.isNil = false by rw [hnil, decide_eq_false hz])
        clear hnil
        go_wp2_with fail
        refine (HSTR.out _ _ b a (nestD_below D HY.out HBX.out) HSb.out).mono ?_
        rintro e w4 ⟨rfl, hb4⟩
        have HB4 := Lib.hid (HBX.out.trans (hb4.mono HBX.out.size))
        clear hb4
        obtain ⟨sb, hsb⟩ : ∃ x, strangeP b a = x := ⟨_, rfl⟩
        rw [hsb]
        have HSB := Lib.hid hsb
        clear hsb
        cases sb with
        | true =>
          have e : r = true := by rw [← HEC.out, strangeP]; simp [HSB.out]
          subst e
          go_wp2
          go_ret
          exact ⟨rfl, HB4.out⟩
        | false =>
          have HR3 := Lib.hid (show strangeP (l.drop (j + 1)) a = r by rw [← HEC.out, strangeP, HSB.out]; simp only [HNL.out, Bool.false_and, Bool.false_or, Bool.or_false])
          have hll := HL.out
          go_wp2
          go_roundw
          case rel => exact ⟨j + 1, hlt, by go_num, HB4.out, HR3.out⟩
          case measure => simp [intOf]; omega
    · obtain rfl : j = l.items.length := by omega
      have e := HE.out
      rw [drop_end, strangeP] at e
      subst e
      go_wp2
      go_ret
      exact ⟨rfl, HB.out⟩
theorem strange_any : ∀ D, StrangeOk D
  | 0 => strange_zero
  | D + 1 => strange_succ (strange_any D)
end Go.Proofs.Ytbmbfifempkhgaa

/- emit's fits. -/
namespace Go.Proofs.Ytbmbfifempkhgaa
open Go.RowKit

def regionP (total : Int) (r : GRegion) (n : Nat) : Bool := decide (0 ≤ r.base) && decide (r.base ≤ total) && decide ((n : Int) ≤ r.size) && decide (r.size ≤ total - r.base)
def regionsP (total : Int) : List GRegion → List GEdge → Bool
  | r :: rs, e :: es => regionP total r e.start.length && regionsP total rs es
  | _, _ => true
def fitsP (g : GGraph) (p : GPlan) : Bool := decide (p.regions.length = g.edges.length) && decide (0 ≤ p.total) && decide (p.total ≤ 1024) && regionsP p.total p.regions g.edges

theorem wrapP {x : Int} (h : 0 ≤ x) (h2 : x ≤ 1024) : IntKind.i64.wrap x = x := by
  exact IntWalk.i64_in _ (by omega)
theorem regionsP_nil {total : Int} {es : List GEdge} : regionsP total [] es = true := by cases es <;> rfl
theorem regionsP_cons {total : Int} {rs : List GRegion} {es : List GEdge} {j : Nat} (h : j < rs.length) (h2 : j < es.length) : regionsP total (rs.drop j) (es.drop j) = (regionP total rs[j] es[j].start.length && regionsP total (rs.drop (j + 1)) (es.drop (j + 1))) := by
  rw [List.drop_eq_getElem_cons h, List.drop_eq_getElem_cons h2, regionsP]


set_option maxRecDepth 100000 in
set_option maxHeartbeats 2000000 in
theorem fits_any (w : World) (vg vp : Value) (g : GGraph) (p : GPlan) (hg : HasGraph w vg g) (hp : HasPlan w vp p) (hle : g.edges.length ≤ 1000000) (hst : ∀ e ∈ g.edges, e.start.length ≤ 17600000000000) : Calls Try.prog 42 #[vg, vp] w (Tells (.bool (fitsP g p)) w) := by
  obtain ⟨va, ve, vi, vo, rfl, ra, re, ri, ro⟩ := hg.shape
  obtain ⟨vr, rfl, rr⟩ := hp
  obtain ⟨ae, ce, rfl⟩ := re.slice
  obtain ⟨ar, cr, rfl⟩ := rr.slice
  obtain ⟨F, hF⟩ : ∃ F, fitsP g p = F := ⟨_, rfl⟩
  rw [hF]
  have HF := Lib.hid hF
  have RE := Lib.hid re
  have RR := Lib.hid rr
  have HST := Lib.hid hst
  have HLE := Lib.hid hle
  have hb1 := below_alloc w (.cells #[.string g.name, va, .slice ae g.edges.length ce, vi, vo] 26)
  have hG := heap_alloc_new w (.cells #[.string g.name, va, .slice ae g.edges.length ce, vi, vo] 26)
  have hb2 := below_alloc (w.alloc (.cells #[.string g.name, va, .slice ae g.edges.length ce, vi, vo] 26)) (.cells #[.slice ar p.regions.length cr, .int .i64 p.total] 29)
  have hP := heap_alloc_new (w.alloc (.cells #[.string g.name, va, .slice ae g.edges.length ce, vi, vo] 26)) (.cells #[.slice ar p.regions.length cr, .int .i64 p.total] 29)
  rw [World.size_alloc] at hP
  have hG2 := block_alloc hG (.cells #[.slice ar p.regions.length cr, .int .i64 p.total] 29)
  have HB0 := Lib.hid (hb1.trans (hb2.mono hb1.size))
  have HSZ := Lib.hid (show w.heap.size + 2 ≤ ((w.alloc (.cells #[.string g.name, va, .slice ae g.edges.length ce, vi, vo] 26)).alloc (.cells #[.slice ar p.regions.length cr, .int .i64 p.total] 29)).heap.size by simp)
  generalize hW : (w.alloc (.cells #[.string g.name, va, .slice ae g.edges.length ce, vi, vo] 26)).alloc (.cells #[.slice ar p.regions.length cr, .int .i64 p.total] 29) = W at *
  have HG2 := Lib.hid hG2
  have HP := Lib.hid hP
  have e2 := cells_row _ _ hG2 2 _ rfl
  have t1 := cells_row _ _ hP 1 _ rfl
  have r0 := cells_row _ _ hP 0 _ rfl
  clear hF ra re ri ro rr hst hle hb1 hb2 hG hP hG2 hg
  by_cases hl : p.regions.length = g.edges.length
  · have hli : ((p.regions.length : Int) != g.edges.length) = false := by simp [hl]
    by_cases h1 : 0 ≤ p.total
    · have h1i : ¬ p.total < 0 := by omega
      by_cases h2 : p.total ≤ 1024
      · have h2i : ¬ (1024 : Int) < p.total := by omega
        have HE := Lib.hid (show regionsP p.total (p.regions.drop 0) (g.edges.drop 0) = F by rw [← HF.out, fitsP, decide_eq_true hl, decide_eq_true h1, decide_eq_true h2]; simp)
        rw [hl] at r0 ⊢
        rw [hl] at hli hW
        go_enter Try.func42, Try.ntmps42
        go_wp2_with fail
        clear hW r0
        go_loopw [27] (fun i wr => ∃ (j : Nat), j ≤ g.edges.length ∧ i = .int .i64 j ∧ Below W.heap.size W wr ∧ regionsP p.total (p.regions.drop j) (g.edges.drop j) = F) (fun i _ => g.edges.length - (intOf i).toNat)
        case atStart => exact ⟨0, Nat.zero_le _, rfl, Below.refl _ _, HE.out⟩
        case round =>
          clear HE
          obtain ⟨j, hj, rfl, hb, hE⟩ := hrel
          have HB := Lib.hid hb
          have HE := Lib.hid hE
          clear hb hE
          by_cases hlt : j < g.edges.length
          · have hlti : (j : Int) < g.edges.length := by omega
            have hlt2 : j < p.regions.length := by omega
            obtain ⟨br, orr, rfl, hcr, hbr, hrec⟩ := RR.out.at (by omega)
            obtain ⟨cs, hcs, hPR, hcl⟩ := hrec j hlt2
            obtain rfl := hPR
            have hbW := HB0.out.trans (HB.out.mono HB0.out.size)
            have c0 := cell_later hbW (hcl 0 (by omega))
            have c1 := cell_later hbW (hcl 1 (by omega))
            obtain ⟨be, oe, rfl, hce, hbe, hrece⟩ := RE.out.at (by omega)
            obtain ⟨cse, hcse, hPE, hcle⟩ := hrece j hlt
            obtain ⟨xs, rfl, hst⟩ := hPE
            have e4 := cell_later hbW (hcle 4 (by omega))
            simp at c0 c1 e4
            obtain ⟨sa, sc, hxs⟩ := Ints.slice hst
            subst hxs
            have hcri : (g.edges.length : Int) ≤ cr := by omega
            have hcei : (g.edges.length : Int) ≤ ce := by omega
            have hnn := HST.out _ (List.getElem_mem hlt)
            have hEc := HE.out
            rw [regionsP_cons hlt2 hlt, regionP] at hEc
            have HEC := Lib.hid hEc
            have t1' := cell_later HB.out t1
            have e2' := cell_later HB.out e2
            clear hcl hcs hrec hcle hcse hrece hst hEc HE
            generalize (g.edges[j]).start.length = n at *
            generalize (p.regions[j]).base = base at *
            generalize (p.regions[j]).size = size at *
            have hbX := below_alloc wr (.cells #[.int .i64 base, .int .i64 size] 70)
            have hX := heap_alloc_new wr (.cells #[.int .i64 base, .int .i64 size] 70)
            have x0 := cells_row _ _ hX 0 _ rfl
            have x1 := cells_row _ _ hX 1 _ rfl
            have t1 := cell_later hbX t1'
            have e2 := cell_later hbX e2'
            have e4 := cell_later hbX e4
            have HBX := Lib.hid (hbW.trans (hbX.mono hbW.size))
            have HBY := Lib.hid (HB.out.trans (hbX.mono HB.out.size))
            clear hbX hX hbW t1' e2' hli
            by_cases d1 : base < 0
            · skip
              have e : F = false := by rw [← HEC.out, decide_eq_false (by omega : ¬ 0 ≤ base)]; simp
              subst e
              go_wp2_with fail
              refine wp_region_lex (fun w' => w'.cell? ⟨wr.heap.size, 0, none⟩ = some (.int .i64 base) ∧ w'.cell? ⟨wr.heap.size, 1, none⟩ = some (.int .i64 size) ∧ w'.cell? ⟨w.heap.size + 1, 1, none⟩ = some (.int .i64 p.total) ∧ w'.cell? ⟨w.heap.size, 2, none⟩ = some (.slice (some ⟨be, oe, none⟩) g.edges.length ce) ∧ w'.cell? ⟨be, oe + j * 5 + 4, none⟩ = some (.slice sa n sc)) [0, 1, 2, 3, 4, 5, 6, 7, 8, 9, 10, 11, 12, 13, 14, 15, 16, 17, 18, 19, 20, 21, 22, 23, 24, 25, 26, 27, 28, 29, 30, 31] [] (by kernel_rfl) (by kernel_rfl) rfl (fun _ _ hx h => ⟨hx.cell h.1, hx.cell h.2.1, hx.cell h.2.2.1, hx.cell h.2.2.2.1, hx.cell h.2.2.2.2⟩) ⟨x0, x1, t1, e2, e4⟩ ?_
              intro Q' hQ'
              simp only [pickOps, List.flatMap_cons, List.flatMap_nil, List.drop_succ_cons, List.drop_zero, List.take_succ_cons, List.take_zero, List.cons_append, List.nil_append, List.append_nil]
              have b1 : decide (base < 0) = true := decide_eq_true d1
              have b2 : decide (p.total < base) = decide (p.total < base) := rfl
              have b3 : decide (size < (n : Int)) = decide (size < (n : Int)) := rfl
              have b4 : decide (IntKind.i64.wrap (p.total - base) < size) = decide (IntKind.i64.wrap (p.total - base) < size) := rfl
              repeat (first
                | (refine wpReads_skip (by rfl) ?_; (try simp only [Act.put, List.setIfInBounds_toArray, List.set_cons_zero, List.set_cons_succ]))
                | (refine wpReads_cons ?_ (by rfl) (by rfl) ?_ ?_; rotate_left; (intro wz hz; (try dsimp only at hz); go_simp; try with_reducible rfl); (try simp only [Act.put, List.setIfInBounds_toArray, List.set_cons_zero, List.set_cons_succ]))
                | (refine wpReads_any ?_ (by rfl) ?_ ?_; rotate_left; (intro wz; go_simp; try with_reducible rfl); (try simp only [Act.put, List.setIfInBounds_toArray, List.set_cons_zero, List.set_cons_succ])))
              refine wpReads_nil ?_
              go_wp2
              go_ret
              exact ⟨rfl, below_dr (n := 1) HBX.out⟩
            have d1i : ¬ base < 0 := d1
            by_cases d2 : p.total < base
            · skip
              have e : F = false := by rw [← HEC.out, decide_eq_false (by omega : ¬ base ≤ p.total)]; simp
              subst e
              go_wp2_with fail
              refine wp_region_lex (fun w' => w'.cell? ⟨wr.heap.size, 0, none⟩ = some (.int .i64 base) ∧ w'.cell? ⟨wr.heap.size, 1, none⟩ = some (.int .i64 size) ∧ w'.cell? ⟨w.heap.size + 1, 1, none⟩ = some (.int .i64 p.total) ∧ w'.cell? ⟨w.heap.size, 2, none⟩ = some (.slice (some ⟨be, oe, none⟩) g.edges.length ce) ∧ w'.cell? ⟨be, oe + j * 5 + 4, none⟩ = some (.slice sa n sc)) [0, 1, 2, 3, 4, 5, 6, 7, 8, 9, 10, 11, 12, 13, 14, 15, 16, 17, 18, 19, 20, 21, 22, 23, 24, 25, 26, 27, 28, 29, 30, 31] [] (by kernel_rfl) (by kernel_rfl) rfl (fun _ _ hx h => ⟨hx.cell h.1, hx.cell h.2.1, hx.cell h.2.2.1, hx.cell h.2.2.2.1, hx.cell h.2.2.2.2⟩) ⟨x0, x1, t1, e2, e4⟩ ?_
              intro Q' hQ'
              simp only [pickOps, List.flatMap_cons, List.flatMap_nil, List.drop_succ_cons, List.drop_zero, List.take_succ_cons, List.take_zero, List.cons_append, List.nil_append, List.append_nil]
              have b1 : decide (base < 0) = false := decide_eq_false (by omega)
              have b2 : decide (p.total < base) = true := decide_eq_true d2
              have b3 : decide (size < (n : Int)) = decide (size < (n : Int)) := rfl
              have b4 : decide (IntKind.i64.wrap (p.total - base) < size) = decide (IntKind.i64.wrap (p.total - base) < size) := rfl
              repeat (first
                | (refine wpReads_skip (by rfl) ?_; (try simp only [Act.put, List.setIfInBounds_toArray, List.set_cons_zero, List.set_cons_succ]))
                | (refine wpReads_cons ?_ (by rfl) (by rfl) ?_ ?_; rotate_left; (intro wz hz; (try dsimp only at hz); go_simp; try with_reducible rfl); (try simp only [Act.put, List.setIfInBounds_toArray, List.set_cons_zero, List.set_cons_succ]))
                | (refine wpReads_any ?_ (by rfl) ?_ ?_; rotate_left; (intro wz; go_simp; try with_reducible rfl); (try simp only [Act.put, List.setIfInBounds_toArray, List.set_cons_zero, List.set_cons_succ])))
              refine wpReads_nil ?_
              go_wp2
              go_ret
              exact ⟨rfl, below_dr (n := 1) HBX.out⟩
            have d2i : ¬ p.total < base := d2
            by_cases d3 : size < (n : Int)
            · skip
              have e : F = false := by rw [← HEC.out, decide_eq_false (by omega : ¬ (n : Int) ≤ size)]; simp
              subst e
              go_wp2_with fail
              refine wp_region_lex (fun w' => w'.cell? ⟨wr.heap.size, 0, none⟩ = some (.int .i64 base) ∧ w'.cell? ⟨wr.heap.size, 1, none⟩ = some (.int .i64 size) ∧ w'.cell? ⟨w.heap.size + 1, 1, none⟩ = some (.int .i64 p.total) ∧ w'.cell? ⟨w.heap.size, 2, none⟩ = some (.slice (some ⟨be, oe, none⟩) g.edges.length ce) ∧ w'.cell? ⟨be, oe + j * 5 + 4, none⟩ = some (.slice sa n sc)) [0, 1, 2, 3, 4, 5, 6, 7, 8, 9, 10, 11, 12, 13, 14, 15, 16, 17, 18, 19, 20, 21, 22, 23, 24, 25, 26, 27, 28, 29, 30, 31] [] (by kernel_rfl) (by kernel_rfl) rfl (fun _ _ hx h => ⟨hx.cell h.1, hx.cell h.2.1, hx.cell h.2.2.1, hx.cell h.2.2.2.1, hx.cell h.2.2.2.2⟩) ⟨x0, x1, t1, e2, e4⟩ ?_
              intro Q' hQ'
              simp only [pickOps, List.flatMap_cons, List.flatMap_nil, List.drop_succ_cons, List.drop_zero, List.take_succ_cons, List.take_zero, List.cons_append, List.nil_append, List.append_nil]
              have b1 : decide (base < 0) = false := decide_eq_false (by omega)
              have b2 : decide (p.total < base) = false := decide_eq_false (by omega)
              have b3 : decide (size < (n : Int)) = true := decide_eq_true d3
              have b4 : decide (IntKind.i64.wrap (p.total - base) < size) = decide (IntKind.i64.wrap (p.total - base) < size) := rfl
              repeat (first
                | (refine wpReads_skip (by rfl) ?_; (try simp only [Act.put, List.setIfInBounds_toArray, List.set_cons_zero, List.set_cons_succ]))
                | (refine wpReads_cons ?_ (by rfl) (by rfl) ?_ ?_; rotate_left; (intro wz hz; (try dsimp only at hz); go_simp; try with_reducible rfl); (try simp only [Act.put, List.setIfInBounds_toArray, List.set_cons_zero, List.set_cons_succ]))
                | (refine wpReads_any ?_ (by rfl) ?_ ?_; rotate_left; (intro wz; go_simp; try with_reducible rfl); (try simp only [Act.put, List.setIfInBounds_toArray, List.set_cons_zero, List.set_cons_succ])))
              refine wpReads_nil ?_
              go_wp2
              go_ret
              exact ⟨rfl, below_dr (n := 1) HBX.out⟩
            have d3i : ¬ size < (n : Int) := d3
            have hwr : IntKind.i64.wrap (p.total - base) = p.total - base := wrapP (by omega) (by omega)
            by_cases d4 : p.total - base < size
            · skip
              have e : F = false := by rw [← HEC.out, decide_eq_false (by omega : ¬ size ≤ p.total - base)]; simp
              subst e
              go_wp2_with fail
              refine wp_region_lex (fun w' => w'.cell? ⟨wr.heap.size, 0, none⟩ = some (.int .i64 base) ∧ w'.cell? ⟨wr.heap.size, 1, none⟩ = some (.int .i64 size) ∧ w'.cell? ⟨w.heap.size + 1, 1, none⟩ = some (.int .i64 p.total) ∧ w'.cell? ⟨w.heap.size, 2, none⟩ = some (.slice (some ⟨be, oe, none⟩) g.edges.length ce) ∧ w'.cell? ⟨be, oe + j * 5 + 4, none⟩ = some (.slice sa n sc)) [0, 1, 2, 3, 4, 5, 6, 7, 8, 9, 10, 11, 12, 13, 14, 15, 16, 17, 18, 19, 20, 21, 22, 23, 24, 25, 26, 27, 28, 29, 30, 31] [] (by kernel_rfl) (by kernel_rfl) rfl (fun _ _ hx h => ⟨hx.cell h.1, hx.cell h.2.1, hx.cell h.2.2.1, hx.cell h.2.2.2.1, hx.cell h.2.2.2.2⟩) ⟨x0, x1, t1, e2, e4⟩ ?_
              intro Q' hQ'
              simp only [pickOps, List.flatMap_cons, List.flatMap_nil, List.drop_succ_cons, List.drop_zero, List.take_succ_cons, List.take_zero, List.cons_append, List.nil_append, List.append_nil]
              have b1 : decide (base < 0) = false := decide_eq_false (by omega)
              have b2 : decide (p.total < base) = false := decide_eq_false (by omega)
              have b3 : decide (size < (n : Int)) = false := decide_eq_false (by omega)
              have b4 : decide (IntKind.i64.wrap (p.total - base) < size) = true := by rw [hwr]; exact decide_eq_true d4
              repeat (first
                | (refine wpReads_skip (by rfl) ?_; (try simp only [Act.put, List.setIfInBounds_toArray, List.set_cons_zero, List.set_cons_succ]))
                | (refine wpReads_cons ?_ (by rfl) (by rfl) ?_ ?_; rotate_left; (intro wz hz; (try dsimp only at hz); go_simp; try with_reducible rfl); (try simp only [Act.put, List.setIfInBounds_toArray, List.set_cons_zero, List.set_cons_succ]))
                | (refine wpReads_any ?_ (by rfl) ?_ ?_; rotate_left; (intro wz; go_simp; try with_reducible rfl); (try simp only [Act.put, List.setIfInBounds_toArray, List.set_cons_zero, List.set_cons_succ])))
              refine wpReads_nil ?_
              go_wp2
              go_ret
              exact ⟨rfl, below_dr (n := 1) HBX.out⟩
            have d4i : ¬ p.total - base < size := d4
            have HR1 := Lib.hid (show regionsP p.total (p.regions.drop (j + 1)) (g.edges.drop (j + 1)) = F by rw [← HEC.out, decide_eq_true (by omega : 0 ≤ base), decide_eq_true (by omega : base ≤ p.total), decide_eq_true (by omega : (n : Int) ≤ size), decide_eq_true (by omega : size ≤ p.total - base)]; simp)
            have hll := HLE.out
            go_wp2_with fail
            refine wp_region_lex (fun w' => w'.cell? ⟨wr.heap.size, 0, none⟩ = some (.int .i64 base) ∧ w'.cell? ⟨wr.heap.size, 1, none⟩ = some (.int .i64 size) ∧ w'.cell? ⟨w.heap.size + 1, 1, none⟩ = some (.int .i64 p.total) ∧ w'.cell? ⟨w.heap.size, 2, none⟩ = some (.slice (some ⟨be, oe, none⟩) g.edges.length ce) ∧ w'.cell? ⟨be, oe + j * 5 + 4, none⟩ = some (.slice sa n sc)) [0, 1, 2, 3, 4, 5, 6, 7, 8, 9, 10, 11, 12, 13, 14, 15, 16, 17, 18, 19, 20, 21, 22, 23, 24, 25, 26, 27, 28, 29, 30, 31] [] (by kernel_rfl) (by kernel_rfl) rfl (fun _ _ hx h => ⟨hx.cell h.1, hx.cell h.2.1, hx.cell h.2.2.1, hx.cell h.2.2.2.1, hx.cell h.2.2.2.2⟩) ⟨x0, x1, t1, e2, e4⟩ ?_
            intro Q' hQ'
            simp only [pickOps, List.flatMap_cons, List.flatMap_nil, List.drop_succ_cons, List.drop_zero, List.take_succ_cons, List.take_zero, List.cons_append, List.nil_append, List.append_nil]
            have b1 : decide (base < 0) = false := decide_eq_false (by omega)
            have b2 : decide (p.total < base) = false := decide_eq_false (by omega)
            have b3 : decide (size < (n : Int)) = false := decide_eq_false (by omega)
            have b4 : decide (IntKind.i64.wrap (p.total - base) < size) = false := by rw [hwr]; exact decide_eq_false (by omega)
            repeat (first
              | (refine wpReads_skip (by rfl) ?_; (try simp only [Act.put, List.setIfInBounds_toArray, List.set_cons_zero, List.set_cons_succ]))
              | (refine wpReads_cons ?_ (by rfl) (by rfl) ?_ ?_; rotate_left; (intro wz hz; (try dsimp only at hz); go_simp; try with_reducible rfl); (try simp only [Act.put, List.setIfInBounds_toArray, List.set_cons_zero, List.set_cons_succ]))
              | (refine wpReads_any ?_ (by rfl) ?_ ?_; rotate_left; (intro wz; go_simp; try with_reducible rfl); (try simp only [Act.put, List.setIfInBounds_toArray, List.set_cons_zero, List.set_cons_succ])))
            refine wpReads_nil ?_
            go_wp2
            go_roundw
            case rel => exact ⟨j + 1, hlt, by go_num, below_dr (n := 1) HBY.out, HR1.out⟩
            case measure => simp [intOf]; omega
          · obtain rfl : j = g.edges.length := by omega
            have e := HE.out
            rw [List.drop_of_length_le (by omega), regionsP_nil] at e
            subst e
            go_wp2
            go_ret
            exact ⟨rfl, HB0.out.trans (HB.out.mono HB0.out.size)⟩
      · obtain rfl : false = F := by rw [← HF.out, fitsP, decide_eq_false h2]; simp
        have h2i : (1024 : Int) < p.total := by omega
        rw [hl] at r0 ⊢
        rw [hl] at hli hW
        go_enter Try.func42, Try.ntmps42
        go_wp2
        go_ret
        exact ⟨rfl, HB0.out⟩
    · obtain rfl : false = F := by rw [← HF.out, fitsP, decide_eq_false h1]; simp
      have h1i : p.total < 0 := by omega
      rw [hl] at r0 ⊢
      rw [hl] at hli hW
      go_enter Try.func42, Try.ntmps42
      go_wp2
      go_ret
      exact ⟨rfl, HB0.out⟩
  · obtain rfl : false = F := by rw [← HF.out, fitsP, decide_eq_false hl]; simp
    have hli : ((p.regions.length : Int) != g.edges.length) = true := by simp; omega
    go_enter Try.func42, Try.ntmps42
    go_wp2
    go_ret
    exact ⟨rfl, HB0.out⟩
end Go.Proofs.Ytbmbfifempkhgaa
