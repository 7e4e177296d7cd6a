/- What the kinds of actors do in a firing: filter. -/
import Derived.Test.YtknmiiajeafjpaaReck3
namespace Go.Proofs.Ytknmiiajeafjpaa
open Go.RowKit

/-- a filter's firing that was reckoned -/
def ReckF (w : World) (K : Nat) (vi vo nv vt : Value) (keep : List Int) (y : Int) (e : Ending) (w' : World) : Prop :=
  ∃ ov R cp, e = .returned (.tuple #[ov, .bool true]) ∧ Mods (fun k => k = K) w w' ∧ w'.heap[K]? = some (.cells #[vi, vo, nv, vt, .slice (some ⟨R, 0, none⟩) keep.length cp] 86 (0, 0)) ∧ Has w' (.slice (some ⟨R, 0, none⟩) keep.length cp) (ivs keep) ∧ w.heap.size ≤ R ∧ R < w'.heap.size ∧ Outs w' (canon w.heap.size R) 1 ov [[y]]
def ReckFOpt (w : World) (K : Nat) (vi vo nv vt : Value) (keep : List Int) (r : Option Int) (e : Ending) (w' : World) : Prop :=
  match r with
  | some y => ReckF w K vi vo nv vt keep y e w'
  | none => ReckNo w e w'

theorem Vals.cut {w : World} {o : Col} {c : Nat} {ao : Option Addr} {n cap : Nat} {vs : List Value} (h : Vals w o c (.slice ao n cap) vs) (k : Nat) (hk : k ≤ vs.length) : Vals w o c (.slice ao k cap) (vs.take k) := by
  have hl : (vs.take k).length = k := by rw [List.length_take]; omega
  by_cases hp : 0 < k
  · obtain ⟨b, off, rfl, hn, hc, hb, ho, hcl⟩ := h.at (by omega)
    refine .inr ⟨by omega, b, off, cap, by rw [hl], by omega, hb, ho, fun j hj => ?_⟩
    rw [hl] at hj
    rw [hcl j (by omega), List.getElem?_take, if_pos hj]
  · obtain rfl : k = 0 := by omega
    exact .inl ⟨by simp, ao, cap, rfl⟩

set_option maxRecDepth 100000 in
set_option maxHeartbeats 4000000 in
theorem filter_reck (w : World) (K : Nat) (vi vo nv vt vs insv : Value) (x : Int) (taps keep : List Int) (htk : taps.length = keep.length + 1) (hn : taps.length ≤ 16) (hfx : Fits x) (hft : ∀ a ∈ taps, Fits a) (hfk : ∀ a ∈ keep, Fits a)
    (hK : w.heap[K]? = some (.cells #[vi, vo, nv, vt, vs] 86 (0, 0))) (hvt : Has w vt (ivs taps)) (hvs : Has w vs (ivs keep)) (hins : LL w insv [[x]]) :
    Calls Try.prog 77 #[.pointer (some ⟨K, 0, none⟩), insv] w (ReckFOpt w K vi vo nv vt ((x :: keep).take keep.length) (dotP 0 taps (x :: keep))) := by
  obtain ⟨i0, hi, hz0, hz1, hz2⟩ := info_parts info_int
  obtain ⟨iao, icp, rfl⟩ := hins.slice
  obtain ⟨bi, oi, ie, hci, hrow⟩ := hins.at (by simp)
  subst ie
  obtain ⟨a0, c0, hr0, hh0⟩ := hrow 0 (by simp)
  obtain ⟨b0, o0, e0, -, hc0, -, -, hcell⟩ := Vals.at hh0 (by simp)
  subst e0
  have hx0 := hcell 0 (by simp)
  simp at hr0 hx0 hc0 hci
  clear hcell hrow hh0 hins
  obtain ⟨sao, scp, rfl⟩ := hvs.slice
  obtain ⟨tao, tcp, rfl⟩ := hvt.slice
  simp only [ivs_len] at hvs hvt hK ⊢
  have k3 := cells_row w K hK 3 (.slice tao taps.length tcp) rfl
  have k4 := cells_row w K hK 4 (.slice sao keep.length scp) rfl
  obtain ⟨snone, snews⟩ := hvs.news
  have HT := Lib.hid hvt
  have HTK := Lib.hid htk
  have HN := Lib.hid hn
  have HFX := Lib.hid hfx
  have HFT := Lib.hid hft
  have HFK := Lib.hid hfk
  have HK := Lib.hid hK
  have hKw := block_lt hK
  have Hsnone := Lib.hid snone
  have Hsnews := Lib.hid snews
  have hkl : keep.length ≤ 15 := by omega
  have hkli : (keep.length : Int) ≤ 15 := by omega
  clear hvs hvt htk hn hfx hft hfk hK snone snews
  go_enter Try.func77, Try.ntmps77
  go_wp2_with fail
  refine wp_region_lex (fun w' => w'.cell? ⟨bi, oi, none⟩ = some (.slice (some ⟨b0, o0, none⟩) 1 c0) ∧ w'.cell? ⟨b0, o0, none⟩ = some (.int .i64 x) ∧ w'.cell? ⟨K, 4, none⟩ = some (.slice sao keep.length scp)) [0, 1, 2, 3, 4, 6, 7, 8, 9] [5, 10, 11] (by kernel_rfl) (by kernel_rfl) rfl (fun _ _ hx h => ⟨hx.cell h.1, hx.cell h.2.1, hx.cell h.2.2⟩) ⟨hr0, hx0, k4⟩ ?_
  intro Q' hQ'
  simp only [pickOps, List.flatMap_cons, List.flatMap_nil, List.drop_succ_cons, List.drop_zero, List.take_succ_cons, List.take_zero, List.cons_append, List.nil_append, List.append_nil]
  repeat (first
    | (refine wpReads_skip (by rfl) ?_; (try simp only [Act.put, List.setIfInBounds_toArray, List.set_cons_zero, List.set_cons_succ]))
    | (refine wpReads_cons ?_ (by rfl) (by rfl) ?_ ?_; rotate_left; (intro wz hz; (try dsimp only at hz); go_simp; try with_reducible rfl); (try simp only [Act.put, List.setIfInBounds_toArray, List.set_cons_zero, List.set_cons_succ]))
    | (refine wpReads_any ?_ (by rfl) ?_ ?_; rotate_left; (intro wz; go_simp; try with_reducible rfl); (try simp only [Act.put, List.setIfInBounds_toArray, List.set_cons_zero, List.set_cons_succ])))
  refine wpReads_nil ?_
  refine wpList_plain rfl fun K hK => ?_
  go_simp
  refine hK _ _ ?_
  clear hK K
  have hown0 := owns_base (owns_lit w.drew [x] (by simp)) (base' := w.heap.size) (fun k hk => by have e : w.heap.size = k := Option.some.inj hk; omega)
  refine wpList_app rfl _ _ 22 rfl w.heap.size 3 i0 _ 1 8 Try.underlying22 hi hz0 hz1 hz2 rfl (.slice (some ⟨w.heap.size, 0, none⟩) 1 1) 1 _ rfl hown0 sao keep.length scp (ivs keep) rfl (by simp) Hsnone.out (fun ad had j u hu => ca (w := w.drew) (Hsnews.out ad had j u hu)) (ivs_one keep) (by unfold maxLen; omega) (grow_ok (by omega)) (by simp) ?_
  intro v' w2 g1 g20 g3 _
  have g2 : (w.drew.alloc (.cells (ivs [x]).toArray 3)).grownBy w2 (Value.slice (some ⟨w.heap.size, 0, none⟩) 1 1).ownBlock := g20
  have hb2 : Below w.heap.size w w2 := ((((Mods.refl (fun _ => False) w).drew).alloc (.cells (ivs [x]).toArray 3)).grown g2 (fun k hk hlt => by have e : w.heap.size = k := Option.some.inj hk; omega)).below (Nat.le_refl _) (fun _ _ h => h)
  have hne : v' ≠ .slice none 0 0 := fun e => by have := (g3.1 e).1; cases this
  have g1' : w2.ownsRow w.heap.size 3 1 v' (x :: keep).length (ivs (x :: keep)) := by
    rw [List.length_cons, Nat.add_comm keep.length 1]; exact g1
  obtain ⟨R, cp, rfl⟩ : ∃ R cp, v' = .slice (some ⟨R, 0, none⟩) (x :: keep).length cp := by
    rcases g1'.2 with ⟨e, _⟩ | ⟨g, cp, cur, e, _⟩
    · exact absurd e hne
    · exact ⟨g, cp, e⟩
  obtain ⟨_, hcp, gR, hRn, eR, hcR, _, hRlt⟩ := owns_cell g1' (by simp)
  cases eR
  have hrowI := (Own.made (fun _ => 0) 0 g1').vals.has
  have k3b := cell_later hb2 k3
  have k4b := cell_later hb2 k4
  have HT2 := Lib.hid (HT.out.below hb2)
  have hK2 := block_mods HK.out (Mods.of_below hb2 (fun _ => False)) (fun h => h)
  have kf2 := frozen_of_block hK2 4
  have hs2 := hb2.size
  simp only [List.length_cons] at hcp hrowI g1' ⊢
  have hcpi : (keep.length : Int) + 1 ≤ cp := by omega
  clear g1 g20 g2 g3 hne hown0
  obtain ⟨D, hD⟩ : ∃ D, dotP 0 taps (x :: keep) = D := ⟨_, rfl⟩
  go_wp2_with fail
  have HD := Lib.hid hD
  clear hD
  refine (dot_any (xs := taps) (ys := x :: keep) _ _ _ _ _ _ _ HT2.out hrowI (by simpa using HTK.out) (by have := HN.out; omega) HFT.out (fun a ha => by rcases List.mem_cons.1 ha with rfl | ha; exact HFX.out; exact HFK.out a ha)).mono ?_
  rintro e w3 ⟨rfl, rfl⟩
  rw [HD.out]
  unfold optB
  have G1 := Lib.hid g1'
  have CR := Lib.hid hcR
  have HR0 := Lib.hid hrowI
  clear g1' hcR hrowI
  cases D with
  | none =>
    go_wp2
    go_ret2
    rw [HD.out]
    exact reckno rfl ((hb2.alloc hs2 _).alloc (by simp; omega) _)
  | some y =>
    go_wp2
    go_ret2
    obtain ⟨h1, h2⟩ := reck_set (w1 := w2) (Mods.of_below hb2 _) HK.out 4 (.slice (some ⟨R, 0, none⟩) keep.length cp)
    have hsz : (w2.setCell ⟨K, 4, none⟩ (.slice (some ⟨R, 0, none⟩) keep.length cp)).heap.size = w2.heap.size := size_setCell' _ _ _
    have ho := owns_base (owns_lit (w2.setCell ⟨K, 4, none⟩ (.slice (some ⟨R, 0, none⟩) keep.length cp)) [y] (by simp)) (base' := w.heap.size) (fun k hk => by have e := Option.some.inj hk; rw [hsz] at e; have e : w2.heap.size = k := e; omega)
    have hO := outs_row (w1 := (w2.setCell ⟨K, 4, none⟩ (.slice (some ⟨R, 0, none⟩) keep.length cp)).alloc (.cells (ivs [y]).toArray 3)) (N := w.heap.size) (R := R) ho (by simp; omega) (fun e => by have e := Option.some.inj e; rw [hsz] at e; have e : w2.heap.size = R := e; omega) (by simp; omega)
    have hm3 : Mods (fun k => k = K) w2 (((w2.setCell ⟨K, 4, none⟩ (.slice (some ⟨R, 0, none⟩) keep.length cp)).alloc (.cells #[.int .i64 y] 3)).alloc (.cells #[.slice (some ⟨w2.heap.size, 0, none⟩) 1 1] 22)) := (((Mods.refl (fun k => k = K) w2).setCell (p := ⟨K, 4, none⟩) (fun _ => rfl) _).alloc _).alloc _
    have T : Turn (ext (fun _ => 0) w.heap.size 1) (ext (fun _ => 0) w.heap.size 1) (fun c => c = 0) w2 _ := ⟨hm3.mono (fun k _ e => by rw [e, ext_old hKw]), fun _ _ => rfl⟩
    have hseen := (((Own.made (fun _ => 0) 1 G1.out).vals.turn T (by decide)).cut keep.length (by simp)).has
    rw [show (ivs (x :: keep)).take keep.length = ivs ((x :: keep).take keep.length) by rw [← List.map_take]] at hseen
    rw [HD.out]
    have hkt : ((x :: keep).take keep.length).length = keep.length := by rw [List.length_take, List.length_cons]; omega
    simp only [World.size_alloc, hsz] at hO
    refine ⟨_, R, cp, rfl, (h1.alloc _).alloc _, ?_, ?_, hRn, by simp; omega, hO⟩
    · rw [hkt]; exact block_alloc (block_alloc h2 _) _
    · rw [hkt]; exact hseen
end Go.Proofs.Ytknmiiajeafjpaa
