/- What the kinds of actors do in a firing: down, up, drop, quot, sum, tick. -/
import Derived.Test.YtknmiiajeafjpaaOuts
import Derived.Test.YtknmiiajeafjpaaNum
namespace Go.Proofs.Ytknmiiajeafjpaa
open Go.RowKit

/-- a firing that was reckoned: what it gives, and what the kind's block K holds behind it -/
def Reck (w : World) (K : Nat) (ks : TypeId) (cells : Array Value) (outs : List (List Int)) (e : Ending) (w' : World) : Prop :=
  ∃ ov, e = .returned (.tuple #[ov, .bool true]) ∧ Mods (fun k => k = K) w w' ∧ w'.heap[K]? = some (.cells cells ks (0, 0)) ∧ Outs w' (canon w.heap.size K) 1 ov outs
/-- one that can't be reckoned: nothing that was there has turned -/
def ReckNo (w : World) (e : Ending) (w' : World) : Prop := (∃ ov, e = .returned (.tuple #[ov, .bool false])) ∧ Below w.heap.size w w'

/-- a row of one number, just made -/
theorem owns_lit (w : World) (l : List Int) (hl : l.length ≤ 1000000) : (w.alloc (.cells (ivs l).toArray 3)).ownsRow w.heap.size 3 1 (.slice (some ⟨w.heap.size, 0, none⟩) l.length l.length) l.length (ivs l) :=
  ⟨by simp, .inr ⟨w.heap.size, l.length, (ivs l).toArray, rfl, Nat.le_refl _, heap_alloc_new w _, Nat.le_refl _, by unfold maxLen; omega, by simp, by simp [List.take_of_length_le]⟩⟩

theorem reck_one {w w1 : World} {K : Nat} {ks : TypeId} {cells : Array Value} {l : List Int} {e : Ending} (he : e = .returned (.tuple #[.slice (some ⟨w1.heap.size + 1, 0, none⟩) 1 1, .bool true])) (hl : l.length ≤ 1000000) (hm : Mods (fun k => k = K) w w1) (hK : w1.heap[K]? = some (.cells cells ks (0, 0))) (hKw : K < w.heap.size) :
    Reck w K ks cells [l] e ((w1.alloc (.cells (ivs l).toArray 3)).alloc (.cells #[.slice (some ⟨w1.heap.size, 0, none⟩) l.length l.length] 22)) := by
  have hs := hm.size
  have h1 := owns_base (owns_lit w1 l hl) (base' := w.heap.size) (fun k hk => by have e : w1.heap.size = k := Option.some.inj hk; omega)
  have h2 := outs_row (w1 := w1.alloc (.cells (ivs l).toArray 3)) (N := w.heap.size) (R := K) h1 (by simp; omega) (fun e => by have e : w1.heap.size = K := Option.some.inj e; omega) (by simp; omega)
  simp only [World.size_alloc] at h2
  exact ⟨_, he, (hm.alloc _).alloc _, block_alloc (block_alloc hK _) _, h2⟩

theorem reck_num {w w1 : World} {K : Nat} {ks : TypeId} {cells : Array Value} {z z' : Int} {n : Nat} {e : Ending} (he : e = .returned (.tuple #[.slice (some ⟨n + 1, 0, none⟩) 1 1, .bool true])) (hz : z' = z) (hn : n = w1.heap.size) (hm : Mods (fun k => k = K) w w1) (hK : w1.heap[K]? = some (.cells cells ks (0, 0))) (hKw : K < w.heap.size) :
    Reck w K ks cells [[z]] e ((w1.alloc (.cells #[.int .i64 z'] 3)).alloc (.cells #[.slice (some ⟨n, 0, none⟩) 1 1] 22)) := by
  subst hz hn
  exact reck_one (l := [z']) he (by simp) hm hK hKw

theorem tdiv_wrap {x y : Int} (hx : -9223372036854775808 ≤ x ∧ x ≤ 9223372036854775807) (h0 : ¬ y = 0) (h1 : ¬ y = -1) : wrap64 (x.tdiv y) = x.tdiv y := by
  refine IntWalk.wrap64_in _ ?_
  by_cases h2 : y = 1
  · subst h2; simpa using hx
  · have h3 : 2 ≤ y.natAbs := by omega
    have h4 : (x.tdiv y).natAbs = x.natAbs / y.natAbs := Int.natAbs_tdiv x y
    have h5 : x.natAbs / y.natAbs ≤ x.natAbs / 2 := Nat.div_le_div_left h3 (by omega)
    omega

set_option maxHeartbeats 800000 in
theorem down_reck (w : World) (K : Nat) (insv : Value) (cells : Array Value) (l : List Int) (hp : 0 < l.length) (hK : w.heap[K]? = some (.cells cells 91 (0, 0))) (hins : LL w insv [l]) :
    Calls Try.prog 85 #[.pointer (some ⟨K, 0, none⟩), insv] w (Reck w K 91 cells [[l[0]?.getD 0]]) := by
  obtain ⟨iao, icp, rfl⟩ := hins.slice
  obtain ⟨bi, oi, ie, hci, hrow⟩ := hins.at (by simp)
  subst ie
  obtain ⟨a0, c0, hr0, hh0⟩ := hrow 0 (by simp)
  obtain ⟨b0, o0, e0, -, hc0, -, -, hcell⟩ := Vals.at hh0 (by have := hp; simp; omega)
  subst e0
  have hx0 := hcell 0 (by have := hp; simp; omega)
  rw [ivs_get (by have := hp; simp; omega)] at hx0
  simp only [List.getElem?_cons_zero, Option.getD_some, Nat.add_zero, List.length_cons, List.length_nil, Nat.zero_add] at hr0 hx0 hc0 hci
  clear hcell hrow hh0 hins
  have hlp : (0 : Int) < l.length := by omega
  generalize l[0]?.getD 0 = x at *
  go_enter Try.func85, Try.ntmps85
  go_wp2
  go_ret2
  exact reck_one (l := [x]) rfl (by simp) (Mods.refl _ w) hK (block_lt hK)

theorem drop_reck (w : World) (K : Nat) (insv : Value) (cells : Array Value) (hK : w.heap[K]? = some (.cells cells 111 (0, 0))) :
    Calls Try.prog 96 #[.pointer (some ⟨K, 0, none⟩), insv] w (Reck w K 111 cells []) := by
  go_enter Try.func96, Try.ntmps96
  go_wp2
  go_ret2
  exact ⟨_, rfl, Mods.refl _ _, hK, Outs.nil _ _ _⟩

theorem set_rep0 (u : Nat) (x : Int) (hu : 1 ≤ u) : (ivs (List.replicate u 0)).set 0 (iv x) = ivs (x :: List.replicate (u - 1) 0) := by
  obtain ⟨m, rfl⟩ : ∃ m, u = m + 1 := ⟨u - 1, by omega⟩
  rfl

set_option maxHeartbeats 800000 in
theorem up_reck (w : World) (K : Nat) (vi vo nv insv : Value) (x : Int) (u : Nat) (hu : 1 ≤ u) (hu2 : u ≤ 64) (hK : w.heap[K]? = some (.cells #[vi, vo, nv] 89 (0, 0))) (hvo : Has w vo (ivs [(u : Int)])) (hins : LL w insv [[x]]) :
    Calls Try.prog 84 #[.pointer (some ⟨K, 0, none⟩), insv] w (Reck w K 89 #[vi, vo, nv] [x :: List.replicate (u - 1) 0]) := by
  obtain ⟨iao, icp, rfl⟩ := hins.slice
  obtain ⟨bi, oi, ie, hci, hrow⟩ := hins.at (by simp)
  subst ie
  obtain ⟨a0, c0, hr0, hh0⟩ := hrow 0 (by simp)
  obtain ⟨b0, o0, e0, -, hc0, -, -, hcell⟩ := Vals.at hh0 (by simp)
  subst e0
  have hx0 := hcell 0 (by simp)
  simp at hr0 hx0 hc0 hci
  clear hcell hrow hh0 hins
  obtain ⟨oao, ocp, rfl⟩ := hvo.slice
  obtain ⟨bo, oo, eo, -, hco, -, -, hco0⟩ := Vals.at hvo (by simp)
  subst eo
  have hu0 := hco0 0 (by simp)
  simp at hu0 hco
  have hk1 := cells_row w K hK 1 _ rfl
  obtain ⟨i0, hi, hz0, hz1, hz2⟩ := info_parts info_int
  obtain ⟨w1, hr, hown, hg⟩ := run_make_full (P := Try.prog) w w.heap.size 22 3 i0 _ 1 Try.underlying22 hi hz0 hz1 .i64 .i64 u (by rw [hz2]; omega) (by unfold maxLen; omega) (Nat.le_refl _)
  have hb1 : Below w.heap.size w w1 := ((Mods.refl (fun _ => False) w).grown hg (fun k hk _ => by cases hk)).below (Nat.le_refl _) (fun _ _ h => h)
  rw [made_ints] at hown
  have r1 := cell_later hb1 hr0
  have x1 := cell_later hb1 hx0
  have hK1 := block_mods hK (Mods.of_below hb1 (fun _ => False)) (fun h => h)
  obtain ⟨-, -, g', -, eg, hcg, hfg, -⟩ := owns_cell hown (by simp; omega)
  cases eg
  have hcg0 := hcg 0 (iv 0) (by rw [ivs, List.map_replicate, List.getElem?_replicate, if_pos (by omega)])
  have hfg0 := hfg 0
  obtain ⟨ho2, hg2⟩ := hown.stored 0 (iv x)
  rw [set_rep0 u x hu] at ho2
  have hm2 : Mods (fun k => k = K) w (w1.setCell ⟨w.heap.size, 0, none⟩ (iv x)) := ((Mods.of_below hb1 _).grown hg2 (fun k hk hlt => by have e : w.heap.size = k := Option.some.inj hk; omega))
  have hKw := block_lt hK
  have hs1 := hb1.size
  have hK2 : (w1.setCell ⟨w.heap.size, 0, none⟩ (iv x)).heap[K]? = _ := block_setCell_ne hK1 (by show K ≠ w.heap.size; omega) _
  have hui : (1 : Int) ≤ u := by omega
  clear hcg hfg hown hg hco0 hvo hg2 hb1
  go_enter Try.func84, Try.ntmps84
  go_wp2
  go_ret2
  have hl : (x :: List.replicate (u - 1) (0 : Int)).length = u := by simp; omega
  have h2 := outs_row (w1 := w1.setCell ⟨w.heap.size, 0, none⟩ (iv x)) (N := w.heap.size) (R := K) (v := .slice (some ⟨w.heap.size, 0, none⟩) u u) (l := x :: List.replicate (u - 1) 0) (by rw [hl]; exact ho2) hm2.size (fun e => by have e : w.heap.size = K := Option.some.inj e; omega) (by have := hm2.size; omega)
  exact ⟨.slice (some ⟨w1.heap.size, 0, none⟩) 1 1, rfl, hm2.alloc _, block_alloc hK2 _, by rw [size_setCell'] at h2; exact h2⟩

theorem Reck.drewN {w : World} {K : Nat} {ks : TypeId} {cells : Array Value} {outs : List (List Int)} {e : Ending} {w' : World} {m : Nat} (h : Reck (w.drewN m) K ks cells outs e w') : Reck w K ks cells outs e w' := by
  obtain ⟨ov, h1, h2, h3, h4⟩ := h
  exact ⟨ov, h1, mods_ld h2, h3, h4⟩

def quotP (x y : Int) : Option Int := if y = 0 then none else if y = -1 then (if Fits (0 - x) then some (0 - x) else none) else some (x.tdiv y)

theorem reckno {w w1 : World} {e : Ending} {ov : Value} (he : e = .returned (.tuple #[ov, .bool false])) (hb : Below w.heap.size w w1) : ReckNo w e w1 := ⟨⟨ov, he⟩, hb⟩


set_option maxRecDepth 100000 in
set_option maxHeartbeats 2000000 in
theorem quot_reck (w : World) (K : Nat) (insv : Value) (cells : Array Value) (x y : Int) (hfx : Fits x) (hfy : Fits y) (hK : w.heap[K]? = some (.cells cells 99 (0, 0))) (hins : LL w insv [[x], [y]]) :
    Calls Try.prog 90 #[.pointer (some ⟨K, 0, none⟩), insv] w fun e w' => match quotP x y with
      | some z => Reck w K 99 cells [[z]] e w'
      | none => ReckNo w e w' := by
  obtain ⟨iao, icp, rfl⟩ := hins.slice
  obtain ⟨bi, oi, ie, hci, hrow⟩ := hins.at (by simp)
  subst ie
  obtain ⟨a0, c0, hr0, hh0⟩ := hrow 0 (by simp)
  obtain ⟨b0, o0, e0, -, hc0, -, -, hcell⟩ := Vals.at hh0 (by simp)
  subst e0
  have hx0 := hcell 0 (by simp)
  obtain ⟨a1, c1, hr1, hh1⟩ := hrow 1 (by simp)
  obtain ⟨b1, o1, e1, -, hc1, -, -, hcell1⟩ := Vals.at hh1 (by simp)
  subst e1
  have hx1 := hcell1 0 (by simp)
  simp at hr0 hx0 hc0 hci hr1 hx1 hc1
  clear hcell hrow hh0 hins hcell1 hh1
  have HX := Lib.hid hfx
  have HY := Lib.hid hfy
  have hici : (2 : Int) ≤ icp := by omega
  by_cases h0 : y = 0
  · subst h0
    rw [show quotP x 0 = none from rfl]
    clear hfx hfy
    go_enter Try.func90, Try.ntmps90
    go_wp2
    go_quiet (fail)
    go_wp2
    go_ret2
    exact reckno rfl (below_dr (Below.refl _ _))
  · by_cases h1 : y = -1
    · subst h1
      by_cases hf : Fits (0 - x)
      · rw [show quotP x (-1) = some (0 - x) by unfold quotP; rw [if_neg (by decide), if_pos rfl, if_pos hf]]
        have HF := Lib.hid hf
        clear hfx hfy hf
        go_enter Try.func90, Try.ntmps90
        go_wp2
        go_quiet (fail)
        go_wp2_with fail
        refine (sub_yes _ 0 x (by unfold Fits; omega) HX.out HF.out).mono ?_
        rintro e w1 ⟨rfl, rfl⟩
        go_wp2
        go_ret2
        exact reck_num rfl (by omega) rfl ((Mods.refl _ w).drewN _) hK (block_lt hK)
      · rw [show quotP x (-1) = none by unfold quotP; rw [if_neg (by decide), if_pos rfl, if_neg hf]]
        have HF := Lib.hid hf
        clear hfx hfy hf
        go_enter Try.func90, Try.ntmps90
        go_wp2
        go_quiet (fail)
        go_wp2_with fail
        refine (sub_no _ 0 x (by unfold Fits; omega) HX.out HF.out).mono ?_
        rintro e w1 ⟨rfl, rfl⟩
        go_wp2
        go_ret2
        exact reckno rfl (((below_dr (Below.refl _ _)).alloc (Nat.le_refl _) _).alloc (by simp) _)
    · rw [show quotP x y = some (x.tdiv y) by unfold quotP; rw [if_neg h0, if_neg h1]]
      have h0b : (y == 0) = false := by simpa using h0
      have h1b : (y == -1) = false := by simpa using h1
      unfold Fits at hfx hfy
      go_enter Try.func90, Try.ntmps90
      go_wp2
      go_quiet (fail)
      go_wp2
      go_ret2
      exact reck_num rfl (tdiv_wrap hfx h0 h1) rfl ((Mods.refl _ w).drewN _) hK (block_lt hK)

theorem reck_set {w w1 : World} {K : Nat} {ks : TypeId} {cells : Array Value} (hm : Mods (fun _ => False) w w1) (hK : w.heap[K]? = some (.cells cells ks (0, 0))) (i : Nat) (u : Value) :
    Mods (fun k => k = K) w (w1.setCell ⟨K, i, none⟩ u) ∧ (w1.setCell ⟨K, i, none⟩ u).heap[K]? = some (.cells (cells.setIfInBounds i u) ks (0, 0)) :=
  ⟨(hm.mono (G := fun k => k = K) (fun _ _ h => h.elim)).setCell (F := fun k => k = K) (p := ⟨K, i, none⟩) (fun _ => rfl) u, block_setCell (block_mods hK hm (fun h => h)) i u⟩

set_option maxRecDepth 100000 in
set_option maxHeartbeats 2000000 in
theorem sum_reck (w : World) (K : Nat) (vi vo nv insv : Value) (s x : Int) (hfs : Fits s) (hfx : Fits x) (hK : w.heap[K]? = some (.cells #[vi, vo, nv, .int .i64 s] 104 (0, 0))) (hins : LL w insv [[x]]) :
    Calls Try.prog 93 #[.pointer (some ⟨K, 0, none⟩), insv] w fun e w' => if Fits (s + x) then Reck w K 104 #[vi, vo, nv, .int .i64 (s + x)] [[s + x]] e w' else ReckNo w e w' := by
  obtain ⟨iao, icp, rfl⟩ := hins.slice
  obtain ⟨bi, oi, ie, hci, hrow⟩ := hins.at (by simp)
  subst ie
  obtain ⟨a0, c0, hr0, hh0⟩ := hrow 0 (by simp)
  obtain ⟨b0, o0, e0, -, hc0, -, -, hcell⟩ := Vals.at hh0 (by simp)
  subst e0
  have hx0 := hcell 0 (by simp)
  simp at hr0 hx0 hc0 hci
  clear hcell hrow hh0 hins
  have HX := Lib.hid hfx
  have HS := Lib.hid hfs
  have k3 := cells_row w K hK 3 (.int .i64 s) rfl
  have kf := frozen_of_block hK 3
  clear hfx hfs
  by_cases hf : Fits (s + x)
  · simp only [if_pos hf]
    have HF := Lib.hid hf
    clear hf
    go_enter Try.func93, Try.ntmps93
    go_wp2
    go_quiet ((go_at_call 80; exact Calls.quiet_of_same ((add_yes _ s x HS.out HX.out HF.out).mono fun e w' ⟨h1, h2⟩ => ⟨h1, h2.symm⟩)))
    go_wp2
    go_ret2
    obtain ⟨h1, h2⟩ := reck_set (w1 := w.drewN nq) ((Mods.refl _ w).drewN nq) hK 3 (.int .i64 (s + x))
    exact reck_num rfl rfl (by rw [size_setCell']; rfl) h1 h2 (block_lt hK)
  · simp only [if_neg hf]
    have HF := Lib.hid hf
    clear hf
    go_enter Try.func93, Try.ntmps93
    go_wp2
    go_quiet ((go_at_call 80; exact Calls.quiet_of_same ((add_no _ s x HS.out HX.out HF.out).mono fun e w' ⟨h1, h2⟩ => ⟨h1, h2.symm⟩)))
    go_wp2
    go_ret2
    exact reckno rfl (((below_dr (Below.refl _ _)).alloc (Nat.le_refl _) _).alloc (by simp) _)

set_option maxRecDepth 100000 in
set_option maxHeartbeats 2000000 in
theorem tick_reck (w : World) (K : Nat) (vi vo nv insv : Value) (s x : Int) (hfs : Fits s) (hfx : Fits x) (hK : w.heap[K]? = some (.cells #[vi, vo, nv, .int .i64 s, .int .i64 x] 109 (0, 0))) :
    Calls Try.prog 95 #[.pointer (some ⟨K, 0, none⟩), insv] w fun e w' => if Fits (s + x) then Reck w K 109 #[vi, vo, nv, .int .i64 (s + x), .int .i64 x] [[s]] e w' else ReckNo w e w' := by
  have HX := Lib.hid hfx
  have HS := Lib.hid hfs
  have k3 := cells_row w K hK 3 (.int .i64 s) rfl
  have k4 := cells_row w K hK 4 (.int .i64 x) rfl
  have kf := frozen_of_block hK 3
  clear hfx hfs
  by_cases hf : Fits (s + x)
  · simp only [if_pos hf]
    have HF := Lib.hid hf
    clear hf
    go_enter Try.func95, Try.ntmps95
    go_wp2
    go_quiet ((go_at_call 80; exact Calls.quiet_of_same ((add_yes _ s x HS.out HX.out HF.out).mono fun e w' ⟨h1, h2⟩ => ⟨h1, h2.symm⟩)))
    go_wp2
    go_ret2
    obtain ⟨h1, h2⟩ := reck_set (w1 := w.drewN nq) ((Mods.refl _ w).drewN nq) hK 3 (.int .i64 (s + x))
    exact reck_num rfl rfl (by rw [size_setCell']; rfl) h1 h2 (block_lt hK)
  · simp only [if_neg hf]
    have HF := Lib.hid hf
    clear hf
    go_enter Try.func95, Try.ntmps95
    go_wp2
    go_quiet ((go_at_call 80; exact Calls.quiet_of_same ((add_no _ s x HS.out HX.out HF.out).mono fun e w' ⟨h1, h2⟩ => ⟨h1, h2.symm⟩)))
    go_wp2
    go_ret2
    exact reckno rfl (((below_dr (Below.refl _ _)).alloc (Nat.le_refl _) _).alloc (by simp) _)
end Go.Proofs.Ytknmiiajeafjpaa
