/- What a queue of ints tells, as a list of the call's own. -/
import Derived.Test.YtifhnealecndnaaW9
namespace Go.Proofs.Ytifhnealecndnaa
open Go.RowKit Go.Shelf
attribute [local go_sem] Oper.semAt_some

/-- the block of the row that cell i of block B leads to -/
def rowOf (W : World) (B i : Nat) : Option Nat := match W.heap[B]? with
  | some (.cells cs _ _) => (cs[i]?).bind Value.ownBlock
  | _ => none

theorem rowOf_same {W W' : World} {B i : Nat} (h : W'.heap[B]? = W.heap[B]?) : rowOf W' B i = rowOf W B i := by unfold rowOf; rw [h]

theorem rowOf_cells {W : World} {B i : Nat} {cs : Array Value} {t : TypeId} {fr : Nat × Nat} (h : W.heap[B]? = some (.cells cs t fr)) {v : Value} (hv : cs[i]? = some v) : rowOf W B i = v.ownBlock := by
  unfold rowOf; rw [h]; simp [hv]

def Gbox (B : Nat) (W : World) (k : Nat) : Prop := k = B ∨ rowOf W B 0 = some k

theorem Gbox_ok {B B0 : Nat} (h : B < B0) : GOk B0 (Gbox B) := fun W W' k hs g => by
  rcases g with g | g
  · exact .inl g
  · exact .inr (by rw [← g]; exact (rowOf_same (hs B h)).symm)

/-- a round that appends to a row told by a box -/
theorem kp_appended {W w1 : World} {B : Nat} {t : TypeId} {v v' : Value} {tmp : Obj} (hv : Boxed W B t v) (hne : v.ownBlock ≠ some B) (hg : (W.alloc tmp).grownBy w1 v.ownBlock) (hr : v'.ownBlock = v.ownBlock ∨ v'.ownBlock = some (W.alloc tmp).heap.size) :
    KpG (Gbox B) W (w1.setCell ⟨B, 0, none⟩ v') := by
  have hrow : rowOf W B 0 = v.ownBlock := rowOf_cells (show W.heap[B]? = _ from hv) rfl
  have hv1 : w1.heap[B]? = some (.cells #[v] t (0, 0)) := block_grown (block_alloc (show W.heap[B]? = _ from hv) tmp) hg hne
  have hrow' : rowOf (w1.setCell ⟨B, 0, none⟩ v') B 0 = v'.ownBlock := rowOf_cells (block_setCell hv1 0 v') rfl
  have hs := hg.size
  simp at hs
  refine ⟨by rw [size_setCell']; omega, fun k cs t' fr hk hG => ?_, fun k hk g => ?_⟩
  · have hkB : k ≠ B := fun e => hG (.inl e)
    have hkr : v.ownBlock ≠ some k := fun e => hG (.inr (by rw [hrow, e]))
    rw [Below.heap_setCell _ _ _ _ hkB, hg.block k (by simp; have := block_lt hk; omega) (fun e => hkr e.symm), Below.heap_alloc _ _ _ (block_lt hk)]
  · rcases g with g | g
    · exact .inl g
    · rw [hrow'] at g
      rcases hr with hr | hr
      · exact .inr (by rw [hrow, ← hr, g])
      · rw [hr] at g
        have := Option.some.inj g
        simp at this
        omega

set_option maxRecDepth 100000 in
set_option maxHeartbeats 2000000 in
theorem told_in {w : World} {base b : Nat} {C : Int} {l : List Int} {r : Option Nat} {N : Nat} (h : IQ w base b C l r N) (hN : N ≤ 27000000000000) :
    CallsIn Fence.wide 4 Try.prog 28 #[.pointer (some ⟨b, 0, none⟩)] w fun e W' => ∃ v, e = .returned v ∧ W'.ownsRow w.heap.size 3 1 v l.length (l.map (Value.int .i64)) ∧ Below w.heap.size w W' := by
  obtain ⟨i0, hi, hz0, hz1, hz2⟩ := info_parts info3
  have hlN := h.lt.2.2.2.2.2
  have hbl : l.length ≤ 27000000000000 := by omega
  have Hbl := Lib.hid hbl
  have hN' : N ≤ 27000000000000 := hN
  clear hlN hbl
  refine callsIn_of_wp_marks Try.func28 rfl trivial ?_ rfl
  simp only [Try.ntmps28, List.size_toArray, List.length_cons, List.length_nil, Nat.reduceAdd, Nat.reduceSub, Array.replicate_succ, Array.replicate_zero, List.push_toArray, List.append_toArray, List.nil_append, List.cons_append]
  gi_wp2_with fail
  refine ⟨trivial, (callsIn_wide.2 (all_any _ _)).mono ?_⟩
  rintro e w' ⟨rfl, rfl⟩
  gi_wp2_with fail
  have bO := Boxed.new w 22 (.slice none 0 0)
  have bN := Boxed.new (w.alloc (.cells #[.slice none 0 0] 22)) 37 (.pointer (some ⟨b, 0, none⟩))
  rw [World.size_alloc] at bN
  have hB0 : Below w.heap.size w ((w.alloc (.cells #[.slice none 0 0] 22)).alloc (.cells #[.pointer (some ⟨b, 0, none⟩)] 37)) := ((Below.refl _ w).alloc (Nat.le_refl _) _).alloc (by simp) _
  have hG := Gbox_ok (B := w.heap.size) (B0 := w.heap.size + 1) (Nat.lt_succ_self _)
  have hq : IQ ((w.alloc (.cells #[.slice none 0 0] 22)).alloc (.cells #[.pointer (some ⟨b, 0, none⟩)] 37)) base b C l r N := h.frame (Mods.of_below hB0 (fun _ => False)) (fun h => h) (fun _ _ h => h)
  refine wpIn_rangeFunc_ownG rfl (by omega) (gf := 30) (lb := #[.pointer (some ⟨w.heap.size + 1, 0, none⟩)]) rfl trivial (enters_of Try.func30 (by kernel_rfl) rfl)
    (all_stops (n := 3) (by omega) hq hN' hG (by simp) (fun k hk => ?gw) bN.cell) KpG.trans (fun W l o o' hl h ho _ => KpG.putObj hG W l o o' (by simp at hl; omega) h ho) (Below.refl _ _) (fun _ => rfl)
    (fun (pre : List Int) W => (∃ v, Boxed W w.heap.size 22 v ∧ W.ownsRow w.heap.size 3 1 v pre.length (pre.map (Value.int .i64)) ∧ True) ∧ Below w.heap.size w W)
    (fun _ _ _ => False)
    (OwnFrom.and (Own.from (holdsRow_own w.heap.size w.heap.size 22 3 1 (fun (pre : List Int) => pre.length) (fun pre => pre.map (Value.int .i64)) (fun _ _ => True)) _) (ownFrom_below (Nat.le_refl _) (by simp; omega)))
    (fun _ _ _ _ _ hs _ _ => hs)
    ⟨⟨_, bO.alloc _, World.ownsRow_nil _ _ _ _, trivial⟩, hB0⟩
    (fun x => { tmps := #[.pointer (some ⟨b, 0, none⟩), undef, .slice none 0 0, .pointer (some ⟨w.heap.size, 0, none⟩), .int .i64 x, .pointer (some ⟨b, 0, none⟩), .func (.func 30) #[] #[.pointer (some ⟨w.heap.size + 1, 0, none⟩)], .int .i64 x, undef, undef, undef, undef, undef], defers := [] }) ?assign ?body ?done ?stop
  case gw =>
    rcases hk with rfl | hk
    · simp; omega
    · rw [rowOf_cells (block_alloc (show (w.alloc (.cells #[.slice none 0 0] 22)).heap[w.heap.size]? = _ from bO) _) rfl] at hk
      simp [Value.ownBlock] at hk
  case assign =>
    intro l x W K hK
    gi_wp2
    exact hK
  case body =>
    rintro l pre x W ⟨⟨v, hv, hrow, -⟩, hB⟩ hlt
    have hc := hv.cell
    have hsz := hB.size
    obtain ⟨sv, cv, rfl⟩ := owns_slice hrow
    have hne : (Value.slice sv pre.length cv).ownBlock ≠ some w.heap.size := (hv.not_row (by decide) hrow).symm
    have Hlt := Lib.hid hlt
    clear hlt
    gi_wp2_with (gi_at_builtin; refine stop_here ?_)
    refine go_on ?_
    refine wpListIn_app rfl _ _ 22 rfl w.heap.size 3 i0 _ 1 8 Try.underlying22 hi hz0 hz1 hz2 rfl (.slice sv pre.length cv) pre.length _ rfl (hrow.alloc (.cells #[.int .i64 x] 3)) (some ⟨W.heap.size, 0, none⟩) 1 1 [.int .i64 x] rfl rfl (fun h => by cases h) (news_alloc W [.int .i64 x] 3) (by simp [Value.oneCell']) (by have := Hlt.out; have := Hbl.out; unfold maxLen; omega) (grow_ok (by have := Hlt.out; have := Hbl.out; omega)) (size_le_alloc hsz _) ?_
    intro v' w1 g1 g2 _ g4
    obtain ⟨sa', cap', rfl⟩ := owns_slice g1
    obtain ⟨hv1, hv2, hr2, hk2, hb2⟩ := hv.appended (by decide) hrow hB.size (Nat.le_refl _) g1 g2
    have hkp := kp_appended hv hne g2 g4
    have hc1 := hv1.cell
    have hf1 := hv1.frozen
    gi_wp2
    exact ⟨hk2.from _, hkp, ⟨_, hv2, by simpa using hr2, trivial⟩, hB.trans hb2⟩
  case done =>
    rintro D ys W hD rfl ⟨⟨v, hv, hrow, -⟩, hB⟩ hK
    have hc := hv.cell
    gi_wp2
    refine ⟨by simp, .inl ⟨_, _, rfl, run_takeDeferred hK, ?_⟩⟩
    exact ⟨_, results_tmp rfl _ _ _, v, rfl, ownsRow_putObj hrow _ hK rfl, hB.trans (belowK_b (w := w) (Nat.le_refl _) W D _ _ (by simp at hD; omega) hK rfl rfl)⟩
  case stop =>
    rintro D c pre W _ _ h _
    exact h.elim

end Go.Proofs.Ytifhnealecndnaa
