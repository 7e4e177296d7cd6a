/- Apart, of one list: it ends, whatever it says. -/
import Derived.Test.YtifhnealecndnaaW19
import Derived.Test.YtifhnealecndnaaMem2
import Derived.Laws.OwnMore
namespace Go.Proofs.Ytifhnealecndnaa
open Go.RowKit

theorem info22 : (Try.prog.info? 22).map (fun i => (i.zero, i.size, i.bytes)) = some (some (.slice none 0 0), 1, 24) := by kernel_rfl

/-- a row of n numbers -/
def Rowed (w : World) (base g n cap : Nat) : Prop := ∃ zs : List Int, zs.length = n ∧ w.ownsRow base 3 1 (.slice (some ⟨g, 0, none⟩) n cap) n (zs.map (Value.int .i64))

theorem Rowed.cell {w : World} {base g n cap k : Nat} (h : Rowed w base g n cap) (hk : k < n) : (∃ z, w.cell? ⟨g, k, none⟩ = some (.int .i64 z)) ∧ w.frozen? ⟨g, k, none⟩ = false := by
  obtain ⟨zs, hz, hr⟩ := h
  obtain ⟨_, _, g', _, e, hc, hf, _⟩ := owns_cell hr (by simp; omega)
  cases e
  exact ⟨⟨zs[k]?.getD 0, hc k _ (by have : k < zs.length := by omega
                                    simp [this])⟩, hf k⟩

theorem Rowed.set {w : World} {base g n cap : Nat} (h : Rowed w base g n cap) (k : Nat) (z : Int) : Rowed (w.setCell ⟨g, k, none⟩ (.int .i64 z)) base g n cap ∧ Mods (fun b => b = g) w (w.setCell ⟨g, k, none⟩ (.int .i64 z)) := by
  obtain ⟨zs, hz, hr⟩ := h
  obtain ⟨h1, _⟩ := hr.stored k (.int .i64 z)
  exact ⟨⟨zs.set k z, by simpa using hz, by rw [List.map_set]; exact h1⟩, (Mods.refl (fun b => b = g) w).setCell (p := ⟨g, k, none⟩) (fun _ => rfl) _⟩

theorem Rowed.kept {w w' : World} {base g n cap : Nat} {F : Nat → Prop} (h : Rowed w base g n cap) (hm : Mods F w w') (hF : ¬ F g) : Rowed w' base g n cap := by
  obtain ⟨zs, hz, hr⟩ := h
  exact ⟨zs, hz, owns_kept hr hm (fun k hk f => hF (by cases hk; exact f))⟩

/-- the long list: its row, and what stays of the list lent -/
def Grown (w : World) (H base A L g n cap k : Nat) : Prop :=
  w.heap[A]? = some (.cells #[.slice (some ⟨g, 0, none⟩) n cap] 22 (0, 0)) ∧ (∀ j, j < n → ∃ z, w.cell? ⟨g, j, none⟩ = some (.int .i64 z)) ∧
    ∃ (vl : Value) (zs : List Int), w.heap[L]? = some (.cells #[vl] 22 (0, 0)) ∧ zs.length = n + k ∧ w.ownsRow base 3 1 vl (n + k) (zs.map (Value.int .i64)) ∧ vl.ownBlock ≠ some A ∧ vl.ownBlock ≠ some L ∧ ∀ b, vl.ownBlock = some b → b = g ∨ H ≤ b

theorem grown_start {w : World} {H base A L g n cap : Nat} (hA : w.heap[A]? = some (.cells #[.slice (some ⟨g, 0, none⟩) n cap] 22 (0, 0))) (hAg : A ≠ g) (hgL : g ≠ L) (hL : w.heap[L]? = some (.cells #[.slice (some ⟨g, 0, none⟩) n cap] 22 (0, 0))) (hR : Rowed w base g n cap) : Grown w H base A L g n cap 0 := by
  have hc : ∀ j, j < n → ∃ z, w.cell? ⟨g, j, none⟩ = some (.int .i64 z) := fun j hj => (hR.cell hj).1
  obtain ⟨zs, hz, hr⟩ := hR
  exact ⟨hA, hc, _, zs, hL, hz, hr, fun e => hAg (Option.some.inj e).symm, fun e => hgL (Option.some.inj e), fun b hb => .inl (Option.some.inj hb).symm⟩

/-- one more onto the long list -/
theorem grown_app {w w2 : World} {H base A L g n cap k : Nat} {vl v' : Value} {zs : List Int} {tmp : Obj} (z : Int) (hA : w.heap[A]? = some (.cells #[.slice (some ⟨g, 0, none⟩) n cap] 22 (0, 0))) (hc : ∀ j, j < n → ∃ z, w.cell? ⟨g, j, none⟩ = some (.int .i64 z))
    (hL : w.heap[L]? = some (.cells #[vl] 22 (0, 0))) (hz : zs.length = n + k) (hvA : vl.ownBlock ≠ some A) (hvL : vl.ownBlock ≠ some L) (hvH : ∀ b, vl.ownBlock = some b → b = g ∨ H ≤ b) (hH : H ≤ w.heap.size) (hAL : A ≠ L) (hgL : g ≠ L)
    (k1 : w2.ownsRow base 3 1 v' (n + k + 1) (zs.map (Value.int .i64) ++ [Value.int .i64 z])) (k2 : (w.alloc tmp).grownBy w2 vl.ownBlock) (k4 : v'.ownBlock = vl.ownBlock ∨ (v'.ownBlock = some (w.alloc tmp).heap.size ∧ (w.alloc tmp).grownBy w2 none)) :
    w2.heap[L]? = some (.cells #[vl] 22 (0, 0)) ∧ Grown (w2.setCell ⟨L, 0, none⟩ v') H base A L g n cap (k + 1) ∧ Mods (fun b => b = L ∨ vl.ownBlock = some b) w (w2.setCell ⟨L, 0, none⟩ v') := by
  have hL2 := block_grown (block_alloc hL tmp) k2 hvL
  have hA2 := block_grown (block_alloc hA tmp) k2 hvA
  have hAlt := block_lt hA
  have hLlt := block_lt hL
  have new : ∀ b, b < w.heap.size → vl.ownBlock ≠ some b → v'.ownBlock ≠ some b := fun b hb hn => by
    rcases k4 with k4 | ⟨k4, _⟩
    · rw [k4]; exact hn
    · rw [k4]; intro e; have := Option.some.inj e; simp at this; omega
  have nL := new L hLlt hvL
  have hc2 : ∀ j, j < n → ∃ z, w2.cell? ⟨g, j, none⟩ = some (.int .i64 z) := fun j hj => by
    obtain ⟨y, hy⟩ := hc j hj
    have hgw : g < w.heap.size := World.block_lt_of_cell? _ _ hy
    by_cases hg : vl.ownBlock = some g
    · rcases k4 with k4 | ⟨_, k4⟩
      · obtain ⟨s', c', rfl⟩ := owns_slice k1
        obtain ⟨_, _, g', _, e, hcl, _⟩ := owns_cell k1 (by simp)
        subst e
        have : g' = g := Option.some.inj (k4.trans hg)
        subst this
        refine ⟨zs[j]?.getD 0, hcl j _ ?_⟩
        have hjz : j < zs.length := by omega
        rw [List.getElem?_append_left (by simpa using hjz)]
        simp [hjz]
      · exact ⟨y, (World.cell?_of_block (w := w.alloc tmp) (k4.block g (by simp; omega) (by simp))).trans (ca hy)⟩
    · exact ⟨y, (World.cell?_of_block (w := w.alloc tmp) (k2.block g (by simp; omega) (fun e => hg e.symm))).trans (ca hy)⟩
  have hm := (((Mods.refl (fun b => b = L ∨ vl.ownBlock = some b) w).alloc tmp).grown k2 (fun b hb _ => .inr hb)).setCell (p := ⟨L, 0, none⟩) (fun _ => .inl rfl) v'
  refine ⟨hL2, ⟨block_setCell_ne hA2 hAL _, fun j hj => ?_, v', zs ++ [z], block_setCell hL2 0 v', by simp; omega, ?_, new A hAlt hvA, nL, fun b hb => ?_⟩, hm⟩
  · obtain ⟨y, hy⟩ := hc2 j hj
    exact ⟨y, (World.cell?_of_block (w := w2) (Below.heap_setCell _ _ _ _ hgL)).trans hy⟩
  · have := ownsRow_setCell_other k1 (a := ⟨L, 0, none⟩) nL v'
    rw [List.map_append]
    exact this
  · rcases k4 with k4 | ⟨k4, _⟩
    · exact hvH b (k4 ▸ hb)
    · rw [k4] at hb; have := Option.some.inj hb; simp at this; right; omega

set_option maxRecDepth 100000 in
set_option maxHeartbeats 4000000 in
theorem apart_any (w : World) (base A g n cap c : Nat) (zs : List Int) (hn : n ≤ 17600000000000) (hA : w.heap[A]? = some (.cells #[.slice (some ⟨g, 0, none⟩) n cap] 22 (0, 0))) (hAg : A ≠ g) (hbA : base ≤ A) (hbase : base ≤ w.heap.size)
    (hzs : zs.length = n) (hrow : w.ownsRow base 3 1 (.slice (some ⟨g, 0, none⟩) n cap) n (zs.map (Value.int .i64))) :
    Calls Try.prog 18 #[.slice (some ⟨A, 0, none⟩) 1 c] w fun e w' => (∃ v, e = .returned v) ∧ Mods (fun k => k = g) w w' := by
  obtain ⟨i0, hi, hz0, hz1, hz2⟩ := info_parts info3
  obtain ⟨j0, ji, jz0, jz1, jz2⟩ := info_parts info22
  have HN := Lib.hid hn
  have hni : (n : Int) ≤ 4611686018427387904 := by omega
  have hzl := Lib.hid hzs
  clear hn hzs
  obtain ⟨w1, hr, hown, hg⟩ := run_make_full (P := Try.prog) w base 46 22 j0 _ 1 (by kernel_rfl) ji jz0 jz1 .i64 .i64 1 (by rw [jz2]; omega) (by unfold maxLen; omega) hbase
  have hcast : ((1 : Nat) : Int) = 1 := rfl
  rw [hcast] at hr
  go_enter Try.func18, Try.ntmps18
  go_wp2_with fail
  have hL0 : w1.heap[w.heap.size]? = some (.cells #[.slice none 0 0] 22 (0, 0)) := by
    rcases hown.2 with ⟨h, _⟩ | ⟨gg, cap', cur, h, _, hh, _, _, hcs, ht⟩
    · cases h
    · cases h
      obtain ⟨cl⟩ := cur
      match cl, hcs with
      | [x], _ =>
        have hx : x = .slice none 0 0 := by have : [x] = [Value.slice none 0 0] := (by simpa [madeCells, Value.cells] using ht); exact List.head_eq_of_cons_eq this
        rw [hx] at hh
        exact hh
  have hgw : g < w.heap.size := (hrow.lt g rfl).2
  have hAw := block_lt hA
  have hm1 : Mods (fun _ => False) w w1 := (Mods.refl (fun _ => False) w).grown hg (fun k hk _ => by cases hk)
  have hA1 := block_mods hA hm1 (fun h => h)
  have hrow1 := owns_kept hrow hm1 (fun _ _ h => h)
  have hb1 : Mods (fun k => k = g) w w1 := hm1.mono (fun _ _ h => h.elim)
  have hbg : base ≤ g := (hrow.lt g rfl).1
  obtain ⟨L, hLe⟩ : ∃ L, L = w.heap.size := ⟨_, rfl⟩
  rw [← hLe] at hL0 ⊢
  have hs1 := hm1.size
  have R1 : Rowed w1 base g n cap := ⟨zs, hzl.out, hrow1⟩
  have hLw : L < w1.heap.size := block_lt hL0
  have hgL : g ≠ L := by omega
  have hAL : A ≠ L := by omega
  have hbL : base ≤ L := by omega
  have hLge : w.heap.size ≤ L := by omega
  clear hown hg hr hcast hrow hA hm1 hrow1 hLe
  go_loopw [4, 5] (fun i _ wr => (i = .int .i64 0 ∨ (i = .int .i64 1 ∧ wr.heap[L]? = some (.cells #[.slice (some ⟨g, 0, none⟩) n cap] 22 (0, 0)))) ∧ (∃ x y z, wr.heap[L]? = some (.cells #[.slice x y z] 22 (0, 0))) ∧ wr.heap[A]? = some (.cells #[.slice (some ⟨g, 0, none⟩) n cap] 22 (0, 0)) ∧
    Rowed wr base g n cap ∧ Mods (fun k => k = g) w wr ∧ w.heap.size ≤ wr.heap.size) (fun i _ _ => 1 - (intOf i).toNat)
  case atStart => exact ⟨.inl rfl, ⟨_, _, _, hL0⟩, hA1, R1, hb1, hs1⟩
  case round =>
    clear hL0 hA1 R1 hb1 hs1
    obtain ⟨hi01, ⟨x, y, z, hL⟩, hA, hR, hb, hs⟩ := hrel
    rcases hi01 with rfl | ⟨rfl, hL1⟩
    · have cA := cells_row wr A hA 0 (.slice (some ⟨g, 0, none⟩) n cap) rfl
      go_wp2_with fail
      go_loopw [5] (fun k wq => ∃ j : Nat, j ≤ n ∧ k = .int .i64 j ∧ wq.heap[L]? = some (.cells #[.slice x y z] 22 (0, 0)) ∧ wq.heap[A]? = some (.cells #[.slice (some ⟨g, 0, none⟩) n cap] 22 (0, 0)) ∧ Rowed wq base g n cap ∧ Mods (fun k => k = g) w wq ∧ w.heap.size ≤ wq.heap.size) (fun k _ => n - (intOf k).toNat)
      case atStart => exact ⟨0, Nat.zero_le _, rfl, hL, hA, hR, hb, hs⟩
      case round =>
        clear cA hL hA hR hb hs
        obtain ⟨j, hj, rfl, hL, hA, hR, hb, hs⟩ := hrel
        have cA := cells_row wr A hA 0 (.slice (some ⟨g, 0, none⟩) n cap) rfl
        have cL := cells_row wr L hL 0 (.slice x y z) rfl
        have fL := frozen_of_block hL 0
        by_cases hlt : j < n
        · obtain ⟨⟨z', cg⟩, fg⟩ := hR.cell hlt
          have hlti : (j : Int) < n := by omega
          go_wp2
          go_roundw
          case rel =>
            obtain ⟨R2, hm2⟩ := hR.set j (j : Int)
            exact ⟨j + 1, by omega, by go_num, block_setCell_ne hL (fun e => hgL e.symm) _, block_setCell_ne hA hAg _, R2, hb.trans hm2 (fun _ _ h => h) (fun _ _ h => h), by have := hm2.size; omega⟩
          case measure => simp [intOf]; omega
        · obtain rfl : j = n := by omega
          go_wp2
          go_roundw
          case rel =>
            have hm2 : Mods (fun b => b = L) wr (wr.setCell ⟨L, 0, none⟩ (.slice (some ⟨g, 0, none⟩) j cap)) := (Mods.refl (fun b => b = L) wr).setCell (p := ⟨L, 0, none⟩) (fun _ => rfl) _
            exact ⟨.inr ⟨rfl, block_setCell hL 0 _⟩, ⟨_, _, _, block_setCell hL 0 _⟩, block_setCell_ne hA hAL _, hR.kept hm2 hgL, hb.trans hm2 (fun _ _ h => h) (fun k hk e => by omega), by have := hm2.size; omega⟩
          case measure => simp [intOf]
    · go_wp2_with fail
      clear hL
      have hG0 := grown_start (H := w.heap.size) hA hAg hgL hL1 hR
      clear hA hL1 hR
      go_loopw [6, 7] (fun i _ wq => ((i = .int .i64 0 ∧ Grown wq w.heap.size base A L g n cap 0) ∨ (i = .int .i64 1 ∧ Grown wq w.heap.size base A L g n cap 16)) ∧ Mods (fun k => k = g) w wq ∧ w.heap.size ≤ wq.heap.size) (fun i _ _ => 1 - (intOf i).toNat)
      case atStart => exact ⟨.inl ⟨rfl, hG0⟩, hb, hs⟩
      case round =>
        clear hG0 hb hs
        obtain ⟨hi01, hb, hs⟩ := hrel
        rcases hi01 with ⟨rfl, hG⟩ | ⟨rfl, hG⟩
        · go_wp2_with fail
          go_loopw [7] (fun kk wq => ∃ k : Nat, k ≤ 16 ∧ kk = .int .i64 k ∧ Grown wq w.heap.size base A L g n cap k ∧ Mods (fun k => k = g) w wq ∧ w.heap.size ≤ wq.heap.size) (fun kk _ => 16 - (intOf kk).toNat)
          case atStart => exact ⟨0, by omega, rfl, hG, hb, hs⟩
          case round =>
            clear hG hb hs
            obtain ⟨k, hk, rfl, ⟨hA, hc, vl, zs1, hL, hz, hr, hvA, hvL, hvH⟩, hb, hs⟩ := hrel
            have cA := cells_row wr A hA 0 (.slice (some ⟨g, 0, none⟩) n cap) rfl
            obtain ⟨sl, cl, rfl⟩ := owns_slice hr
            have cL := cells_row wr L hL 0 (.slice sl (n + k) cl) rfl
            by_cases hlt : k < 16
            · have hki : (k : Int) < 16 := by omega
              go_wp2_with (at_builtin; refine stop_here ?_)
              refine go_on ?_
              refine wpList_app2 rfl _ _ 22 rfl base 3 i0 _ 1 8 Try.underlying22 hi hz0 hz1 hz2 rfl (.slice sl (n + k) cl) (n + k) _ rfl (hr.alloc (.cells #[.int .i64 (-(k : Int) - 1)] 3)) (some ⟨wr.heap.size, 0, none⟩) 1 1 [.int .i64 (-(k : Int) - 1)] rfl rfl (fun h => by cases h) (news_alloc wr [.int .i64 (-(k : Int) - 1)] 3) (by simp [Value.oneCell']) (by have := HN.out; unfold maxLen; omega) (grow_ok (by have := HN.out; omega)) (size_le_alloc (by have := hb.size; omega) _) ?_
              intro v' w2 g1 g20 _ g4
              have g2 : (wr.alloc (.cells #[.int .i64 (-(k : Int) - 1)] 3)).grownBy w2 (Value.slice sl (n + k) cl).ownBlock := ⟨g20.os, g20.tape, g20.output, g20.size, g20.block⟩
              have g4' : v'.ownBlock = (Value.slice sl (n + k) cl).ownBlock ∨ (v'.ownBlock = some (wr.alloc (.cells #[.int .i64 (-(k : Int) - 1)] 3)).heap.size ∧ (wr.alloc (.cells #[.int .i64 (-(k : Int) - 1)] 3)).grownBy w2 none) := g4
              obtain ⟨hL2, hG2, hm2⟩ := grown_app (-(k : Int) - 1) hA hc hL hz hvA hvL hvH hs hAL hgL g1 g2 g4'
              obtain ⟨s', c', rfl⟩ := owns_slice g1
              have cL2 := cells_row w2 L hL2 0 (.slice sl (n + k) cl) rfl
              have fL2 := frozen_of_block hL2 0
              have hb2 := hb.trans hm2 (fun _ _ h => h) (fun b hb' f => by rcases f with f | f; omega; rcases hvH b f with h | h; exact h; omega)
              have hs2 := hm2.size
              clear g1 g20 g2 g4 g4' hm2 hL2 hA hc hL hr cL cA
              go_wp2
              go_roundw
              case rel => exact ⟨k + 1, by omega, by go_num, hG2, hb2, by omega⟩
              case measure => simp [intOf]; omega
            · obtain rfl : k = 16 := by omega
              go_wp2
              go_roundw
              case rel => exact ⟨.inr ⟨rfl, hA, hc, _, zs1, hL, hz, hr, hvA, hvL, hvH⟩, hb, hs⟩
              case measure => simp [intOf]
        · go_wp2_with fail
          obtain ⟨hA, hc, vl, zs1, hL, hz, hr, hvA, hvL, hvH⟩ := hG
          have cA := cells_row wr A hA 0 (.slice (some ⟨g, 0, none⟩) n cap) rfl
          obtain ⟨sl, cl, rfl⟩ := owns_slice hr
          have cL := cells_row wr L hL 0 (.slice sl (n + 16) cl) rfl
          obtain ⟨_, hcl, gl, _, rfl, hcells, _⟩ := owns_cell hr (by simp; omega)
          have hl : ∀ j, j < n + 16 → wr.cell? ⟨gl, j, none⟩ = some (.int .i64 (zs1[j]?.getD 0)) := by
            intro j hj
            have hjz : j < zs1.length := by omega
            exact hcells j _ (by simp [hjz])
          have HC := Lib.hid hc
          have HL := Lib.hid hl
          have hb0 := hb
          clear hc hl hcells hr hL hA hvA hvL hvH hz
          obtain ⟨W, hW⟩ : ∃ W, W = wr := ⟨_, rfl⟩
          rw [← hW] at cA cL HC HL hb0 hs ⊢
          clear hb
          go_loopw [8, 9, 10] (fun i _ _ wq => (i = .int .i64 0 ∨ i = .int .i64 1) ∧ ∃ m, wq = W.drewN m) (fun i _ _ _ => 1 - (intOf i).toNat)
          case atStart => exact ⟨.inl rfl, 0, rfl⟩
          case round =>
            clear hW
            obtain ⟨hi01, m, rfl⟩ := hrel
            rcases hi01 with rfl | rfl
            · go_wp2_with fail
              go_loopw [9] (fun kk wq => ∃ k : Nat, k ≤ n ∧ kk = .int .i64 k ∧ ∃ m, wq = W.drewN m) (fun kk _ => n - (intOf kk).toNat)
              case atStart => exact ⟨0, Nat.zero_le _, rfl, _, rfl⟩
              case round =>
                obtain ⟨k, hk, rfl, m, rfl⟩ := hrel
                by_cases hlt : k < n
                · obtain ⟨z1, h1⟩ := HC.out k hlt
                  have h2 := HL.out k (by omega)
                  have hki : (k : Int) < n := by omega
                  have hki2 : (k : Int) < (n : Int) + 16 := by omega
                  generalize zs1[k]?.getD 0 = z2 at h2
                  by_cases e1 : z1 = (k : Int)
                  · by_cases e2 : z2 = (k : Int)
                    · go_wp2
                      go_roundw
                      case rel => exact ⟨k + 1, by omega, by go_num, _, rfl⟩
                      case measure => simp [intOf]; omega
                    · go_wp2
                      go_ret
                      exact ⟨⟨_, rfl⟩, mods_dr hb0⟩
                  · go_wp2
                    go_ret
                    exact ⟨⟨_, rfl⟩, mods_dr hb0⟩
                · obtain rfl : k = n := by omega
                  go_wp2_with fail
                  go_loopw [10] (fun kk wq => ∃ j : Nat, j ≤ 16 ∧ kk = .int .i64 j ∧ ∃ m, wq = W.drewN m) (fun kk _ => 16 - (intOf kk).toNat)
                  case atStart => exact ⟨0, by omega, rfl, _, rfl⟩
                  case round =>
                    obtain ⟨j, hj, rfl, m, rfl⟩ := hrel
                    by_cases hlt2 : j < 16
                    · have h3 := HL.out (k + j) (by omega)
                      have hki : (j : Int) < 16 := by omega
                      have hki2 : (k : Int) + j < (k : Int) + 16 := by omega
                      have hki3 : (0 : Int) ≤ (k : Int) + j := by omega
                      generalize zs1[k + j]?.getD 0 = z3 at h3
                      by_cases e3 : z3 = -(j : Int) - 1
                      · go_wp2
                        go_quiet (fail)
                        go_wp2
                        go_roundw
                        case rel => exact ⟨j + 1, by omega, by go_num, _, rfl⟩
                        case measure => simp [intOf]; omega
                      · go_wp2
                        go_quiet (fail)
                        go_wp2
                        go_ret
                        exact ⟨⟨_, rfl⟩, mods_dr (mods_dr hb0)⟩
                    · obtain rfl : j = 16 := by omega
                      go_wp2
                      go_roundw
                      case rel => exact ⟨.inr rfl, _, rfl⟩
                      case measure => simp [intOf]
            · go_wp2
              go_ret
              exact ⟨⟨_, rfl⟩, mods_dr hb0⟩
end Go.Proofs.Ytifhnealecndnaa
