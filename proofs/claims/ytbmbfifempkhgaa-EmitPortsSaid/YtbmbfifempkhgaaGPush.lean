/- A row more on a side of the checker. -/
import Derived.Test.YtbmbfifempkhgaaGPorts
namespace Go.Proofs.Ytbmbfifempkhgaa
open Go.RowKit

theorem info_bool : (Try.prog.info? 4).map (fun i => (i.zero, i.size, i.bytes)) = some (some (.bool false), 1, 1) := by kernel_rfl
theorem info_bools : (Try.prog.info? 192).map (fun i => (i.zero, i.size, i.bytes)) = some (some (.slice none 0 0), 1, 24) := by kernel_rfl
theorem made_bools (n : Nat) : madeCells (Value.cells (.bool false)) (n * 1) = (bvs (List.replicate n false)).toArray := by
  rw [Nat.mul_one]
  apply Array.toList_inj.1
  simp [madeCells, Value.cells, bvs, Nat.mod_one, List.map_const']
theorem make_bools (w : World) (n : Nat) (h : n ≤ 1000) : (Instr.makeSlice 192 (.int .i64 (n : Int)) (.int .i64 (n : Int))).run Try.prog w = .ok (.slice (some ⟨w.heap.size, 0, none⟩) n n) (w.alloc (.cells (bvs (List.replicate n false)).toArray 4)) := by
  obtain ⟨i0, hi, hz0, hz1, hz2⟩ := info_parts info_bool
  have hr := run_make (P := Try.prog) (w := w) 192 4 i0 _ Try.underlying192 hi hz0 .i64 .i64 (n : Int) (n : Int) (by omega) (Int.le_refl _) (by rw [hz2]; omega) (by omega)
  rw [hz1] at hr
  simp only [Int.toNat_natCast] at hr
  rw [hr, made_bools]

/-- the old blocks keep their colours, the next gets d, the others c -/
def ext2 (o : Col) (n d c : Nat) : Col := fun k => if k < n then o k else if k = n then d else c
theorem ext2_old {o : Col} {n d c k : Nat} (h : k < n) : ext2 o n d c k = o k := by simp [ext2, h]
theorem ext2_at {o : Col} {n d c : Nat} : ext2 o n d c n = d := by simp [ext2]
theorem ext2_new {o : Col} {n d c k : Nat} (h : n < k) : ext2 o n d c k = c := by simp [ext2, Nat.not_lt.2 (Nat.le_of_lt h), Nat.ne_of_gt h]

def rowsV (side : List (List Bool)) (gs : List Nat) : List Value := (List.range side.length).map fun k => .slice (some ⟨gs[k]?.getD 0, 0, none⟩) (side[k]?.getD []).length (side[k]?.getD []).length
theorem rowsV_snoc {side : List (List Bool)} {gs : List Nat} (h : gs.length = side.length) (r : List Bool) (g : Nat) : rowsV (side ++ [r]) (gs ++ [g]) = rowsV side gs ++ [.slice (some ⟨g, 0, none⟩) r.length r.length] := by
  unfold rowsV
  rw [List.length_append, List.length_singleton, List.range_succ, List.map_append]
  congr 1
  · refine List.map_congr_left fun k hk => ?_
    have hk' := List.mem_range.1 hk
    rw [List.getElem?_append_left (by omega), List.getElem?_append_left hk']
  · simp [← h]
theorem rowsV_len (side : List (List Bool)) (gs : List Nat) : (rowsV side gs).length = side.length := by simp [rowsV]

theorem Side.push {w w2 : World} {o : Col} {c d : Nat} {v v' : Value} {side : List (List Bool)} {gs : List Nat} (h : Side w o c d v side gs) (hcd : c ≠ d) (n : Nat) {tmp : Obj}
    (k1 : w2.ownsRow 0 192 1 v' (side.length + 1) (rowsV side gs ++ [.slice (some ⟨w.heap.size, 0, none⟩) n n])) (k2 : ((w.alloc (.cells (bvs (List.replicate n false)).toArray 4)).alloc tmp).grownBy w2 v.ownBlock)
    (k4 : v'.ownBlock = v.ownBlock ∨ v'.ownBlock = some ((w.alloc (.cells (bvs (List.replicate n false)).toArray 4)).alloc tmp).heap.size) :
    Turn o (ext2 o w.heap.size d c) (fun x => x = c) w w2 ∧ Side w2 (ext2 o w.heap.size d c) c d v' (side ++ [List.replicate n false]) (gs ++ [w.heap.size]) := by
  have hown := fun b (hb : v.ownBlock = some b) => h.own.1.lt b hb
  have T : Turn o (ext2 o w.heap.size d c) (fun x => x = c) w w2 :=
    ⟨((((Mods.refl (fun b => v.ownBlock = some b) w).alloc _).alloc tmp).grown k2 (fun b hb _ => hb)).mono (fun b _ hb => h.own.2 b hb), fun k hk => ext2_old hk⟩
  refine ⟨T, ⟨by simp [h.len], ⟨?_, fun b hb => ?_⟩, fun k hk => ?_, fun i j hij hj => ?_⟩⟩
  · have e := rowsV_snoc h.len (List.replicate n false) w.heap.size
    rw [List.length_replicate] at e
    have e2 : (side ++ [List.replicate n false]).length = side.length + 1 := by simp
    rw [e2]
    rw [← e] at k1
    unfold rowsV at k1
    rw [e2] at k1
    exact k1
  · rcases k4 with k4 | k4
    · rw [k4] at hb
      rw [ext2_old (hown b hb).2]
      exact h.own.2 b hb
    · rw [k4] at hb
      have := Option.some.inj hb
      simp at this
      exact ext2_new (by omega)
  · have hk' : k < side.length + 1 := by simpa using hk
    by_cases e : k < side.length
    · rw [List.getElem?_append_left (by have := h.len; omega), List.getElem?_append_left e]
      exact (h.rows k e).turn T (fun e => hcd e.symm)
    · obtain rfl : k = side.length := by omega
      have e1 : (gs ++ [w.heap.size])[side.length]?.getD 0 = w.heap.size := by rw [← h.len]; simp
      have e2 : (side ++ [List.replicate n false])[side.length]?.getD [] = List.replicate n false := by simp
      rw [e1, e2]
      exact ⟨block_grown (block_alloc (heap_alloc_new w _) tmp) k2 (fun e => by have := (hown _ e).2; omega), ext2_at⟩
  · have hj' : j < side.length + 1 := by simpa using hj
    have hi : i < side.length := by omega
    have e1 : (gs ++ [w.heap.size])[i]?.getD 0 = gs[i]?.getD 0 := by rw [List.getElem?_append_left (by have := h.len; omega)]
    rw [e1]
    by_cases e : j < side.length
    · rw [List.getElem?_append_left (by have := h.len; omega)]
      exact h.apart i j hij e
    · obtain rfl : j = side.length := by omega
      have e2 : (gs ++ [w.heap.size])[side.length]?.getD 0 = w.heap.size := by rw [← h.len]; simp
      rw [e2]
      have := (h.rows i hi).lt
      omega

theorem ChkAt.pushI {w w2 : World} {o : Col} {C B : Nat} {X : ChkV} {k : Chk} (h : ChkAt w o C B X k) {gI : List Nat} (hs : Side w o 3 4 X.vI k.ins gI) (n : Nat) {tmp : Obj} {v' : Value}
    (k1 : w2.ownsRow 0 192 1 v' (k.ins.length + 1) (rowsV k.ins gI ++ [.slice (some ⟨w.heap.size, 0, none⟩) n n])) (k2 : ((w.alloc (.cells (bvs (List.replicate n false)).toArray 4)).alloc tmp).grownBy w2 X.vI.ownBlock)
    (k4 : v'.ownBlock = X.vI.ownBlock ∨ v'.ownBlock = some ((w.alloc (.cells (bvs (List.replicate n false)).toArray 4)).alloc tmp).heap.size) :
    (w2.cell? ⟨C, 6, none⟩ = some X.vI ∧ w2.frozen? ⟨C, 6, none⟩ = false) ∧ Turn o (ext2 o w.heap.size 4 3) ChkC w (w2.setCell ⟨C, 6, none⟩ v') ∧ ChkAt (w2.setCell ⟨C, 6, none⟩ v') (ext2 o w.heap.size 4 3) C B ⟨X.name, X.va, X.ve, X.vi, X.vo, v', X.vO⟩ ⟨k.seen, k.ins ++ [List.replicate n false], k.outs⟩ := by
  obtain ⟨D, m, gI', gO, h1, h2, h3, h4, h5, h6, h7⟩ := h.st
  obtain ⟨T, S⟩ := hs.push (by decide) n k1 k2 k4
  obtain ⟨m1, m2⟩ := map_turn h2 T (by rw [h3]; decide)
  have b1 := h1.turn T (by decide)
  have b7 := h7.turn T (by decide) (by decide)
  obtain ⟨b2, T2⟩ := b1.set 6 v'
  obtain ⟨m3, m4⟩ := map_turn m1 T2 (by rw [m2, h3]; decide)
  refine ⟨⟨b1.cell 6 _ rfl, b1.frozen 6⟩, (T.mono (fun x e => by subst e; unfold ChkC; omega)).trans T2 (fun x e => by subst e; unfold ChkC; omega), D, m, _, gO, ?_, m3, m2.trans h3, h4, h5, S.turn T2 (by decide) (by decide), b7.turn T2 (by decide) (by decide)⟩
  exact b2
theorem ChkAt.pushO {w w2 : World} {o : Col} {C B : Nat} {X : ChkV} {k : Chk} (h : ChkAt w o C B X k) {gO : List Nat} (hs : Side w o 5 6 X.vO k.outs gO) (n : Nat) {tmp : Obj} {v' : Value}
    (k1 : w2.ownsRow 0 192 1 v' (k.outs.length + 1) (rowsV k.outs gO ++ [.slice (some ⟨w.heap.size, 0, none⟩) n n])) (k2 : ((w.alloc (.cells (bvs (List.replicate n false)).toArray 4)).alloc tmp).grownBy w2 X.vO.ownBlock)
    (k4 : v'.ownBlock = X.vO.ownBlock ∨ v'.ownBlock = some ((w.alloc (.cells (bvs (List.replicate n false)).toArray 4)).alloc tmp).heap.size) :
    (w2.cell? ⟨C, 7, none⟩ = some X.vO ∧ w2.frozen? ⟨C, 7, none⟩ = false) ∧ Turn o (ext2 o w.heap.size 6 5) ChkC w (w2.setCell ⟨C, 7, none⟩ v') ∧ ChkAt (w2.setCell ⟨C, 7, none⟩ v') (ext2 o w.heap.size 6 5) C B ⟨X.name, X.va, X.ve, X.vi, X.vo, X.vI, v'⟩ ⟨k.seen, k.ins, k.outs ++ [List.replicate n false]⟩ := by
  obtain ⟨D, m, gI, gO', h1, h2, h3, h4, h5, h6, h7⟩ := h.st
  obtain ⟨T, S⟩ := hs.push (by decide) n k1 k2 k4
  obtain ⟨m1, m2⟩ := map_turn h2 T (by rw [h3]; decide)
  have b1 := h1.turn T (by decide)
  have b6 := h6.turn T (by decide) (by decide)
  obtain ⟨b2, T2⟩ := b1.set 7 v'
  obtain ⟨m3, m4⟩ := map_turn m1 T2 (by rw [m2, h3]; decide)
  refine ⟨⟨b1.cell 7 _ rfl, b1.frozen 7⟩, (T.mono (fun x e => by subst e; unfold ChkC; omega)).trans T2 (fun x e => by subst e; unfold ChkC; omega), D, m, gI, _, ?_, m3, m2.trans h3, h4, h5, b6.turn T2 (by decide) (by decide), S.turn T2 (by decide) (by decide)⟩
  exact b2
end Go.Proofs.Ytbmbfifempkhgaa
