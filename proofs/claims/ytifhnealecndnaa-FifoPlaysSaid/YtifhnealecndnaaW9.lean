/- The iterator of a queue of ints: what its closure tells, whatever the loop's body does to blocks of its own; append inside a round. -/
import Derived.Test.YtifhnealecndnaaW6
import Derived.RangeFuncNested
import Derived.RangeFuncBound
import Derived.RangeFuncCalls
import Derived.RangeFuncLeaves
import Derived.RangeFuncBox
import Derived.Shelf.Abstract
import Derived.Shelf.RegionOpen
import Derived.OwnWalkIn
import Derived.TacticsInMore
import Derived.LoopNIn
import Derived.LoopIn
import Derived.Maps.AppendAt
namespace Go.Proofs.Ytifhnealecndnaa
open Go.RowKit Go.Shelf
attribute [local go_sem] Oper.semAt_some

theorem wpListIn_app {F : Fence} {n : Nat} {P : Program} {w : World} {ops : Array Oper} {rest : List Oper} {o : Oper} {a : Act} {Q : Exit → Act → World → Prop}
    (hg : o.guard = none) (s x : Operand) (t : TypeId) (hop : o.op = Op.call { callee := Callee.builtin Builtin.append, args := #[s, x], argTypes := #[t, t] })
    (base : Nat) (e : TypeId) (i : TypeInfo) (z : Value) (size bytes : Nat) (h1 : P.underlying t = some (.slice e)) (h2 : P.info? e = some i) (h3 : i.zero = some z) (h4 : i.size = size) (h5 : i.bytes = bytes) (h6 : z.cells.size = size)
    (v : Value) (k : Nat) (xs : List Value) (hs : a.eval s = v) (hown : w.ownsRow base e size v k xs) (ao : Option Addr) (m c : Nat) (news : List Value) (hx : a.eval x = .slice ao m c) (hn : news.length = m * size) (hnone : ao = none → m = 0)
    (hc : ∀ ad, ao = some ad → ∀ j u, news[j]? = some u → w.cell? (ad.add j) = some u) (h1c : ∀ u ∈ news, u.oneCell' = true) (b1 : k + m ≤ maxLen) (b2 : ∀ old, old < k + m → Builtin.nextslicecap (k + m) old * bytes ≤ 281474976710656) (b3 : base ≤ w.heap.size)
    (hK : ∀ v' w', w'.ownsRow base e size v' (k + m) (xs ++ news) → w.grownBy w' v.ownBlock → (v' = .slice none 0 0 ↔ v = .slice none 0 0 ∧ m = 0) → (v'.ownBlock = v.ownBlock ∨ v'.ownBlock = some w.heap.size) → wpListIn F n P ops Q rest (a.put o.dst v') w') :
    wpListIn F n P ops Q (o :: rest) a w := by
  refine wpListIn_plain hg fun K hK' => ?_
  obtain ⟨v', w', hrun, r1, r2, r3, r4⟩ := run_app (P := P) w base t o.type e i z size bytes h1 h2 h3 h4 h5 h6 v k xs hown ao m c news hn hnone hc h1c b1 b2 b3
  unfold Oper.wpIn
  refine ⟨?_, ?_⟩
  · simp [Oper.about, hop, resolve, Target.leads, Sem.run_pure]
  · rw [Oper.semAt_plain F _ _ (by rw [hop]; intro c hc'; cases hc')]
    simp [execOp, hop, resolve, invoke, builtin, hs, hx, hrun, Result.andThen]
    exact hK' _ _ (hK v' w' r1 r2 r3 r4)

/-- G: the blocks of cells that a loop's body may turn: told by what stands in the blocks below B0. -/
def GOk (B0 : Nat) (G : World → Nat → Prop) : Prop := ∀ (W W' : World) k, (∀ i, i < B0 → W'.heap[i]? = W.heap[i]?) → G W' k → G W k

def KpG (G : World → Nat → Prop) (A C : World) : Prop :=
  A.heap.size ≤ C.heap.size ∧ (∀ k cs t fr, A.heap[k]? = some (.cells cs t fr) → ¬ G A k → C.heap[k]? = A.heap[k]?) ∧ (∀ k, k < A.heap.size → G C k → G A k)

theorem KpG.trans {G : World → Nat → Prop} {A B C : World} (h : KpG G A B) (k : KpG G B C) : KpG G A C :=
  ⟨Nat.le_trans h.1 k.1, fun i cs t fr hi hg => (k.2.1 i cs t fr ((h.2.1 i cs t fr hi hg).trans hi) (fun g => hg (h.2.2 i (block_lt hi) g))).trans (h.2.1 i cs t fr hi hg),
    fun i hi g => h.2.2 i hi (k.2.2 i (Nat.lt_of_lt_of_le hi h.1) g)⟩

theorem KpG.putObj {G : World → Nat → Prop} {B0 : Nat} (hG : GOk B0 G) (W : World) (l : Nat) (o o' : Obj) (hl : B0 ≤ l) (h : W.heap[l]? = some o) (ho : o.isCells = false) : KpG G W (W.putObj l o') := by
  have hg := grownBy_putObj' W l o'
  have hlt := block_lt h
  refine ⟨hg.size, fun k cs t fr hk _ => hg.block k (block_lt hk) (fun e => ?_), fun k hk g => hG W _ k (fun i hi => hg.block i (by omega) (fun e => by cases e; omega)) g⟩
  cases e
  rw [h] at hk
  cases hk
  simp [Obj.isCells] at ho

theorem all_any (w : World) (p : Option Addr) :
    Calls Try.prog 26 #[.pointer p] w fun e w' => e = .returned (.func (.func 30) #[] #[.pointer (some ⟨w.heap.size, 0, none⟩)]) ∧ w' = w.alloc (.cells #[.pointer p] 37) := by
  go_enter Try.func26, Try.ntmps26
  go_wp2
  go_ret
  exact ⟨rfl, rfl⟩

set_option maxRecDepth 100000 in
set_option maxHeartbeats 1000000 in
theorem all1_nil (n : Nat) (l Bn : Nat) (W : World) (J : List Int → World → Prop) (hc : W.cell? ⟨Bn, 0, none⟩ = some (.pointer none)) (h0 : J [] W) :
    CallsIn Fence.wide n Try.prog 30 #[.func (.yield l) #[] #[], .pointer (some ⟨Bn, 0, none⟩)] W fun e W' => (∃ v, e = .returned v) ∧ J [] W' := by
  refine callsIn_of_wp Try.func30 rfl trivial ?_ rfl
  simp only [Try.ntmps30, List.size_toArray, List.length_cons, List.length_nil, Nat.reduceAdd, Nat.reduceSub, Array.replicate_succ, Array.replicate_zero, List.push_toArray, List.append_toArray, List.nil_append, List.cons_append]
  gi_wp2
  refine bodyPost_ret (results_none rfl _ _ _) rfl ?_
  exact ⟨⟨_, rfl⟩, h0⟩

set_option maxRecDepth 100000 in
set_option maxHeartbeats 2000000 in
theorem all1_some (n : Nat) (hn : 1 ≤ n) (l Bn b gl : Nat) (len cap g : Nat) (zs : List Int) (hlen : len = zs.length) (hg : g ≤ len) (hcap : len ≤ cap) (hbig : len ≤ 27000000000000) (G : World → Nat → Prop) (B0 : Nat) (hG : GOk B0 G) (J Jx : List Int → World → Prop) (W : World)
    (hB0 : B0 ≤ W.heap.size) (hGW : ∀ k, G W k → k < W.heap.size) (hJ : AbidesFrom W.heap.size J)
    (hY : ∀ pre x W1, J pre W1 → pre.length < (zs.drop g).length → YieldAt Fence.wide (n - 1) Try.prog l #[.int .i64 x] W1 fun e W' =>
      (e = .returned (.bool true) ∧ J (pre ++ [x]) W' ∧ KpG G W1 W') ∨ (e = .returned (.bool false) ∧ Jx (pre ++ [x]) W'))
    (hc : W.cell? ⟨Bn, 0, none⟩ = some (.pointer (some ⟨b, 0, none⟩))) (hc1 : W.cell? ⟨b, 1, none⟩ = some (.slice (some ⟨gl, 0, none⟩) len cap)) (hc2 : W.cell? ⟨b, 2, none⟩ = some (.int .i64 (g : Int)))
    (hcl : ∀ j u, (zs.map (Value.int .i64))[j]? = some u → W.cell? ⟨gl, j, none⟩ = some u) (h0 : J [] W) :
    CallsIn Fence.wide n Try.prog 30 #[.func (.yield l) #[] #[], .pointer (some ⟨Bn, 0, none⟩)] W fun e W' => (∃ v, e = .returned v) ∧
      ((∃ ys, ys = zs.drop g ∧ J ys W') ∨ (∃ pre, pre <+: zs.drop g ∧ Jx pre W')) := by
  obtain ⟨i0, hi, hz0, hz1, hz2⟩ := info_parts info3
  have Hbig := Lib.hid hbig
  clear hbig
  have Hcl := Lib.hid hcl
  clear hcl
  have Hlen := Lib.hid hlen
  clear hlen
  have hgi : (g : Int) ≤ len := by omega
  refine callsIn_of_wp Try.func30 rfl trivial ?_ rfl
  simp only [Try.ntmps30, List.size_toArray, List.length_cons, List.length_nil, Nat.reduceAdd, Nat.reduceSub, Array.replicate_succ, Array.replicate_zero, List.push_toArray, List.append_toArray, List.nil_append, List.cons_append]
  gi_wp2
  refine wpIn_wide.2 ?_
  by_cases hcg : cap = g
  · obtain rfl : len = g := by omega
    subst hcg
    refine wp_region_lex (fun w' => w'.cell? ⟨Bn, 0, none⟩ = some (.pointer (some ⟨b, 0, none⟩)) ∧ w'.cell? ⟨b, 1, none⟩ = some (.slice (some ⟨gl, 0, none⟩) cap cap) ∧ w'.cell? ⟨b, 2, none⟩ = some (.int .i64 (cap : Int))) [1, 2, 3, 4, 5, 6, 7, 8, 9, 12] [0, 10, 11] (by kernel_rfl) (by kernel_rfl) rfl (fun _ _ hx h => ⟨hx.cell h.1, hx.cell h.2.1, hx.cell h.2.2⟩) ⟨hc, hc1, hc2⟩ ?_
    intro Q' hQ'
    simp only [pickOps, List.flatMap_cons, List.flatMap_nil, List.drop_succ_cons, List.drop_zero, List.take_succ_cons, List.take_zero, List.cons_append, List.nil_append, List.append_nil]
    repeat (first
      | (refine wpReads_skip (by rfl) ?_; (try simp only [Act.put, List.setIfInBounds_toArray, List.set_cons_zero, List.set_cons_succ]))
      | (refine wpReads_cons ?_ (by rfl) (by rfl) ?_ ?_; rotate_left; (intro wz hz; (try dsimp only at hz); go_simp; try with_reducible rfl); (try simp only [Act.put, List.setIfInBounds_toArray, List.set_cons_zero, List.set_cons_succ]))
      | (refine wpReads_any ?_ (by rfl) ?_ ?_; rotate_left; (intro wz; go_simp; try with_reducible rfl); (try simp only [Act.put, List.setIfInBounds_toArray, List.set_cons_zero, List.set_cons_succ])))
    refine wpReads_nil ?_
    refine wpList_plain rfl fun K hK => ?_
    go_simp
    refine hK _ _ ?_
    clear hK K
    have hown0 := World.ownsRow_made (e := 3) (size := 1) (base := 0) W #[] 0 (Nat.zero_le _) (Nat.zero_le _) rfl
    refine wpList_app rfl _ _ 22 rfl 0 3 i0 _ 1 8 Try.underlying22 hi hz0 hz1 hz2 rfl (.slice (some ⟨W.heap.size, 0, none⟩) 0 0) 0 [] rfl hown0 (some ⟨gl, 0, none⟩) 0 _ [] rfl rfl (fun h => by cases h)
      (fun _ _ _ _ hu => by simp at hu) (fun u hu => by simp at hu) (by have := Hbig.out; unfold maxLen; omega) (grow_ok (by have := Hbig.out; omega)) (Nat.zero_le _) ?_
    intro v' w3 g1 g20 _ g4
    have g2 := grown_drew g20
    clear g20
    simp only [Nat.zero_add, List.nil_append] at g1
    obtain ⟨sa', cap', rfl⟩ := owns_slice g1
    have hd : zs.drop cap = [] := List.drop_eq_nil_of_le (by have := Hlen.out; omega)
    obtain ⟨gq, hgq, rfl, cur, hcur, htake⟩ : ∃ gq, W.heap.size ≤ gq ∧ sa' = some ⟨gq, 0, none⟩ ∧ ∃ cur, w3.heap[gq]? = some (.cells cur 3 (0, 0)) ∧ cur.toList.take 0 = (zs.drop cap).map (Value.int .i64) := by
      rcases g1.2 with ⟨hnil, _⟩ | ⟨gq, c', cur, hv, _, hh, _, _, _, ht⟩
      · rw [hnil] at g4; simp [Value.ownBlock] at g4
      · cases hv
        refine ⟨gq, ?_, rfl, cur, hh, by rw [hd]; simp⟩
        rcases g4 with g4 | g4
        · have := Option.some.inj g4; simp at this; omega
        · have := Option.some.inj g4; simp at this; omega
    have hfr : W.grownBy w3 none := ⟨g2.os, g2.tape, g2.output, Nat.le_trans (by simp) g2.size, fun k hk _ => (g2.block k (by simp; omega) (fun e => by have := Option.some.inj e; simp at this; omega)).trans (Below.heap_alloc W _ k hk)⟩
    have hJ3 : J [] w3 := hJ [] W w3 none h0 hfr (fun r e => by cases e)
    have hG3 : ¬ G w3 gq := fun h => by have := hGW gq (hG W w3 gq (fun i hi => hfr.block i (by omega) (by simp)) h); omega
    have hM : 0 = (zs.drop cap).length := by have := Hlen.out; rw [List.length_drop]; omega
    generalize hys : zs.drop cap = ys at *
    have HM := Lib.hid hM
    have Hys := Lib.hid hys
    have hMb : 0 ≤ 27000000000000 := by have := Hbig.out; omega
    have HY := Lib.hid hY
    clear hM hys g1 g2 g4 hown0 hc hc1 hc2 hfr Hcl hY Hlen
    go_wp2
    gi_wp2
    gi_loopw [19] (fun i wr => ∃ k : Nat, k ≤ 0 ∧ i = .int .i64 k ∧ J (ys.take k) wr ∧ wr.heap[gq]? = some (.cells cur 3 (0, 0)) ∧ ¬ G wr gq) (fun i _ => 0 - (intOf i).toNat)
    case atStart => exact ⟨0, Nat.zero_le _, rfl, hJ3, hcur, hG3⟩
    case round =>
      clear hJ3 hcur hG3
      obtain ⟨k, hk, rfl, hJk, hcur, hGk⟩ := hrel
      by_cases hlt : k < 0
      · omega
      · have hke : k = ys.length := by have := HM.out; omega
        rw [hke, List.take_length] at hJk
        gi_wp2
        refine bodyPost_end (results_none rfl _ _ _) rfl ?_
        exact ⟨⟨_, rfl⟩, .inl ⟨ys, Hys.out.symm, hJk⟩⟩

  have hcgi : ¬ (cap : Int) = (g : Int) := by omega
  refine wp_region_lex (fun w' => w'.cell? ⟨Bn, 0, none⟩ = some (.pointer (some ⟨b, 0, none⟩)) ∧ w'.cell? ⟨b, 1, none⟩ = some (.slice (some ⟨gl, 0, none⟩) len cap) ∧ w'.cell? ⟨b, 2, none⟩ = some (.int .i64 (g : Int))) [1, 2, 3, 4, 5, 6, 7, 8, 9, 12] [0, 10, 11] (by kernel_rfl) (by kernel_rfl) rfl (fun _ _ hx h => ⟨hx.cell h.1, hx.cell h.2.1, hx.cell h.2.2⟩) ⟨hc, hc1, hc2⟩ ?_
  intro Q' hQ'
  simp only [pickOps, List.flatMap_cons, List.flatMap_nil, List.drop_succ_cons, List.drop_zero, List.take_succ_cons, List.take_zero, List.cons_append, List.nil_append, List.append_nil]
  repeat (first
    | (refine wpReads_skip (by rfl) ?_; (try simp only [Act.put, List.setIfInBounds_toArray, List.set_cons_zero, List.set_cons_succ]))
    | (refine wpReads_cons ?_ (by rfl) (by rfl) ?_ ?_; rotate_left; (intro wz hz; (try dsimp only at hz); go_simp; try with_reducible rfl); (try simp only [Act.put, List.setIfInBounds_toArray, List.set_cons_zero, List.set_cons_succ]))
    | (refine wpReads_any ?_ (by rfl) ?_ ?_; rotate_left; (intro wz; go_simp; try with_reducible rfl); (try simp only [Act.put, List.setIfInBounds_toArray, List.set_cons_zero, List.set_cons_succ])))
  refine wpReads_nil ?_
  refine wpList_plain rfl fun K hK => ?_
  go_simp
  refine hK _ _ ?_
  clear hK K
  have hown0 := World.ownsRow_made (e := 3) (size := 1) (base := 0) W #[] 0 (Nat.zero_le _) (Nat.zero_le _) rfl
  refine wpList_app rfl _ _ 22 rfl 0 3 i0 _ 1 8 Try.underlying22 hi hz0 hz1 hz2 rfl (.slice (some ⟨W.heap.size, 0, none⟩) 0 0) 0 [] rfl hown0 (some ⟨gl, g, none⟩) (len - g) _ ((zs.drop g).map (Value.int .i64)) rfl (by have := Hlen.out; rw [List.length_map, List.length_drop]; omega) (fun h => by cases h)
    (by refine cells_slice (xs := zs.map (Value.int .i64)) (fun j u hu => ca (Hcl.out j u hu)) ?_; rw [List.map_drop]) (ints_one _) (by have := Hbig.out; unfold maxLen; omega) (grow_ok (by have := Hbig.out; omega)) (Nat.zero_le _) ?_
  intro v' w3 g1 g20 _ g4
  have g2 := grown_drew g20
  clear g20
  simp only [Nat.zero_add, List.nil_append] at g1
  obtain ⟨sa', cap', rfl⟩ := owns_slice g1
  obtain ⟨gq, hgq, rfl, cur, hcur, htake⟩ : ∃ gq, W.heap.size ≤ gq ∧ sa' = some ⟨gq, 0, none⟩ ∧ ∃ cur, w3.heap[gq]? = some (.cells cur 3 (0, 0)) ∧ cur.toList.take (len - g) = (zs.drop g).map (Value.int .i64) := by
    rcases g1.2 with ⟨hnil, _⟩ | ⟨gq, c', cur, hv, _, hh, _, _, _, ht⟩
    · rw [hnil] at g4; simp [Value.ownBlock] at g4
    · cases hv
      refine ⟨gq, ?_, rfl, cur, hh, by simpa using ht⟩
      rcases g4 with g4 | g4
      · have := Option.some.inj g4; simp at this; omega
      · have := Option.some.inj g4; simp at this; omega
  have hfr : W.grownBy w3 none := ⟨g2.os, g2.tape, g2.output, Nat.le_trans (by simp) g2.size, fun k hk _ => (g2.block k (by simp; omega) (fun e => by have := Option.some.inj e; simp at this; omega)).trans (Below.heap_alloc W _ k hk)⟩
  have hJ3 : J [] w3 := hJ [] W w3 none h0 hfr (fun r e => by cases e)
  have hG3 : ¬ G w3 gq := fun h => by have := hGW gq (hG W w3 gq (fun i hi => hfr.block i (by omega) (by simp)) h); omega
  have hM : (len - g) = (zs.drop g).length := by have := Hlen.out; rw [List.length_drop]; omega
  generalize hys : zs.drop g = ys at *
  have HM := Lib.hid hM
  have Hys := Lib.hid hys
  have hMb : (len - g) ≤ 27000000000000 := by have := Hbig.out; omega
  have HY := Lib.hid hY
  clear hM hys g1 g2 g4 hown0 hc hc1 hc2 hfr Hcl hY Hlen
  go_wp2
  gi_wp2
  gi_loopw [19] (fun i wr => ∃ k : Nat, k ≤ (len - g) ∧ i = .int .i64 k ∧ J (ys.take k) wr ∧ wr.heap[gq]? = some (.cells cur 3 (0, 0)) ∧ ¬ G wr gq) (fun i _ => (len - g) - (intOf i).toNat)
  case atStart => exact ⟨0, Nat.zero_le _, rfl, hJ3, hcur, hG3⟩
  case round =>
    clear hJ3 hcur hG3
    obtain ⟨k, hk, rfl, hJk, hcur, hGk⟩ := hrel
    by_cases hlt : k < (len - g)
    · have hkl : k < ys.length := by have := HM.out; omega
      have hcell : wr.cell? ⟨gq, k, none⟩ = some (.int .i64 ys[k]) := by
        have : (cur.toList.take (len - g))[k]? = some (.int .i64 ys[k]) := by rw [htake]; simp [hkl]
        rw [List.getElem?_take, if_pos hlt] at this
        exact cells_row wr gq hcur k _ (by simpa using this)
      obtain ⟨fn, tmps, assign, body, hy, hR⟩ := HY.out _ ys[k] wr hJk (by rw [List.length_take]; omega)
      gi_wp2
      refine hR.mono ?_
      rintro e W3 (⟨rfl, hJ3, hk3⟩ | ⟨rfl, hJx3⟩)
      · have hc3 := (hk3.2.1 gq cur 3 (0, 0) hcur hGk).trans hcur
        have hg3 : ¬ G W3 gq := fun h => hGk (hk3.2.2 gq (block_lt hcur) h)
        gi_wp2
        go_roundw
        case rel => exact ⟨k + 1, by omega, by go_num, by rw [List.take_succ_eq_append_getElem hkl]; exact hJ3, hc3, hg3⟩
        case measure => simp [intOf]; omega
      · gi_wp2
        refine bodyPost_ret (results_none rfl _ _ _) rfl ?_
        exact ⟨⟨_, rfl⟩, .inr ⟨ys.take k ++ [ys[k]], by rw [Hys.out, ← List.take_succ_eq_append_getElem hkl]; exact List.take_prefix _ _, hJx3⟩⟩
    · have hke : k = ys.length := by have := HM.out; omega
      rw [hke, List.take_length] at hJk
      gi_wp2
      refine bodyPost_end (results_none rfl _ _ _) rfl ?_
      exact ⟨⟨_, rfl⟩, .inl ⟨ys, Hys.out.symm, hJk⟩⟩

theorem all_stops {n : Nat} (hn : 1 ≤ n) {w : World} {base b Bn : Nat} {C : Int} {l : List Int} {r : Option Nat} {N : Nat} (h : IQ w base b C l r N) (hN : N ≤ 27000000000000) {G : World → Nat → Prop} {B0 : Nat} (hG : GOk B0 G) (hB0 : B0 ≤ w.heap.size) (hGw : ∀ k, G w k → k < w.heap.size)
    (hBn : w.cell? ⟨Bn, 0, none⟩ = some (.pointer (some ⟨b, 0, none⟩))) :
    SeqStopsK Fence.wide n Try.prog 30 #[.pointer (some ⟨Bn, 0, none⟩)] (fun x : Int => #[Value.int .i64 x]) (KpG G) (fun ys => ys = l) (fun pre => pre <+: l) l.length w := fun l' J Jx W hW hJ _ hY h0 => by
  obtain ⟨v, g, zs, h1, h2, h3, h4, h5, h6, h7, h8, h9, h10, h11⟩ := h
  rcases h2.2 with ⟨rfl, _⟩ | ⟨gl, cap, cur, rfl, _, hgl, hnc, _, _, _⟩
  · exact absurd h5.symm h11
  have c1 := cells_row w b h1 1 (.slice (some ⟨gl, 0, none⟩) zs.length cap) rfl
  have c2 := cells_row w b h1 2 (.int .i64 (g : Int)) rfl
  subst h4
  refine (all1_some n hn l' Bn b gl zs.length cap g zs rfl h3 hnc (by omega) G B0 hG J Jx W (Nat.le_trans hB0 hW.size) (fun k hk => Nat.lt_of_lt_of_le (hGw k (hG w W k (fun i hi => hW.block i (by omega)) hk)) hW.size) hJ hY (cell_later hW hBn) (cell_later hW c1) (cell_later hW c2) (fun j u hu => ?_) h0).mono ?_
  · have := h2.cells (g := gl) rfl j u hu
    rw [show (⟨gl, 0, none⟩ : Addr).add j = ⟨gl, j, none⟩ by unfold Addr.add; split <;> simp_all] at this
    exact cell_later hW this
  · exact fun _ _ h => h

theorem all_stops_nil {n : Nat} {w : World} {Bn : Nat} {Kp : World → World → Prop} (hBn : w.cell? ⟨Bn, 0, none⟩ = some (.pointer none)) :
    SeqStopsK Fence.wide n Try.prog 30 #[.pointer (some ⟨Bn, 0, none⟩)] (fun x : Int => #[Value.int .i64 x]) Kp (fun ys => ys = []) (fun pre => pre <+: []) 0 w := fun l' J _ W hW _ _ _ h0 =>
  (all1_nil n l' Bn W J (cell_later hW hBn) h0).mono fun _ _ ⟨h, hj⟩ => ⟨h, .inl ⟨[], rfl, hj⟩⟩

end Go.Proofs.Ytifhnealecndnaa
